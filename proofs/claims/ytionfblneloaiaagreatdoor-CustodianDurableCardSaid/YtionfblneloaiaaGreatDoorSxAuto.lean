/-
  The layer's laws for statements whose order Go leaves open.
-/
import Derived.Test.YtionfblneloaiaaGreatDoorSx
import Derived.Sort.QuietThIn
import Derived.Laws.IdiomStrings
import Derived.Laws.Small
import Derived.WideShapes
import Derived.RangeFuncRecord
namespace Go.Sx
open Go Go.RowKit

/- ONE WALK FOR EVERY ORDER, where each operation yields one value in every world that extends the first. -/
section quiet
variable {F : Fence} {n : Nat} {P : Program} {ops : Array Oper} {C : World → Prop}
theorem quiet_not_defer {o : Oper} {a : Act} {w : World} {v : Value} (h : o.quietAtIn F n P a C w v) : isDefer o.op = false := by
  unfold Oper.quietAtIn at h
  cases ho : o.op with
  | defer c =>
    simp only [execOp, ho, Sem.run_bind] at h
    cases hr : (resolve a.eval c o.type).run P w <;> simp [hr, Result.andThen, Oper.quietUponIn] at h
  | _ => rfl
theorem wpIn_of_quiet_any {o : Oper} {a : Act} {K : Act → Prop} {K' : Act → World → Prop} {Q' : Post} {w : World} (hC : C w) (h : ∀ a w', C w' → K a → K' a w')
    (ha : o.askedIn F P a C) (hh : o.quietIn F n P a C K) : o.wpIn F n P a w K' Q' := by
  obtain ⟨v, h1, h2⟩ := hh
  have h3 := h1 w hC
  refine ⟨ha w hC, ?_⟩
  rw [semAt_of (quiet_not_defer h3)]
  unfold Oper.quietAtIn at h3
  cases hr : (execOp a.eval o).run P w with
  | halt x w' => rw [hr] at h3; exact h3.elim
  | ok nx w' =>
    rw [hr] at h3
    cases nx with
    | value u => obtain ⟨rfl, rfl⟩ := h3; exact h _ _ hC h2
    | skip => obtain ⟨rfl, rfl⟩ := h3; exact h _ _ hC h2
    | enter f args =>
      obtain ⟨rfl, hn, hc⟩ := h3
      refine ⟨hn, hc.mono ?_⟩
      rintro e w'' ⟨rfl, hw⟩
      exact h _ _ hw h2
    | _ => exact h3.elim
theorem wpOpIn_of_quiet_any {i : Nat} {a : Act} {K : Act → Prop} {K' : Act → World → Prop} {Q' : Post} {w : World} (hC : C w) (h : ∀ a w', C w' → K a → K' a w')
    (hh : qOpIn F n P ops C i K a) : wpOpIn F n P ops Q' i K' a w := by
  unfold qOpIn at hh
  unfold wpOpIn
  cases ho : ops[i]? with
  | none => rw [ho] at hh; exact h _ _ hC hh
  | some o =>
    rw [ho] at hh
    obtain ⟨hq, hh⟩ := hh
    dsimp only
    by_cases hw : Region.wanted o (yielded ops a.tmps) = true
    · rw [if_pos hw] at hh ⊢; exact wpIn_of_quiet_any hC h hq hh
    · rw [if_neg hw] at hh ⊢; exact ⟨hq w hC, h _ _ hC hh⟩
theorem wpAnyIn_of_quiet_any {md : Region.Mode} {Q : Act → Prop} {Q' : Post} (hQ : ∀ a w, C w → Q a → Q' .normal a w) : ∀ (fuel : Nat) (listed : Array Bool) (a : Act) (w : World), C w →
    wpAnyQIn F n P md ops C Q fuel listed a → wpAnyIn F n P md ops Q' fuel listed a w
  | 0, _, _, _, hC, h => ⟨h.1, hQ _ _ hC h.2⟩
  | fuel + 1, _, _, _, hC, h => ⟨fun h0 => hQ _ _ hC (h.1 h0), fun i hi => wpOpIn_of_quiet_any hC (fun a' w' hw' => wpAnyIn_of_quiet_any hQ fuel _ a' w' hw') (h.2 i hi)⟩
theorem wpIn_region_quiet_any {id : Nat} {Q : Post} {a : Act} {w : World} (hm : P.follows .mixedOrders = true) (hB : Region.lexB .any ops = true) (hC : C { w with drawn := w.drawn + 1 })
    (h : wpQuietIn F n P ops C (fun a' => ∀ w', C w' → Q .normal a' w') ops.toList a) : (Code.region id ops true).wpIn F n P Q a w := by
  simp only [Region.lexB, Bool.and_eq_true] at hB
  refine wpIn_region_any hm (wpAnyIn_of_quiet_any (Q := fun a' => ∀ w', C w' → Q .normal a' w') (fun _ w' hw' h => h w' hw') _ _ _ _ hC ?_)
  have := wpAnyQIn_lex (F := F) (n := n) (C := C) (md := .any) hB.1 ops.toList 0 (Array.replicate ops.size false) a (by simp) (by simpa using hB.2) h
  simpa using this
end quiet

def QL (P : Program) (r : Option Nat) (N : Nat) (ds : List Deferred) (w : World) (ol l : List Oper) (Q : Post) (E : Env) : Prop :=
  ∀ a, Rep N ds E a → wpQuietIn (FW r) 0 P ol.toArray (Ext w) (fun a' => ∀ w', Ext w w' → Q .normal a' w') l a
class Mixed (P : Program) : Prop where
  is : P.follows .mixedOrders = true
section
variable {P : Program} {r : Option Nat} {N : Nat} {ds : List Deferred} {ol rest : List Oper} {Q : Post} {E : Env} {w : World}
theorem WC.quiet [hm : Mixed P] {id : Nat} {l : List Oper} (hB : Region.lexB .any l.toArray = true) (h : QL P r N ds w l l Q E) : WC P r N ds (.region id l.toArray true) Q E w := fun a ha =>
  wpIn_region_quiet_any (C := Ext w) hm.is hB (Ext.drew w) (by simpa using h a ha)
theorem QL.nil (h : ∀ w', Ext w w' → WX N ds .normal Q E w') : QL P r N ds w ol [] Q E := fun a ha w' hw' => h w' hw' a ha
theorem QL.step {d : Option Nat} {op : Op} {ty : TypeId} {pos : String} {af : Array Edge} {v : Value} (hd : dOk d N = true)
    (hq : ∀ a, Rep N ds E a → ∀ w', Ext w w' → Oper.quietAtIn (FW r) 0 P ⟨d, op, ty, pos, af, none⟩ a (Ext w) w' v)
    (h : QL P r N ds w ol rest Q (putE d v E)) : QL P r N ds w ol (⟨d, op, ty, pos, af, none⟩ :: rest) Q E := by
  intro a ha
  refine ⟨fun _ _ _ _ => trivial, ?_⟩
  simp only [Region.wanted, if_true]
  exact ⟨v, fun w' hw' => hq a ha w' hw', h _ (ha.putO hd v)⟩
theorem QL.p {d : Nat} {op : Op} {ty : TypeId} {pos : String} {af : Array Edge} {v : Value} (hp : POp P N ds E op ty v) (hd : Nat.blt d N = true)
    (h : QL P r N ds w ol rest Q ((d, v) :: E)) : QL P r N ds w ol (⟨some d, op, ty, pos, af, none⟩ :: rest) Q E :=
  QL.step hd (fun a ha w' _ => by unfold Oper.quietAtIn; rw [hp a ha]; exact ⟨rfl, rfl⟩) h
theorem QL.load {d : Nat} {t ty : TypeId} {x : Operand} {pos : String} {af : Array Edge} {a : Addr} {v : Value} [ht : ATy P t false] (hx : Env.ev E x = some (.pointer (some a)))
    (hc : w.cell? a = some v) (hd : Nat.blt d N = true) (h : QL P r N ds w ol rest Q ((d, v) :: E)) : QL P r N ds w ol (⟨some d, .load t x, ty, pos, af, none⟩ :: rest) Q E :=
  QL.step hd (fun b hb w' hw' => by
    have hc' := cell_ext hw' hc
    have : (execOp b.eval ⟨some d, .load t x, ty, pos, af, none⟩).run P w' = .ok (.value v) w' := by
      simp only [execOp, hb.ev hx, Instr.loadAt, Instr.sureAddr, loadVar, Sem.run_bind, Sem.run_pure]
      simp [run_isAgg, Go.load, Sem.run, hc', Result.andThen]
    unfold Oper.quietAtIn; rw [this]; exact ⟨rfl, rfl⟩) h
theorem QL.call {d : Option Nat} {f : FuncId} {args : List Operand} {ats : Array TypeId} {ty : TypeId} {pos : String} {af : Array Edge} {vs : List Value} {v : Value}
    [hf : CallOk P f] (ha : Env.evs E args = some vs) (hd : dOk d N = true) (hc : ∀ w', Ext w w' → Fn P f vs.toArray w' fun u w'' => u = v ∧ Ext w' w'')
    (h : QL P r N ds w ol rest Q (putE d v E)) : QL P r N ds w ol (⟨d, .call ⟨.value (.func f), args.toArray, ats⟩, ty, pos, af, none⟩ :: rest) Q E :=
  QL.step hd (fun a hr w' hw' => by
    have hrun : (execOp a.eval ⟨d, .call ⟨.value (.func f), args.toArray, ats⟩, ty, pos, af, none⟩).run P w' = .ok (.enter f vs.toArray) w' := by
      have hm : Array.map a.eval args.toArray = vs.toArray := by simp [hr.evs ha]
      simp [execOp, resolve, hm, Act.eval, Deferred.ofValue, invoke, hf.run]
    unfold Oper.quietAtIn; rw [hrun]
    refine ⟨rfl, fun h => by simp [FW] at h, trivial, fun cs _ => ?_⟩
    obtain ⟨e, w'', fr, ⟨u, he, rfl, hx⟩, hs, hfr⟩ := hc w' hw' cs
    subst he
    exact ⟨_, w'', fr, ⟨rfl, hw'.trans hx⟩, comesIn_wide.2 hs, hfr⟩) h
theorem QL.gy {d : Option Nat} {op : Op} {ty : TypeId} {pos : String} {af : Array Edge} {j : Nat} {want b : Bool} (hj : guardE ol E j = some b) (hb : b = want)
    (h : QL P r N ds w ol (⟨d, op, ty, pos, af, none⟩ :: rest) Q E) : QL P r N ds w ol (⟨d, op, ty, pos, af, some (j, want)⟩ :: rest) Q E := by
  intro a ha
  have h1 := h a ha
  have hy := guardE_spec hj ha
  simp only [wpQuietIn, Region.wanted, if_true] at h1
  simp only [wpQuietIn, Region.wanted, hy, hb, beq_self_eq_true, if_true]
  exact h1
theorem QL.gn {d : Option Nat} {op : Op} {ty : TypeId} {pos : String} {af : Array Edge} {j : Nat} {want b : Bool} (hj : guardE ol E j = some b) (hb : b = !want) (hd : dOk d N = true)
    (h : QL P r N ds w ol rest Q (putE d undef E)) : QL P r N ds w ol (⟨d, op, ty, pos, af, some (j, want)⟩ :: rest) Q E := by
  intro a ha
  have hy := guardE_spec hj ha
  have hne : ((some (!want) : Option Bool) == some want) = false := by cases want <;> rfl
  simp only [wpQuietIn, Region.wanted, hy, hb, hne, Bool.false_eq_true, if_false]
  exact ⟨fun _ _ _ _ => trivial, h _ (ha.putO hd _)⟩
end

/- EVERY ORDER, one after another: an operation that asks nothing of the world may be taken first. -/
class QPanic (Q : Post) : Prop where
  is : ∀ c (a : Act) d v w, Q (.panic c) (a.put d v) w → Q (.panic c) a w
theorem put_defers (a : Act) (d : Option Nat) (v : Value) : (a.put d v).defers = a.defers := by cases d <;> rfl
instance {P : Program} {r : Option Nat} {y : Code} {Q : Post} [h : QPanic Q] : QPanic (Then P r y Q) := ⟨fun c a d v w hq => h.is c a d v w hq⟩
instance {I : Act → World → Prop} {Q : Post} [h : QPanic Q] : QPanic (Again I Q) := ⟨fun c a d v w hq => h.is c a d v w hq⟩
instance {id : Nat} {Q : Post} [h : QPanic Q] : QPanic (Exit.inBlock id Q) := ⟨fun c a d v w hq => h.is c a d v w hq⟩
instance {P : Program} {fn : Func} {R : Ending → World → Prop} : QPanic (bodyPost P fn R) := ⟨fun c a d v w hq => by
  simp only [bodyPost, put_defers] at hq ⊢; exact hq⟩

def callsB (op : Op) : Bool := match op with | .call ⟨.value _, _, _⟩ | .call ⟨.invoke _ _, _, _⟩ => true | _ => false
def WA (P : Program) (N : Nat) (ds : List Deferred) (ol : List Oper) (fuel : Nat) (listed : Array Bool) (Q : Post) (E : Env) (w : World) : Prop :=
  ∀ a, Rep N ds E a → wpAnyIn (FW none) 0 P .any ol.toArray Q fuel listed a w
/-- Operation i comes next. -/
def WO (P : Program) (N : Nat) (ds : List Deferred) (ol : List Oper) (fuel : Nat) (listed : Array Bool) (i : Nat) (o : Oper) (Q : Post) (E : Env) (w : World) : Prop :=
  ∀ a, Rep N ds E a → if Region.wanted o (yielded ol.toArray a.tmps) then o.wpIn (FW none) 0 P a w (wpAnyIn (FW none) 0 P .any ol.toArray Q fuel (listed.setIfInBounds i true)) Q
    else wpAnyIn (FW none) 0 P .any ol.toArray Q fuel (listed.setIfInBounds i true) (a.put o.dst undef) w
section
variable {P : Program} {N : Nat} {ds : List Deferred} {ol rest : List Oper} {Q : Post} {E : Env} {w : World} {fuel : Nat} {listed : Array Bool} {i : Nat}
variable {d : Option Nat} {op : Op} {ty : TypeId} {pos : String} {af : Array Edge}
theorem WC.any [hm : Mixed P] {id : Nat} {l : List Oper} {fuel : Nat} (hf : l.length = fuel) (h : ∀ w', Ext w w' → w'.heap = w.heap → WA P N ds l fuel (Array.replicate l.length false) Q E w') :
    WC P none N ds (.region id l.toArray true) Q E w := fun a ha =>
  wpIn_region_any hm.is (by subst hf; simpa using h w.drew (Ext.drew w) rfl a ha)
theorem WA.take {d : Nat} {v : Value} [hq : QPanic Q] (i : Nat) (ho : ol[i]? = some ⟨some d, op, ty, pos, af, none⟩) (hs : (Region.noSelect ol.toArray && Region.free .any ol.toArray listed i && (Region.ready .any ol.toArray listed).contains i) = true)
    (hi : callsB op = false)
    (hp : POp P N ds E op ty v) (hd : Nat.blt d N = true) (h : WA P N ds ol fuel (listed.setIfInBounds i true) Q ((d, v) :: E) w) : WA P N ds ol (fuel + 1) listed Q E w := by
  intro a ha
  simp only [Bool.and_eq_true] at hs
  have ho' : ol.toArray[i]? = some ⟨some d, op, ty, pos, af, none⟩ := by simpa using ho
  refine wpAnyIn_take (F := FW none) rfl ho' hs.1.1 hs.1.2 hs.2 (fun c a w => hq.is c a _ _ w) ⟨.inl ⟨rfl, fun w => hp a ha _ _ _ _ _⟩, fun w => ?_⟩ (h _ (ha.put hd v))
  unfold Oper.about
  cases op with
  | call c =>
    obtain ⟨cal, args, ats⟩ := c
    cases cal with
    | builtin b => simp [resolve, Target.leads]
    | value f => cases hi
    | invoke f m => cases hi
  | _ => rfl
/-- A guarded operation that is not wanted. -/
theorem WA.drop {j : Nat} {want b : Bool} [hq : QPanic Q] (i : Nat) (ho : ol[i]? = some ⟨d, op, ty, pos, af, some (j, want)⟩) (hs : (Region.noSelect ol.toArray && Region.free .any ol.toArray listed i && (Region.ready .any ol.toArray listed).contains i) = true)
    (hi : callsB op = false)
    (hj : guardE ol E j = some b) (hb : b = !want) (hd : dOk d N = true) (h : WA P N ds ol fuel (listed.setIfInBounds i true) Q (putE d undef E) w) : WA P N ds ol (fuel + 1) listed Q E w := by
  intro a ha
  simp only [Bool.and_eq_true] at hs
  have ho' : ol.toArray[i]? = some ⟨d, op, ty, pos, af, some (j, want)⟩ := by simpa using ho
  have hy := guardE_spec hj ha
  have hne : ((some (!want) : Option Bool) == some want) = false := by cases want <;> rfl
  refine wpAnyIn_take (F := FW none) rfl ho' hs.1.1 hs.1.2 hs.2 (fun c a w => hq.is c a _ _ w) ⟨.inr ⟨by simp only [Region.wanted, hy, hb, hne], rfl⟩, fun w => ?_⟩ (h _ (ha.putO hd undef))
  unfold Oper.about
  cases op with
  | call c =>
    obtain ⟨cal, args, ats⟩ := c
    cases cal with
    | builtin b => simp [resolve, Target.leads]
    | value f => cases hi
    | invoke f m => cases hi
  | _ => rfl
theorem WA.take_g {d : Nat} {v : Value} {j : Nat} {want b : Bool} [hq : QPanic Q] (i : Nat) (ho : ol[i]? = some ⟨some d, op, ty, pos, af, some (j, want)⟩) (hs : (Region.noSelect ol.toArray && Region.free .any ol.toArray listed i && (Region.ready .any ol.toArray listed).contains i) = true)
    (hi : callsB op = false)
    (hj : guardE ol E j = some b) (hb : b = want) (hp : POp P N ds E op ty v) (hd : Nat.blt d N = true) (h : WA P N ds ol fuel (listed.setIfInBounds i true) Q ((d, v) :: E) w) : WA P N ds ol (fuel + 1) listed Q E w := by
  intro a ha
  simp only [Bool.and_eq_true] at hs
  have ho' : ol.toArray[i]? = some ⟨some d, op, ty, pos, af, some (j, want)⟩ := by simpa using ho
  have hy := guardE_spec hj ha
  refine wpAnyIn_take (F := FW none) rfl ho' hs.1.1 hs.1.2 hs.2 (fun c a w => hq.is c a _ _ w) ⟨.inl ⟨by simp only [Region.wanted, hy, hb, beq_self_eq_true], fun w => hp a ha _ _ _ _ _⟩, fun w => ?_⟩ (h _ (ha.put hd v))
  unfold Oper.about
  cases op with
  | call c =>
    obtain ⟨cal, args, ats⟩ := c
    cases cal with
    | builtin b => simp [resolve, Target.leads]
    | value f => cases hi
    | invoke f m => cases hi
  | _ => rfl
theorem WA.done (hr : Region.ready .any ol.toArray listed = []) (h : WX N ds .normal Q E w) : WA P N ds ol fuel listed Q E w := fun a ha => wpAnyIn_done hr (h a ha) _
def AllO (P : Program) (N : Nat) (ds : List Deferred) (ol : List Oper) (fuel : Nat) (listed : Array Bool) (Q : Post) (E : Env) (w : World) : List Nat → Prop
  | [] => True
  | i :: l => (∃ o, ol[i]? = some o ∧ WO P N ds ol fuel listed i o Q E w) ∧ AllO P N ds ol fuel listed Q E w l
theorem WA.all (rs : List Nat) (hr : Region.ready .any ol.toArray listed = rs) (hne : rs.isEmpty = false) (h : AllO P N ds ol fuel listed Q E w rs) : WA P N ds ol (fuel + 1) listed Q E w := by
  intro a ha
  refine wpAnyIn_all hr (by intro e; rw [e] at hne; cases hne) ?_
  clear hr hne
  induction rs with
  | nil => intro i hi; cases hi
  | cons i l ih =>
    intro j hj
    rcases List.mem_cons.1 hj with rfl | hj
    · obtain ⟨o, ho, h1⟩ := h.1
      have ho' : ol.toArray[j]? = some o := by simpa using ho
      unfold wpOpIn
      rw [ho']
      have h2 := h1 a ha
      dsimp only
      split
      · rename_i hw; rw [if_pos hw] at h2; exact h2
      · rename_i hw; rw [if_neg hw] at h2; exact ⟨fun _ _ => trivial, h2⟩
    · exact ih h.2 j hj
theorem WA.fold (h : WA P N ds ol fuel listed Q E w) : NX N ds (wpAnyIn (FW none) 0 P .any ol.toArray Q fuel listed) E w := h
theorem WO.one (h : W1 P none N ds (wpAnyIn (FW none) 0 P .any ol.toArray Q fuel (listed.setIfInBounds i true)) ⟨d, op, ty, pos, af, none⟩ Q E w) :
    WO P N ds ol fuel listed i ⟨d, op, ty, pos, af, none⟩ Q E w := fun a ha => by
  simp only [Region.wanted, if_true]
  exact h a ha
theorem WO.one_g {j : Nat} {want b : Bool} (hj : guardE ol E j = some b) (hb : b = want)
    (h : W1 P none N ds (wpAnyIn (FW none) 0 P .any ol.toArray Q fuel (listed.setIfInBounds i true)) ⟨d, op, ty, pos, af, some (j, want)⟩ Q E w) :
    WO P N ds ol fuel listed i ⟨d, op, ty, pos, af, some (j, want)⟩ Q E w := fun a ha => by
  have hy := guardE_spec hj ha
  simp only [Region.wanted, hy, hb, beq_self_eq_true, if_true]
  exact h a ha
end
end Go.Sx
/-
  The layer's laws for strings, slices that are made or grown, structs.
-/
namespace Go.Sx
open Go Go.RowKit

/-- Byte i of a string. -/
def sb (s : ByteArray) (i : Nat) : Nat := (s.data.toList.getD i 0).toNat
theorem sb_lt (s : ByteArray) (i : Nat) : sb s i < 256 := (s.data.toList.getD i 0).toNat_lt
theorem ba_toList (s : ByteArray) : s.toList = s.data.toList := by
  exact Go.ByteArray.toList_eq s

section
variable {P : Program} {r : Option Nat} {N : Nat} {ds : List Deferred} {E : Env}
variable {t t' ty : TypeId} {x y : Operand} {k k' : IntKind} {m n : Int}

theorem POp.index_string {s : ByteArray} [h : UTy P t .string] (hx : Env.ev E x = some (.string s)) (hy : Env.ev E y = some (.int k n)) {i : Nat} (ei : n = (i : Int)) (h1 : i < s.size) :
    POp P N ds E (.index t x y) ty (.int .u8 ((sb s i : Nat) : Int)) := fun a ha d pos af g w => by
  obtain rfl : i = n.toNat := by omega
  have h0 : 0 ≤ n := by omega
  have hlt : n.toNat < s.size := h1
  have e : s[n.toNat]? = some s[n.toNat] := by simp [hlt]
  have e2 : sb s n.toNat = (s[n.toNat]).toNat := by
    unfold sb
    rw [List.getD_eq_getElem?_getD]
    have h5 : n.toNat < s.data.size := hlt
    have : s.data.toList[n.toNat]? = some s[n.toNat] := by
      rw [Array.getElem?_toList, Array.getElem?_eq_getElem h5]; rfl
    rw [this]; rfl
  simp [execOp, ha.ev hx, ha.ev hy, Instr.index, asIntOf, run_underlying h.is, Sem.run_bind, h0, e, e2]

theorem run_bound {k : IntKind} {i : Int} {y : Nat} {code : BoundsCode} {P : Program} {w : World} (h0 : 0 ≤ i) (h1 : i ≤ y) : (Instr.sliceBound (.int k i) y code).run P w = .ok i.toNat w := by
  simp [Instr.sliceBound, asIntOf, h0, h1]
theorem POp.sub_lh {s : ByteArray} {lo hi : Operand} [h : UTy P t .string] (hx : Env.ev E x = some (.string s)) (hl : Env.ev E lo = some (.int k m)) (hh : Env.ev E hi = some (.int k' n)) (h0 : 0 ≤ m) (h1 : m ≤ n) (h2 : n ≤ s.size) :
    POp P N ds E (.slice t x (some lo) (some hi) none) ty (.string (s.extract m.toNat n.toNat)) := fun a ha d pos af g w => by
  have hb : m ≤ ((n.toNat : Nat) : Int) := by omega
  simp [execOp, ha.ev hx, ha.ev hl, ha.ev hh, Instr.sliceAt, Instr.slice, run_underlying h.is, Instr.sliceBounds, run_bound (show 0 ≤ n by omega) h2, run_bound h0 hb, Sem.run_bind]
theorem POp.sub_h {s : ByteArray} {hi : Operand} [h : UTy P t .string] (hx : Env.ev E x = some (.string s)) (hh : Env.ev E hi = some (.int k' n)) (h1 : 0 ≤ n) (h2 : n ≤ s.size) :
    POp P N ds E (.slice t x none (some hi) none) ty (.string (s.extract 0 n.toNat)) := fun a ha d pos af g w => by
  simp [execOp, ha.ev hx, ha.ev hh, Instr.sliceAt, Instr.slice, run_underlying h.is, Instr.sliceBounds, run_bound h1 h2, Sem.run_bind]
theorem POp.sub_l {s : ByteArray} {lo : Operand} [h : UTy P t .string] (hx : Env.ev E x = some (.string s)) (hl : Env.ev E lo = some (.int k m)) (h1 : 0 ≤ m) (h2 : m ≤ s.size) :
    POp P N ds E (.slice t x (some lo) none none) ty (.string (s.extract m.toNat s.size)) := fun a ha d pos af g w => by
  simp [execOp, ha.ev hx, ha.ev hl, Instr.sliceAt, Instr.slice, run_underlying h.is, Instr.sliceBounds, run_bound h1 h2, Sem.run_bind]

theorem POp.cat {s u : ByteArray} (hx : Env.ev E x = some (.string s)) (hy : Env.ev E y = some (.string u)) (h : s.size + u.size ≤ 9223372036854775807) :
    POp P N ds E (.binOp .add t x y t') ty (.string (s ++ u)) := POp.bin hx hy guard_str fun w => by
  have : ¬ (((s.size + u.size : Nat) : Int) > IntKind.i64.max) := by
    simp only [IntKind.max, IntKind.signed, IntKind.bits]; omega
  simp only [Go.binOp, Op.stringOp]
  rw [if_neg this]; rfl
theorem str_eq (s u : ByteArray) : (s.toList == u.toList) = decide (s = u) := by
  rw [ba_toList, ba_toList]
  by_cases h : s = u
  · subst h; simp
  · have : ¬ s.data.toList = u.data.toList := fun e => h (by cases s; cases u; exact congrArg ByteArray.mk (Array.toList_inj.1 e))
    rw [decide_eq_false h]; exact beq_eq_false_iff_ne.2 this
theorem POp.seql {s u : ByteArray} (hx : Env.ev E x = some (.string s)) (hy : Env.ev E y = some (.string u)) :
    POp P N ds E (.binOp .eql t x y t') ty (.bool (decide (s = u))) := POp.bin hx hy guard_str fun w => by
  simp only [Go.binOp, Op.stringOp, str_eq]; rfl
theorem POp.sneq {s u : ByteArray} (hx : Env.ev E x = some (.string s)) (hy : Env.ev E y = some (.string u)) :
    POp P N ds E (.binOp .neq t x y t') ty (.bool (decide (¬ s = u))) := POp.bin hx hy guard_str fun w => by
  simp only [Go.binOp, Op.stringOp, str_eq]
  by_cases h : s = u <;> simp [h]
theorem POp.beql {b c : Bool} [h : UTy P t .bool] (hx : Env.ev E x = some (.bool b)) (hy : Env.ev E y = some (.bool c)) :
    POp P N ds E (.binOp .eql t x y t') ty (.bool (b == c)) := POp.bin hx hy guard_bool fun w => by
  exact run_eql_bool w t b c h.is
theorem POp.bneq {b c : Bool} [h : UTy P t .bool] (hx : Env.ev E x = some (.bool b)) (hy : Env.ev E y = some (.bool c)) :
    POp P N ds E (.binOp .neq t x y t') ty (.bool (!(b == c))) := POp.bin hx hy guard_bool fun w => by
  exact run_neq_bool w t b c h.is

/- slices of slices -/
theorem POp.cut_lh {e : TypeId} {b off l c : Nat} {z : Value} {sz bb : Nat} {lo hi : Operand} [h : UTy P t (.slice e)] [hi' : ITy P e z sz bb] (hx : Env.ev E x = some (.slice (some ⟨b, off, none⟩) l c))
    (hl : Env.ev E lo = some (.int k m)) (hh : Env.ev E hi = some (.int k' n)) (h0 : 0 ≤ m) (h1 : m ≤ n) (h2 : n ≤ c) (hne : m < c) :
    POp P N ds E (.slice t x (some lo) (some hi) none) ty (.slice (some ⟨b, off + m.toNat * sz, none⟩) (n.toNat - m.toNat) (c - m.toNat)) := fun a ha d pos af g w => by
  have hb : m ≤ ((n.toNat : Nat) : Int) := by omega
  have hc : ¬ c = m.toNat := by omega
  simp [execOp, ha.ev hx, ha.ev hl, ha.ev hh, Instr.sliceAt, Instr.slice, run_underlying h.is, Instr.sliceBounds, run_bound (show 0 ≤ n by omega) h2, run_bound h0 hb, Sem.run_bind, run_sizeOf, hc, add_lit]
theorem POp.cut_h {e : TypeId} {b off l c : Nat} {z : Value} {sz bb : Nat} {hi : Operand} [h : UTy P t (.slice e)] [hi' : ITy P e z sz bb] (hx : Env.ev E x = some (.slice (some ⟨b, off, none⟩) l c))
    (hh : Env.ev E hi = some (.int k' n)) (h1 : 0 ≤ n) (h2 : n ≤ c) :
    POp P N ds E (.slice t x none (some hi) none) ty (.slice (some ⟨b, off, none⟩) n.toNat c) := fun a ha d pos af g w => by
  by_cases hc : c = 0
  · subst hc
    simp [execOp, ha.ev hx, ha.ev hh, Instr.sliceAt, Instr.slice, run_underlying h.is, Instr.sliceBounds, run_bound h1 (show n ≤ ((0 : Nat) : Int) from h2), Sem.run_bind, run_sizeOf]
  · simp [execOp, ha.ev hx, ha.ev hh, Instr.sliceAt, Instr.slice, run_underlying h.is, Instr.sliceBounds, run_bound h1 h2, Sem.run_bind, run_sizeOf, hc, add_lit]

/- structs by value -/
theorem POp.fieldAddr {f off : Nat} {ft : TypeId} {b o n bb : Nat} {z : Value} [h : FTy P t f off ft] [hi : ITy P ft z n bb] (hn : Nat.beq n 0 = false) (hx : Env.ev E x = some (.pointer (some ⟨b, o, none⟩))) :
    POp P N ds E (.fieldAddr t x f) ty (.pointer (some ⟨b, o + off, none⟩)) := fun a ha d pos af g w => by
  have h1 := h.is
  have hn' : n ≠ 0 := fun e => by subst e; cases hn
  unfold fieldOf at h1
  cases hu : P.underlying t with
  | none => rw [hu] at h1; cases h1
  | some du =>
    rw [hu] at h1
    cases du with
    | struct fs =>
      simp only [Option.map_eq_some_iff] at h1
      obtain ⟨fl, h2, h3⟩ := h1
      simp only [Prod.mk.injEq] at h3
      obtain ⟨h3, h4⟩ := h3
      have hS : (sizeOf fl.type).run P w = .ok n w := by rw [h4]; exact run_sizeOf
      simp [execOp, ha.ev hx, Instr.fieldAt, Instr.sureAddr, run_underlying hu, h2, fieldPlace, hS, hn', h3, add_lit, Sem.run_bind]
    | _ => cases h1
theorem POp.field {f off : Nat} {ft : TypeId} {cs : List Value} {v : Value} [h : FTy P t f off ft] [ha' : ATy P ft false] (hx : Env.ev E x = some (.agg cs.toArray)) (hv : cs[off]? = some v) :
    POp P N ds E (.field t x f) ty v := fun a ha d pos af g w => by
  have h1 := h.is
  unfold fieldOf at h1
  cases hu : P.underlying t with
  | none => rw [hu] at h1; cases h1
  | some du =>
    rw [hu] at h1
    cases du with
    | struct fs =>
      simp only [Option.map_eq_some_iff] at h1
      obtain ⟨fl, h2, h3⟩ := h1
      simp only [Prod.mk.injEq] at h3
      obtain ⟨h3, h4⟩ := h3
      have hA : (isAgg fl.type).run P w = .ok false w := by rw [h4]; exact run_isAgg
      simp [execOp, ha.ev hx, Instr.field, run_underlying hu, h2, asAgg, part, hA, h3, hv, Sem.run_bind]
    | _ => cases h1
end

section
variable {P : Program} {r : Option Nat} {N : Nat} {ds : List Deferred} {ol rest : List Oper} {Q : Post} {E : Env} {w : World} {next : Act → World → Prop} {g : Option (Nat × Bool)}
variable {d : Nat} {t t' ty : TypeId} {pos : String} {af : Array Edge} {x y : Operand} {k k' : IntKind} {m n : Int}

/- make -/
theorem made_one (z : Value) (c : Nat) (hz : z.cells = #[z]) : madeCells z.cells (c * 1) = (List.replicate c z).toArray := by
  rw [hz]
  apply Array.ext
  · simp [madeCells]
  · intro i h1 h2
    simp [madeCells, Nat.mod_one]
theorem W1.make {e : TypeId} {z : Value} {bb : Nat} {cp : Operand} {l c : Nat} [h : UTy P t (.slice e)] [hi : ITy P e z 1 bb] (hx : Env.ev E x = some (.int .i64 m)) (hy : Env.ev E cp = some (.int .i64 n))
    (hm : m = (l : Int)) (hnn : n = (c : Int)) (hz : z.cells = #[z]) (hlc : l ≤ c) (hb : bb * c ≤ 281474976710656) (hc : c ≤ 9223372036854775807) (hd : Nat.blt d N = true)
    (hn : NX N ds next ((d, .slice (some ⟨w.heap.size, 0, none⟩) l c) :: E) (w.alloc (.cells (List.replicate c z).toArray e))) :
    W1 P r N ds next ⟨some d, .makeSlice t x cp, ty, pos, af, g⟩ Q E w :=
  W1.run (fun a ha => by
    subst hm; subst hnn
    obtain ⟨i, hi1, hi2, hi3, hi4⟩ := hi.parts
    have hb' : (i.bytes : Int) * (c : Int) ≤ 281474976710656 := by
      rw [hi4]
      have : ((bb * c : Nat) : Int) ≤ 281474976710656 := by omega
      rwa [Int.natCast_mul] at this
    have := run_make (P := P) w t e i z h.is hi1 hi2 .i64 .i64 (l : Int) (c : Int) (by omega) (by omega) hb' (by omega)
    simp only [Int.toNat_natCast, hi3, made_one z c hz] at this
    simp only [execOp, ha.ev hx, ha.ev hy, Sem.run_bind, this, Result.andThen, Sem.run_pure]) rfl hd hn

/- a literal of a slice, each element one cell, all written -/
theorem map_zip {α β γ : Type} (f : β → γ) : ∀ l : List (α × β), l.map (fun p => (p.1, f p.2)) = (l.map (·.1)).zip ((l.map (·.2)).map f)
  | [] => rfl
  | p :: l => by simp only [List.map_cons, List.zip_cons_cons]; rw [map_zip f l]
theorem W1.lit1 {e : TypeId} {z v : Value} {bb : Nat} [h : UTy P t (.slice e)] [hi : ITy P e z 1 bb] (hz : z.cells = #[z]) (hx : Env.ev E x = some v) (hv : v.cells = #[v]) (hd : Nat.blt d N = true)
    (hn : NX N ds next ((d, .slice (some ⟨w.heap.size, 0, none⟩) 1 1) :: E) (w.alloc (.cells #[v] e))) :
    W1 P r N ds next ⟨some d, .buildSlice t 1 #[(0, x)], ty, pos, af, g⟩ Q E w :=
  W1.run (fun a ha => by
    have hr : Array.range 1 = #[0] := rfl
    simp [execOp, ha.ev hx, Instr.buildSlice, run_underlying h.is, run_sizeOf, run_zeroValue, Sem.run_bind, Instr.fill, newRow, hv, hz, hr]) rfl hd hn

/- string(b) -/
theorem W1.bytes_string {dst e : TypeId} {a : Addr} {l : List UInt8} {len cap : Nat} [h : UTy P t (.slice e)] [he : UTy P e (.int .u8)] [hs : UTy P dst .string] (hx : Env.ev E x = some (.slice (some a) len cap)) (hl : len = l.length)
    (hc : ∀ j (hj : j < l.length), w.cell? (a.add j) = some (.int .u8 (l[j].toNat : Int))) (hd : Nat.blt d N = true)
    (hn : NX N ds next ((d, .string ⟨l.toArray⟩) :: E) w) : W1 P r N ds next ⟨some d, .convert t dst x, ty, pos, af, g⟩ Q E w :=
  W1.run (fun b hb => by
    subst hl
    simp only [execOp, hb.ev hx, Sem.run_bind, run_convert_bytes_back w t dst e a cap l h.is he.is hs.is hc, Result.andThen, Sem.run_pure]) rfl hd hn

/- append onto a slice of the call's own -/
theorem W1.append {base : Nat} {e : TypeId} {z : Value} {sz bb : Nat} {v : Value} {n : Nat} {xs : List Value} {ad : Addr} {m c : Nat} {news : List Value} [h : UTy P t (.slice e)] [hi : ITy P e z sz bb]
    (hzs : z.cells.size = sz) (hsz : 0 < sz) (hx : Env.ev E x = some v) (hown : w.ownsRow base e sz v n xs) (hy : Env.ev E y = some (.slice (some ad) m c)) (hl : news.length = m * sz)
    (hnews : ∀ j u, news[j]? = some u → w.cell? (ad.add j) = some u) (h1 : ∀ u ∈ news, u.oneCell' = true) (h63 : n + m ≤ maxLen) (hb : (n + m) * bb ≤ 140737488355328) (hbase : base ≤ w.heap.size) (hd : Nat.blt d N = true)
    (hn : ∀ v' w', w'.ownsRow base e sz v' (n + m) (xs ++ news) → w.grownBy w' v.ownBlock → NX N ds next ((d, v') :: E) w') :
    W1 P r N ds next ⟨some d, .call ⟨.builtin .append, #[x, y], #[t, t]⟩, ty, pos, af, g⟩ Q E w := by
  obtain ⟨i, hi1, hi2, hi3, hi4⟩ := hi.parts
  obtain ⟨v', w', hr, h2, h3, -⟩ := run_append_own (P := P) w base t ty e i z sz bb h.is hi1 hi2 hi3 hi4 hzs hsz v n xs hown ad m c news hl hnews h1 h63 hb hbase
  refine W1.run (v := v') (w' := w') (fun a ha => ?_) rfl hd (hn v' w' h2 h3)
  simp only [execOp, resolve, invoke, Go.builtin, Sem.run_bind, Sem.run_pure, Result.andThen, List.map_toArray, List.map_cons, List.map_nil, ha.ev hx, ha.ev hy, hr]
end
end Go.Sx
/-
  The layer's laws for a range over a function: the caller's statement, one round, the call of yield.
-/
namespace Go.Sx
open Go Go.RowKit

/-- Nothing has turned but block l, which stays a block of its kind. -/
structure Upd1 (l : Nat) (w w' : World) : Prop where
  os : w'.os = w.os
  tape : w'.tape = w.tape
  output : w'.output = w.output
  size : w'.heap.size = w.heap.size
  block : ∀ k, k ≠ l → w'.heap[k]? = w.heap[k]?
theorem Upd1.put (w : World) (l : Nat) (o : Obj) : Upd1 l w (w.putObj l o) := ⟨rfl, rfl, rfl, by simp, fun _ hk => World.putObj_heap_other hk⟩
theorem Upd1.below {l n : Nat} {w w' : World} (h : Upd1 l w w') (hn : n ≤ l) : Below n w w' := ⟨h.os, h.tape, h.output, by rw [h.size]; exact Nat.le_refl _, fun k hk => h.block k (by omega)⟩
theorem Blk.upd1 {w w' : World} {b l : Nat} {cs : List Value} {e : TypeId} {lp : Obj} (h : Blk w b cs e) (k : Upd1 l w w') (hl : w.heap[l]? = some lp) (hne : ∀ c e f, lp ≠ .cells c e f) : Blk w' b cs e := by
  unfold Blk at *
  rw [k.block b (fun e => by subst e; rw [h] at hl; cases hl; exact hne _ _ _ rfl)]; exact h

section
variable {P : Program} {r : Option Nat} {N : Nat} {ds : List Deferred} {ol rest : List Oper} {Q : Post} {E : Env} {w : World} {next : Act → World → Prop} {g : Option (Nat × Bool)}

/-- The record of a loop over a function, as block l. -/
def LoopAt (N : Nat) (E : Env) (ps : List Nat) (assign body : Code) (st : LoopState) (pe : Option Code) (l : Nat) (W : World) : Prop :=
  ∃ rec : Loop, W.heap[l]? = some (.loop rec) ∧ rec.state = st ∧ rec.pending = pe ∧ rec.params = ps.toArray ∧ rec.assign = assign ∧ rec.body = body ∧ Rep N [] E ⟨rec.tmps, []⟩
theorem LoopAt.keep {E : Env} {ps : List Nat} {assign body : Code} {st : LoopState} {pe : Option Code} {l : Nat} {W W' : World} (h : LoopAt N E ps assign body st pe l W) (hk : W'.heap[l]? = W.heap[l]?) : LoopAt N E ps assign body st pe l W' := by
  obtain ⟨rec, h1, h2⟩ := h
  exact ⟨rec, hk.trans h1, h2⟩
theorem LoopAt.lt {E : Env} {ps : List Nat} {assign body : Code} {st : LoopState} {pe : Option Code} {l : Nat} {W : World} (h : LoopAt N E ps assign body st pe l W) : l < W.heap.size := by
  obtain ⟨rec, h1, -⟩ := h
  exact (Array.getElem?_eq_some_iff.1 h1).1
theorem LoopAt.ext {E : Env} {ps : List Nat} {assign body : Code} {st : LoopState} {pe : Option Code} {l : Nat} {W W' : World} (h : LoopAt N E ps assign body st pe l W) (hk : Ext W W') : LoopAt N E ps assign body st pe l W' := h.keep (hk.block l h.lt)
theorem Blk.loop1 {E : Env} {ps : List Nat} {assign body : Code} {st : LoopState} {pe : Option Code} {l b : Nat} {W W' : World} {cs : List Value} {e : TypeId} (h : Blk W b cs e) (hl : LoopAt N E ps assign body st pe l W) (k : Upd1 l W W') : Blk W' b cs e := by
  obtain ⟨rec, h1, -⟩ := hl
  exact h.upd1 k h1 (fun _ _ _ e => by cases e)

/-- How a round may end. -/
def RP (N : Nat) (E : Env) (ps : List Nat) (assign body : Code) (l : Nat) (R : Bool → World → Prop) : Post
  | .normal, _, W => LoopAt N E ps assign body .busy none l W ∧ ∀ W', Upd1 l W W' → LoopAt N E ps assign body .ready none l W' → R true W'
  | .ret, _, W => LoopAt N E ps assign body .busy none l W ∧ ∀ W', Upd1 l W W' → LoopAt N E ps assign body .done (some .ret) l W' → R false W'
  | .exit id, _, W => LoopAt N E ps assign body .busy none l W ∧ ∀ W', Upd1 l W W' → LoopAt N E ps assign body .done (some (.exit id)) l W' → R false W'
  | _, _, _ => False
/-- What is asked behind the assignment to the loop's variables. -/
def RA (P : Program) (N : Nat) (E : Env) (ps : List Nat) (assign body : Code) (l : Nat) (R : Bool → World → Prop) : Post
  | .normal, a, W => LoopAt N E ps assign body .ready none l W ∧ ∀ W', Upd1 l W W' → LoopAt N E ps assign body .busy none l W' → body.wpIn (FW (some l)) 0 P (RP N E ps assign body l R) a W'
  | _, _, _ => False
theorem WX.ra {E0 : Env} {ps : List Nat} {assign body : Code} {l : Nat} {R : Bool → World → Prop} (h1 : LoopAt N E0 ps assign body .ready none l w)
    (h2 : ∀ w', Upd1 l w w' → LoopAt N E0 ps assign body .busy none l w' → WC P (some l) N [] body (RP N E0 ps assign body l R) E w') : WX N [] .normal (RA P N E0 ps assign body l R) E w :=
  fun a ha => ⟨h1, fun w' hw hl => h2 w' hw hl a ha⟩
theorem WX.rp_n {E0 : Env} {ps : List Nat} {assign body : Code} {l : Nat} {R : Bool → World → Prop} (h1 : LoopAt N E0 ps assign body .busy none l w)
    (h2 : ∀ w', Upd1 l w w' → LoopAt N E0 ps assign body .ready none l w' → R true w') : WX N [] .normal (RP N E0 ps assign body l R) E w := fun _ _ => ⟨h1, h2⟩
theorem WX.rp_r {E0 : Env} {ps : List Nat} {assign body : Code} {l : Nat} {R : Bool → World → Prop} (h1 : LoopAt N E0 ps assign body .busy none l w)
    (h2 : ∀ w', Upd1 l w w' → LoopAt N E0 ps assign body .done (some .ret) l w' → R false w') : WX N [] .ret (RP N E0 ps assign body l R) E w := fun _ _ => ⟨h1, h2⟩
theorem WX.rp_e {E0 : Env} {ps : List Nat} {assign body : Code} {l id : Nat} {R : Bool → World → Prop} (h1 : LoopAt N E0 ps assign body .busy none l w)
    (h2 : ∀ w', Upd1 l w w' → LoopAt N E0 ps assign body .done (some (.exit id)) l w' → R false w') : WX N [] (.exit id) (RP N E0 ps assign body l R) E w := fun _ _ => ⟨h1, h2⟩

/-- A call of yield comes to this. -/
def Yld (P : Program) (l : Nat) (args : List Value) (W : World) (R : Bool → World → Prop) : Prop :=
  ∃ fn tmps assign body, (Instr.yield l args.toArray).run P W = .ok (.round l fn tmps assign body) W ∧ RoundIn (FW none) 0 P l fn tmps assign body W fun e W' => ∃ b, e = .returned (.bool b) ∧ R b W'

def putAll : List (Nat × Value) → Env → Env
  | [], E => E
  | (t, v) :: l, E => putAll l ((t, v) :: E)
theorem rep_putAll : ∀ (l : List (Nat × Value)) (E : Env) (tmps : Array Value), (∀ p ∈ l, p.1 < N) → Rep N [] E ⟨tmps, []⟩ →
    Rep N [] (putAll l E) ⟨l.foldl (fun t p => t.setIfInBounds p.1 p.2) tmps, []⟩
  | [], _, _, _, h => h
  | (t, v) :: l, E, tmps, hl, h => by
    have ht : t < N := hl (t, v) (by simp)
    have h1 := h.put (d := t) (by simpa [Nat.blt_eq] using ht) v
    exact rep_putAll l _ _ (fun p hp => hl p (by simp [hp])) h1

theorem Yld.of {ps : List Nat} {assign body : Code} {l : Nat} {args : List Value} {R : Bool → World → Prop} (hL : LoopAt N E ps assign body .ready none l w) (hlen : args.length = ps.length) (hps : (ps.all (Nat.blt · N)) = true)
    (h : WC P (some l) N [] assign (RA P N E ps assign body l R) (putAll (ps.zip args) E) w) : Yld P l args w R := by
  obtain ⟨rec, h1, h2, h3, h4, rfl, rfl, h7⟩ := hL
  have hy := run_yield (P := P) (args := args.toArray) h1 (by simp [h4, hlen])
  refine ⟨_, _, _, _, hy, roundIn_of_wpIn trivial ?_⟩
  have hrep : Rep N [] (putAll (ps.zip args) E) ⟨(rec.params.zip args.toArray).foldl (fun tmps (p : Nat × Value) => tmps.setIfInBounds p.1 p.2) rec.tmps, []⟩ := by
    have := rep_putAll (ps.zip args) E rec.tmps (fun p hp => by
      have h8 := (List.of_mem_zip hp).1
      have := List.all_eq_true.1 hps _ h8
      simpa [Nat.blt_eq] using this) h7
    rw [h4]
    simpa using this
  have hw := h _ hrep
  refine wpIn_mono hw ?_
  intro e a W hq
  cases e with
  | normal =>
    obtain ⟨⟨rec1, g1, g2, g3, g4, g5, g6, g7⟩, hq⟩ := hq
    refine ⟨_, run_beginRound g1 g2, ?_⟩
    have hl1 : l < W.heap.size := (Array.getElem?_eq_some_iff.1 g1).1
    have hb := hq (W.putObj l (.loop { rec1 with state := .busy })) (Upd1.put _ _ _) ⟨{ rec1 with state := .busy }, World.putObj_heap_same hl1, rfl, g3, g4, g5, g6, g7⟩
    refine wpIn_mono hb ?_
    intro e a2 W2 hq2
    cases e with
    | normal =>
      obtain ⟨⟨rec2, f1, f2, f3, f4, f5, f6, f7⟩, hq2⟩ := hq2
      refine ⟨_, _, run_endRound none f1, _, rfl, hq2 _ (Upd1.put _ _ _) ⟨_, World.putObj_heap_same (Array.getElem?_eq_some_iff.1 f1).1, rfl, rfl, f4, f5, f6, f7⟩⟩
    | ret =>
      obtain ⟨⟨rec2, f1, f2, f3, f4, f5, f6, f7⟩, hq2⟩ := hq2
      refine ⟨_, _, run_endRound (some .ret) f1, _, rfl, hq2 _ (Upd1.put _ _ _) ⟨_, World.putObj_heap_same (Array.getElem?_eq_some_iff.1 f1).1, rfl, rfl, f4, f5, f6, f7⟩⟩
    | exit id =>
      obtain ⟨⟨rec2, f1, f2, f3, f4, f5, f6, f7⟩, hq2⟩ := hq2
      refine ⟨_, _, run_endRound (some (.exit id)) f1, _, rfl, hq2 _ (Upd1.put _ _ _) ⟨_, World.putObj_heap_same (Array.getElem?_eq_some_iff.1 f1).1, rfl, rfl, f4, f5, f6, f7⟩⟩
    | goto t => exact hq2.elim
    | panic c => exact hq2.elim
    | outgrown => exact hq2.elim
  | exit id => exact hq.elim
  | goto l => exact hq.elim
  | ret => exact hq.elim
  | panic c => exact hq.elim
  | outgrown => exact hq.elim

/-- The call of yield. -/
theorem W1.yield {d : Option Nat} {x : Operand} {l : Nat} {args : List Operand} {ats : Array TypeId} {ty : TypeId} {pos : String} {af : Array Edge} {vs : List Value} {R : Bool → World → Prop}
    (hd : dOk d N = true) (hx : Env.ev E x = some (.func (.yield l) #[] #[])) (ha : Env.evs E args = some vs) (hc : Yld P l vs w R)
    (h : ∀ b w', R b w' → NX N ds next (putE d (.bool b) E) w') :
    W1 P r N ds next ⟨d, .call ⟨.value x, args.toArray, ats⟩, ty, pos, af, g⟩ Q E w := by
  intro a hr
  obtain ⟨fn, tmps, assign, body, hy, hround⟩ := hc
  refine ⟨fun _ _ => trivial, ?_⟩
  have hrun : (execOp a.eval ⟨d, .call ⟨.value x, args.toArray, ats⟩, ty, pos, af, g⟩).run P w = .ok (.round l fn tmps assign body) w := by
    have hm : Array.map a.eval args.toArray = vs.toArray := by simp [hr.evs ha]
    simp [execOp, resolve, hm, hr.ev hx, Deferred.ofValue, invoke, hy]
  rw [semAt_of rfl, hrun]
  refine ⟨fun h => by simp [FW] at h, trivial, fun c cs hroom => ?_⟩
  obtain ⟨e, w', ⟨b, he, hR⟩, hs⟩ := hround.2 c cs (FW_room _ _)
  subst he
  exact ⟨.returned (.bool b), w', h b w' hR _ (hr.putO hd _), hs⟩

def markOf (D : Nat) : Deferred := { target := .collected D, args := #[] }
/-- 'for .. := range g { .. }', outermost. -/
theorem WC.rangeFunc {x : Operand} {ps : List Nat} {assign body : Code} {gf : FuncId} {lb : List Value} [hcf : CallOk P gf] (hg : Env.ev E x = some (.func (.func gf) #[] lb.toArray))
    (h : ∀ w1, Ext w w1 → w1.heap.size = w.heap.size + 2 → LoopAt N E ps assign body .ready none (w.heap.size + 1) w1 → w1.heap[w.heap.size]? = some (.deferred (some [])) →
      Fn P gf (.func (.yield (w.heap.size + 1)) #[] #[] :: lb).toArray w1 fun _ w2 =>
        (LoopAt N E ps assign body .ready none (w.heap.size + 1) w2 ∧ ∀ w3, Upd1 (w.heap.size + 1) w2 w3 → WX N (markOf w.heap.size :: ds) .normal Q E w3) ∨
        (∃ c, LoopAt N E ps assign body .done (some c) (w.heap.size + 1) w2 ∧ ∀ w3, Upd1 (w.heap.size + 1) w2 w3 → WC P none N (markOf w.heap.size :: ds) c Q E w3)) :
    WC P none N ds (.rangeFunc x ps.toArray assign body) Q E w := by
  intro a ha
  refine wpIn_rangeFunc ?_
  intro fn hfn
  have hm : Rep N (markOf w.heap.size :: ds) E { a with defers := [markOf w.heap.size] ++ a.defers } := ⟨ha.size, by simp [ha.defers], ha.get⟩
  obtain ⟨W1, hW1⟩ : ∃ W1, (w.alloc (.deferred (some []))).alloc (.loop { state := .ready, pending := none, fn, tmps := a.tmps, params := ps.toArray, assign, body, defers := w.heap.size }) = W1 := ⟨_, rfl⟩
  have he := run_enterLoop_outer (P := P) (w := w) fn a.tmps ps.toArray assign body
  rw [hW1] at he
  refine ⟨_, _, W1, { target := .fn (.func gf) lb.toArray, args := #[.func (.yield (w.heap.size + 1)) #[] #[]] }, W1, gf, (.func (.yield (w.heap.size + 1)) #[] #[] :: lb).toArray, W1, he, ?_, fun _ _ => trivial, ?_, fun h => by simp [FW] at h, ?_⟩
  · simp only [resolve, ha.ev hg]
    simp [Deferred.ofValue, Act.eval]
  · have : (#[Value.func (.yield (w.heap.size + 1)) #[] #[]] ++ lb.toArray) = (Value.func (.yield (w.heap.size + 1)) #[] #[] :: lb).toArray := by simp
    simp only [invoke, this, hcf.run]
  · subst hW1
    have hc := h ((w.alloc (.deferred (some []))).alloc (.loop { state := .ready, pending := none, fn, tmps := a.tmps, params := ps.toArray, assign, body, defers := w.heap.size }))
      (((Below.refl _ w).alloc (Nat.le_refl _) _).alloc (by simp) _) (by simp) ⟨_, by rw [show w.heap.size + 1 = (w.alloc (.deferred (some []))).heap.size by simp]; exact World.alloc_heap_new _ _, rfl, rfl, rfl, rfl, rfl, ⟨ha.size, rfl, ha.get⟩⟩
      (by rw [Below.heap_alloc _ _ _ (by simp)]; exact World.alloc_heap_new w _)
    refine (callsIn_wide (n := 0)).2 (Calls.mono hc ?_)
    rintro e w2 ⟨v, rfl, (⟨hl, hq⟩ | ⟨c, hl, hq⟩)⟩
    · obtain ⟨rec, h1, h2, h3, h4⟩ := hl
      have := run_endLoop (P := P) h1 (by rw [h2]; simp)
      rw [h3] at this
      exact ⟨none, _, this, hq _ (Upd1.put _ _ _) _ hm⟩
    · obtain ⟨rec, h1, h2, h3, h4⟩ := hl
      have := run_endLoop (P := P) h1 (by rw [h2]; simp)
      rw [h3] at this
      exact ⟨some c, _, this, hq _ (Upd1.put _ _ _) _ hm⟩

/-- The same with a name for the record. -/
theorem WC.rangeFunc' {x : Operand} {ps : List Nat} {assign body : Code} {gf : FuncId} {lb : List Value} [hcf : CallOk P gf] (hg : Env.ev E x = some (.func (.func gf) #[] lb.toArray))
    (h : ∀ w1 D l (L : LoopState → Option Code → World → Prop), (∀ st pe W, L st pe W ↔ LoopAt N E ps assign body st pe l W) → w.heap.size = D → D + 1 = l → w1.heap.size = l + 1 → Ext w w1 → L .ready none w1 → w1.heap[D]? = some (.deferred (some [])) →
      Fn P gf (.func (.yield l) #[] #[] :: lb).toArray w1 fun _ w2 =>
        (L .ready none w2 ∧ ∀ w3, Upd1 l w2 w3 → WX N (markOf D :: ds) .normal Q E w3) ∨
        (∃ c, L .done (some c) w2 ∧ ∀ w3, Upd1 l w2 w3 → WC P none N (markOf D :: ds) c Q E w3)) :
    WC P none N ds (.rangeFunc x ps.toArray assign body) Q E w :=
  WC.rangeFunc hg fun w1 hx hs hl hd => h w1 _ _ (fun st pe W => LoopAt N E ps assign body st pe (w.heap.size + 1) W) (fun _ _ _ => Iff.rfl) rfl rfl hs hx hl hd

/- a function that holds such a loop -/
theorem enterM {f : FuncId} {fn : Func} {c : Code} {l : List Value} {R : Value → World → Prop} [hf : FnIs P f fn] (hb : fn.body = some c) (hN : fn.ntmps = N) (hl : Nat.ble l.length N = true)
    (h : WC P none N [] c (bodyPostM Fence.wide 0 P fn (RetP R)) (Env.of 0 l) w) : Fn P f l.toArray w R := by
  refine (callsIn_wide (n := 0)).1 (callsIn_of_wp_marks hf.is hb trivial ?_ rfl)
  have hl' : l.length ≤ N := by simpa using hl
  refine h _ ⟨by simp [hN]; omega, rfl, fun t v ht => ?_⟩
  obtain ⟨-, h2⟩ := Env.of_g l 0 t v ht
  have hlt : t < l.length := by
    rcases Nat.lt_or_ge t l.length with h | h
    · exact h
    · simp [List.getElem?_eq_none h] at h2
  rw [Array.getElem?_append_left (by simpa using hlt)]
  simpa using h2
theorem WX.retM1 {fn : Func} {t D : Nat} {v : Value} {R : Value → World → Prop} (hr : fn.results = #[.tmp t]) (hv : Env.g E t = some v) (hD : w.heap[D]? = some (.deferred (some []))) (h : ∀ w', Upd1 D w w' → R v w') :
    WX N [markOf D] .ret (bodyPostM Fence.wide 0 P fn (RetP R)) E w := fun a ha => by
  simp only [bodyPostM, ha.defers]
  refine ⟨by simp, .inl ⟨D, _, rfl, run_takeDeferred hD, ?_⟩⟩
  exact ⟨_, results_tmp hr _ _ _, _, rfl, by rw [Array.getD_eq_getD_getElem?, ha.get _ _ hv]; exact h _ (Upd1.put _ _ _)⟩
theorem WX.retM2 {fn : Func} {t u D : Nat} {v v' : Value} {R : Value → World → Prop} (hr : fn.results = #[.tmp t, .tmp u]) (hv : Env.g E t = some v) (hv' : Env.g E u = some v') (hD : w.heap[D]? = some (.deferred (some [])))
    (h : ∀ w', Upd1 D w w' → R (.tuple #[v, v']) w') : WX N [markOf D] .ret (bodyPostM Fence.wide 0 P fn (RetP R)) E w := fun a ha => by
  simp only [bodyPostM, ha.defers]
  refine ⟨by simp, .inl ⟨D, _, rfl, run_takeDeferred hD, ?_⟩⟩
  exact ⟨_, results_tmp2 hr _ _ _, _, rfl, by simp only [Array.getD_eq_getD_getElem?, ha.get _ _ hv, ha.get _ _ hv']; exact h _ (Upd1.put _ _ _)⟩
/-- The same function, left before the loop. -/
theorem WX.retM0_1 {fn : Func} {t : Nat} {v : Value} {R : Value → World → Prop} (hr : fn.results = #[.tmp t]) (hv : Env.g E t = some v) (h : R v w) :
    WX N [] .ret (bodyPostM Fence.wide 0 P fn (RetP R)) E w := fun a ha => by
  simp only [bodyPostM, ha.defers]
  exact ⟨_, results_tmp hr _ _ _, _, rfl, by rw [Array.getD_eq_getD_getElem?, ha.get _ _ hv]; exact h⟩
theorem WX.retM0_2 {fn : Func} {t u : Nat} {v v' : Value} {R : Value → World → Prop} (hr : fn.results = #[.tmp t, .tmp u]) (hv : Env.g E t = some v) (hv' : Env.g E u = some v') (h : R (.tuple #[v, v']) w) :
    WX N [] .ret (bodyPostM Fence.wide 0 P fn (RetP R)) E w := fun a ha => by
  simp only [bodyPostM, ha.defers]
  exact ⟨_, results_tmp2 hr _ _ _, _, rfl, by simp only [Array.getD_eq_getD_getElem?, ha.get _ _ hv, ha.get _ _ hv']; exact h⟩
end
end Go.Sx
/-
  The layer's laws whose small premises prove themselves.
-/
namespace Go.Sx
open Go Go.RowKit
section
variable {P : Program} {r : Option Nat} {N : Nat} {ds : List Deferred} {ol rest : List Oper} {Q : Post} {E : Env} {w : World} {fuel : Nat} {listed : Array Bool} {next : Act → World → Prop} {g : Option (Nat × Bool)}
variable {d : Nat} {op : Op} {ty : TypeId} {pos : String} {af : Array Edge} {v : Value}
theorem WL.pa (h : WL P r N ds ol rest Q ((d, v) :: E) w)
    (hp : POp P N ds E op ty v := by
      first
        | (apply POp.move; rfl)
        | (apply POp.assign; rfl)
        | (apply POp.extract; rfl; rfl)
        | (apply POp.len_slice; rfl)
        | (apply POp.len_string; rfl)
        | (apply POp.lss; rfl; rfl)
        | (apply POp.leq; rfl; rfl)
        | (apply POp.gtr; rfl; rfl)
        | (apply POp.geq; rfl; rfl)
        | (apply POp.eql; rfl; rfl)
        | (apply POp.neq; rfl; rfl)
        | (apply POp.not_d; rfl)
        | (apply POp.not_b; rfl)
        | (apply POp.add; rfl; rfl; omega; omega)
        | (apply POp.sub; rfl; rfl; omega; omega)
        | (apply POp.xor; rfl; rfl; (first | with_reducible exact cst _ | with_reducible exact lit _ | exact rfl); (first | with_reducible exact cst _ | with_reducible exact lit _ | exact rfl); (first | omega | assumption | decide | (refine Nat.lt_of_le_of_lt (Nat.shiftRight_le _ _) ?_; omega) | (refine Nat.lt_of_le_of_lt Nat.and_le_right ?_; omega) | (refine Nat.lt_of_le_of_lt Nat.and_le_left ?_; omega) | (refine Nat.xor_lt_two_pow (n := 63) ?_ ?_ <;> omega)); (first | omega | assumption | decide | (refine Nat.lt_of_le_of_lt (Nat.shiftRight_le _ _) ?_; omega) | (refine Nat.lt_of_le_of_lt Nat.and_le_right ?_; omega) | (refine Nat.lt_of_le_of_lt Nat.and_le_left ?_; omega) | (refine Nat.xor_lt_two_pow (n := 63) ?_ ?_ <;> omega)))
        | (apply POp.xor8; rfl; rfl; (first | with_reducible exact cst _ | with_reducible exact lit _ | exact rfl); (first | with_reducible exact cst _ | with_reducible exact lit _ | exact rfl); (first | omega | assumption); (first | omega | assumption))
        | (apply POp.and; rfl; rfl; (first | with_reducible exact cst _ | with_reducible exact lit _ | exact rfl); (first | with_reducible exact cst _ | with_reducible exact lit _ | exact rfl); (first | omega | assumption | decide | (refine Nat.lt_of_le_of_lt (Nat.shiftRight_le _ _) ?_; omega) | (refine Nat.lt_of_le_of_lt Nat.and_le_right ?_; omega) | (refine Nat.lt_of_le_of_lt Nat.and_le_left ?_; omega) | (refine Nat.xor_lt_two_pow (n := 63) ?_ ?_ <;> omega)); (first | omega | assumption | decide | (refine Nat.lt_of_le_of_lt (Nat.shiftRight_le _ _) ?_; omega) | (refine Nat.lt_of_le_of_lt Nat.and_le_right ?_; omega) | (refine Nat.lt_of_le_of_lt Nat.and_le_left ?_; omega) | (refine Nat.xor_lt_two_pow (n := 63) ?_ ?_ <;> omega)))
        | (apply POp.or; rfl; rfl; (first | with_reducible exact cst _ | with_reducible exact lit _ | exact rfl); (first | with_reducible exact cst _ | with_reducible exact lit _ | exact rfl); (first | omega | assumption | decide | (refine Nat.lt_of_le_of_lt (Nat.shiftRight_le _ _) ?_; omega) | (refine Nat.lt_of_le_of_lt Nat.and_le_right ?_; omega) | (refine Nat.lt_of_le_of_lt Nat.and_le_left ?_; omega) | (refine Nat.xor_lt_two_pow (n := 63) ?_ ?_ <;> omega)); (first | omega | assumption | decide | (refine Nat.lt_of_le_of_lt (Nat.shiftRight_le _ _) ?_; omega) | (refine Nat.lt_of_le_of_lt Nat.and_le_right ?_; omega) | (refine Nat.lt_of_le_of_lt Nat.and_le_left ?_; omega) | (refine Nat.xor_lt_two_pow (n := 63) ?_ ?_ <;> omega)))
        | (apply POp.shr; rfl; rfl; (first | with_reducible exact cst _ | with_reducible exact lit _ | exact rfl); (first | with_reducible exact cst _ | with_reducible exact lit _ | exact rfl); omega)
        | (apply POp.shl; rfl; rfl; (first | with_reducible exact cst _ | with_reducible exact lit _ | exact rfl); (first | with_reducible exact cst _ | with_reducible exact lit _ | exact rfl); omega; (first | omega | assumption | decide | (refine Nat.lt_of_le_of_lt (Nat.shiftRight_le _ _) ?_; omega) | (refine Nat.lt_of_le_of_lt Nat.and_le_right ?_; omega) | (refine Nat.lt_of_le_of_lt Nat.and_le_left ?_; omega) | (refine Nat.xor_lt_two_pow (n := 63) ?_ ?_ <;> omega)))
        | (apply POp.quo; rfl; rfl; omega; omega; omega)
        | (apply POp.rem; rfl; rfl; omega; omega)
        | (apply POp.min_int; rfl; rfl)
        | (apply POp.max_int; rfl; rfl)
        | (apply POp.conv_i64; rfl; omega; omega)
        | (apply POp.index_slice; rfl; rfl; omega; omega; (first | (simp only [Nat.zero_add, Nat.add_zero, Nat.mul_one, Int.toNat_natCast, Int.reduceToNat, Nat.reduceMul, Nat.reduceAdd]; done) | (simp only [Nat.zero_add, Nat.add_zero, Nat.mul_one, Int.toNat_natCast, Int.reduceToNat, Nat.reduceMul, Nat.reduceAdd]; rfl) | rfl))
        | (apply POp.index_array; rfl; rfl; omega; omega; (first | (simp only [Nat.zero_add, Nat.add_zero, Nat.mul_one, Int.toNat_natCast, Int.reduceToNat, Nat.reduceMul, Nat.reduceAdd]; done) | (simp only [Nat.zero_add, Nat.add_zero, Nat.mul_one, Int.toNat_natCast, Int.reduceToNat, Nat.reduceMul, Nat.reduceAdd]; rfl) | rfl))
        | (apply POp.makeFunc; rfl; rfl)
        | (apply POp.index_string; rfl; rfl; (first | with_reducible exact cst _ | with_reducible exact lit _ | exact rfl); omega)
        | (apply POp.sub_lh; rfl; rfl; rfl; omega; omega; omega)
        | (apply POp.sub_h; rfl; rfl; omega; omega)
        | (apply POp.sub_l; rfl; rfl; omega; omega)
        | (apply POp.seql; rfl; rfl)
        | (apply POp.sneq; rfl; rfl)
        | (apply POp.conv_u8; rfl; omega; omega)
        | (apply POp.mul; rfl; rfl; omega; omega)
        | (refine POp.pick_t rfl ?_ rfl; (first | with_reducible rfl | assumption | (simp only [Bool.not_true, Bool.not_false]; done) | (simp only [decide_eq_true_eq, decide_eq_false_iff_not, Bool.not_true, Bool.not_false, not_true_eq_false, not_false_eq_true, reduceCtorEq]; first | done | assumption | omega)))
        | (refine POp.pick_f rfl ?_ rfl; (first | with_reducible rfl | assumption | (simp only [Bool.not_true, Bool.not_false]; done) | (simp only [decide_eq_true_eq, decide_eq_false_iff_not, Bool.not_true, Bool.not_false, not_true_eq_false, not_false_eq_true, reduceCtorEq]; first | done | assumption | omega)))
        | (apply POp.neg; rfl; omega; omega)
        | (apply POp.cat; rfl; rfl; omega)
        | (apply POp.beql; rfl; rfl)
        | (apply POp.bneq; rfl; rfl)
        | (apply POp.field; rfl; rfl)
        | (refine POp.fieldAddr rfl rfl)
        | (apply POp.cut_h; rfl; rfl; omega; omega)
        | (apply POp.xor32; rfl; rfl)
        | (apply POp.and32; rfl; rfl)
        | (apply POp.or32; rfl; rfl)
        | (apply POp.add32; rfl; rfl)
        | (apply POp.not32; rfl)
        | (apply POp.shl32; rfl; rfl; (first | with_reducible exact cst _ | with_reducible exact lit _ | exact rfl); omega)
        | (apply POp.shr32; rfl; rfl; (first | with_reducible exact cst _ | with_reducible exact lit _ | exact rfl); omega)
        | (apply POp.conv832; rfl)
        | (apply POp.conv328; rfl)
        | (apply POp.conv648; rfl)) (hi : isDefer op = false := by exact rfl) (hd : Nat.blt d N = true := by exact rfl) :
    WL P r N ds ol (⟨some d, op, ty, pos, af, none⟩ :: rest) Q E w := WL.p hp hi hd h
theorem QL.pa (h : QL P r N ds w ol rest Q ((d, v) :: E))
    (hp : POp P N ds E op ty v := by
      first
        | (apply POp.move; rfl)
        | (apply POp.assign; rfl)
        | (apply POp.extract; rfl; rfl)
        | (apply POp.len_slice; rfl)
        | (apply POp.len_string; rfl)
        | (apply POp.lss; rfl; rfl)
        | (apply POp.leq; rfl; rfl)
        | (apply POp.gtr; rfl; rfl)
        | (apply POp.geq; rfl; rfl)
        | (apply POp.eql; rfl; rfl)
        | (apply POp.neq; rfl; rfl)
        | (apply POp.not_d; rfl)
        | (apply POp.not_b; rfl)
        | (apply POp.add; rfl; rfl; omega; omega)
        | (apply POp.sub; rfl; rfl; omega; omega)
        | (apply POp.xor; rfl; rfl; (first | with_reducible exact cst _ | with_reducible exact lit _ | exact rfl); (first | with_reducible exact cst _ | with_reducible exact lit _ | exact rfl); (first | omega | assumption | decide | (refine Nat.lt_of_le_of_lt (Nat.shiftRight_le _ _) ?_; omega) | (refine Nat.lt_of_le_of_lt Nat.and_le_right ?_; omega) | (refine Nat.lt_of_le_of_lt Nat.and_le_left ?_; omega) | (refine Nat.xor_lt_two_pow (n := 63) ?_ ?_ <;> omega)); (first | omega | assumption | decide | (refine Nat.lt_of_le_of_lt (Nat.shiftRight_le _ _) ?_; omega) | (refine Nat.lt_of_le_of_lt Nat.and_le_right ?_; omega) | (refine Nat.lt_of_le_of_lt Nat.and_le_left ?_; omega) | (refine Nat.xor_lt_two_pow (n := 63) ?_ ?_ <;> omega)))
        | (apply POp.xor8; rfl; rfl; (first | with_reducible exact cst _ | with_reducible exact lit _ | exact rfl); (first | with_reducible exact cst _ | with_reducible exact lit _ | exact rfl); (first | omega | assumption); (first | omega | assumption))
        | (apply POp.and; rfl; rfl; (first | with_reducible exact cst _ | with_reducible exact lit _ | exact rfl); (first | with_reducible exact cst _ | with_reducible exact lit _ | exact rfl); (first | omega | assumption | decide | (refine Nat.lt_of_le_of_lt (Nat.shiftRight_le _ _) ?_; omega) | (refine Nat.lt_of_le_of_lt Nat.and_le_right ?_; omega) | (refine Nat.lt_of_le_of_lt Nat.and_le_left ?_; omega) | (refine Nat.xor_lt_two_pow (n := 63) ?_ ?_ <;> omega)); (first | omega | assumption | decide | (refine Nat.lt_of_le_of_lt (Nat.shiftRight_le _ _) ?_; omega) | (refine Nat.lt_of_le_of_lt Nat.and_le_right ?_; omega) | (refine Nat.lt_of_le_of_lt Nat.and_le_left ?_; omega) | (refine Nat.xor_lt_two_pow (n := 63) ?_ ?_ <;> omega)))
        | (apply POp.or; rfl; rfl; (first | with_reducible exact cst _ | with_reducible exact lit _ | exact rfl); (first | with_reducible exact cst _ | with_reducible exact lit _ | exact rfl); (first | omega | assumption | decide | (refine Nat.lt_of_le_of_lt (Nat.shiftRight_le _ _) ?_; omega) | (refine Nat.lt_of_le_of_lt Nat.and_le_right ?_; omega) | (refine Nat.lt_of_le_of_lt Nat.and_le_left ?_; omega) | (refine Nat.xor_lt_two_pow (n := 63) ?_ ?_ <;> omega)); (first | omega | assumption | decide | (refine Nat.lt_of_le_of_lt (Nat.shiftRight_le _ _) ?_; omega) | (refine Nat.lt_of_le_of_lt Nat.and_le_right ?_; omega) | (refine Nat.lt_of_le_of_lt Nat.and_le_left ?_; omega) | (refine Nat.xor_lt_two_pow (n := 63) ?_ ?_ <;> omega)))
        | (apply POp.shr; rfl; rfl; (first | with_reducible exact cst _ | with_reducible exact lit _ | exact rfl); (first | with_reducible exact cst _ | with_reducible exact lit _ | exact rfl); omega)
        | (apply POp.shl; rfl; rfl; (first | with_reducible exact cst _ | with_reducible exact lit _ | exact rfl); (first | with_reducible exact cst _ | with_reducible exact lit _ | exact rfl); omega; (first | omega | assumption | decide | (refine Nat.lt_of_le_of_lt (Nat.shiftRight_le _ _) ?_; omega) | (refine Nat.lt_of_le_of_lt Nat.and_le_right ?_; omega) | (refine Nat.lt_of_le_of_lt Nat.and_le_left ?_; omega) | (refine Nat.xor_lt_two_pow (n := 63) ?_ ?_ <;> omega)))
        | (apply POp.quo; rfl; rfl; omega; omega; omega)
        | (apply POp.rem; rfl; rfl; omega; omega)
        | (apply POp.min_int; rfl; rfl)
        | (apply POp.max_int; rfl; rfl)
        | (apply POp.conv_i64; rfl; omega; omega)
        | (apply POp.index_slice; rfl; rfl; omega; omega; (first | (simp only [Nat.zero_add, Nat.add_zero, Nat.mul_one, Int.toNat_natCast, Int.reduceToNat, Nat.reduceMul, Nat.reduceAdd]; done) | (simp only [Nat.zero_add, Nat.add_zero, Nat.mul_one, Int.toNat_natCast, Int.reduceToNat, Nat.reduceMul, Nat.reduceAdd]; rfl) | rfl))
        | (apply POp.index_array; rfl; rfl; omega; omega; (first | (simp only [Nat.zero_add, Nat.add_zero, Nat.mul_one, Int.toNat_natCast, Int.reduceToNat, Nat.reduceMul, Nat.reduceAdd]; done) | (simp only [Nat.zero_add, Nat.add_zero, Nat.mul_one, Int.toNat_natCast, Int.reduceToNat, Nat.reduceMul, Nat.reduceAdd]; rfl) | rfl))
        | (apply POp.makeFunc; rfl; rfl)
        | (apply POp.index_string; rfl; rfl; (first | with_reducible exact cst _ | with_reducible exact lit _ | exact rfl); omega)
        | (apply POp.sub_lh; rfl; rfl; rfl; omega; omega; omega)
        | (apply POp.sub_h; rfl; rfl; omega; omega)
        | (apply POp.sub_l; rfl; rfl; omega; omega)
        | (apply POp.seql; rfl; rfl)
        | (apply POp.sneq; rfl; rfl)
        | (apply POp.conv_u8; rfl; omega; omega)
        | (apply POp.mul; rfl; rfl; omega; omega)
        | (refine POp.pick_t rfl ?_ rfl; (first | with_reducible rfl | assumption | (simp only [Bool.not_true, Bool.not_false]; done) | (simp only [decide_eq_true_eq, decide_eq_false_iff_not, Bool.not_true, Bool.not_false, not_true_eq_false, not_false_eq_true, reduceCtorEq]; first | done | assumption | omega)))
        | (refine POp.pick_f rfl ?_ rfl; (first | with_reducible rfl | assumption | (simp only [Bool.not_true, Bool.not_false]; done) | (simp only [decide_eq_true_eq, decide_eq_false_iff_not, Bool.not_true, Bool.not_false, not_true_eq_false, not_false_eq_true, reduceCtorEq]; first | done | assumption | omega)))
        | (apply POp.neg; rfl; omega; omega)
        | (apply POp.cat; rfl; rfl; omega)
        | (apply POp.beql; rfl; rfl)
        | (apply POp.bneq; rfl; rfl)
        | (apply POp.field; rfl; rfl)
        | (refine POp.fieldAddr rfl rfl)
        | (apply POp.cut_h; rfl; rfl; omega; omega)
        | (apply POp.xor32; rfl; rfl)
        | (apply POp.and32; rfl; rfl)
        | (apply POp.or32; rfl; rfl)
        | (apply POp.add32; rfl; rfl)
        | (apply POp.not32; rfl)
        | (apply POp.shl32; rfl; rfl; (first | with_reducible exact cst _ | with_reducible exact lit _ | exact rfl); omega)
        | (apply POp.shr32; rfl; rfl; (first | with_reducible exact cst _ | with_reducible exact lit _ | exact rfl); omega)
        | (apply POp.conv832; rfl)
        | (apply POp.conv328; rfl)
        | (apply POp.conv648; rfl)) (hd : Nat.blt d N = true := by exact rfl) :
    QL P r N ds w ol (⟨some d, op, ty, pos, af, none⟩ :: rest) Q E := QL.p hp hd h
theorem W1.pa (h : NX N ds next ((d, v) :: E) w)
    (hp : POp P N ds E op ty v := by
      first
        | (apply POp.move; rfl)
        | (apply POp.assign; rfl)
        | (apply POp.extract; rfl; rfl)
        | (apply POp.len_slice; rfl)
        | (apply POp.len_string; rfl)
        | (apply POp.lss; rfl; rfl)
        | (apply POp.leq; rfl; rfl)
        | (apply POp.gtr; rfl; rfl)
        | (apply POp.geq; rfl; rfl)
        | (apply POp.eql; rfl; rfl)
        | (apply POp.neq; rfl; rfl)
        | (apply POp.not_d; rfl)
        | (apply POp.not_b; rfl)
        | (apply POp.add; rfl; rfl; omega; omega)
        | (apply POp.sub; rfl; rfl; omega; omega)
        | (apply POp.xor; rfl; rfl; (first | with_reducible exact cst _ | with_reducible exact lit _ | exact rfl); (first | with_reducible exact cst _ | with_reducible exact lit _ | exact rfl); (first | omega | assumption | decide | (refine Nat.lt_of_le_of_lt (Nat.shiftRight_le _ _) ?_; omega) | (refine Nat.lt_of_le_of_lt Nat.and_le_right ?_; omega) | (refine Nat.lt_of_le_of_lt Nat.and_le_left ?_; omega) | (refine Nat.xor_lt_two_pow (n := 63) ?_ ?_ <;> omega)); (first | omega | assumption | decide | (refine Nat.lt_of_le_of_lt (Nat.shiftRight_le _ _) ?_; omega) | (refine Nat.lt_of_le_of_lt Nat.and_le_right ?_; omega) | (refine Nat.lt_of_le_of_lt Nat.and_le_left ?_; omega) | (refine Nat.xor_lt_two_pow (n := 63) ?_ ?_ <;> omega)))
        | (apply POp.xor8; rfl; rfl; (first | with_reducible exact cst _ | with_reducible exact lit _ | exact rfl); (first | with_reducible exact cst _ | with_reducible exact lit _ | exact rfl); (first | omega | assumption); (first | omega | assumption))
        | (apply POp.and; rfl; rfl; (first | with_reducible exact cst _ | with_reducible exact lit _ | exact rfl); (first | with_reducible exact cst _ | with_reducible exact lit _ | exact rfl); (first | omega | assumption | decide | (refine Nat.lt_of_le_of_lt (Nat.shiftRight_le _ _) ?_; omega) | (refine Nat.lt_of_le_of_lt Nat.and_le_right ?_; omega) | (refine Nat.lt_of_le_of_lt Nat.and_le_left ?_; omega) | (refine Nat.xor_lt_two_pow (n := 63) ?_ ?_ <;> omega)); (first | omega | assumption | decide | (refine Nat.lt_of_le_of_lt (Nat.shiftRight_le _ _) ?_; omega) | (refine Nat.lt_of_le_of_lt Nat.and_le_right ?_; omega) | (refine Nat.lt_of_le_of_lt Nat.and_le_left ?_; omega) | (refine Nat.xor_lt_two_pow (n := 63) ?_ ?_ <;> omega)))
        | (apply POp.or; rfl; rfl; (first | with_reducible exact cst _ | with_reducible exact lit _ | exact rfl); (first | with_reducible exact cst _ | with_reducible exact lit _ | exact rfl); (first | omega | assumption | decide | (refine Nat.lt_of_le_of_lt (Nat.shiftRight_le _ _) ?_; omega) | (refine Nat.lt_of_le_of_lt Nat.and_le_right ?_; omega) | (refine Nat.lt_of_le_of_lt Nat.and_le_left ?_; omega) | (refine Nat.xor_lt_two_pow (n := 63) ?_ ?_ <;> omega)); (first | omega | assumption | decide | (refine Nat.lt_of_le_of_lt (Nat.shiftRight_le _ _) ?_; omega) | (refine Nat.lt_of_le_of_lt Nat.and_le_right ?_; omega) | (refine Nat.lt_of_le_of_lt Nat.and_le_left ?_; omega) | (refine Nat.xor_lt_two_pow (n := 63) ?_ ?_ <;> omega)))
        | (apply POp.shr; rfl; rfl; (first | with_reducible exact cst _ | with_reducible exact lit _ | exact rfl); (first | with_reducible exact cst _ | with_reducible exact lit _ | exact rfl); omega)
        | (apply POp.shl; rfl; rfl; (first | with_reducible exact cst _ | with_reducible exact lit _ | exact rfl); (first | with_reducible exact cst _ | with_reducible exact lit _ | exact rfl); omega; (first | omega | assumption | decide | (refine Nat.lt_of_le_of_lt (Nat.shiftRight_le _ _) ?_; omega) | (refine Nat.lt_of_le_of_lt Nat.and_le_right ?_; omega) | (refine Nat.lt_of_le_of_lt Nat.and_le_left ?_; omega) | (refine Nat.xor_lt_two_pow (n := 63) ?_ ?_ <;> omega)))
        | (apply POp.quo; rfl; rfl; omega; omega; omega)
        | (apply POp.rem; rfl; rfl; omega; omega)
        | (apply POp.min_int; rfl; rfl)
        | (apply POp.max_int; rfl; rfl)
        | (apply POp.conv_i64; rfl; omega; omega)
        | (apply POp.index_slice; rfl; rfl; omega; omega; (first | (simp only [Nat.zero_add, Nat.add_zero, Nat.mul_one, Int.toNat_natCast, Int.reduceToNat, Nat.reduceMul, Nat.reduceAdd]; done) | (simp only [Nat.zero_add, Nat.add_zero, Nat.mul_one, Int.toNat_natCast, Int.reduceToNat, Nat.reduceMul, Nat.reduceAdd]; rfl) | rfl))
        | (apply POp.index_array; rfl; rfl; omega; omega; (first | (simp only [Nat.zero_add, Nat.add_zero, Nat.mul_one, Int.toNat_natCast, Int.reduceToNat, Nat.reduceMul, Nat.reduceAdd]; done) | (simp only [Nat.zero_add, Nat.add_zero, Nat.mul_one, Int.toNat_natCast, Int.reduceToNat, Nat.reduceMul, Nat.reduceAdd]; rfl) | rfl))
        | (apply POp.makeFunc; rfl; rfl)
        | (apply POp.index_string; rfl; rfl; (first | with_reducible exact cst _ | with_reducible exact lit _ | exact rfl); omega)
        | (apply POp.sub_lh; rfl; rfl; rfl; omega; omega; omega)
        | (apply POp.sub_h; rfl; rfl; omega; omega)
        | (apply POp.sub_l; rfl; rfl; omega; omega)
        | (apply POp.seql; rfl; rfl)
        | (apply POp.sneq; rfl; rfl)
        | (apply POp.conv_u8; rfl; omega; omega)
        | (apply POp.mul; rfl; rfl; omega; omega)
        | (refine POp.pick_t rfl ?_ rfl; (first | with_reducible rfl | assumption | (simp only [Bool.not_true, Bool.not_false]; done) | (simp only [decide_eq_true_eq, decide_eq_false_iff_not, Bool.not_true, Bool.not_false, not_true_eq_false, not_false_eq_true, reduceCtorEq]; first | done | assumption | omega)))
        | (refine POp.pick_f rfl ?_ rfl; (first | with_reducible rfl | assumption | (simp only [Bool.not_true, Bool.not_false]; done) | (simp only [decide_eq_true_eq, decide_eq_false_iff_not, Bool.not_true, Bool.not_false, not_true_eq_false, not_false_eq_true, reduceCtorEq]; first | done | assumption | omega)))
        | (apply POp.neg; rfl; omega; omega)
        | (apply POp.cat; rfl; rfl; omega)
        | (apply POp.beql; rfl; rfl)
        | (apply POp.bneq; rfl; rfl)
        | (apply POp.field; rfl; rfl)
        | (refine POp.fieldAddr rfl rfl)
        | (apply POp.cut_h; rfl; rfl; omega; omega)
        | (apply POp.xor32; rfl; rfl)
        | (apply POp.and32; rfl; rfl)
        | (apply POp.or32; rfl; rfl)
        | (apply POp.add32; rfl; rfl)
        | (apply POp.not32; rfl)
        | (apply POp.shl32; rfl; rfl; (first | with_reducible exact cst _ | with_reducible exact lit _ | exact rfl); omega)
        | (apply POp.shr32; rfl; rfl; (first | with_reducible exact cst _ | with_reducible exact lit _ | exact rfl); omega)
        | (apply POp.conv832; rfl)
        | (apply POp.conv328; rfl)
        | (apply POp.conv648; rfl)) (hi : isDefer op = false := by exact rfl) (hd : Nat.blt d N = true := by exact rfl) :
    W1 P r N ds next ⟨some d, op, ty, pos, af, g⟩ Q E w := W1.p hp hi hd h
theorem WA.pa [hq : QPanic Q] (i : Nat) (ho : ol[i]? = some ⟨some d, op, ty, pos, af, none⟩) (h : WA P N ds ol fuel (listed.setIfInBounds i true) Q ((d, v) :: E) w)
    (hp : POp P N ds E op ty v := by
      first
        | (apply POp.move; rfl)
        | (apply POp.assign; rfl)
        | (apply POp.extract; rfl; rfl)
        | (apply POp.len_slice; rfl)
        | (apply POp.len_string; rfl)
        | (apply POp.lss; rfl; rfl)
        | (apply POp.leq; rfl; rfl)
        | (apply POp.gtr; rfl; rfl)
        | (apply POp.geq; rfl; rfl)
        | (apply POp.eql; rfl; rfl)
        | (apply POp.neq; rfl; rfl)
        | (apply POp.not_d; rfl)
        | (apply POp.not_b; rfl)
        | (apply POp.add; rfl; rfl; omega; omega)
        | (apply POp.sub; rfl; rfl; omega; omega)
        | (apply POp.xor; rfl; rfl; (first | with_reducible exact cst _ | with_reducible exact lit _ | exact rfl); (first | with_reducible exact cst _ | with_reducible exact lit _ | exact rfl); (first | omega | assumption | decide | (refine Nat.lt_of_le_of_lt (Nat.shiftRight_le _ _) ?_; omega) | (refine Nat.lt_of_le_of_lt Nat.and_le_right ?_; omega) | (refine Nat.lt_of_le_of_lt Nat.and_le_left ?_; omega) | (refine Nat.xor_lt_two_pow (n := 63) ?_ ?_ <;> omega)); (first | omega | assumption | decide | (refine Nat.lt_of_le_of_lt (Nat.shiftRight_le _ _) ?_; omega) | (refine Nat.lt_of_le_of_lt Nat.and_le_right ?_; omega) | (refine Nat.lt_of_le_of_lt Nat.and_le_left ?_; omega) | (refine Nat.xor_lt_two_pow (n := 63) ?_ ?_ <;> omega)))
        | (apply POp.xor8; rfl; rfl; (first | with_reducible exact cst _ | with_reducible exact lit _ | exact rfl); (first | with_reducible exact cst _ | with_reducible exact lit _ | exact rfl); (first | omega | assumption); (first | omega | assumption))
        | (apply POp.and; rfl; rfl; (first | with_reducible exact cst _ | with_reducible exact lit _ | exact rfl); (first | with_reducible exact cst _ | with_reducible exact lit _ | exact rfl); (first | omega | assumption | decide | (refine Nat.lt_of_le_of_lt (Nat.shiftRight_le _ _) ?_; omega) | (refine Nat.lt_of_le_of_lt Nat.and_le_right ?_; omega) | (refine Nat.lt_of_le_of_lt Nat.and_le_left ?_; omega) | (refine Nat.xor_lt_two_pow (n := 63) ?_ ?_ <;> omega)); (first | omega | assumption | decide | (refine Nat.lt_of_le_of_lt (Nat.shiftRight_le _ _) ?_; omega) | (refine Nat.lt_of_le_of_lt Nat.and_le_right ?_; omega) | (refine Nat.lt_of_le_of_lt Nat.and_le_left ?_; omega) | (refine Nat.xor_lt_two_pow (n := 63) ?_ ?_ <;> omega)))
        | (apply POp.or; rfl; rfl; (first | with_reducible exact cst _ | with_reducible exact lit _ | exact rfl); (first | with_reducible exact cst _ | with_reducible exact lit _ | exact rfl); (first | omega | assumption | decide | (refine Nat.lt_of_le_of_lt (Nat.shiftRight_le _ _) ?_; omega) | (refine Nat.lt_of_le_of_lt Nat.and_le_right ?_; omega) | (refine Nat.lt_of_le_of_lt Nat.and_le_left ?_; omega) | (refine Nat.xor_lt_two_pow (n := 63) ?_ ?_ <;> omega)); (first | omega | assumption | decide | (refine Nat.lt_of_le_of_lt (Nat.shiftRight_le _ _) ?_; omega) | (refine Nat.lt_of_le_of_lt Nat.and_le_right ?_; omega) | (refine Nat.lt_of_le_of_lt Nat.and_le_left ?_; omega) | (refine Nat.xor_lt_two_pow (n := 63) ?_ ?_ <;> omega)))
        | (apply POp.shr; rfl; rfl; (first | with_reducible exact cst _ | with_reducible exact lit _ | exact rfl); (first | with_reducible exact cst _ | with_reducible exact lit _ | exact rfl); omega)
        | (apply POp.shl; rfl; rfl; (first | with_reducible exact cst _ | with_reducible exact lit _ | exact rfl); (first | with_reducible exact cst _ | with_reducible exact lit _ | exact rfl); omega; (first | omega | assumption | decide | (refine Nat.lt_of_le_of_lt (Nat.shiftRight_le _ _) ?_; omega) | (refine Nat.lt_of_le_of_lt Nat.and_le_right ?_; omega) | (refine Nat.lt_of_le_of_lt Nat.and_le_left ?_; omega) | (refine Nat.xor_lt_two_pow (n := 63) ?_ ?_ <;> omega)))
        | (apply POp.quo; rfl; rfl; omega; omega; omega)
        | (apply POp.rem; rfl; rfl; omega; omega)
        | (apply POp.min_int; rfl; rfl)
        | (apply POp.max_int; rfl; rfl)
        | (apply POp.conv_i64; rfl; omega; omega)
        | (apply POp.index_slice; rfl; rfl; omega; omega; (first | (simp only [Nat.zero_add, Nat.add_zero, Nat.mul_one, Int.toNat_natCast, Int.reduceToNat, Nat.reduceMul, Nat.reduceAdd]; done) | (simp only [Nat.zero_add, Nat.add_zero, Nat.mul_one, Int.toNat_natCast, Int.reduceToNat, Nat.reduceMul, Nat.reduceAdd]; rfl) | rfl))
        | (apply POp.index_array; rfl; rfl; omega; omega; (first | (simp only [Nat.zero_add, Nat.add_zero, Nat.mul_one, Int.toNat_natCast, Int.reduceToNat, Nat.reduceMul, Nat.reduceAdd]; done) | (simp only [Nat.zero_add, Nat.add_zero, Nat.mul_one, Int.toNat_natCast, Int.reduceToNat, Nat.reduceMul, Nat.reduceAdd]; rfl) | rfl))
        | (apply POp.makeFunc; rfl; rfl)
        | (apply POp.index_string; rfl; rfl; (first | with_reducible exact cst _ | with_reducible exact lit _ | exact rfl); omega)
        | (apply POp.sub_lh; rfl; rfl; rfl; omega; omega; omega)
        | (apply POp.sub_h; rfl; rfl; omega; omega)
        | (apply POp.sub_l; rfl; rfl; omega; omega)
        | (apply POp.seql; rfl; rfl)
        | (apply POp.sneq; rfl; rfl)
        | (apply POp.conv_u8; rfl; omega; omega)
        | (apply POp.mul; rfl; rfl; omega; omega)
        | (refine POp.pick_t rfl ?_ rfl; (first | with_reducible rfl | assumption | (simp only [Bool.not_true, Bool.not_false]; done) | (simp only [decide_eq_true_eq, decide_eq_false_iff_not, Bool.not_true, Bool.not_false, not_true_eq_false, not_false_eq_true, reduceCtorEq]; first | done | assumption | omega)))
        | (refine POp.pick_f rfl ?_ rfl; (first | with_reducible rfl | assumption | (simp only [Bool.not_true, Bool.not_false]; done) | (simp only [decide_eq_true_eq, decide_eq_false_iff_not, Bool.not_true, Bool.not_false, not_true_eq_false, not_false_eq_true, reduceCtorEq]; first | done | assumption | omega)))
        | (apply POp.neg; rfl; omega; omega)
        | (apply POp.cat; rfl; rfl; omega)
        | (apply POp.beql; rfl; rfl)
        | (apply POp.bneq; rfl; rfl)
        | (apply POp.field; rfl; rfl)
        | (refine POp.fieldAddr rfl rfl)
        | (apply POp.cut_h; rfl; rfl; omega; omega)
        | (apply POp.xor32; rfl; rfl)
        | (apply POp.and32; rfl; rfl)
        | (apply POp.or32; rfl; rfl)
        | (apply POp.add32; rfl; rfl)
        | (apply POp.not32; rfl)
        | (apply POp.shl32; rfl; rfl; (first | with_reducible exact cst _ | with_reducible exact lit _ | exact rfl); omega)
        | (apply POp.shr32; rfl; rfl; (first | with_reducible exact cst _ | with_reducible exact lit _ | exact rfl); omega)
        | (apply POp.conv832; rfl)
        | (apply POp.conv328; rfl)
        | (apply POp.conv648; rfl))
    (hs : (Region.noSelect ol.toArray && Region.free .any ol.toArray listed i && (Region.ready .any ol.toArray listed).contains i) = true := by kernel_rfl)
    (hi : callsB op = false := by exact rfl)
    (hd : Nat.blt d N = true := by exact rfl) : WA P N ds ol (fuel + 1) listed Q E w := WA.take i ho hs hi hp hd h
theorem WL.ga {d : Option Nat} {j : Nat} {want b : Bool} (hj : guardE ol E j = some b) (h : WL P r N ds ol (⟨d, op, ty, pos, af, none⟩ :: rest) Q E w)
    (hb : b = want := by
      first | with_reducible rfl | assumption | (simp only [Bool.not_true, Bool.not_false]; done) | (simp only [decide_eq_true_eq, decide_eq_false_iff_not, Bool.not_true, Bool.not_false, not_true_eq_false, not_false_eq_true, reduceCtorEq]; first | done | assumption | omega)) : WL P r N ds ol (⟨d, op, ty, pos, af, some (j, want)⟩ :: rest) Q E w := WL.gy hj hb h
theorem WL.na {d : Option Nat} {j : Nat} {want b : Bool} (hj : guardE ol E j = some b) (h : WL P r N ds ol rest Q (putE d undef E) w)
    (hb : b = !want := by
      first | with_reducible rfl | assumption | (simp only [Bool.not_true, Bool.not_false]; done) | (simp only [decide_eq_true_eq, decide_eq_false_iff_not, Bool.not_true, Bool.not_false, not_true_eq_false, not_false_eq_true, reduceCtorEq]; first | done | assumption | omega)) (hd : dOk d N = true := by exact rfl) :
    WL P r N ds ol (⟨d, op, ty, pos, af, some (j, want)⟩ :: rest) Q E w := WL.gn hj hb hd h
theorem WC.cond_yes {c : Operand} {x y : Code} {b : Bool} (hc : Env.ev E c = some (.bool b)) (h : WC P r N ds x Q E w)
    (hb : b = true := by
      first | with_reducible rfl | assumption | (simp only [Bool.not_true, Bool.not_false]; done) | (simp only [decide_eq_true_eq, decide_eq_false_iff_not, Bool.not_true, Bool.not_false, not_true_eq_false, not_false_eq_true, reduceCtorEq]; first | done | assumption | omega)) : WC P r N ds (.cond c x y) Q E w := WC.cond_b hc (fun _ => h) (fun e => by rw [hb] at e; cases e)
theorem WC.cond_no {c : Operand} {x y : Code} {b : Bool} (hc : Env.ev E c = some (.bool b)) (h : WC P r N ds y Q E w)
    (hb : b = false := by
      first | with_reducible rfl | assumption | (simp only [Bool.not_true, Bool.not_false]; done) | (simp only [decide_eq_true_eq, decide_eq_false_iff_not, Bool.not_true, Bool.not_false, not_true_eq_false, not_false_eq_true, reduceCtorEq]; first | done | assumption | omega)) : WC P r N ds (.cond c x y) Q E w := WC.cond_b hc (fun e => by rw [hb] at e; cases e) (fun _ => h)
/-- A cut behind a statement that is being walked. -/
theorem WC.cutT {α : Type} {x y : Code} (Ex : α → Env) (M : α → World → Prop)
    (h : WC P r N ds x (Again (fun a' w' => ∃ z, M z w' ∧ Rep N ds (Ex z) a') Q) E w) (h2 : ∀ z w, M z w → WC P r N ds y Q (Ex z) w) : WC P r N ds x (Then P r y Q) E w := by
  intro a ha
  refine wpIn_mono (h a ha) ?_
  intro e a' w' hq
  cases e with
  | normal => obtain ⟨z, h3, h4⟩ := hq; exact h2 z w' h3 a' h4
  | exit id => exact hq
  | goto l => exact hq
  | ret => exact hq
  | panic ch => exact hq
  | outgrown => exact hq
end
end Go.Sx

