/-
  The layer with atoms: calls, statements whose order is open, literals, append.
-/
import Derived.Test.YtacamanakmeebaaDoorHx
namespace Go.Sx
open Go Go.RowKit
section
variable {P : Program} {r : Option Nat} {N : Nat} {ds : List Deferred} {ol rest : List Oper} {Q : Post} {E : Env} {w0 : World} {H : List Atom} {next : Act → World → Prop} {g : Option (Nat × Bool)} {fuel : Nat} {listed : Array Bool}
/- calls -/
theorem H1.callz {α : Type} {V : α → Value} {Hn : α → List Atom} {I : α → Prop} {d : Option Nat} {f : FuncId} {args : List Operand} {ats : Array TypeId} {ty : TypeId} {pos : String} {af : Array Edge} {vs : List Value}
    [hf : CallOk P f] (hd : dOk d N = true) (ha : Env.evs E args = some vs) (hc : ∀ w, Mm w0 H w → Fn P f vs.toArray w fun v w' => ∃ z, I z ∧ v = V z ∧ Mm w (Hn z) w')
    (h : ∀ z, I z → HN N ds next (putE d (V z) E) w0 (Hn z ++ H)) :
    H1 P r N ds next ⟨d, .call ⟨.value (.func f), args.toArray, ats⟩, ty, pos, af, g⟩ Q E w0 H := fun w hM => W1.call hd ha (hc w hM) (by
    rintro v w' ⟨z, hz, rfl, hn⟩; exact h z hz w' (hM.grow hn))
/-- One new atom. -/
theorem H1.callz1 {α : Type} {V : α → Value} {An : α → Atom} {I : α → Prop} {d : Option Nat} {f : FuncId} {args : List Operand} {ats : Array TypeId} {ty : TypeId} {pos : String} {af : Array Edge} {vs : List Value}
    [hf : CallOk P f] (hd : dOk d N = true) (ha : Env.evs E args = some vs) (hc : ∀ w, Mm w0 H w → Fn P f vs.toArray w fun v w' => ∃ z, I z ∧ v = V z ∧ Mm w [An z] w')
    (h : ∀ z, I z → HN N ds next (putE d (V z) E) w0 (An z :: H)) :
    H1 P r N ds next ⟨d, .call ⟨.value (.func f), args.toArray, ats⟩, ty, pos, af, g⟩ Q E w0 H := H1.callz hd ha hc h
theorem H1.call0 {u : Value} {d : Option Nat} {f : FuncId} {args : List Operand} {ats : Array TypeId} {ty : TypeId} {pos : String} {af : Array Edge} {vs : List Value}
    [hf : CallOk P f] (hd : dOk d N = true) (ha : Env.evs E args = some vs) (hc : ∀ w, Mm w0 H w → Fn P f vs.toArray w fun v w' => v = u ∧ w = w')
    (h : HN N ds next (putE d u E) w0 H) :
    H1 P r N ds next ⟨d, .call ⟨.value (.func f), args.toArray, ats⟩, ty, pos, af, g⟩ Q E w0 H := fun w hM => W1.call hd ha (hc w hM) (by
    rintro v w' ⟨rfl, rfl⟩; exact h _ hM)
theorem H1.callx {u : Value} {d : Option Nat} {f : FuncId} {args : List Operand} {ats : Array TypeId} {ty : TypeId} {pos : String} {af : Array Edge} {vs : List Value}
    [hf : CallOk P f] (hd : dOk d N = true) (ha : Env.evs E args = some vs) (hc : ∀ w, Mm w0 H w → Fn P f vs.toArray w fun v w' => v = u ∧ Ext w w')
    (h : HN N ds next (putE d u E) w0 H) :
    H1 P r N ds next ⟨d, .call ⟨.value (.func f), args.toArray, ats⟩, ty, pos, af, g⟩ Q E w0 H := fun w hM => W1.call hd ha (hc w hM) (by
    rintro v w' ⟨rfl, hx⟩; exact h _ (hM.more hx))
/-- What comes back is known by a proposition; no new atom. -/
theorem H1.callp {α : Type} {V : α → Value} {I : α → Prop} {d : Option Nat} {f : FuncId} {args : List Operand} {ats : Array TypeId} {ty : TypeId} {pos : String} {af : Array Edge} {vs : List Value}
    [hf : CallOk P f] (hd : dOk d N = true) (ha : Env.evs E args = some vs) (hc : ∀ w, Mm w0 H w → Fn P f vs.toArray w fun v w' => ∃ z, I z ∧ v = V z ∧ Ext w w')
    (h : ∀ z, I z → HN N ds next (putE d (V z) E) w0 H) :
    H1 P r N ds next ⟨d, .call ⟨.value (.func f), args.toArray, ats⟩, ty, pos, af, g⟩ Q E w0 H := fun w hM => W1.call hd ha (hc w hM) (by
    rintro v w' ⟨z, hz, rfl, hx⟩; exact h z hz _ (hM.more hx))
/-- The world behind the call becomes the base. -/
theorem H1.callr {R : World → Value → World → Prop} {d : Option Nat} {f : FuncId} {args : List Operand} {ats : Array TypeId} {ty : TypeId} {pos : String} {af : Array Edge} {vs : List Value}
    [hf : CallOk P f] (hd : dOk d N = true) (ha : Env.evs E args = some vs) (hc : ∀ w, Mm w0 H w → Fn P f vs.toArray w (R w))
    (h : ∀ w v w', Mm w0 H w → R w v w' → HN N ds next (putE d v E) w' []) :
    H1 P r N ds next ⟨d, .call ⟨.value (.func f), args.toArray, ats⟩, ty, pos, af, g⟩ Q E w0 H := fun w hM => W1.call hd ha (hc w hM) fun v w' hR => h w v w' hM hR w' (Mm.refl w')
theorem H1.callv0 {u : Value} {d : Option Nat} {x : Operand} {f : FuncId} {cap : List Value} {args : List Operand} {ats : Array TypeId} {ty : TypeId} {pos : String} {af : Array Edge} {vs : List Value}
    [hf : CallOk P f] (hd : dOk d N = true) (hx : Env.ev E x = some (.func (.func f) #[] cap.toArray)) (ha : Env.evs E args = some vs) (hc : ∀ w, Mm w0 H w → Fn P f (vs ++ cap).toArray w fun v w' => v = u ∧ Ext w w')
    (h : HN N ds next (putE d u E) w0 H) :
    H1 P r N ds next ⟨d, .call ⟨.value x, args.toArray, ats⟩, ty, pos, af, g⟩ Q E w0 H := fun w hM => W1.callv hd hx ha (hc w hM) (by
    rintro v w' ⟨rfl, hw⟩; exact h _ (hM.more hw))
theorem H1.callvz {α : Type} {V : α → Value} {Hn : α → List Atom} {I : α → Prop} {d : Option Nat} {x : Operand} {f : FuncId} {cap : List Value} {args : List Operand} {ats : Array TypeId} {ty : TypeId} {pos : String} {af : Array Edge} {vs : List Value}
    [hf : CallOk P f] (hd : dOk d N = true) (hx : Env.ev E x = some (.func (.func f) #[] cap.toArray)) (ha : Env.evs E args = some vs) (hc : ∀ w, Mm w0 H w → Fn P f (vs ++ cap).toArray w fun v w' => ∃ z, I z ∧ v = V z ∧ Mm w (Hn z) w')
    (h : ∀ z, I z → HN N ds next (putE d (V z) E) w0 (Hn z ++ H)) :
    H1 P r N ds next ⟨d, .call ⟨.value x, args.toArray, ats⟩, ty, pos, af, g⟩ Q E w0 H := fun w hM => W1.callv hd hx ha (hc w hM) (by
    rintro v w' ⟨z, hz, rfl, hn⟩; exact h z hz w' (hM.grow hn))

/- quiet statements -/
theorem HC.quiet [hm : Mixed P] {id : Nat} {l : List Oper} (hB : Region.lexB .any l.toArray = true) (h : HQ P r N ds l l Q E w0 H) : HC P r N ds (.region id l.toArray true) Q E w0 H := fun w hM => WC.quiet hB (h w hM)
theorem HQ.nil (h : HX N ds .normal Q E w0 H) : HQ P r N ds ol [] Q E w0 H := fun _ hM => QL.nil fun w' hw' => h w' (hM.more hw')
variable {op : Op} {ty : TypeId} {pos : String} {af : Array Edge} {v : Value}
theorem HQ.pa {d : Nat} (h : HQ P r N ds ol rest Q ((d, v) :: E) w0 H)
    (hp : POp P N ds E op ty v := by
      first
        | (apply POp.move; rfl)
        | (apply POp.assign; rfl)
        | (apply POp.extract; rfl; rfl)
        | (apply POp.len_slice; rfl)
        | (apply POp.len_string; rfl)
        | (apply POp.lss; rfl; rfl)
        | (apply POp.leq; rfl; rfl)
        | (apply POp.gtr; rfl; rfl)
        | (apply POp.geq; rfl; rfl)
        | (apply POp.eql; rfl; rfl)
        | (apply POp.neq; rfl; rfl)
        | (apply POp.not_d; rfl)
        | (apply POp.not_b; rfl)
        | (apply POp.add; rfl; rfl; omega; omega)
        | (apply POp.sub; rfl; rfl; omega; omega)
        | (apply POp.xor; rfl; rfl; (first | with_reducible exact cst _ | with_reducible exact lit _ | exact rfl); (first | with_reducible exact cst _ | with_reducible exact lit _ | exact rfl); (first | omega | assumption | decide | (refine Nat.lt_of_le_of_lt (Nat.shiftRight_le _ _) ?_; omega) | (refine Nat.lt_of_le_of_lt Nat.and_le_right ?_; omega) | (refine Nat.lt_of_le_of_lt Nat.and_le_left ?_; omega) | (refine Nat.xor_lt_two_pow (n := 63) ?_ ?_ <;> omega)); (first | omega | assumption | decide | (refine Nat.lt_of_le_of_lt (Nat.shiftRight_le _ _) ?_; omega) | (refine Nat.lt_of_le_of_lt Nat.and_le_right ?_; omega) | (refine Nat.lt_of_le_of_lt Nat.and_le_left ?_; omega) | (refine Nat.xor_lt_two_pow (n := 63) ?_ ?_ <;> omega)))
        | (apply POp.xor8; rfl; rfl; (first | with_reducible exact cst _ | with_reducible exact lit _ | exact rfl); (first | with_reducible exact cst _ | with_reducible exact lit _ | exact rfl); (first | omega | assumption); (first | omega | assumption))
        | (apply POp.and; rfl; rfl; (first | with_reducible exact cst _ | with_reducible exact lit _ | exact rfl); (first | with_reducible exact cst _ | with_reducible exact lit _ | exact rfl); (first | omega | assumption | decide | (refine Nat.lt_of_le_of_lt (Nat.shiftRight_le _ _) ?_; omega) | (refine Nat.lt_of_le_of_lt Nat.and_le_right ?_; omega) | (refine Nat.lt_of_le_of_lt Nat.and_le_left ?_; omega) | (refine Nat.xor_lt_two_pow (n := 63) ?_ ?_ <;> omega)); (first | omega | assumption | decide | (refine Nat.lt_of_le_of_lt (Nat.shiftRight_le _ _) ?_; omega) | (refine Nat.lt_of_le_of_lt Nat.and_le_right ?_; omega) | (refine Nat.lt_of_le_of_lt Nat.and_le_left ?_; omega) | (refine Nat.xor_lt_two_pow (n := 63) ?_ ?_ <;> omega)))
        | (apply POp.or; rfl; rfl; (first | with_reducible exact cst _ | with_reducible exact lit _ | exact rfl); (first | with_reducible exact cst _ | with_reducible exact lit _ | exact rfl); (first | omega | assumption | decide | (refine Nat.lt_of_le_of_lt (Nat.shiftRight_le _ _) ?_; omega) | (refine Nat.lt_of_le_of_lt Nat.and_le_right ?_; omega) | (refine Nat.lt_of_le_of_lt Nat.and_le_left ?_; omega) | (refine Nat.xor_lt_two_pow (n := 63) ?_ ?_ <;> omega)); (first | omega | assumption | decide | (refine Nat.lt_of_le_of_lt (Nat.shiftRight_le _ _) ?_; omega) | (refine Nat.lt_of_le_of_lt Nat.and_le_right ?_; omega) | (refine Nat.lt_of_le_of_lt Nat.and_le_left ?_; omega) | (refine Nat.xor_lt_two_pow (n := 63) ?_ ?_ <;> omega)))
        | (apply POp.shr; rfl; rfl; (first | with_reducible exact cst _ | with_reducible exact lit _ | exact rfl); (first | with_reducible exact cst _ | with_reducible exact lit _ | exact rfl); omega)
        | (apply POp.shl; rfl; rfl; (first | with_reducible exact cst _ | with_reducible exact lit _ | exact rfl); (first | with_reducible exact cst _ | with_reducible exact lit _ | exact rfl); omega; (first | omega | assumption | decide | (refine Nat.lt_of_le_of_lt (Nat.shiftRight_le _ _) ?_; omega) | (refine Nat.lt_of_le_of_lt Nat.and_le_right ?_; omega) | (refine Nat.lt_of_le_of_lt Nat.and_le_left ?_; omega) | (refine Nat.xor_lt_two_pow (n := 63) ?_ ?_ <;> omega)))
        | (apply POp.quo; rfl; rfl; omega; omega; omega)
        | (apply POp.rem; rfl; rfl; omega; omega)
        | (apply POp.min_int; rfl; rfl)
        | (apply POp.conv_i64; rfl; omega; omega)
        | (apply POp.index_slice; rfl; rfl; omega; omega; (first | (simp only [Nat.zero_add, Nat.add_zero, Nat.mul_one, Int.toNat_natCast, Int.reduceToNat, Nat.reduceMul, Nat.reduceAdd]; done) | (simp only [Nat.zero_add, Nat.add_zero, Nat.mul_one, Int.toNat_natCast, Int.reduceToNat, Nat.reduceMul, Nat.reduceAdd]; rfl) | rfl))
        | (apply POp.index_array; rfl; rfl; omega; omega; (first | (simp only [Nat.zero_add, Nat.add_zero, Nat.mul_one, Int.toNat_natCast, Int.reduceToNat, Nat.reduceMul, Nat.reduceAdd]; done) | (simp only [Nat.zero_add, Nat.add_zero, Nat.mul_one, Int.toNat_natCast, Int.reduceToNat, Nat.reduceMul, Nat.reduceAdd]; rfl) | rfl))
        | (apply POp.makeFunc; rfl; rfl)
        | (apply POp.index_string; rfl; rfl; (first | with_reducible exact cst _ | with_reducible exact lit _ | exact rfl); omega)
        | (apply POp.sub_lh; rfl; rfl; rfl; omega; omega; omega)
        | (apply POp.sub_h; rfl; rfl; omega; omega)
        | (apply POp.sub_l; rfl; rfl; omega; omega)
        | (apply POp.seql; rfl; rfl)
        | (apply POp.sneq; rfl; rfl)
        | (apply POp.conv_u8; rfl; omega; omega)
        | (apply POp.mul; rfl; rfl; omega; omega)
        | (refine POp.pick_t rfl ?_ rfl; (first | with_reducible rfl | assumption | (simp only [Bool.not_true, Bool.not_false]; done) | (simp only [decide_eq_true_eq, decide_eq_false_iff_not, Bool.not_true, Bool.not_false, not_true_eq_false, not_false_eq_true, reduceCtorEq]; first | done | omega)))
        | (refine POp.pick_f rfl ?_ rfl; (first | with_reducible rfl | assumption | (simp only [Bool.not_true, Bool.not_false]; done) | (simp only [decide_eq_true_eq, decide_eq_false_iff_not, Bool.not_true, Bool.not_false, not_true_eq_false, not_false_eq_true, reduceCtorEq]; first | done | omega)))
        | (apply POp.neg; rfl; omega; omega)
        | (apply POp.cat; rfl; rfl; omega)
        | (apply POp.beql; rfl; rfl)
        | (apply POp.bneq; rfl; rfl)
        | (apply POp.field; rfl; rfl)
        | (refine POp.fieldAddr rfl rfl)
        | (apply POp.cut_h; rfl; rfl; omega; omega)) (hd : Nat.blt d N = true := by exact rfl) :
    HQ P r N ds ol (⟨some d, op, ty, pos, af, none⟩ :: rest) Q E w0 H := fun w hM => QL.p hp hd (h w hM)
theorem HQ.ga {d : Option Nat} {j : Nat} {want b : Bool} (hj : guardE ol E j = some b) (h : HQ P r N ds ol (⟨d, op, ty, pos, af, none⟩ :: rest) Q E w0 H)
    (hb : b = want := by
      first | with_reducible rfl | assumption | (simp only [Bool.not_true, Bool.not_false]; done) | (simp only [decide_eq_true_eq, decide_eq_false_iff_not, Bool.not_true, Bool.not_false, not_true_eq_false, not_false_eq_true, reduceCtorEq]; first | done | omega)) : HQ P r N ds ol (⟨d, op, ty, pos, af, some (j, want)⟩ :: rest) Q E w0 H := fun w hM => QL.gy hj hb (h w hM)
theorem HQ.na {d : Option Nat} {j : Nat} {want b : Bool} (hj : guardE ol E j = some b) (h : HQ P r N ds ol rest Q (putE d undef E) w0 H)
    (hb : b = !want := by
      first | with_reducible rfl | assumption | (simp only [Bool.not_true, Bool.not_false]; done) | (simp only [decide_eq_true_eq, decide_eq_false_iff_not, Bool.not_true, Bool.not_false, not_true_eq_false, not_false_eq_true, reduceCtorEq]; first | done | omega)) (hd : dOk d N = true := by exact rfl) :
    HQ P r N ds ol (⟨d, op, ty, pos, af, some (j, want)⟩ :: rest) Q E w0 H := fun w hM => QL.gn hj hb hd (h w hM)
theorem HQ.nu {d : Option Nat} {j : Nat} {want : Bool} (hj : guardU ol E j = true) (h : HQ P r N ds ol rest Q (putE d undef E) w0 H) (hd : dOk d N = true := by exact rfl) :
    HQ P r N ds ol (⟨d, op, ty, pos, af, some (j, want)⟩ :: rest) Q E w0 H := fun w hM => QL.nu hj (h w hM) hd
theorem HQ.ld {d : Nat} {t : TypeId} {x : Operand} {a : Addr} [ht : ATy P t false] (hx : Env.ev E x = some (.pointer (some a)))
    (hc : ∀ w, Mm w0 H w → w.cell? a = some v) (hd : Nat.blt d N = true) (h : HQ P r N ds ol rest Q ((d, v) :: E) w0 H) : HQ P r N ds ol (⟨some d, .load t x, ty, pos, af, none⟩ :: rest) Q E w0 H := fun w hM => QL.load hx (hc w hM) hd (h w hM)
theorem HQ.call {d : Option Nat} {f : FuncId} {args : List Operand} {ats : Array TypeId} {vs : List Value}
    [hf : CallOk P f] (ha : Env.evs E args = some vs) (hd : dOk d N = true) (hc : ∀ w, Mm w0 H w → Fn P f vs.toArray w fun u w' => u = v ∧ Ext w w')
    (h : HQ P r N ds ol rest Q (putE d v E) w0 H) : HQ P r N ds ol (⟨d, .call ⟨.value (.func f), args.toArray, ats⟩, ty, pos, af, none⟩ :: rest) Q E w0 H := fun w hM =>
  QL.call ha hd (fun w' hw' => hc w' (hM.more hw')) (h w hM)

/- every order -/
theorem HC.any [hm : Mixed P] {id : Nat} {l : List Oper} {fuel : Nat} (hf : l.length = fuel) (h : HA P N ds l fuel (Array.replicate l.length false) Q E w0 H) :
    HC P none N ds (.region id l.toArray true) Q E w0 H := fun _ hM => WC.any hf fun w' hx _ => h w' (hM.more hx)
theorem HA.pa [hq : QPanic Q] {d : Nat} (i : Nat) (ho : ol[i]? = some ⟨some d, op, ty, pos, af, none⟩) (h : HA P N ds ol fuel (listed.setIfInBounds i true) Q ((d, v) :: E) w0 H)
    (hp : POp P N ds E op ty v := by
      first
        | (apply POp.move; rfl)
        | (apply POp.assign; rfl)
        | (apply POp.extract; rfl; rfl)
        | (apply POp.len_slice; rfl)
        | (apply POp.len_string; rfl)
        | (apply POp.lss; rfl; rfl)
        | (apply POp.leq; rfl; rfl)
        | (apply POp.gtr; rfl; rfl)
        | (apply POp.geq; rfl; rfl)
        | (apply POp.eql; rfl; rfl)
        | (apply POp.neq; rfl; rfl)
        | (apply POp.not_d; rfl)
        | (apply POp.not_b; rfl)
        | (apply POp.add; rfl; rfl; omega; omega)
        | (apply POp.sub; rfl; rfl; omega; omega)
        | (apply POp.xor; rfl; rfl; (first | with_reducible exact cst _ | with_reducible exact lit _ | exact rfl); (first | with_reducible exact cst _ | with_reducible exact lit _ | exact rfl); (first | omega | assumption | decide | (refine Nat.lt_of_le_of_lt (Nat.shiftRight_le _ _) ?_; omega) | (refine Nat.lt_of_le_of_lt Nat.and_le_right ?_; omega) | (refine Nat.lt_of_le_of_lt Nat.and_le_left ?_; omega) | (refine Nat.xor_lt_two_pow (n := 63) ?_ ?_ <;> omega)); (first | omega | assumption | decide | (refine Nat.lt_of_le_of_lt (Nat.shiftRight_le _ _) ?_; omega) | (refine Nat.lt_of_le_of_lt Nat.and_le_right ?_; omega) | (refine Nat.lt_of_le_of_lt Nat.and_le_left ?_; omega) | (refine Nat.xor_lt_two_pow (n := 63) ?_ ?_ <;> omega)))
        | (apply POp.xor8; rfl; rfl; (first | with_reducible exact cst _ | with_reducible exact lit _ | exact rfl); (first | with_reducible exact cst _ | with_reducible exact lit _ | exact rfl); (first | omega | assumption); (first | omega | assumption))
        | (apply POp.and; rfl; rfl; (first | with_reducible exact cst _ | with_reducible exact lit _ | exact rfl); (first | with_reducible exact cst _ | with_reducible exact lit _ | exact rfl); (first | omega | assumption | decide | (refine Nat.lt_of_le_of_lt (Nat.shiftRight_le _ _) ?_; omega) | (refine Nat.lt_of_le_of_lt Nat.and_le_right ?_; omega) | (refine Nat.lt_of_le_of_lt Nat.and_le_left ?_; omega) | (refine Nat.xor_lt_two_pow (n := 63) ?_ ?_ <;> omega)); (first | omega | assumption | decide | (refine Nat.lt_of_le_of_lt (Nat.shiftRight_le _ _) ?_; omega) | (refine Nat.lt_of_le_of_lt Nat.and_le_right ?_; omega) | (refine Nat.lt_of_le_of_lt Nat.and_le_left ?_; omega) | (refine Nat.xor_lt_two_pow (n := 63) ?_ ?_ <;> omega)))
        | (apply POp.or; rfl; rfl; (first | with_reducible exact cst _ | with_reducible exact lit _ | exact rfl); (first | with_reducible exact cst _ | with_reducible exact lit _ | exact rfl); (first | omega | assumption | decide | (refine Nat.lt_of_le_of_lt (Nat.shiftRight_le _ _) ?_; omega) | (refine Nat.lt_of_le_of_lt Nat.and_le_right ?_; omega) | (refine Nat.lt_of_le_of_lt Nat.and_le_left ?_; omega) | (refine Nat.xor_lt_two_pow (n := 63) ?_ ?_ <;> omega)); (first | omega | assumption | decide | (refine Nat.lt_of_le_of_lt (Nat.shiftRight_le _ _) ?_; omega) | (refine Nat.lt_of_le_of_lt Nat.and_le_right ?_; omega) | (refine Nat.lt_of_le_of_lt Nat.and_le_left ?_; omega) | (refine Nat.xor_lt_two_pow (n := 63) ?_ ?_ <;> omega)))
        | (apply POp.shr; rfl; rfl; (first | with_reducible exact cst _ | with_reducible exact lit _ | exact rfl); (first | with_reducible exact cst _ | with_reducible exact lit _ | exact rfl); omega)
        | (apply POp.shl; rfl; rfl; (first | with_reducible exact cst _ | with_reducible exact lit _ | exact rfl); (first | with_reducible exact cst _ | with_reducible exact lit _ | exact rfl); omega; (first | omega | assumption | decide | (refine Nat.lt_of_le_of_lt (Nat.shiftRight_le _ _) ?_; omega) | (refine Nat.lt_of_le_of_lt Nat.and_le_right ?_; omega) | (refine Nat.lt_of_le_of_lt Nat.and_le_left ?_; omega) | (refine Nat.xor_lt_two_pow (n := 63) ?_ ?_ <;> omega)))
        | (apply POp.quo; rfl; rfl; omega; omega; omega)
        | (apply POp.rem; rfl; rfl; omega; omega)
        | (apply POp.min_int; rfl; rfl)
        | (apply POp.conv_i64; rfl; omega; omega)
        | (apply POp.index_slice; rfl; rfl; omega; omega; (first | (simp only [Nat.zero_add, Nat.add_zero, Nat.mul_one, Int.toNat_natCast, Int.reduceToNat, Nat.reduceMul, Nat.reduceAdd]; done) | (simp only [Nat.zero_add, Nat.add_zero, Nat.mul_one, Int.toNat_natCast, Int.reduceToNat, Nat.reduceMul, Nat.reduceAdd]; rfl) | rfl))
        | (apply POp.index_array; rfl; rfl; omega; omega; (first | (simp only [Nat.zero_add, Nat.add_zero, Nat.mul_one, Int.toNat_natCast, Int.reduceToNat, Nat.reduceMul, Nat.reduceAdd]; done) | (simp only [Nat.zero_add, Nat.add_zero, Nat.mul_one, Int.toNat_natCast, Int.reduceToNat, Nat.reduceMul, Nat.reduceAdd]; rfl) | rfl))
        | (apply POp.makeFunc; rfl; rfl)
        | (apply POp.index_string; rfl; rfl; (first | with_reducible exact cst _ | with_reducible exact lit _ | exact rfl); omega)
        | (apply POp.sub_lh; rfl; rfl; rfl; omega; omega; omega)
        | (apply POp.sub_h; rfl; rfl; omega; omega)
        | (apply POp.sub_l; rfl; rfl; omega; omega)
        | (apply POp.seql; rfl; rfl)
        | (apply POp.sneq; rfl; rfl)
        | (apply POp.conv_u8; rfl; omega; omega)
        | (apply POp.mul; rfl; rfl; omega; omega)
        | (refine POp.pick_t rfl ?_ rfl; (first | with_reducible rfl | assumption | (simp only [Bool.not_true, Bool.not_false]; done) | (simp only [decide_eq_true_eq, decide_eq_false_iff_not, Bool.not_true, Bool.not_false, not_true_eq_false, not_false_eq_true, reduceCtorEq]; first | done | omega)))
        | (refine POp.pick_f rfl ?_ rfl; (first | with_reducible rfl | assumption | (simp only [Bool.not_true, Bool.not_false]; done) | (simp only [decide_eq_true_eq, decide_eq_false_iff_not, Bool.not_true, Bool.not_false, not_true_eq_false, not_false_eq_true, reduceCtorEq]; first | done | omega)))
        | (apply POp.neg; rfl; omega; omega)
        | (apply POp.cat; rfl; rfl; omega)
        | (apply POp.beql; rfl; rfl)
        | (apply POp.bneq; rfl; rfl)
        | (apply POp.field; rfl; rfl)
        | (refine POp.fieldAddr rfl rfl)
        | (apply POp.cut_h; rfl; rfl; omega; omega))
    (hs : (Region.noSelect ol.toArray && Region.free .any ol.toArray listed i && (Region.ready .any ol.toArray listed).contains i) = true := by kernel_rfl)
    (hi : callsB op = false := by exact rfl)
    (hd : Nat.blt d N = true := by exact rfl) : HA P N ds ol (fuel + 1) listed Q E w0 H := fun w hM => WA.take i ho hs hi hp hd (h w hM)
theorem HA.done (hr : Region.ready .any ol.toArray listed = []) (h : HX N ds .normal Q E w0 H) : HA P N ds ol fuel listed Q E w0 H := fun w hM => WA.done hr (h w hM)
def HO (P : Program) (N : Nat) (ds : List Deferred) (ol : List Oper) (fuel : Nat) (listed : Array Bool) (i : Nat) (o : Oper) (Q : Post) (E : Env) (w0 : World) (H : List Atom) : Prop := ∀ w, Mm w0 H w → WO P N ds ol fuel listed i o Q E w
def AllH (P : Program) (N : Nat) (ds : List Deferred) (ol : List Oper) (fuel : Nat) (listed : Array Bool) (Q : Post) (E : Env) (w0 : World) (H : List Atom) : List Nat → Prop
  | [] => True
  | i :: l => (∃ o, ol[i]? = some o ∧ HO P N ds ol fuel listed i o Q E w0 H) ∧ AllH P N ds ol fuel listed Q E w0 H l
theorem AllH.at {w : World} (hM : Mm w0 H w) : ∀ l : List Nat, AllH P N ds ol fuel listed Q E w0 H l → AllO P N ds ol fuel listed Q E w l
  | [], _ => trivial
  | _ :: l, ⟨⟨o, h1, h2⟩, h3⟩ => ⟨⟨o, h1, h2 w hM⟩, AllH.at hM l h3⟩
theorem HA.all (rs : List Nat) (hr : Region.ready .any ol.toArray listed = rs) (hne : rs.isEmpty = false) (h : AllH P N ds ol fuel listed Q E w0 H rs) : HA P N ds ol (fuel + 1) listed Q E w0 H := fun _ hM =>
  WA.all rs hr hne (AllH.at hM rs h)
theorem HO.one {d : Option Nat} {i : Nat} (h : H1 P none N ds (wpAnyIn (FW none) 0 P .any ol.toArray Q fuel (listed.setIfInBounds i true)) ⟨d, op, ty, pos, af, none⟩ Q E w0 H) :
    HO P N ds ol fuel listed i ⟨d, op, ty, pos, af, none⟩ Q E w0 H := fun w hM => WO.one (h w hM)
theorem HO.one_g {d : Option Nat} {i j : Nat} {want b : Bool} (hj : guardE ol E j = some b) (hb : b = want)
    (h : H1 P none N ds (wpAnyIn (FW none) 0 P .any ol.toArray Q fuel (listed.setIfInBounds i true)) ⟨d, op, ty, pos, af, some (j, want)⟩ Q E w0 H) :
    HO P N ds ol fuel listed i ⟨d, op, ty, pos, af, some (j, want)⟩ Q E w0 H := fun w hM => WO.one_g hj hb (h w hM)
theorem HA.drop {d : Option Nat} {j : Nat} {want b : Bool} [hq : QPanic Q] (i : Nat) (ho : ol[i]? = some ⟨d, op, ty, pos, af, some (j, want)⟩) (hs : (Region.noSelect ol.toArray && Region.free .any ol.toArray listed i && (Region.ready .any ol.toArray listed).contains i) = true)
    (hi : callsB op = false) (hj : guardE ol E j = some b) (hb : b = !want) (hd : dOk d N = true) (h : HA P N ds ol fuel (listed.setIfInBounds i true) Q (putE d undef E) w0 H) : HA P N ds ol (fuel + 1) listed Q E w0 H := fun w hM =>
  WA.drop i ho hs hi hj hb hd (h w hM)

/- literals -/
def Env.evp (E : Env) : List (Nat × Operand) → Option (List (Nat × Value))
  | [] => some []
  | (i, x) :: l => match Env.ev E x, Env.evp E l with
    | some v, some vs => some ((i, v) :: vs)
    | _, _ => none
theorem Rep.evp {a : Act} (h : Rep N ds E a) {l : List (Nat × Operand)} {vs : List (Nat × Value)} (hx : Env.evp E l = some vs) : l.map (fun p => (p.1, a.eval p.2)) = vs := by
  induction l generalizing vs with
  | nil => simpa [Env.evp] using hx
  | cons x l ih =>
    obtain ⟨i, x⟩ := x
    simp only [Env.evp] at hx
    split at hx
    · rename_i v us hv hus
      cases hx
      simp [h.ev hv, ih hus]
    · cases hx
/-- The cells of a literal: each part over the zero's. -/
def litPut (off : Nat) : List Value → List Value → List Value
  | [], cs => cs
  | v :: l, cs => litPut (off + 1) l (cs.set off v)
def litC (place : Nat → Option (Nat × Nat)) (cs : List Value) : List (Nat × Value) → Option (List Value)
  | [] => some cs
  | (i, v) :: l => match place i with
    | none => none
    | some (off, size) => cond (Nat.beq v.cells.size size && Nat.ble (off + size) cs.length) (litC place (litPut off v.cells.toList cs) l) none
theorem litPut_fold (off : Nat) : ∀ (l : List Value) (k : Nat) (cs : List Value), (l.zipIdx k).foldl (fun (cs : Array Value) (p : Value × Nat) => cs.setIfInBounds (off + p.2) p.1) cs.toArray = (litPut (off + k) l cs).toArray
  | [], _, _ => rfl
  | v :: l, k, cs => by
    simp only [List.zipIdx_cons, List.foldl_cons, litPut]
    rw [List.setIfInBounds_toArray, litPut_fold off l (k + 1)]
    rfl
theorem litPut_len (l : List Value) : ∀ (off : Nat) (cs : List Value), (litPut off l cs).length = cs.length := by
  induction l with
  | nil => intro off cs; rfl
  | cons v l ih => intro off cs; rw [litPut, ih, List.length_set]
theorem litC_fill (place : Nat → Option (Nat × Nat)) : ∀ (l : List (Nat × Value)) (cs out : List Value), litC place cs l = some out → Instr.fill place cs.toArray l = some out.toArray
  | [], cs, out, h => by simp only [litC, Option.some.injEq] at h; subst h; rfl
  | (i, v) :: l, cs, out, h => by
    simp only [litC] at h
    unfold Instr.fill
    cases hp : place i with
    | none => rw [hp] at h; cases h
    | some p =>
      obtain ⟨off, size⟩ := p
      rw [hp] at h
      simp only at h ⊢
      cases hb : (Nat.beq v.cells.size size && Nat.ble (off + size) cs.length) with
      | false => rw [hb] at h; cases h
      | true =>
        rw [hb] at h
        simp only [cond_true] at h
        rw [Bool.and_eq_true] at hb
        have hb1 : v.cells.size = size := Nat.eq_of_beq_eq_true hb.1
        have hb2 : off + size ≤ cs.length := Nat.le_of_ble_eq_true hb.2
        have e1 : (decide (v.cells.size ≠ size) || decide (off + v.cells.size > cs.toArray.size)) = false := by
          simp [hb1]; omega
        rw [e1]
        simp only [Bool.false_eq_true, if_false]
        have := litPut_fold off v.cells.toList 0 cs
        have e2 : v.cells.zipIdx.foldl (fun (cs : Array Value) (x : Value × Nat) => cs.setIfInBounds (off + x.2) x.1) cs.toArray = (litPut off v.cells.toList cs).toArray := by
          rw [← Array.foldl_toList, Array.toList_zipIdx]; exact this
        exact Eq.trans (congrArg (fun c => Instr.fill place c l) e2) (litC_fill place l _ out h)
def zeroRow (n : Nat) (z : List Value) : List Value := (List.range n).map fun i => z.getD (i % z.length) default
theorem H1.lit {d : Nat} {t e : TypeId} {z : Value} {sz bb len : Nat} {parts : List (Nat × Operand)} {pv : List (Nat × Value)} {zs cs : List Value} [h : UTy P t (.slice e)] [hi : ITy P e z sz bb]
    (hx : Env.evp E parts = some pv) (hz : z.cells = zs.toArray) (hc : litC (fun i => some (i * sz, sz)) (zeroRow (len * sz) zs) pv = some cs) (hn : Nat.ble (len * sz) 16777216 = true) (h0 : Nat.beq (len * sz) 0 = false) (hd : Nat.blt d N = true)
    (hh : ∀ b, HN N ds next ((d, .slice (some ⟨b, 0, none⟩) len len) :: E) w0 (A.blk b cs e :: H)) :
    H1 P r N ds next ⟨some d, .buildSlice t len parts.toArray, ty, pos, af, g⟩ Q E w0 H := fun w hM =>
  W1.run (v := .slice (some ⟨w.heap.size, 0, none⟩) len len) (w' := w.alloc (.cells cs.toArray e)) (fun a ha => by
    have hp : Array.map (fun (p : Nat × Operand) => (p.1, a.eval p.2)) parts.toArray = pv.toArray := by simp [ha.evp hx]
    have h1 : ¬ (len * sz > 2 ^ 24) := by have := Nat.le_of_ble_eq_true hn; omega
    have h2 : ¬ (len * sz = 0) := fun e => by rw [e] at h0; cases h0
    have hzr : (Array.range (len * sz)).map (fun i => zs.toArray[i % zs.toArray.size]!) = (zeroRow (len * sz) zs).toArray := by
      apply Array.ext
      · simp [zeroRow]
      · intro i h1 h2
        simp [zeroRow, List.getD_eq_getElem?_getD]
    have hfill := litC_fill _ _ _ _ hc
    simp only [execOp, Instr.buildSlice, Sem.run_bind, run_underlying h.is, run_sizeOf (h := hi), Result.andThen, h1, h2, if_false, run_zeroValue (h := hi), hp, hz, Sem.run_pure, hzr, hfill, newRow, run_newObj]
    rfl) rfl hd (hh _ _ (hM.fresh cs e))
end
end Go.Sx

