/- A drawn region: an operation whose guard's own operation was not performed. -/
import Derived.Test.YtionfblneloaiaaGreatDoorHx
namespace Go.Sx
open Go
theorem WA.nu {P : Program} {N : Nat} {ds : List Deferred} {ol : List Oper} {fuel : Nat} {listed : Array Bool} {Q : Post} {E : Env} {w : World} {d : Option Nat} {op : Op} {ty : TypeId} {pos : String} {af : Array Edge}
    {j : Nat} {want : Bool} [hq : QPanic Q] (i : Nat) (ho : ol[i]? = some ⟨d, op, ty, pos, af, some (j, want)⟩) (hs : (Region.noSelect ol.toArray && Region.free .any ol.toArray listed i && (Region.ready .any ol.toArray listed).contains i) = true)
    (hi : callsB op = false) (hj : guardU ol E j = true) (hd : dOk d N = true) (h : WA P N ds ol fuel (listed.setIfInBounds i true) Q (putE d undef E) w) : WA P N ds ol (fuel + 1) listed Q E w := by
  intro a ha
  simp only [Bool.and_eq_true] at hs
  have ho' : ol.toArray[i]? = some ⟨d, op, ty, pos, af, some (j, want)⟩ := by simpa using ho
  have hy := guardU_spec hj ha
  have hne : ((none : Option Bool) == some want) = false := by cases want <;> rfl
  refine wpAnyIn_take (F := FW none) rfl ho' hs.1.1 hs.1.2 hs.2 (fun c a w => hq.is c a _ _ w) ⟨.inr ⟨by simp only [Region.wanted, hy, hne], rfl⟩, fun w => ?_⟩ (h _ (ha.putO hd undef))
  unfold Oper.about
  cases op with
  | call c =>
    obtain ⟨cal, args, ats⟩ := c
    cases cal with
    | builtin b => simp [resolve, Target.leads]
    | value f => cases hi
    | invoke f m => cases hi
  | _ => rfl
theorem HA.nu {P : Program} {N : Nat} {ds : List Deferred} {ol : List Oper} {fuel : Nat} {listed : Array Bool} {Q : Post} {E : Env} {w0 : World} {H : List Atom} {d : Option Nat} {op : Op} {ty : TypeId} {pos : String} {af : Array Edge}
    {j : Nat} {want : Bool} [hq : QPanic Q] (i : Nat) (ho : ol[i]? = some ⟨d, op, ty, pos, af, some (j, want)⟩) (hj : guardU ol E j = true)
    (h : HA P N ds ol fuel (listed.setIfInBounds i true) Q (putE d undef E) w0 H)
    (hs : (Region.noSelect ol.toArray && Region.free .any ol.toArray listed i && (Region.ready .any ol.toArray listed).contains i) = true := by kernel_rfl)
    (hi : callsB op = false := by exact rfl)
    (hd : dOk d N = true := by exact rfl) : HA P N ds ol (fuel + 1) listed Q E w0 H := fun w hM => WA.nu i ho hs hi hj hd (h w hM)
end Go.Sx
/-
  Regions whose order is open: loads of cells that stay as they are may be taken at once, too.
-/
namespace Go.Sx
open Go
/-- Every order; C holds wherever one stands. -/
def AnyC (C : World → Prop) (P : Program) (ops : Array Oper) (Q : Post) : Nat → Array Bool → Act → World → Prop
  | 0, listed, a, w => C w ∧ Region.ready .any ops listed = [] ∧ Q .normal a w
  | fuel + 1, listed, a, w => C w ∧ (Region.ready .any ops listed = [] → Q .normal a w) ∧ ∀ i ∈ Region.ready .any ops listed, wpOpIn (FW none) 0 P ops Q i (AnyC C P ops Q fuel (listed.setIfInBounds i true)) a w
section
variable {C : World → Prop} {P : Program} {ops : Array Oper} {Q : Post}
theorem AnyC.is : ∀ {fuel : Nat} {listed : Array Bool} {a : Act} {w : World}, AnyC C P ops Q fuel listed a w → C w
  | 0, _, _, _, h => h.1
  | _ + 1, _, _, _, h => h.1
theorem anyC_in : ∀ (fuel : Nat) (listed : Array Bool) (a : Act) (w : World), AnyC C P ops Q fuel listed a w → wpAnyIn (FW none) 0 P .any ops Q fuel listed a w := by
  intro fuel
  induction fuel with
  | zero => intro listed a w h; exact h.2
  | succ fuel ih => intro listed a w h; exact ⟨h.2.1, fun j hj => wpOpIn_mono (fun a' w' h3 => ih _ a' w' h3) (h.2.2 j hj)⟩
/-- An operation that may go first: Y says what makes it yield its value. -/
theorem anyC_first {i : Nat} {oi : Oper} {v : Value} (Y : Act → Prop) (now : ∀ {K : Act → World → Prop} {a : Act} {w : World}, Y a → C w → K (a.put oi.dst v) w → wpOpIn (FW none) 0 P ops Q i K a w)
    (step : ∀ {j : Nat} {oj : Oper} {K : Act → World → Prop} {a : Act} {w : World}, ops[j]? = some oj → oi.apart ops oj = true → Y a → wpOpIn (FW none) 0 P ops Q j K (a.put oi.dst v) w → wpOpIn (FW none) 0 P ops Q j (fun a' w' => Y a' ∧ K (a'.put oi.dst v) w') a w) :
    ∀ (fuel : Nat) (listed : Array Bool) (a : Act) (w : World), (∀ (j : Nat) (oj : Oper), ops[j]? = some oj → j ≠ i → listed.getD j true = false → (∀ e ∈ oj.after, Region.binds .any e = true → e.on ≠ i) → oi.apart ops oj = true) →
      i ∈ Region.ready .any ops listed → Y a → AnyC C P ops Q fuel (listed.setIfInBounds i true) (a.put oi.dst v) w → AnyC C P ops Q (fuel + 1) listed a w := by
  intro fuel
  induction fuel with
  | zero =>
    intro listed a w _ hr hy h
    refine ⟨h.is, fun e => (by rw [e] at hr; cases hr), fun j hj => ?_⟩
    by_cases hji : j = i
    · subst hji; exact now hy h.is h
    · have h1 := ready_mono hj hji
      rw [h.2.1] at h1; cases h1
  | succ fuel ih =>
    intro listed a w hf hr hy h
    refine ⟨h.is, fun e => (by rw [e] at hr; cases hr), fun j hj => ?_⟩
    by_cases hji : j = i
    · subst hji; exact now hy h.is h
    · obtain ⟨hun, oj, hoj, hall⟩ := mem_ready.1 hj
      have hno : ∀ e ∈ oj.after, Region.binds .any e = true → e.on ≠ i := by
        intro e he hb e1
        have h1 := hall e he hb
        have h0 := (mem_ready.1 hr).1
        rw [e1] at h1
        rw [Array.getD_eq_getD_getElem?] at h0 h1
        cases hl : listed[i]? with
        | none => rw [hl] at h1; cases h1
        | some b => rw [hl] at h0 h1; simp only [Option.getD_some] at h0 h1; rw [h0] at h1; cases h1
      refine wpOpIn_mono (fun a' w' h3 => ?_) (step hoj (hf j oj hoj hji hun hno) hy (h.2.2 j (ready_mono hj hji)))
      refine ih (listed.setIfInBounds j true) a' w' (fun k ok hok hki hku hkn => ?_) (ready_mono hr (Ne.symm hji)) h3.1 ?_
      · by_cases e : j = k
        · subst e; exact hf j ok hok hji hun hkn
        · rw [getD_set_ne true e] at hku; exact hf k ok hok hki hku hkn
      · rw [Array.setIfInBounds_comm _ _ hji]; exact h3.2
theorem anyC_take {i : Nat} {oi : Oper} {v : Value} {fuel : Nat} {listed : Array Bool} {a : Act} {w : World} (hi : ops[i]? = some oi) (hs : Region.noSelect ops = true) (hf : Region.free .any ops listed i = true) (hr : (Region.ready .any ops listed).contains i = true)
    (hQ : ∀ c a w, Q (.panic c) (a.put oi.dst v) w → Q (.panic c) a w) (hy : YieldsFenced P ops oi v a) (h : AnyC C P ops Q fuel (listed.setIfInBounds i true) (a.put oi.dst v) w) : AnyC C P ops Q (fuel + 1) listed a w :=
  anyC_first (YieldsFenced P ops oi v) (fun hy _ hk => hy.wpOpIn rfl hi hk) (fun hj hap hy h => wpOpIn_put rfl hj hap (fun cs b => Region.noSelect_spec hs i oi cs b hi) (fun cs b => Region.noSelect_spec hs _ _ cs b hj) hQ hy h) fuel listed a w
    (Region.free_spec hi hf) (by simpa using hr) hy h
theorem apart_parts {x y : Oper} (h : x.apart ops y = true) : (∀ z : Oper, z.dst = none → z.looksAt ops = x.looksAt ops → z.apart ops y = true) ∧ ∀ z : Oper, z.dst = x.dst → z.looksAt ops = [] → z.apart ops y = true := by
  rw [Oper.apart] at h
  rw [Bool.and_eq_true] at h
  refine ⟨fun z h1 h2 => ?_, fun z h1 h2 => ?_⟩
  · rw [Oper.apart, h1, h2, h.2]; rfl
  · rw [Oper.apart, h1, h2, h.1]
    cases y.dst <;> rfl
theorem op_swap {j : Nat} {oi oj : Oper} {t : TypeId} {x : Operand} {v : Value} (ho : oi.op = .load t x) (hg : oi.guard = none) (hx : ∀ d, oi.dst = some d → x ≠ .tmp d) (hj : ops[j]? = some oj) (hap : oi.apart ops oj = true) (hsj : ∀ cs b, oj.op ≠ .select cs b)
    (hQ : ∀ c a w, Q (.panic c) (a.put oi.dst v) w → Q (.panic c) a w) {K : Act → World → Prop} {a : Act} {w : World} (h : wpOpIn (FW none) 0 P ops Q j K (a.put oi.dst v) w) :
    wpOpIn (FW none) 0 P ops Q j (fun a' w' => a'.eval x = a.eval x ∧ K (a'.put oi.dst v) w') a w := by
  have hl : oi.looksAt ops = (⟨none, .move x, oi.type, oi.pos, #[], none⟩ : Oper).looksAt ops := by simp [Oper.looksAt, ho, hg, Op.operands]
  obtain ⟨h0, h1⟩ := apart_parts hap
  have hev : ∀ a' : Act, (a'.put oi.dst v).eval x = a'.eval x := fun a' => Act.eval_put hx
  have s1 := wpOpIn_put (F := FW none) (n := 0) (P := P) (ops := ops) (Q := Q) (oi := ⟨none, .move x, oi.type, oi.pos, #[], none⟩) (v := a.eval x) rfl hj (h0 _ rfl hl.symm) (fun _ _ e => by cases e) hsj (fun _ _ _ h => h) (a := a.put oi.dst v) (w := w) (K := K)
    ⟨.inl ⟨rfl, fun w => by show Result.ok (Next.value ((a.put oi.dst v).eval x)) w = _; rw [hev]⟩, fun _ => rfl⟩ h
  have s2 := wpOpIn_put (F := FW none) (n := 0) (P := P) (ops := ops) (Q := Q) (oi := ⟨oi.dst, .move (.const v), oi.type, oi.pos, #[], none⟩) (v := v) rfl hj (h1 _ rfl (by simp [Oper.looksAt, Op.operands])) (fun _ _ e => by cases e) hsj hQ (a := a) (w := w)
    ⟨.inl ⟨rfl, fun w => rfl⟩, fun _ => rfl⟩ s1
  refine wpOpIn_mono (fun a' w' h3 => ⟨?_, h3.2.2⟩) s2
  rcases h3.2.1.1 with ⟨-, h4⟩ | ⟨h4, -⟩
  · have h5 := h4 w'
    have h6 : Result.ok (Next.value ((a'.put oi.dst v).eval x)) w' = Result.ok (Next.value (a.eval x)) w' := h5
    rw [hev] at h6
    injection h6 with h7
    injection h7
  · cases h4
theorem anyC_load {i : Nat} {oi : Oper} {t : TypeId} {x : Operand} {v : Value} {fuel : Nat} {listed : Array Bool} {a : Act} {w : World} (ho : oi.op = .load t x) (hg : oi.guard = none) (hx : ∀ d, oi.dst = some d → x ≠ .tmp d) (hi : ops[i]? = some oi) (hs : Region.noSelect ops = true)
    (hf : Region.free .any ops listed i = true) (hr : (Region.ready .any ops listed).contains i = true) (hQ : ∀ c a w, Q (.panic c) (a.put oi.dst v) w → Q (.panic c) a w)
    (hrun : ∀ a' : Act, a'.eval x = a.eval x → ∀ w, C w → (execOp a'.eval oi).run P w = .ok (.value v) w) (h : AnyC C P ops Q fuel (listed.setIfInBounds i true) (a.put oi.dst v) w) : AnyC C P ops Q (fuel + 1) listed a w := by
  refine anyC_first (fun a' => a'.eval x = a.eval x) (fun {K a' w'} hy hC hk => ?_) (fun hj hap hy h => ?_) fuel listed a w (Region.free_spec hi hf) (by simpa using hr) rfl h
  · unfold wpOpIn
    rw [hi]
    dsimp only
    rw [if_pos (by simp [Region.wanted, hg])]
    refine ⟨fun _ _ => trivial, ?_⟩
    rw [semAt_of (by rw [ho]; rfl), hrun a' hy w' hC]
    exact hk
  · refine wpOpIn_mono (fun a'' w'' h3 => ⟨h3.1.trans hy, h3.2⟩) (op_swap ho hg hx hj hap (fun cs b => Region.noSelect_spec hs _ _ cs b hj) hQ h)
end
def CellsC (l : List (Addr × Value)) (w : World) : Prop := ∀ p ∈ l, w.cell? p.1 = some p.2
def HB (l : List (Addr × Value)) (P : Program) (N : Nat) (ds : List Deferred) (ol : List Oper) (fuel : Nat) (listed : Array Bool) (Q : Post) (E : Env) (w0 : World) (H : List Atom) : Prop :=
  ∀ w, Mm w0 H w → ∀ a, Rep N ds E a → AnyC (CellsC l) P ol.toArray Q fuel listed a w
def HP (l : List (Addr × Value)) (P : Program) (N : Nat) (ds : List Deferred) (ol : List Oper) (fuel : Nat) (listed : Array Bool) (i : Nat) (o : Oper) (Q : Post) (E : Env) (w0 : World) (H : List Atom) : Prop :=
  ∀ w, Mm w0 H w → ∀ a, Rep N ds E a → if Region.wanted o (yielded ol.toArray a.tmps) then o.wpIn (FW none) 0 P a w (AnyC (CellsC l) P ol.toArray Q fuel (listed.setIfInBounds i true)) Q
    else AnyC (CellsC l) P ol.toArray Q fuel (listed.setIfInBounds i true) (a.put o.dst undef) w
def AllB (l : List (Addr × Value)) (P : Program) (N : Nat) (ds : List Deferred) (ol : List Oper) (fuel : Nat) (listed : Array Bool) (Q : Post) (E : Env) (w0 : World) (H : List Atom) : List Nat → Prop
  | [] => True
  | i :: rs => (∃ o, ol[i]? = some o ∧ HP l P N ds ol fuel listed i o Q E w0 H) ∧ AllB l P N ds ol fuel listed Q E w0 H rs
/-- The cells stay as they are. -/
def Keep (l : List (Addr × Value)) (w0 : World) (H : List Atom) : Prop := ∀ w, Mm w0 H w → CellsC l w
section
variable {l : List (Addr × Value)} {w0 : World} {H : List Atom}
theorem Keep.nil : Keep [] w0 H := fun _ _ _ h => by cases h
theorem Keep.cons {ad : Addr} {v : Value} (h1 : ∀ w, Mm w0 H w → w.cell? ad = some v) (h : Keep l w0 H) : Keep ((ad, v) :: l) w0 H := fun w hM p hp => by
  rcases List.mem_cons.1 hp with rfl | hp
  · exact h1 w hM
  · exact h w hM p hp
theorem Keep.blk {b i : Nat} {v : Value} {cs : List Value} {e : TypeId} (hm : A.blk b cs e ∈ H) (hi : cs[i]? = some v) (h : Keep l w0 H) : Keep ((⟨b, i, none⟩, v) :: l) w0 H := h.cons fun _ hM => (hM.blk hm).cell hi
theorem Keep.grow {b i c n sz : Nat} {v : Value} {vs : List Value} {e : TypeId} (hm : A.grow e sz (some ⟨b, 0, none⟩) c n vs ∈ H) (hi : vs[i]? = some v) (h : Keep l w0 H) : Keep ((⟨b, i, none⟩, v) :: l) w0 H := h.cons fun _ hM => ownsRow_cell (hM.own hm) hi
theorem Keep.base {ad : Addr} {v : Value} (hc : w0.cell? ad = some v) (h : Keep l w0 H) : Keep ((ad, v) :: l) w0 H := h.cons fun _ hM => cell_ext hM.ext hc
variable {P : Program} {r : Option Nat} {N : Nat} {ds : List Deferred} {ol : List Oper} {Q : Post} {E : Env} {fuel : Nat} {listed : Array Bool} {ty : TypeId} {pos : String} {af : Array Edge}
theorem HC.anyC [hm : Mixed P] {id : Nat} {ol : List Oper} (l : List (Addr × Value)) (hf : ol.length = fuel) (h : HB l P N ds ol fuel (Array.replicate ol.length false) Q E w0 H) : HC P none N ds (.region id ol.toArray true) Q E w0 H :=
  HC.any hf fun w hM a ha => anyC_in _ _ _ _ (h w hM a ha)
theorem HB.pa [hq : QPanic Q] {d : Nat} {op : Op} {v : Value} (i : Nat) (ho : ol[i]? = some ⟨some d, op, ty, pos, af, none⟩) (h : HB l P N ds ol fuel (listed.setIfInBounds i true) Q ((d, v) :: E) w0 H)
    (hp : POp P N ds E op ty v := by
      first
        | (apply POp.move; rfl)
        | (apply POp.assign; rfl)
        | (apply POp.extract; rfl; rfl)
        | (apply POp.len_slice; rfl)
        | (apply POp.len_string; rfl)
        | (apply POp.lss; rfl; rfl)
        | (apply POp.leq; rfl; rfl)
        | (apply POp.gtr; rfl; rfl)
        | (apply POp.geq; rfl; rfl)
        | (apply POp.eql; rfl; rfl)
        | (apply POp.neq; rfl; rfl)
        | (apply POp.not_d; rfl)
        | (apply POp.not_b; rfl)
        | (apply POp.add; rfl; rfl; omega; omega)
        | (apply POp.sub; rfl; rfl; omega; omega)
        | (apply POp.xor; rfl; rfl; (first | with_reducible exact cst _ | with_reducible exact lit _ | exact rfl); (first | with_reducible exact cst _ | with_reducible exact lit _ | exact rfl); (first | omega | assumption | decide | (refine Nat.lt_of_le_of_lt (Nat.shiftRight_le _ _) ?_; omega) | (refine Nat.lt_of_le_of_lt Nat.and_le_right ?_; omega) | (refine Nat.lt_of_le_of_lt Nat.and_le_left ?_; omega) | (refine Nat.xor_lt_two_pow (n := 63) ?_ ?_ <;> omega)); (first | omega | assumption | decide | (refine Nat.lt_of_le_of_lt (Nat.shiftRight_le _ _) ?_; omega) | (refine Nat.lt_of_le_of_lt Nat.and_le_right ?_; omega) | (refine Nat.lt_of_le_of_lt Nat.and_le_left ?_; omega) | (refine Nat.xor_lt_two_pow (n := 63) ?_ ?_ <;> omega)))
        | (apply POp.xor8; rfl; rfl; (first | with_reducible exact cst _ | with_reducible exact lit _ | exact rfl); (first | with_reducible exact cst _ | with_reducible exact lit _ | exact rfl); (first | omega | assumption); (first | omega | assumption))
        | (apply POp.and; rfl; rfl; (first | with_reducible exact cst _ | with_reducible exact lit _ | exact rfl); (first | with_reducible exact cst _ | with_reducible exact lit _ | exact rfl); (first | omega | assumption | decide | (refine Nat.lt_of_le_of_lt (Nat.shiftRight_le _ _) ?_; omega) | (refine Nat.lt_of_le_of_lt Nat.and_le_right ?_; omega) | (refine Nat.lt_of_le_of_lt Nat.and_le_left ?_; omega) | (refine Nat.xor_lt_two_pow (n := 63) ?_ ?_ <;> omega)); (first | omega | assumption | decide | (refine Nat.lt_of_le_of_lt (Nat.shiftRight_le _ _) ?_; omega) | (refine Nat.lt_of_le_of_lt Nat.and_le_right ?_; omega) | (refine Nat.lt_of_le_of_lt Nat.and_le_left ?_; omega) | (refine Nat.xor_lt_two_pow (n := 63) ?_ ?_ <;> omega)))
        | (apply POp.or; rfl; rfl; (first | with_reducible exact cst _ | with_reducible exact lit _ | exact rfl); (first | with_reducible exact cst _ | with_reducible exact lit _ | exact rfl); (first | omega | assumption | decide | (refine Nat.lt_of_le_of_lt (Nat.shiftRight_le _ _) ?_; omega) | (refine Nat.lt_of_le_of_lt Nat.and_le_right ?_; omega) | (refine Nat.lt_of_le_of_lt Nat.and_le_left ?_; omega) | (refine Nat.xor_lt_two_pow (n := 63) ?_ ?_ <;> omega)); (first | omega | assumption | decide | (refine Nat.lt_of_le_of_lt (Nat.shiftRight_le _ _) ?_; omega) | (refine Nat.lt_of_le_of_lt Nat.and_le_right ?_; omega) | (refine Nat.lt_of_le_of_lt Nat.and_le_left ?_; omega) | (refine Nat.xor_lt_two_pow (n := 63) ?_ ?_ <;> omega)))
        | (apply POp.shr; rfl; rfl; (first | with_reducible exact cst _ | with_reducible exact lit _ | exact rfl); (first | with_reducible exact cst _ | with_reducible exact lit _ | exact rfl); omega)
        | (apply POp.shl; rfl; rfl; (first | with_reducible exact cst _ | with_reducible exact lit _ | exact rfl); (first | with_reducible exact cst _ | with_reducible exact lit _ | exact rfl); omega; (first | omega | assumption | decide | (refine Nat.lt_of_le_of_lt (Nat.shiftRight_le _ _) ?_; omega) | (refine Nat.lt_of_le_of_lt Nat.and_le_right ?_; omega) | (refine Nat.lt_of_le_of_lt Nat.and_le_left ?_; omega) | (refine Nat.xor_lt_two_pow (n := 63) ?_ ?_ <;> omega)))
        | (apply POp.quo; rfl; rfl; omega; omega; omega)
        | (apply POp.rem; rfl; rfl; omega; omega)
        | (apply POp.min_int; rfl; rfl)
        | (apply POp.max_int; rfl; rfl)
        | (apply POp.conv_i64; rfl; omega; omega)
        | (apply POp.index_slice; rfl; rfl; omega; omega; (first | (simp only [Nat.zero_add, Nat.add_zero, Nat.mul_one, Int.toNat_natCast, Int.reduceToNat, Nat.reduceMul, Nat.reduceAdd]; done) | (simp only [Nat.zero_add, Nat.add_zero, Nat.mul_one, Int.toNat_natCast, Int.reduceToNat, Nat.reduceMul, Nat.reduceAdd]; rfl) | rfl))
        | (apply POp.index_array; rfl; rfl; omega; omega; (first | (simp only [Nat.zero_add, Nat.add_zero, Nat.mul_one, Int.toNat_natCast, Int.reduceToNat, Nat.reduceMul, Nat.reduceAdd]; done) | (simp only [Nat.zero_add, Nat.add_zero, Nat.mul_one, Int.toNat_natCast, Int.reduceToNat, Nat.reduceMul, Nat.reduceAdd]; rfl) | rfl))
        | (apply POp.makeFunc; rfl; rfl)
        | (apply POp.index_string; rfl; rfl; (first | with_reducible exact cst _ | with_reducible exact lit _ | exact rfl); omega)
        | (apply POp.sub_lh; rfl; rfl; rfl; omega; omega; omega)
        | (apply POp.sub_h; rfl; rfl; omega; omega)
        | (apply POp.sub_l; rfl; rfl; omega; omega)
        | (apply POp.seql; rfl; rfl)
        | (apply POp.sneq; rfl; rfl)
        | (apply POp.conv_u8; rfl; omega; omega)
        | (apply POp.mul; rfl; rfl; omega; omega)
        | (refine POp.pick_t rfl ?_ rfl; (first | with_reducible rfl | assumption | (simp only [Bool.not_true, Bool.not_false]; done) | (simp only [decide_eq_true_eq, decide_eq_false_iff_not, Bool.not_true, Bool.not_false, not_true_eq_false, not_false_eq_true, reduceCtorEq]; first | done | assumption | omega)))
        | (refine POp.pick_f rfl ?_ rfl; (first | with_reducible rfl | assumption | (simp only [Bool.not_true, Bool.not_false]; done) | (simp only [decide_eq_true_eq, decide_eq_false_iff_not, Bool.not_true, Bool.not_false, not_true_eq_false, not_false_eq_true, reduceCtorEq]; first | done | assumption | omega)))
        | (apply POp.neg; rfl; omega; omega)
        | (apply POp.cat; rfl; rfl; omega)
        | (apply POp.beql; rfl; rfl)
        | (apply POp.bneq; rfl; rfl)
        | (apply POp.field; rfl; rfl)
        | (refine POp.fieldAddr rfl rfl)
        | (apply POp.cut_h; rfl; rfl; omega; omega)
        | (apply POp.xor32; rfl; rfl)
        | (apply POp.and32; rfl; rfl)
        | (apply POp.or32; rfl; rfl)
        | (apply POp.add32; rfl; rfl)
        | (apply POp.not32; rfl)
        | (apply POp.shl32; rfl; rfl; (first | with_reducible exact cst _ | with_reducible exact lit _ | exact rfl); omega)
        | (apply POp.shr32; rfl; rfl; (first | with_reducible exact cst _ | with_reducible exact lit _ | exact rfl); omega)
        | (apply POp.conv832; rfl)
        | (apply POp.conv328; rfl)
        | (apply POp.conv648; rfl))
    (hs : (Region.noSelect ol.toArray && Region.free .any ol.toArray listed i && (Region.ready .any ol.toArray listed).contains i) = true := by kernel_rfl)
    (hi : callsB op = false := by exact rfl)
    (hd : Nat.blt d N = true := by exact rfl) : HB l P N ds ol (fuel + 1) listed Q E w0 H := fun w hM a ha => by
  simp only [Bool.and_eq_true] at hs
  have ho' : ol.toArray[i]? = some ⟨some d, op, ty, pos, af, none⟩ := by simpa using ho
  refine anyC_take ho' hs.1.1 hs.1.2 hs.2 (fun c a w => hq.is c a _ _ w) ⟨.inl ⟨rfl, fun w => hp a ha _ _ _ _ _⟩, fun w => ?_⟩ (h w hM _ (ha.put hd v))
  unfold Oper.about
  cases op with
  | call c =>
    obtain ⟨cal, args, ats⟩ := c
    cases cal with
    | builtin b => simp [resolve, Target.leads]
    | value f => cases hi
    | invoke f m => cases hi
  | _ => rfl
theorem HB.ga [hq : QPanic Q] {d : Nat} {op : Op} {v : Value} {j : Nat} {want b : Bool} (i : Nat) (ho : ol[i]? = some ⟨some d, op, ty, pos, af, some (j, want)⟩) (hj : guardE ol E j = some b) (h : HB l P N ds ol fuel (listed.setIfInBounds i true) Q ((d, v) :: E) w0 H)
    (hb : b = want := by
      first | with_reducible rfl | assumption | (simp only [Bool.not_true, Bool.not_false]; done) | (simp only [decide_eq_true_eq, decide_eq_false_iff_not, Bool.not_true, Bool.not_false, not_true_eq_false, not_false_eq_true, reduceCtorEq]; first | done | assumption | omega))
    (hp : POp P N ds E op ty v := by
      first
        | (apply POp.move; rfl)
        | (apply POp.assign; rfl)
        | (apply POp.extract; rfl; rfl)
        | (apply POp.len_slice; rfl)
        | (apply POp.len_string; rfl)
        | (apply POp.lss; rfl; rfl)
        | (apply POp.leq; rfl; rfl)
        | (apply POp.gtr; rfl; rfl)
        | (apply POp.geq; rfl; rfl)
        | (apply POp.eql; rfl; rfl)
        | (apply POp.neq; rfl; rfl)
        | (apply POp.not_d; rfl)
        | (apply POp.not_b; rfl)
        | (apply POp.add; rfl; rfl; omega; omega)
        | (apply POp.sub; rfl; rfl; omega; omega)
        | (apply POp.xor; rfl; rfl; (first | with_reducible exact cst _ | with_reducible exact lit _ | exact rfl); (first | with_reducible exact cst _ | with_reducible exact lit _ | exact rfl); (first | omega | assumption | decide | (refine Nat.lt_of_le_of_lt (Nat.shiftRight_le _ _) ?_; omega) | (refine Nat.lt_of_le_of_lt Nat.and_le_right ?_; omega) | (refine Nat.lt_of_le_of_lt Nat.and_le_left ?_; omega) | (refine Nat.xor_lt_two_pow (n := 63) ?_ ?_ <;> omega)); (first | omega | assumption | decide | (refine Nat.lt_of_le_of_lt (Nat.shiftRight_le _ _) ?_; omega) | (refine Nat.lt_of_le_of_lt Nat.and_le_right ?_; omega) | (refine Nat.lt_of_le_of_lt Nat.and_le_left ?_; omega) | (refine Nat.xor_lt_two_pow (n := 63) ?_ ?_ <;> omega)))
        | (apply POp.xor8; rfl; rfl; (first | with_reducible exact cst _ | with_reducible exact lit _ | exact rfl); (first | with_reducible exact cst _ | with_reducible exact lit _ | exact rfl); (first | omega | assumption); (first | omega | assumption))
        | (apply POp.and; rfl; rfl; (first | with_reducible exact cst _ | with_reducible exact lit _ | exact rfl); (first | with_reducible exact cst _ | with_reducible exact lit _ | exact rfl); (first | omega | assumption | decide | (refine Nat.lt_of_le_of_lt (Nat.shiftRight_le _ _) ?_; omega) | (refine Nat.lt_of_le_of_lt Nat.and_le_right ?_; omega) | (refine Nat.lt_of_le_of_lt Nat.and_le_left ?_; omega) | (refine Nat.xor_lt_two_pow (n := 63) ?_ ?_ <;> omega)); (first | omega | assumption | decide | (refine Nat.lt_of_le_of_lt (Nat.shiftRight_le _ _) ?_; omega) | (refine Nat.lt_of_le_of_lt Nat.and_le_right ?_; omega) | (refine Nat.lt_of_le_of_lt Nat.and_le_left ?_; omega) | (refine Nat.xor_lt_two_pow (n := 63) ?_ ?_ <;> omega)))
        | (apply POp.or; rfl; rfl; (first | with_reducible exact cst _ | with_reducible exact lit _ | exact rfl); (first | with_reducible exact cst _ | with_reducible exact lit _ | exact rfl); (first | omega | assumption | decide | (refine Nat.lt_of_le_of_lt (Nat.shiftRight_le _ _) ?_; omega) | (refine Nat.lt_of_le_of_lt Nat.and_le_right ?_; omega) | (refine Nat.lt_of_le_of_lt Nat.and_le_left ?_; omega) | (refine Nat.xor_lt_two_pow (n := 63) ?_ ?_ <;> omega)); (first | omega | assumption | decide | (refine Nat.lt_of_le_of_lt (Nat.shiftRight_le _ _) ?_; omega) | (refine Nat.lt_of_le_of_lt Nat.and_le_right ?_; omega) | (refine Nat.lt_of_le_of_lt Nat.and_le_left ?_; omega) | (refine Nat.xor_lt_two_pow (n := 63) ?_ ?_ <;> omega)))
        | (apply POp.shr; rfl; rfl; (first | with_reducible exact cst _ | with_reducible exact lit _ | exact rfl); (first | with_reducible exact cst _ | with_reducible exact lit _ | exact rfl); omega)
        | (apply POp.shl; rfl; rfl; (first | with_reducible exact cst _ | with_reducible exact lit _ | exact rfl); (first | with_reducible exact cst _ | with_reducible exact lit _ | exact rfl); omega; (first | omega | assumption | decide | (refine Nat.lt_of_le_of_lt (Nat.shiftRight_le _ _) ?_; omega) | (refine Nat.lt_of_le_of_lt Nat.and_le_right ?_; omega) | (refine Nat.lt_of_le_of_lt Nat.and_le_left ?_; omega) | (refine Nat.xor_lt_two_pow (n := 63) ?_ ?_ <;> omega)))
        | (apply POp.quo; rfl; rfl; omega; omega; omega)
        | (apply POp.rem; rfl; rfl; omega; omega)
        | (apply POp.min_int; rfl; rfl)
        | (apply POp.max_int; rfl; rfl)
        | (apply POp.conv_i64; rfl; omega; omega)
        | (apply POp.index_slice; rfl; rfl; omega; omega; (first | (simp only [Nat.zero_add, Nat.add_zero, Nat.mul_one, Int.toNat_natCast, Int.reduceToNat, Nat.reduceMul, Nat.reduceAdd]; done) | (simp only [Nat.zero_add, Nat.add_zero, Nat.mul_one, Int.toNat_natCast, Int.reduceToNat, Nat.reduceMul, Nat.reduceAdd]; rfl) | rfl))
        | (apply POp.index_array; rfl; rfl; omega; omega; (first | (simp only [Nat.zero_add, Nat.add_zero, Nat.mul_one, Int.toNat_natCast, Int.reduceToNat, Nat.reduceMul, Nat.reduceAdd]; done) | (simp only [Nat.zero_add, Nat.add_zero, Nat.mul_one, Int.toNat_natCast, Int.reduceToNat, Nat.reduceMul, Nat.reduceAdd]; rfl) | rfl))
        | (apply POp.makeFunc; rfl; rfl)
        | (apply POp.index_string; rfl; rfl; (first | with_reducible exact cst _ | with_reducible exact lit _ | exact rfl); omega)
        | (apply POp.sub_lh; rfl; rfl; rfl; omega; omega; omega)
        | (apply POp.sub_h; rfl; rfl; omega; omega)
        | (apply POp.sub_l; rfl; rfl; omega; omega)
        | (apply POp.seql; rfl; rfl)
        | (apply POp.sneq; rfl; rfl)
        | (apply POp.conv_u8; rfl; omega; omega)
        | (apply POp.mul; rfl; rfl; omega; omega)
        | (refine POp.pick_t rfl ?_ rfl; (first | with_reducible rfl | assumption | (simp only [Bool.not_true, Bool.not_false]; done) | (simp only [decide_eq_true_eq, decide_eq_false_iff_not, Bool.not_true, Bool.not_false, not_true_eq_false, not_false_eq_true, reduceCtorEq]; first | done | assumption | omega)))
        | (refine POp.pick_f rfl ?_ rfl; (first | with_reducible rfl | assumption | (simp only [Bool.not_true, Bool.not_false]; done) | (simp only [decide_eq_true_eq, decide_eq_false_iff_not, Bool.not_true, Bool.not_false, not_true_eq_false, not_false_eq_true, reduceCtorEq]; first | done | assumption | omega)))
        | (apply POp.neg; rfl; omega; omega)
        | (apply POp.cat; rfl; rfl; omega)
        | (apply POp.beql; rfl; rfl)
        | (apply POp.bneq; rfl; rfl)
        | (apply POp.field; rfl; rfl)
        | (refine POp.fieldAddr rfl rfl)
        | (apply POp.cut_h; rfl; rfl; omega; omega)
        | (apply POp.xor32; rfl; rfl)
        | (apply POp.and32; rfl; rfl)
        | (apply POp.or32; rfl; rfl)
        | (apply POp.add32; rfl; rfl)
        | (apply POp.not32; rfl)
        | (apply POp.shl32; rfl; rfl; (first | with_reducible exact cst _ | with_reducible exact lit _ | exact rfl); omega)
        | (apply POp.shr32; rfl; rfl; (first | with_reducible exact cst _ | with_reducible exact lit _ | exact rfl); omega)
        | (apply POp.conv832; rfl)
        | (apply POp.conv328; rfl)
        | (apply POp.conv648; rfl))
    (hs : (Region.noSelect ol.toArray && Region.free .any ol.toArray listed i && (Region.ready .any ol.toArray listed).contains i) = true := by kernel_rfl)
    (hi : callsB op = false := by exact rfl)
    (hd : Nat.blt d N = true := by exact rfl) : HB l P N ds ol (fuel + 1) listed Q E w0 H := fun w hM a ha => by
  simp only [Bool.and_eq_true] at hs
  have ho' : ol.toArray[i]? = some ⟨some d, op, ty, pos, af, some (j, want)⟩ := by simpa using ho
  have hy := guardE_spec hj ha
  refine anyC_take ho' hs.1.1 hs.1.2 hs.2 (fun c a w => hq.is c a _ _ w) ⟨.inl ⟨by simp only [Region.wanted, hy, hb, beq_self_eq_true], fun w => hp a ha _ _ _ _ _⟩, fun w => ?_⟩ (h w hM _ (ha.put hd v))
  unfold Oper.about
  cases op with
  | call c =>
    obtain ⟨cal, args, ats⟩ := c
    cases cal with
    | builtin b => simp [resolve, Target.leads]
    | value f => cases hi
    | invoke f m => cases hi
  | _ => rfl
theorem HB.na [hq : QPanic Q] {d : Option Nat} {op : Op} {j : Nat} {want b : Bool} (i : Nat) (ho : ol[i]? = some ⟨d, op, ty, pos, af, some (j, want)⟩) (hj : guardE ol E j = some b) (h : HB l P N ds ol fuel (listed.setIfInBounds i true) Q (putE d undef E) w0 H)
    (hb : b = !want := by
      first | with_reducible rfl | assumption | (simp only [Bool.not_true, Bool.not_false]; done) | (simp only [decide_eq_true_eq, decide_eq_false_iff_not, Bool.not_true, Bool.not_false, not_true_eq_false, not_false_eq_true, reduceCtorEq]; first | done | assumption | omega))
    (hs : (Region.noSelect ol.toArray && Region.free .any ol.toArray listed i && (Region.ready .any ol.toArray listed).contains i) = true := by kernel_rfl)
    (hi : callsB op = false := by exact rfl)
    (hd : dOk d N = true := by exact rfl) : HB l P N ds ol (fuel + 1) listed Q E w0 H := fun w hM a ha => by
  simp only [Bool.and_eq_true] at hs
  have ho' : ol.toArray[i]? = some ⟨d, op, ty, pos, af, some (j, want)⟩ := by simpa using ho
  have hy := guardE_spec hj ha
  have hne : ((some (!want) : Option Bool) == some want) = false := by cases want <;> rfl
  refine anyC_take ho' hs.1.1 hs.1.2 hs.2 (fun c a w => hq.is c a _ _ w) ⟨.inr ⟨by simp only [Region.wanted, hy, hb, hne], rfl⟩, fun w => ?_⟩ (h w hM _ (ha.putO hd undef))
  unfold Oper.about
  cases op with
  | call c =>
    obtain ⟨cal, args, ats⟩ := c
    cases cal with
    | builtin b => simp [resolve, Target.leads]
    | value f => cases hi
    | invoke f m => cases hi
  | _ => rfl
theorem HB.nu [hq : QPanic Q] {d : Option Nat} {op : Op} {j : Nat} {want : Bool} (i : Nat) (ho : ol[i]? = some ⟨d, op, ty, pos, af, some (j, want)⟩) (hj : guardU ol E j = true) (h : HB l P N ds ol fuel (listed.setIfInBounds i true) Q (putE d undef E) w0 H)
    (hs : (Region.noSelect ol.toArray && Region.free .any ol.toArray listed i && (Region.ready .any ol.toArray listed).contains i) = true := by kernel_rfl)
    (hi : callsB op = false := by exact rfl)
    (hd : dOk d N = true := by exact rfl) : HB l P N ds ol (fuel + 1) listed Q E w0 H := fun w hM a ha => by
  simp only [Bool.and_eq_true] at hs
  have ho' : ol.toArray[i]? = some ⟨d, op, ty, pos, af, some (j, want)⟩ := by simpa using ho
  have hy := guardU_spec hj ha
  have hne : ((none : Option Bool) == some want) = false := by cases want <;> rfl
  refine anyC_take ho' hs.1.1 hs.1.2 hs.2 (fun c a w => hq.is c a _ _ w) ⟨.inr ⟨by simp only [Region.wanted, hy, hne], rfl⟩, fun w => ?_⟩ (h w hM _ (ha.putO hd undef))
  unfold Oper.about
  cases op with
  | call c =>
    obtain ⟨cal, args, ats⟩ := c
    cases cal with
    | builtin b => simp [resolve, Target.leads]
    | value f => cases hi
    | invoke f m => cases hi
  | _ => rfl
/-- A load of a cell that stays as it is. -/
theorem HB.ld [hq : QPanic Q] {d : Nat} {t : TypeId} {x : Operand} {ad : Addr} {v : Value} [hat : ATy P t false] (i : Nat) (ho : ol[i]? = some ⟨some d, .load t x, ty, pos, af, none⟩) (hx : Env.ev E x = some (.pointer (some ad))) (hc : (ad, v) ∈ l)
    (h : HB l P N ds ol fuel (listed.setIfInBounds i true) Q ((d, v) :: E) w0 H)
    (hne : (match x with | .tmp t => !(Nat.beq t d) | _ => true) = true := by exact rfl)
    (hs : (Region.noSelect ol.toArray && Region.free .any ol.toArray listed i && (Region.ready .any ol.toArray listed).contains i) = true := by kernel_rfl)
    (hd : Nat.blt d N = true := by exact rfl) : HB l P N ds ol (fuel + 1) listed Q E w0 H := fun w hM a ha => by
  simp only [Bool.and_eq_true] at hs
  have ho' : ol.toArray[i]? = some ⟨some d, .load t x, ty, pos, af, none⟩ := by simpa using ho
  refine anyC_load (t := t) (x := x) rfl rfl (fun d' hd' e => ?_) ho' hs.1.1 hs.1.2 hs.2 (fun c a w => hq.is c a _ _ w) (fun a' ha' w' hC => ?_) (h w hM _ (ha.put hd v))
  · cases hd'; subst e; simp at hne
  · have h1 : a'.eval x = .pointer (some ad) := ha'.trans (ha.ev hx)
    have h2 := hC _ hc
    simp only [execOp, h1, Instr.loadAt, Instr.sureAddr, loadVar, Sem.run_bind, Sem.run_pure]
    simp [run_isAgg, h2]
theorem HB.done (hk : Keep l w0 H) (hr : Region.ready .any ol.toArray listed = []) (h : HX N ds .normal Q E w0 H) : HB l P N ds ol fuel listed Q E w0 H := fun w hM a ha => by
  cases fuel with
  | zero => exact ⟨hk w hM, hr, h w hM a ha⟩
  | succ fuel => exact ⟨hk w hM, fun _ => h w hM a ha, fun i hi => by rw [hr] at hi; cases hi⟩
theorem HB.all (hk : Keep l w0 H) (rs : List Nat) (hr : Region.ready .any ol.toArray listed = rs) (hne : rs.isEmpty = false) (h : AllB l P N ds ol fuel listed Q E w0 H rs) : HB l P N ds ol (fuel + 1) listed Q E w0 H := fun w hM a ha => by
  refine ⟨hk w hM, fun e => (by rw [hr] at e; subst e; cases hne), ?_⟩
  rw [hr]
  clear hr hne
  induction rs with
  | nil => intro i hi; cases hi
  | cons i rs ih =>
    intro j hj
    rcases List.mem_cons.1 hj with rfl | hj
    · obtain ⟨o, ho, h1⟩ := h.1
      have ho' : ol.toArray[j]? = some o := by simpa using ho
      unfold wpOpIn
      rw [ho']
      have h2 := h1 w hM a ha
      dsimp only
      split
      · rename_i hw; rw [if_pos hw] at h2; exact h2
      · rename_i hw; rw [if_neg hw] at h2; exact ⟨fun _ _ => trivial, h2⟩
    · exact ih h.2 j hj
theorem HB.fold (h : HB l P N ds ol fuel listed Q E w0 H) : HN N ds (AnyC (CellsC l) P ol.toArray Q fuel listed) E w0 H := fun w hM a ha => h w hM a ha
theorem HP.one {op : Op} {d : Option Nat} {i : Nat} (h : H1 P none N ds (AnyC (CellsC l) P ol.toArray Q fuel (listed.setIfInBounds i true)) ⟨d, op, ty, pos, af, none⟩ Q E w0 H) : HP l P N ds ol fuel listed i ⟨d, op, ty, pos, af, none⟩ Q E w0 H := fun w hM a ha => by
  simp only [Region.wanted, if_true]
  exact h w hM a ha
theorem HP.one_a {op : Op} {d : Option Nat} {i j : Nat} {want b : Bool} (hj : guardE ol E j = some b) (h : H1 P none N ds (AnyC (CellsC l) P ol.toArray Q fuel (listed.setIfInBounds i true)) ⟨d, op, ty, pos, af, some (j, want)⟩ Q E w0 H)
    (hb : b = want := by
      first | with_reducible rfl | assumption | (simp only [Bool.not_true, Bool.not_false]; done) | (simp only [decide_eq_true_eq, decide_eq_false_iff_not, Bool.not_true, Bool.not_false, not_true_eq_false, not_false_eq_true, reduceCtorEq]; first | done | assumption | omega)) : HP l P N ds ol fuel listed i ⟨d, op, ty, pos, af, some (j, want)⟩ Q E w0 H := fun w hM a ha => by
  have hy := guardE_spec hj ha
  simp only [Region.wanted, hy, hb, beq_self_eq_true, if_true]
  exact h w hM a ha
end
end Go.Sx

