/- Chapter 27: maps whose keys are places: pairs of numbers in a struct. -/
import Derived.Test.YtionfblneloaiaaGreatDoorHn
import Derived.Test.YtionfblneloaiaaGreatDoorTy2
import Derived.Test.YtionfblneloaiaaGreatDoorJB
namespace Go.Sx
open Go Go.Proofs Go.RowKit
theorem hwYB {G G2 : Prop} (x : G2) (hwq : Hold G2 → G := by
    intro hQq
    repeat' (first | refine HL.pa ?_ (POp.pnil1 rfl rfl) | refine HL.pa ?_ (POp.pnil0 rfl rfl) | refine HL.pa ?_ (POp.nilCheck rfl) | apply HL.fold | apply HA.fold | apply HL.nil | apply HX.n_then | apply HC.seq | apply HC.region | refine HL.pa ?_ | refine HL.ga rfl ?_ | refine HL.na rfl ?_ | refine HL.nu rfl rfl ?_ | apply HC.block | apply HC.skip | apply HC.exit | apply HC.ret | apply HX.e_block | refine HX.e_other rfl ?_ | apply HX.e_then | apply HX.e_again | apply HX.n_block | apply HX.r_then | apply HX.r_block | apply HX.r_again | refine HC.cond_yes rfl ?_ | refine HC.cond_no rfl ?_ | refine HL.one (H1.ldb rfl memA rfl rfl ?_) | refine HC.cond rfl (fun hc => ?_) (fun hc => ?_) | refine HC.cond_b rfl (fun hc => ?_) (fun hc => ?_))
    exact hQq.get) : G := hwq ⟨x⟩
/-- A place: an object and the number of a fragment. -/
abbrev PK := Int × Int
def pkV (p : PK) : Value := .agg #[zv p.1, zv p.2]
theorem pkV_inj {p q : PK} (h : pkV p = pkV q) : p = q := by
  unfold pkV at h
  injection h with h
  have := congrArg Array.toList h
  simp at this
  exact Prod.ext this.1 this.2
theorem run_partP {w : World} (cs : Array Value) (i : Nat) (v : Value) (hv : cs[i]? = some v) : (part 3 cs i).run Tryz.prog w = .ok v w := by
  simp [part, Sem.run_bind, run_isAgg, Result.andThen, hv]
theorem run_eqP (d : Nat) (a b : PK) (w : World) : (Op.equalIn (d + 2) 76 (pkV a) (pkV b)).run Tryz.prog w = .ok (decide (a = b)) w := by
  obtain ⟨a1, a2⟩ := a
  obtain ⟨b1, b2⟩ := b
  have hq : ∀ x y : Int, (Op.equalIn (d + 1) 3 (.int .i64 x) (.int .i64 y)).run Tryz.prog w = .ok (x == y) w := fun x y => by
    simp [Op.equalIn, Sem.run_bind, run_underlying Tryz.underlying3, Result.andThen]
  have h0 := run_partP (w := w) #[zv a1, zv a2] 0 (zv a1) rfl
  have h1 := run_partP (w := w) #[zv a1, zv a2] 1 (zv a2) rfl
  have h2 := run_partP (w := w) #[zv b1, zv b2] 0 (zv b1) rfl
  have h3 := run_partP (w := w) #[zv b1, zv b2] 1 (zv b2) rfl
  have h4 : (Op.equalIn (d + 1) 3 (zv a1) (zv b1)).run Tryz.prog w = .ok (a1 == b1) w := hq a1 b1
  have h5 : (Op.equalIn (d + 1) 3 (zv a2) (zv b2)).run Tryz.prog w = .ok (a2 == b2) w := hq a2 b2
  have hd : decide ((a1, a2) = (b1, b2)) = ((a1 == b1) && (a2 == b2)) := by
    rw [Bool.eq_iff_iff, decide_eq_true_eq, Prod.mk.injEq, Bool.and_eq_true, beq_iff_eq, beq_iff_eq]
  have hst : Tryz.prog.stoodInHeld 76 = false := by kernel_rfl
  rw [hd]
  generalize (a1 == b1) = u at *
  generalize (a2 == b2) = v at *
  rw [show d + 2 = (d + 1) + 1 from rfl]
  unfold Op.equalIn pkV
  simp only [Sem.run_bind, run_underlying Tryz.underlying76, Result.andThen]
  cases u <;> cases v <;> simp [Sem.run_bind, Result.andThen, h0, h1, h2, h3, h4, h5, hst]
theorem run_checkKeyP {w : World} (em : Bool) (n : Nat) (a : PK) : (Instr.checkKey em (n + 2) 76 (pkV a)).run Tryz.prog w = .ok () w := by
  have hc : ∀ x : Int, (Instr.checkKey em (n + 1) 3 (.int .i64 x)).run Tryz.prog w = .ok () w := fun x => run_checkKey_int Tryz.underlying3 em n x
  have h0 := run_partP (w := w) #[zv a.1, zv a.2] 0 (zv a.1) rfl
  have h1 := run_partP (w := w) #[zv a.1, zv a.2] 1 (zv a.2) rfl
  have h2 : (Instr.checkKey em (n + 1) 3 (zv a.1)).run Tryz.prog w = .ok () w := hc a.1
  have h3 : (Instr.checkKey em (n + 1) 3 (zv a.2)).run Tryz.prog w = .ok () w := hc a.2
  rw [show n + 2 = (n + 1) + 1 from rfl]
  unfold Instr.checkKey pkV
  simp only [Sem.run_bind, run_underlying Tryz.underlying76, Result.andThen]
  simp [Sem.run_bind, Result.andThen, h0, h1, h2, h3]
theorem run_keyStaysP {w : World} (a : PK) : (Instr.keyThatStays (pkV a) (pkV a)).run Tryz.prog w = .ok (pkV a) w := by
  have : Instr.sameBits 10000 (pkV a) (pkV a) = true := by unfold pkV Instr.sameBits; simp [Instr.sameBits]
  unfold Instr.keyThatStays
  rw [this]; rfl
def msetP : List (PK × Value) → PK → Value → List (PK × Value)
  | [], x, v => [(x, v)]
  | (y, u) :: l, x, v => if x = y then (x, v) :: l else (y, u) :: msetP l x v
def mgetP : List (PK × Value) → PK → Option Value
  | [], _ => none
  | (y, u) :: l, x => if x = y then some u else mgetP l x
def midxP : List (PK × Value) → PK → Option (Nat × Value)
  | [], _ => none
  | (y, u) :: l, x => if x = y then some (0, u) else (midxP l x).map fun p => (p.1 + 1, p.2)
theorem run_askingP {w : World} (x : PK) : ∀ (es : List MapEntry) (l : List (PK × Value)) (i : Nat), es.map (fun e => (e.key, e.val)) = l.map (fun p => (pkV p.1, p.2)) →
    (Instr.findAsking 76 (pkV x) es i).run Tryz.prog w = .ok ((midxP l x).map fun p => (p.1 + i, p.2)) w
  | [], [], i, _ => rfl
  | [], _ :: _, _, h => by simp at h
  | _ :: _, [], _, h => by simp at h
  | e :: es, (y, u) :: l, i, h => by
    simp only [List.map_cons, List.cons.injEq, Prod.mk.injEq] at h
    obtain ⟨⟨h1, h2⟩, h3⟩ := h
    have heq : (Op.equal 76 (pkV x) e.key).run Tryz.prog w = .ok (decide (x = y)) w := by rw [h1]; exact run_eqP 9998 x y w
    unfold Instr.findAsking
    simp only [Sem.run_bind, heq, Result.andThen, midxP]
    by_cases hxy : x = y
    · subst hxy
      simp [h2]
    · rw [decide_eq_false hxy, if_neg hxy]
      simp only [Bool.false_eq_true, if_false]
      rw [run_askingP x es l (i + 1) h3]
      cases midxP l x with
      | none => rfl
      | some p => simp; omega
theorem run_findKeyP {w : World} (x : PK) (es : List MapEntry) (l : List (PK × Value)) (hes : es.map (fun e => (e.key, e.val)) = l.map (fun p => (pkV p.1, p.2))) :
    (Instr.findKey 76 (pkV x) es).run Tryz.prog w = .ok (midxP l x) w := by
  have hf : (Instr.findKey 76 (pkV x) es).run Tryz.prog w = (Instr.findAsking 76 (pkV x) es).run Tryz.prog w := by
    unfold Instr.findKey
    simp only [Sem.run_bind, run_underlying Tryz.underlying76, Result.andThen]
    match es, l, hes with
    | [], _, _ => rfl
    | e :: es, [], h => simp at h
    | e :: es, (y, u) :: l, h =>
      simp only [List.map_cons, List.cons.injEq, Prod.mk.injEq] at h
      unfold Instr.findNow
      rw [h.1.1]; rfl
  rw [hf, run_askingP x es l 0 hes]
  cases midxP l x <;> simp
theorem midxP_none {l : List (PK × Value)} {x : PK} (v : Value) (h : midxP l x = none) : msetP l x v = l ++ [(x, v)] := by
  induction l with
  | nil => rfl
  | cons p l ih =>
    obtain ⟨y, u⟩ := p
    simp only [midxP] at h
    by_cases hxy : x = y
    · rw [if_pos hxy] at h; cases h
    · rw [if_neg hxy] at h
      simp only [msetP, if_neg hxy, List.cons_append]
      rw [ih (by simpa using h)]
theorem midxP_some {l : List (PK × Value)} {x : PK} (v : Value) {i : Nat} {u : Value} (h : midxP l x = some (i, u)) : msetP l x v = l.set i (x, v) ∧ i < l.length ∧ l[i]? = some (x, u) := by
  induction l generalizing i u with
  | nil => cases h
  | cons p l ih =>
    obtain ⟨y, u'⟩ := p
    simp only [midxP] at h
    by_cases hxy : x = y
    · rw [if_pos hxy] at h
      cases h
      simp [msetP, hxy]
    · rw [if_neg hxy] at h
      rw [Option.map_eq_some_iff] at h
      obtain ⟨⟨j, u2⟩, h1, h2⟩ := h
      cases h2
      obtain ⟨h3, h4, h5⟩ := ih h1
      simp only [msetP, if_neg hxy, h3]
      exact ⟨by simp, by simpa using h4, by simpa using h5⟩
theorem midxP_get (l : List (PK × Value)) (x : PK) : (midxP l x).map (·.2) = mgetP l x := by
  induction l with
  | nil => rfl
  | cons p l ih =>
    obtain ⟨y, u⟩ := p
    simp only [midxP, mgetP]
    split
    · rfl
    · rw [← ih]; cases midxP l x <;> rfl
/-- A map that may be ranged over: what it holds, in the order in which it came; no stamp twice. -/
structure MPl (l : List (PK × Value)) (es : Array MapEntry) (clk : Nat) : Prop where
  ents : es.toList.map (fun e => (e.key, e.val)) = l.map fun p => (pkV p.1, p.2)
  born : ∀ e ∈ es.toList, e.born < clk
  nd : (es.toList.map (·.born)).Nodup
theorem MPl.nil : MPl [] #[] 0 := ⟨rfl, by simp, by simp⟩
theorem MPl.ent {l : List (PK × Value)} {es : Array MapEntry} {clk : Nat} (h : MPl l es clk) {e : MapEntry} (he : e ∈ es.toList) : ∃ p ∈ l, e.key = pkV p.1 ∧ e.val = p.2 := by
  have h1 : (e.key, e.val) ∈ es.toList.map (fun e => (e.key, e.val)) := List.mem_map.2 ⟨e, he, rfl⟩
  rw [h.ents] at h1
  obtain ⟨p, hp, e1⟩ := List.mem_map.1 h1
  simp only [Prod.mk.injEq] at e1
  exact ⟨p, hp, e1.1.symm, e1.2.symm⟩
theorem MPl.of {l : List (PK × Value)} {es : Array MapEntry} {clk : Nat} (h : MPl l es clk) {p : PK × Value} (hp : p ∈ l) : ∃ e ∈ es.toList, e.key = pkV p.1 ∧ e.val = p.2 := by
  have h1 : (pkV p.1, p.2) ∈ l.map fun p => (pkV p.1, p.2) := List.mem_map.2 ⟨p, hp, rfl⟩
  rw [← h.ents] at h1
  obtain ⟨e, he, e1⟩ := List.mem_map.1 h1
  simp only [Prod.mk.injEq] at e1
  exact ⟨e, he, e1.1, e1.2⟩
def pmP (l : List (PK × Value)) (o : Obj) : Prop := ∃ es clk, o = .map es clk ∧ MPl l es clk
def A.pm (b : Nat) (l : List (PK × Value)) : Atom := A.obj b (pmP l)
section
variable {w : World} {t e : TypeId} {b : Nat} {l : List (PK × Value)} {o : Obj} {z : Value} {sz bb : Nat}
theorem run_lookup_pm (ht : Tryz.prog.underlying t = some (.map 76 e)) [hi : ITy Tryz.prog e z sz bb] (hb : w.heap[b]? = some o) (ho : pmP l o) (x : PK) :
    (Instr.lookup t (.map (some b)) (pkV x) false).run Tryz.prog w = .ok ((mgetP l x).getD z) w := by
  obtain ⟨es, clk, rfl, h⟩ := ho
  have hf := run_findKeyP (w := w) x es.toList l h.ents
  unfold Instr.lookup
  simp only [Sem.run_bind, run_underlying ht, Result.andThen, run_getMap hb, Sem.run_pure, run_checkKeyP _ 9998 x, hf]
  rw [← midxP_get]
  cases midxP l x with
  | none => simp [run_zeroValue (h := hi)]
  | some p => simp
theorem run_lookup_pm2 (ht : Tryz.prog.underlying t = some (.map 76 e)) [hi : ITy Tryz.prog e z sz bb] (hb : w.heap[b]? = some o) (ho : pmP l o) (x : PK) :
    (Instr.lookup t (.map (some b)) (pkV x) true).run Tryz.prog w = .ok (.tuple #[(mgetP l x).getD z, .bool (mgetP l x).isSome]) w := by
  obtain ⟨es, clk, rfl, h⟩ := ho
  have hf := run_findKeyP (w := w) x es.toList l h.ents
  unfold Instr.lookup
  simp only [Sem.run_bind, run_underlying ht, Result.andThen, run_getMap hb, Sem.run_pure, run_checkKeyP _ 9998 x, hf]
  rw [← midxP_get]
  cases midxP l x with
  | none => simp [run_zeroValue (h := hi)]
  | some p => simp
theorem run_mapUpdate_pm (ht : Tryz.prog.underlying t = some (.map 76 e)) (hb : w.heap[b]? = some o) (ho : pmP l o) (x : PK) (v : Value) :
    ∃ o', (Instr.mapUpdate t (.map (some b)) (pkV x) v).run Tryz.prog w = .ok () (w.putObj b o') ∧ pmP (msetP l x v) o' := by
  obtain ⟨es, clk, rfl, h⟩ := ho
  have hes := h.ents
  have hf := run_findKeyP (w := w) x es.toList l hes
  have hlen : es.size = l.length := by have := congrArg List.length hes; simpa using this
  cases hm : midxP l x with
  | none =>
    refine ⟨.map (es.push { key := pkV x, val := v, born := clk }) (clk + 1), ?_, ?_⟩
    · rw [hm] at hf
      unfold Instr.mapUpdate
      simp only [Sem.run_bind, run_underlying ht, Result.andThen, run_getMap hb, run_checkKeyP _ 9998 x, hf, run_setMap _ hb]
    · refine ⟨_, _, rfl, ?_, ?_, ?_⟩
      · rw [midxP_none v hm]
        simp [hes]
      · intro y hy
        rw [Array.toList_push] at hy
        rcases List.mem_append.1 hy with hy | hy
        · exact Nat.lt_succ_of_lt (h.born y hy)
        · rw [List.mem_singleton] at hy; subst hy; exact Nat.lt_succ_self _
      · rw [Array.toList_push, List.map_append]
        refine List.nodup_append.2 ⟨h.nd, by simp, fun a ha c hc e => ?_⟩
        obtain ⟨y, hy, rfl⟩ := List.mem_map.1 ha
        simp only [List.map_cons, List.map_nil, List.mem_singleton] at hc
        have := h.born y hy
        omega
  | some p =>
    obtain ⟨i, u⟩ := p
    obtain ⟨h1, h2, h3⟩ := midxP_some v hm
    have hi : i < es.size := by omega
    have hkey : es[i].key = pkV x := by
      have := congrArg (fun l => l[i]?) hes
      simp [h3, hi] at this
      exact this.1
    have hb2 : (es.modify i fun e => { e with key := pkV x, val := v }).toList.map (·.born) = es.toList.map (·.born) := by
      apply List.ext_getElem?
      intro j
      simp only [List.getElem?_map, Array.getElem?_toList]
      rw [Array.getElem?_modify]
      by_cases e : i = j
      · subst e; simp [hi]
      · simp [e]
    refine ⟨.map (es.modify i fun e => { e with key := pkV x, val := v }) clk, ?_, ?_⟩
    · rw [hm] at hf
      have hk2 : ((es[i]?).map (·.key)).getD (pkV x) = pkV x := by simp [hi, hkey]
      unfold Instr.mapUpdate
      simp only [Sem.run_bind, run_underlying ht, Result.andThen, run_getMap hb, run_checkKeyP _ 9998 x, hf, hk2, run_keyStaysP, run_setMap _ hb]
    · refine ⟨_, _, rfl, ?_, ?_, ?_⟩
      · rw [h1]
        apply List.ext_getElem?
        intro j
        have hj := congrArg (fun l => l[j]?) hes
        simp only [List.getElem?_map, Array.getElem?_toList] at hj ⊢
        rw [Array.getElem?_modify, List.getElem?_set]
        by_cases e : i = j
        · subst e
          simp [hi, h2]
        · simp only [if_neg e]
          exact hj
      · intro y hy
        have h4 : y.born ∈ (es.modify i fun e => { e with key := pkV x, val := v }).toList.map (·.born) := List.mem_map.2 ⟨y, hy, rfl⟩
        rw [hb2] at h4
        obtain ⟨y0, h5, h6⟩ := List.mem_map.1 h4
        rw [← h6]; exact h.born y0 h5
      · rw [hb2]; exact h.nd
end
section
variable {r : Option Nat} {N : Nat} {ds : List Deferred} {ol rest : List Oper} {Q : Post} {E : Env} {w0 : World} {H : List Atom} {next : Act → World → Prop} {g : Option (Nat × Bool)}
variable {d : Nat} {t ty : TypeId} {pos : String} {af : Array Edge} {x y z : Operand}
theorem H1.mkpm (hd : Nat.blt d N = true) (h : ∀ b, HN N ds next ((d, .map (some b)) :: E) w0 (A.pm b [] :: H)) : H1 Tryz.prog r N ds next ⟨some d, .makeMap t none, ty, pos, af, g⟩ Q E w0 H := fun w hM =>
  W1.run (v := .map (some w.heap.size)) (w' := w.alloc (.map #[] 0)) (fun _ _ => rfl) rfl hd (h _ _ (by
    refine (hM.more (Ext.alloc w _)).cons ⟨_, World.alloc_heap_new w _, _, _, rfl, MPl.nil⟩ (by simp [A.pm, A.obj]) fun b hb => ?_
    have hb' : b = w.heap.size := by simpa [A.pm, A.obj] using hb
    subst hb'
    refine ⟨fun hm => ?_, hM.ext.size, by simp⟩
    have := (hM.rng _ hm).2
    omega))
theorem H1.pmget {b : Nat} {e : TypeId} {l : List (PK × Value)} {n : PK} {zv : Value} {sz bb : Nat} [ht : UTy Tryz.prog t (.map 76 e)] [hi : ITy Tryz.prog e zv sz bb] (hx : Env.ev E x = some (.map (some b))) (hy : Env.ev E y = some (pkV n))
    (hm : A.pm b l ∈ H) (hd : Nat.blt d N = true) (h : HN N ds next ((d, (mgetP l n).getD zv) :: E) w0 H) : H1 Tryz.prog r N ds next ⟨some d, .lookup t x y false, ty, pos, af, g⟩ Q E w0 H := fun w hM => by
  obtain ⟨o, h1, h2⟩ : ∃ o, w.heap[b]? = some o ∧ pmP l o := hM.all _ hm
  refine W1.run (v := (mgetP l n).getD zv) (w' := w) (fun a ha' => ?_) rfl hd (h w hM)
  simp only [execOp, ha'.ev hx, ha'.ev hy, Sem.run_bind, run_lookup_pm ht.is h1 h2 n, Result.andThen, Sem.run_pure]
theorem H1.pmget2 {b : Nat} {e : TypeId} {l : List (PK × Value)} {n : PK} {zv : Value} {sz bb : Nat} [ht : UTy Tryz.prog t (.map 76 e)] [hi : ITy Tryz.prog e zv sz bb] (hx : Env.ev E x = some (.map (some b))) (hy : Env.ev E y = some (pkV n))
    (hm : A.pm b l ∈ H) (hd : Nat.blt d N = true) (h : HN N ds next ((d, .tuple #[(mgetP l n).getD zv, .bool (mgetP l n).isSome]) :: E) w0 H) : H1 Tryz.prog r N ds next ⟨some d, .lookup t x y true, ty, pos, af, g⟩ Q E w0 H := fun w hM => by
  obtain ⟨o, h1, h2⟩ : ∃ o, w.heap[b]? = some o ∧ pmP l o := hM.all _ hm
  refine W1.run (v := .tuple #[(mgetP l n).getD zv, .bool (mgetP l n).isSome]) (w' := w) (fun a ha' => ?_) rfl hd (h w hM)
  simp only [execOp, ha'.ev hx, ha'.ev hy, Sem.run_bind, run_lookup_pm2 ht.is h1 h2 n, Result.andThen, Sem.run_pure]
theorem H1.pmset {b : Nat} {e : TypeId} {l : List (PK × Value)} {n : PK} {v : Value} {H' : List Atom} [ht : UTy Tryz.prog t (.map 76 e)] (hx : Env.ev E x = some (.map (some b))) (hy : Env.ev E y = some (pkV n)) (hz : Env.ev E z = some v)
    (hr : Rpl (A.pm b l) (A.pm b (msetP l n v)) H H') (h : HN N ds next E w0 H') : H1 Tryz.prog r N ds next ⟨none, .mapUpdate t x y z, ty, pos, af, g⟩ Q E w0 H := fun w hM => by
  obtain ⟨o, hb, ho⟩ : ∃ o, w.heap[b]? = some o ∧ pmP l o := hM.all _ hr.mem
  obtain ⟨o', hrun, ho'⟩ := run_mapUpdate_pm  ht.is hb ho n v
  have hlt := (Array.getElem?_eq_some_iff.1 hb).1
  refine W1.skip (w' := w.putObj b o') (fun a ha => ?_) rfl rfl (h _ (hM.turn hr rfl rfl rfl (by simp) (fun k _ hk' => ?_) ⟨o', World.putObj_heap_same hlt, ho'⟩ (by simp [A.pm, A.obj]) fun b' hb' => .inl hb'))
  · simp only [execOp, ha.ev hx, ha.ev hy, ha.ev hz, Sem.run_bind, hrun, Result.andThen, Sem.run_pure]
  · exact World.putObj_heap_other (by simpa [A.pm, A.obj] using hk')
end
end Go.Sx
/- Chapter 27: a custodian: its state, and the small functions. -/
namespace Go.Sx
open Go Go.Proofs Go.RowKit
/-- A valid place. -/
def okP (p : PK) : Prop := 1 ≤ p.1 ∧ p.1 ≤ 1000000 ∧ 0 ≤ p.2 ∧ p.2 < 9
instance (p : PK) : Decidable (okP p) := by unfold okP; infer_instance
theorem pkV_cells (p : PK) : pkV p = .agg [zv p.1, zv p.2].toArray := rfl
/-- Numbers, written behind a string. -/
def putsB (s : ByteArray) : List Nat → ByteArray
  | [] => s
  | n :: l => putsB (s ++ strN n) l
def intsN (l : List Nat) : List Int := l.map fun n : Nat => (n : Int)
theorem intsN_get {l : List Nat} {i : Nat} (h : i < l.length) : (ints (intsN l))[i]? = some (zv ((l.getD i 0 : Nat) : Int)) := by
  simp [ints, intsN, h]
theorem putsB_snoc : ∀ (l : List Nat) (s : ByteArray) (n : Nat), putsB s (l ++ [n]) = putsB s l ++ strN n
  | [], _, _ => rfl
  | x :: l, s, n => putsB_snoc l (s ++ strN x) n
theorem putsB_size : ∀ (l : List Nat) (s : ByteArray), (∀ n ∈ l, n ≤ 1099511627776) → (putsB s l).size ≤ s.size + 9 * l.length
  | [], _, _ => Nat.le_refl _
  | x :: l, s, h => by
    have h1 := putsB_size l (s ++ strN x) fun n hn => h n (List.mem_cons_of_mem _ hn)
    have h2 := strN_size (h x (List.mem_cons_self ..))
    rw [ByteArray.size_append] at h1
    show (putsB (s ++ strN x) l).size ≤ s.size + 9 * (l.length + 1)
    omega
attribute [local irreducible] WC WL WX POp Then Again Fn NX W1 WA WO QL RP RA Yld LoopAt HC HL HX HN H1 HA HO HQ HB HP A.blk A.grow A.rd A.obj A.mp AgainH CutH
theorem isValid_fn (p : PK) (w : World) : Fn Tryz.prog 42 #[pkV p] w fun v w' => v = .bool (decide (okP p)) ∧ Ext w w' := by
  obtain ⟨o, f⟩ := p
  rw [pkV_cells]
  refine enterH (l := [_]) rfl Tryz.ntmps42 rfl ?_
  refine hwYB ?_
  refine HL.one (H1.boxAgg (cs := [zv o, zv f]) rfl rfl (fun b1 => ?_))
  by_cases h1 : 1 ≤ o
  · by_cases h2 : o ≤ 1000000
    · by_cases h3 : 0 ≤ f
      · by_cases h4 : f < 9
        · refine hwYB ?_
          exact HX.ret1 rfl rfl fun w' hM => ⟨by rw [decide_eq_true h4, decide_eq_true (p := okP (o, f)) ⟨h1, h2, h3, h4⟩], hM.ext⟩
        · refine hwYB ?_
          exact HX.ret1 rfl rfl fun w' hM => ⟨by rw [decide_eq_false h4, decide_eq_false (p := okP (o, f)) fun h => h4 h.2.2.2], hM.ext⟩
      · refine hwYB ?_
        exact HX.ret1 rfl rfl fun w' hM => ⟨by rw [decide_eq_false (p := okP (o, f)) fun h => h3 h.2.2.1], hM.ext⟩
    · refine hwYB ?_
      exact HX.ret1 rfl rfl fun w' hM => ⟨by rw [decide_eq_false (p := okP (o, f)) fun h => h2 h.2.1], hM.ext⟩
  · refine hwYB ?_
    exact HX.ret1 rfl rfl fun w' hM => ⟨by rw [decide_eq_false (p := okP (o, f)) fun h => h1 h.1], hM.ext⟩
theorem put27_fn (s : ByteArray) (l : List Nat) (v : Value) (hs : s.size ≤ 100000) (hn : ∀ n ∈ l, n ≤ 1099511627776) (hl : l.length ≤ 100) (w : World) (hR : Rd w v (ints (intsN l))) :
    Fn Tryz.prog 45 #[.string s, v] w fun v w' => v = .string (putsB s l) ∧ Ext w w' := by
  obtain ⟨a0, c0, rfl, hc0⟩ : ∃ a0 c0, v = .slice a0 l.length c0 ∧ l.length ≤ c0 := by
    obtain ⟨a, c, h1, h2, -⟩ := hR
    rw [ints_len] at h1 h2
    have : (intsN l).length = l.length := by simp [intsN]
    rw [this] at h1 h2
    exact ⟨a, c, h1, h2⟩
  refine enterH (l := [_, _]) rfl Tryz.ntmps45 rfl ?_
  refine hwYB ?_
  refine HC.loop (α := Nat) (fun i => [(0, .string (putsB s (l.take i))), (9, .slice a0 l.length c0), (10, zv (l.length : Int)), (11, zv (i : Int))]) (fun _ => []) (fun i => i ≤ l.length) (fun i => l.length - i) 0 (Nat.zero_le _) esA (Hs.refl _) ?_
  intro i hi
  by_cases hlt : i < l.length
  · obtain ⟨b, off, rfl⟩ : ∃ b off, a0 = some ⟨b, off, none⟩ := by
      obtain ⟨a, c, h1, h2, h3⟩ := hR
      have : (intsN l).length = l.length := by simp [intsN]
      rw [ints_len, this] at h1
      cases h1
      rcases h3 with h3 | ⟨b, off, h4, -⟩
      · have : l = [] := by simpa [ints, intsN] using h3
        subst this; cases hlt
      · exact ⟨b, off, h4⟩
    have hget := hR.cell (intsN_get hlt)
    have htk : l.take (i + 1) = l.take i ++ [l.getD i 0] := by
      rw [List.take_add_one, List.getElem?_eq_getElem hlt]
      simp [hlt]
    have hmem : l.getD i 0 ∈ l := by simp [hlt]
    have hnn := hn _ hmem
    have hsn := putsB_snoc (l.take i) s (l.getD i 0)
    rw [← htk] at hsn
    have hsz := putsB_size (l.take i) s fun n h => hn n (List.mem_of_mem_take h)
    rw [List.length_take] at hsz
    generalize l.getD i 0 = n at hget hnn hsn
    have hns := strN_size hnn
    refine hwYB ?_
    refine HL.one (H1.ld0 rfl hget rfl ?_)
    refine hwYB ?_
    refine HL.one (H1.callx (vs := [zv (n : Int)]) rfl rfl (fun w' _ => putInt_fn n hnn w') ?_)
    refine hwYB ?_
    rw [← hsn]
    refine hwYB ?_
    exact HX.again (i + 1) hlt (by show l.length - (i + 1) < l.length - i; omega) esA (Hs.refl _)
  · obtain rfl : i = l.length := by omega
    rw [List.take_length]
    refine hwYB ?_
    exact HX.ret1 rfl rfl fun w' hM => ⟨rfl, hM.ext⟩
end Go.Sx

