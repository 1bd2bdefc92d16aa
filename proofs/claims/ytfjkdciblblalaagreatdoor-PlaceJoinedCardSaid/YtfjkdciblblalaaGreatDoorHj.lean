/-
  The layer with atoms: aggregates loaded first in open orders; several results; the head of a slice; slices of structs.
-/
import Derived.Test.YtfjkdciblblalaaGreatDoorHe
import Derived.Test.YtfjkdciblblalaaGreatDoorHc
import Derived.Test.YtfjkdciblblalaaGreatDoorHB
namespace Go.Sx
open Go Go.RowKit
/-- The cells of a block from its beginning on. -/
def cellsA (b : Nat) (vs : List Value) : List (Addr × Value) := vs.zipIdx.map fun p => (⟨b, p.2, none⟩, p.1)
theorem cellsA_mem {b : Nat} {vs : List Value} {i : Nat} {v : Value} (h : vs[i]? = some v) : ((⟨b, i, none⟩ : Addr), v) ∈ cellsA b vs := List.mem_map.2 ⟨(v, i), List.mk_mem_zipIdx_iff_getElem?.2 h, rfl⟩
theorem Keep.blkA {l : List (Addr × Value)} {w0 : World} {H : List Atom} {b : Nat} {vs : List Value} {e : TypeId} (hm : A.blk b vs e ∈ H) (h : Keep l w0 H) : Keep (cellsA b vs ++ l) w0 H := fun w hM p hp => by
  rcases List.mem_append.1 hp with hp | hp
  · obtain ⟨⟨v, i⟩, h1, rfl⟩ := List.mem_map.1 hp
    exact (hM.blk hm).cell (List.mk_mem_zipIdx_iff_getElem?.1 h1)
  · exact h w hM p hp
theorem cellsL {b : Nat} {vs : List Value} {l : List (Addr × Value)} {p : Addr × Value} (h : p ∈ cellsA b vs) : p ∈ cellsA b vs ++ l := List.mem_append_left _ h
theorem cellsR {b : Nat} {vs : List Value} {l : List (Addr × Value)} {p : Addr × Value} (h : p ∈ l) : p ∈ cellsA b vs ++ l := List.mem_append_right _ h
section
variable {P : Program} {N : Nat} {ds : List Deferred} {ol : List Oper} {Q : Post} {E : Env} {w0 : World} {H : List Atom} {fuel : Nat} {listed : Array Bool} {ty : TypeId} {pos : String} {af : Array Edge} {l : List (Addr × Value)}
theorem HB.ldA [hq : QPanic Q] {d : Nat} {t : TypeId} {x : Operand} {b : Nat} {vs : List Value} {z : Value} {n bb : Nat} [hat : ATy P t true] [hit : ITy P t z n bb] (i : Nat) (ho : ol[i]? = some ⟨some d, .load t x, ty, pos, af, none⟩) (hx : Env.ev E x = some (.pointer (some ⟨b, 0, none⟩))) (hn : vs.length = n)
    (hc : ∀ i v, vs[i]? = some v → ((⟨b, i, none⟩ : Addr), v) ∈ l)
    (h : HB l P N ds ol fuel (listed.setIfInBounds i true) Q ((d, .agg vs.toArray) :: E) w0 H)
    (hne : (match x with | .tmp t => !(Nat.beq t d) | _ => true) = true := by exact rfl)
    (hs : (Region.noSelect ol.toArray && Region.free .any ol.toArray listed i && (Region.ready .any ol.toArray listed).contains i) = true := by kernel_rfl)
    (hd : Nat.blt d N = true := by exact rfl) : HB l P N ds ol (fuel + 1) listed Q E w0 H := fun w hM a ha => by
  simp only [Bool.and_eq_true] at hs
  have ho' : ol.toArray[i]? = some ⟨some d, .load t x, ty, pos, af, none⟩ := by simpa using ho
  refine anyC_load (t := t) (x := x) rfl rfl (fun d' hd' e => ?_) ho' hs.1.1 hs.1.2 hs.2 (fun c a w => hq.is c a _ _ w) (fun a' ha' w' hC => ?_) (h w hM _ (ha.put hd (.agg vs.toArray)))
  · cases hd'; subst e; simp at hne
  · have h1 : a'.eval x = .pointer (some ⟨b, 0, none⟩) := ha'.trans (ha.ev hx)
    have h2 : ∀ i v, vs[i]? = some v → w'.cell? ⟨b, 0 + i, none⟩ = some v := fun i v hv => by rw [Nat.zero_add]; exact hC _ (hc i v hv)
    simp only [execOp, h1, Instr.loadAt, Instr.sureAddr, loadVar, Sem.run_bind, Sem.run_pure]
    simp [run_isAgg, run_sizeOf, loadCells, run_loadCellsFrom P w' b 0 vs h2 n 0 #[] (by omega), Result.andThen, Sem.run_bind]
/- several results -/
def ResAll (P : Program) (E : Env) (w : World) : List ResultVar → List Value → Prop
  | [], [] => True
  | .tmp t :: rs, v :: vs => Env.g E t = some v ∧ ResAll P E w rs vs
  | .cell p t :: rs, v :: vs => (∃ ad, Env.g E p = some (.pointer (some ad)) ∧ (loadVar t ad).run P w = .ok v w) ∧ ResAll P E w rs vs
  | _, _ => False
def resOne (tmps : Array Value) : ResultVar → Sem Value
  | .tmp t => pure (tmps.getD t undef)
  | .cell a t => do loadVar t (← asAddr (tmps.getD a undef))
theorem results_eq (fn : Func) (tmps : Array Value) : results fn tmps = (fn.results.mapM (resOne tmps) >>= fun vs => pure (if h : vs.size = 1 then vs[0] else .tuple vs)) := by
  unfold results
  have e : (fun | .tmp t => (pure (tmps.getD t undef) : Sem Value) | .cell a t => do loadVar t (← asAddr (tmps.getD a undef)) : ResultVar → Sem Value) = resOne tmps := funext fun x => by cases x <;> rfl
  rw [← e]
  rfl
theorem res_all {a : Act} {w : World} (ha : Rep N ds E a) : ∀ (rs : List ResultVar) (vs : List Value), ResAll P E w rs vs → (rs.mapM (resOne a.tmps)).run P w = .ok vs w := by
  intro rs
  induction rs with
  | nil =>
    intro vs h
    cases vs with
    | nil => rfl
    | cons v vs => exact h.elim
  | cons r rs ih =>
    intro vs h
    cases vs with
    | nil => cases r <;> exact h.elim
    | cons v vs =>
      have h1 : (resOne a.tmps r).run P w = .ok v w ∧ ResAll P E w rs vs := by
        cases r with
        | tmp t =>
          obtain ⟨h1, h2⟩ := h
          have e1 : a.tmps.getD t undef = v := by rw [Array.getD_eq_getD_getElem?, ha.get _ _ h1]; rfl
          exact ⟨by show (pure (a.tmps.getD t undef) : Sem Value).run P w = _; rw [e1]; rfl, h2⟩
        | cell p t =>
          obtain ⟨⟨ad, h1, h2⟩, h3⟩ := h
          have e1 : a.tmps.getD p undef = .pointer (some ad) := by rw [Array.getD_eq_getD_getElem?, ha.get _ _ h1]; rfl
          exact ⟨by
            show (asAddr (a.tmps.getD p undef) >>= fun ad => loadVar t ad).run P w = _
            rw [e1]; simp only [asAddr, Sem.run_bind, Sem.run_pure, Result.andThen]; exact h2, h3⟩
      rw [List.mapM_cons]
      simp only [Sem.run_bind, h1.1, Result.andThen, ih vs h1.2, Sem.run_pure]
theorem HX.retG {fn : Func} {rs : List ResultVar} {vs : List Value} {R : Value → World → Prop} (hr : fn.results = rs.toArray) (h1 : Nat.beq vs.length 1 = false) (hv : ∀ w, Mm w0 H w → ResAll P E w rs vs) (h : ∀ w, Mm w0 H w → R (.tuple vs.toArray) w) :
    HX N [] .ret (bodyPost P fn (RetP R)) E w0 H := fun w hM a ha => by
  refine ⟨ha.defers, .tuple vs.toArray, ?_, ⟨_, rfl, h w hM⟩⟩
  have h2 := res_all ha rs vs (hv w hM)
  have h3 : ¬ vs.length = 1 := fun e => by rw [e] at h1; cases h1
  rw [results_eq, hr, List.mapM_toArray]
  have h4 : (Functor.map List.toArray (rs.mapM (resOne a.tmps))).run P w = .ok vs.toArray w := by
    rw [map_eq_pure_bind]
    simp only [Sem.run_bind, h2, Result.andThen, Sem.run_pure]
  simp only [Sem.run_bind, h4, Result.andThen, Sem.run_pure]
  simp [h3]
theorem loadVar_agg {w : World} {t : TypeId} {b : Nat} {cs : List Value} {e : TypeId} {z : Value} {n bb : Nat} [ha : ATy P t true] [hi : ITy P t z n bb] (hM : Mm w0 H w) (hm : A.blk b cs e ∈ H) (hn : cs.length = n) : (loadVar t ⟨b, 0, none⟩).run P w = .ok (.agg cs.toArray) w :=
  run_loadVarAgg hn fun i v hv => by rw [Nat.zero_add]; exact (hM.blk hm).cell hv
theorem loadVar_one {w : World} {t : TypeId} {b : Nat} {v : Value} {e : TypeId} [ha : ATy P t false] (hM : Mm w0 H w) (hm : A.blk b [v] e ∈ H) : (loadVar t ⟨b, 0, none⟩).run P w = .ok v w := by
  simp [loadVar, run_isAgg (h := ha), (hM.blk hm).cell (i := 0) rfl]
end
theorem POp.pre_hn {P : Program} {N : Nat} {ds : List Deferred} {E : Env} {t ty : TypeId} {x hi : Operand} {k' : IntKind} {n : Int} {e : TypeId} {l c : Nat} {z : Value} {sz bb : Nat} [h : UTy P t (.slice e)] [hi' : ITy P e z sz bb]
    (hx : Env.ev E x = some (.slice none l c)) (hh : Env.ev E hi = some (.int k' n)) (h1 : 0 ≤ n) (h2 : n ≤ c) :
    POp P N ds E (.slice t x none (some hi) none) ty (.slice none n.toNat c) := fun a ha d pos af g w => by
  by_cases hc : c = 0
  · subst hc
    simp [execOp, ha.ev hx, ha.ev hh, Instr.sliceAt, Instr.slice, run_underlying h.is, Instr.sliceBounds, run_bound h1 (show n ≤ ((0 : Nat) : Int) from h2), Sem.run_bind, run_sizeOf]
  · simp [execOp, ha.ev hx, ha.ev hh, Instr.sliceAt, Instr.slice, run_underlying h.is, Instr.sliceBounds, run_bound h1 h2, Sem.run_bind, run_sizeOf, hc]
theorem POp.pre_hs {P : Program} {N : Nat} {ds : List Deferred} {E : Env} {t ty : TypeId} {x hi : Operand} {k' : IntKind} {n : Int} {e : TypeId} {ad : Addr} {l c : Nat} {z : Value} {sz bb : Nat} [h : UTy P t (.slice e)] [hi' : ITy P e z sz bb]
    (hx : Env.ev E x = some (.slice (some ad) l c)) (hh : Env.ev E hi = some (.int k' n)) (h1 : 0 ≤ n) (h2 : n ≤ c) :
    POp P N ds E (.slice t x none (some hi) none) ty (.slice (some ad) n.toNat c) := fun a ha d pos af g w => by
  have e0 : ad.add 0 = ad := rfl
  by_cases hc : c = 0
  · subst hc
    simp [execOp, ha.ev hx, ha.ev hh, Instr.sliceAt, Instr.slice, run_underlying h.is, Instr.sliceBounds, run_bound h1 (show n ≤ ((0 : Nat) : Int) from h2), Sem.run_bind, run_sizeOf]
  · simp [execOp, ha.ev hx, ha.ev hh, Instr.sliceAt, Instr.slice, run_underlying h.is, Instr.sliceBounds, run_bound h1 h2, Sem.run_bind, run_sizeOf, hc, e0]
theorem POp.pre_hi {P : Program} {N : Nat} {ds : List Deferred} {E : Env} {t ty : TypeId} {x hi : Operand} {k' : IntKind} {n : Int} {e : TypeId} {l c : Nat} {z : Value} {sz bb : Nat} {w0 : World} {a : Option Addr} {vs : List Value} [h : UTy P t (.slice e)] [hi' : ITy P e z sz bb]
    (hR : Rd w0 (.slice a l c) vs) (hx : Env.ev E x = some (.slice a l c)) (hh : Env.ev E hi = some (.int k' n)) (h1 : 0 ≤ n) (h2 : n ≤ c) :
    POp P N ds E (.slice t x none (some hi) none) ty (.slice a n.toNat c) := by
  obtain ⟨a', c', e1, e2, h3⟩ := hR
  cases e1
  cases a with
  | none => exact POp.pre_hn hx hh h1 h2
  | some ad =>
    rcases h3 with h3 | ⟨b, off, h3, -, -⟩
    · exact POp.pre_hs hx hh h1 h2
    · cases h3; exact POp.cut_h hx hh h1 h2
theorem Rd.ipre {w : World} {a : Option Addr} {c k : Nat} {l : List Int} (h : Rd w (.slice a l.length c) (ints l)) (hk : k ≤ l.length) : Rd w (.slice a k c) (ints (l.take k)) := by
  obtain ⟨a', c', h1, h2, h3⟩ := h
  rw [ints_len] at h1 h2
  cases h1
  have e1 : (ints (l.take k)).length = k := by rw [ints_len, List.length_take]; omega
  refine ⟨a, c, by rw [e1], by omega, ?_⟩
  rcases h3 with h3 | ⟨b, off, h3, h4, h5⟩
  · left
    have : l = [] := by have := congrArg List.length h3; rw [ints_len] at this; exact List.eq_nil_of_length_eq_zero this
    subst this; simp [ints]
  · refine .inr ⟨b, off, h3, h4, fun i u hu => h5 i u ?_⟩
    have : ints (l.take k) = (ints l).take k := by simp [ints, List.map_take]
    rw [this] at hu
    rw [List.getElem?_take] at hu
    by_cases hik : i < k
    · rwa [if_pos hik] at hu
    · rw [if_neg hik] at hu; cases hu
end Go.Sx

