/-
  The layer with atoms: a range over a function; regions whose order is open inside of a round.
-/
import Derived.Test.YtionfblneloaiaaGreatDoorHv
import Derived.Test.YtionfblneloaiaaGreatDoorSxAuto
namespace Go.Sx
open Go Go.RowKit
theorem opIn_round {P : Program} {n : Nat} {o : Oper} {a : Act} {w : World} {K : Act → World → Prop} {Q : Post} (r : Option Nat) (h : isDefer o.op = false) (h1 : o.wpIn (FW none) n P a w K Q) : o.wpIn (FW r) n P a w K Q := by
  unfold Oper.wpIn at *
  rw [semAt_of h] at h1 ⊢
  exact h1
theorem anyIn_round {P : Program} {n : Nat} {ops : Array Oper} {Q : Post} (r : Option Nat) (hd : ∀ (i : Nat) (o : Oper), ops[i]? = some o → isDefer o.op = false) :
    ∀ (fuel : Nat) (listed : Array Bool) (a : Act) (w : World), wpAnyIn (FW none) n P .any ops Q fuel listed a w → wpAnyIn (FW r) n P .any ops Q fuel listed a w := by
  intro fuel
  induction fuel with
  | zero => intro listed a w h; exact h
  | succ fuel ih =>
    intro listed a w h
    refine ⟨h.1, fun j hj => ?_⟩
    have h2 := wpOpIn_mono (fun a' w' h3 => ih _ a' w' h3) (h.2 j hj)
    unfold wpOpIn at *
    cases ho : ops[j]? with
    | none => rw [ho] at h2; exact h2
    | some o =>
      rw [ho] at h2
      dsimp only at h2 ⊢
      split
      · rename_i hw; rw [if_pos hw] at h2; exact opIn_round r (hd j o ho) h2
      · rename_i hw; rw [if_neg hw] at h2; exact h2
def A.loop (N : Nat) (E : Env) (ps : List Nat) (assign body : Code) (st : LoopState) (pe : Option Code) (l : Nat) : Atom :=
  ⟨[l], fun w => LoopAt N E ps assign body st pe l w, fun _ _ _ h hp => LoopAt.keep hp (h l (by simp))⟩
def A.dfr (D : Nat) : Atom := A.obj D (fun o => o = .deferred (some []))
theorem Mm.upd1 {w0 w w' : World} {H H' : List Atom} {a a' : Atom} {l : Nat} (h : Mm w0 H w) (hr : Rpl a a' H H') (hfp : a.fp = [l]) (u : Upd1 l w w') (ha : a'.p w') (hfp' : a'.fp = [l]) : Mm w0 H' w' :=
  h.turn hr u.os u.tape u.output (Nat.le_of_eq u.size.symm) (fun k _ hk => u.block k (by rw [hfp] at hk; simpa using hk)) ha (by rw [hfp']; simp) (fun b hb => .inl (by rw [hfp]; rwa [hfp'] at hb))
theorem Mm.drop1 {w0 w w' : World} {H : List Atom} {a : Atom} {l : Nat} (h : Mm w0 (a :: H) w) (hfp : a.fp = [l]) (u : Upd1 l w w') : Mm w0 H w' := by
  have hl := (h.rng l (mem_fps (List.Mem.head _) (by rw [hfp]; simp))).2
  rw [← u.size] at hl
  exact (h.upd1 (a' := A.obj l fun _ => True) Rpl.here hfp u ⟨w'.heap[l], by simp [hl], trivial⟩ rfl).tail
theorem Rpl.pick {a a' : Atom} {H H' : List Atom} (h : Pick a H H') : ∃ K, H.Perm (a :: H') ∧ Rpl a a' H K := by
  induction h with
  | here => exact ⟨_, List.Perm.refl _, Rpl.here⟩
  | there _ ih =>
    obtain ⟨K, h1, h2⟩ := ih
    exact ⟨_, (List.Perm.cons _ h1).trans (List.Perm.swap _ _ _), Rpl.there h2⟩
instance {N : Nat} {E : Env} {ps : List Nat} {assign body : Code} {l : Nat} {R : Bool → World → Prop} : QPanic (RP N E ps assign body l R) := ⟨fun _ _ _ _ _ h => h⟩
instance {P : Program} {N : Nat} {E : Env} {ps : List Nat} {assign body : Code} {l : Nat} {R : Bool → World → Prop} : QPanic (RA P N E ps assign body l R) := ⟨fun _ _ _ _ _ h => h⟩
section
variable {P : Program} {r : Option Nat} {N : Nat} {ds : List Deferred} {ol rest : List Oper} {Q : Post} {E : Env} {w0 : World} {H H' : List Atom} {next : Act → World → Prop} {g : Option (Nat × Bool)}
theorem HC.anyR [hm : Mixed P] {id : Nat} {l : List Oper} {fuel : Nat} (hf : l.length = fuel) (h : HA P N ds l fuel (Array.replicate l.length false) Q E w0 H) (hd : (l.all fun o => !isDefer o.op) = true := by kernel_rfl) :
    HC P r N ds (.region id l.toArray true) Q E w0 H := fun w hM a ha =>
  wpIn_region_any hm.is (by
    subst hf
    have h1 := h w.drew (hM.more (Ext.drew w)) a ha
    have h2 := anyIn_round r (fun i o ho => by
      have h3 : o ∈ l := List.mem_of_getElem? (i := i) (by simpa using ho)
      simpa using List.all_eq_true.1 hd o h3) _ _ _ _ h1
    simpa using h2)
theorem HC.anyCR [hm : Mixed P] {id : Nat} {ol : List Oper} {fuel : Nat} (cells : List (Addr × Value)) (hf : ol.length = fuel) (h : HB cells P N ds ol fuel (Array.replicate ol.length false) Q E w0 H) (hd : (ol.all fun o => !isDefer o.op) = true := by kernel_rfl) :
    HC P r N ds (.region id ol.toArray true) Q E w0 H := HC.anyR hf (fun w hM a ha => anyC_in _ _ _ _ (h w hM a ha)) hd
variable {E0 : Env} {ps : List Nat} {assign body : Code} {l D : Nat} {R : Bool → World → Prop} {L : LoopState → Option Code → Atom}
theorem HX.ra (hL : ∀ st pe, L st pe = A.loop N E0 ps assign body st pe l) (hr : Rpl (L .ready none) (L .busy none) H H') (h : HC P (some l) N [] body (RP N E0 ps assign body l R) E w0 H') :
    HX N [] .normal (RA P N E0 ps assign body l R) E w0 H := fun w hM => by
  have hp := hM.all _ hr.mem
  refine WX.ra (by rw [hL] at hp; exact hp) (fun w' u hl => h w' ?_)
  exact hM.upd1 hr (by rw [hL]; rfl) u (by rw [hL]; exact hl) (by rw [hL]; rfl)
theorem HX.rp_n (hL : ∀ st pe, L st pe = A.loop N E0 ps assign body st pe l) (hr : Rpl (L .busy none) (L .ready none) H H') (h : ∀ w', Mm w0 H' w' → R true w') :
    HX N [] .normal (RP N E0 ps assign body l R) E w0 H := fun w hM => by
  have hp := hM.all _ hr.mem
  refine WX.rp_n (by rw [hL] at hp; exact hp) (fun w' u hl => h w' ?_)
  exact hM.upd1 hr (by rw [hL]; rfl) u (by rw [hL]; exact hl) (by rw [hL]; rfl)
theorem Yld.ofH {args : List Value} (hL : ∀ st pe, L st pe = A.loop N E0 ps assign body st pe l) (hm : L .ready none ∈ H) (hlen : args.length = ps.length) (hps : (ps.all (Nat.blt · N)) = true)
    (h : HC P (some l) N [] assign (RA P N E0 ps assign body l R) (putAll (ps.zip args) E0) w0 H) : ∀ w, Mm w0 H w → Yld P l args w R := fun w hM => by
  have hp := hM.all _ hm
  exact Yld.of (by rw [hL] at hp; exact hp) hlen hps (h w hM)
theorem H1.yield {α : Type} {d : Option Nat} {x : Operand} {args : List Operand} {ats : Array TypeId} {ty : TypeId} {pos : String} {af : Array Edge} {vs : List Value} {Hz : α → List Atom} {I : α → Prop}
    (hd : dOk d N = true) (hx : Env.ev E x = some (.func (.yield l) #[] #[])) (ha : Env.evs E args = some vs) (hc : ∀ w, Mm w0 H w → Yld P l vs w fun b w' => b = true ∧ ∃ z, I z ∧ Mm w0 (Hz z) w')
    (h : ∀ z, I z → HN N ds next (putE d (.bool true) E) w0 (Hz z)) : H1 P r N ds next ⟨d, .call ⟨.value x, args.toArray, ats⟩, ty, pos, af, g⟩ Q E w0 H := fun w hM =>
  W1.yield hd hx ha (hc w hM) fun b w' ⟨hb, z, hz, hM'⟩ => by subst hb; exact h z hz w' hM'
theorem HC.rangeFunc {α : Type} {x : Operand} {gf : FuncId} {lb : List Value} [hcf : CallOk P gf] (Hz : α → List Atom) (I : α → Prop) (hg : Env.ev E x = some (.func (.func gf) #[] lb.toArray))
    (h : ∀ D l (L : LoopState → Option Code → Atom), (∀ st pe, L st pe = A.loop N E ps assign body st pe l) → ∀ w1, Mm w0 (L .ready none :: A.dfr D :: H) w1 →
      Fn P gf (.func (.yield l) #[] #[] :: lb).toArray w1 fun _ w2 => ∃ z, I z ∧ Mm w0 (L .ready none :: A.dfr D :: Hz z) w2)
    (h2 : ∀ D z, I z → HX N (markOf D :: ds) .normal Q E w0 (A.dfr D :: Hz z)) : HC P none N ds (.rangeFunc x ps.toArray assign body) Q E w0 H := fun w hM => by
  refine WC.rangeFunc' hg ?_
  intro w1 D l L hL hD hl hs hx hr hd
  have hM1 : Mm w0 (A.loop N E ps assign body .ready none l :: A.dfr D :: H) w1 := by
    have h0 := hM.ext.size
    have hA : Mm w0 (A.dfr D :: H) w1 := (hM.more hx).cons ⟨_, hd, rfl⟩ (by simp [A.dfr, A.obj]) fun b hb => by
      have hb' : b = D := by simpa [A.dfr, A.obj] using hb
      subst hb'
      exact ⟨fun hm => by have := (hM.rng _ hm).2; omega, by omega, by omega⟩
    refine hA.cons ((hL _ _ _).1 hr) (by simp [A.loop]) fun b hb => ?_
    have hb' : b = l := by simpa [A.loop] using hb
    subst hb'
    refine ⟨fun hm => ?_, by omega, by omega⟩
    rw [fps_cons] at hm
    rcases List.mem_append.1 hm with hm | hm
    · have : b = D := by simpa [A.dfr, A.obj] using hm
      omega
    · have := (hM.rng _ hm).2; omega
  refine (h D l (fun st pe => A.loop N E ps assign body st pe l) (fun _ _ => rfl) w1 hM1).mono ?_
  rintro v w2 ⟨z, hz, hM2⟩
  have hlp : LoopAt N E ps assign body .ready none l w2 := hM2.all _ (List.Mem.head _)
  exact .inl ⟨(hL _ _ _).2 hlp, fun w3 u => h2 D z hz w3 (hM2.drop1 rfl u)⟩
/- a function that holds such a loop -/
theorem enterMH {f : FuncId} {fn : Func} {c : Code} {l : List Value} {R : Value → World → Prop} {w : World} [hf : FnIs P f fn] (hb : fn.body = some c) (hN : fn.ntmps = N) (hl : Nat.ble l.length N = true)
    (h : HC P none N [] c (bodyPostM Fence.wide 0 P fn (RetP R)) (Env.of 0 l) w []) : Fn P f l.toArray w R := enterM hb hN hl (h w (Mm.refl w))
theorem HX.retM0_2 {fn : Func} {t u : Nat} {v v' : Value} {R : Value → World → Prop} (hr : fn.results = #[.tmp t, .tmp u]) (hv : Env.g E t = some v) (hv' : Env.g E u = some v') (h : ∀ w, Mm w0 H w → R (.tuple #[v, v']) w) :
    HX N [] .ret (bodyPostM Fence.wide 0 P fn (RetP R)) E w0 H := fun w hM => WX.retM0_2 hr hv hv' (h w hM)
theorem HX.retM2 {fn : Func} {t u D : Nat} {v v' : Value} {R : Value → World → Prop} (hr : fn.results = #[.tmp t, .tmp u]) (hv : Env.g E t = some v) (hv' : Env.g E u = some v') (hm : Pick (A.dfr D) H H') (h : ∀ w, Mm w0 H' w → R (.tuple #[v, v']) w) :
    HX N [markOf D] .ret (bodyPostM Fence.wide 0 P fn (RetP R)) E w0 H := fun w hM => by
  have hp := hM.perm hm.perm
  obtain ⟨o, h1, rfl⟩ : ∃ o, w.heap[D]? = some o ∧ o = .deferred (some []) := hp.all (A.dfr D) (List.Mem.head _)
  exact WX.retM2 hr hv hv' h1 fun w' u => h w' (hp.drop1 rfl u)
end
end Go.Sx
/-
  The layer with atoms: loops that hold a range over a function (each such loop leaves a mark), rounds that are left early, yields that are told to stop.
-/
namespace Go.Sx
open Go Go.RowKit
/-- The blocks of all marks. -/
def A.dfrs (Ds : List Nat) : Atom := ⟨Ds, fun w => ∀ D ∈ Ds, w.heap[D]? = some (.deferred (some [])), fun _ _ _ h hp D hD => (h D hD).trans (hp D hD)⟩
theorem Mm.dfrs0 {w0 w : World} {H : List Atom} (h : Mm w0 H w) : Mm w0 (A.dfrs [] :: H) w := h.cons (by intro D hD; cases hD) (by simp [A.dfrs]) (by simp [A.dfrs])
theorem Mm.dfrs1 {w0 w : World} {H : List Atom} {D : Nat} {Ds : List Nat} (h : Mm w0 (A.dfr D :: A.dfrs Ds :: H) w) : Mm w0 (A.dfrs (D :: Ds) :: H) w := by
  refine ⟨h.ext, fun a ha => ?_, ?_, ?_⟩
  · rcases List.mem_cons.1 ha with rfl | ha
    · intro D' hD'
      rcases List.mem_cons.1 hD' with rfl | hD'
      · obtain ⟨o, h1, h2⟩ := h.all _ (List.Mem.head _)
        rw [h1, h2]
      · exact h.all _ (List.Mem.tail _ (List.Mem.head _)) D' hD'
    · exact h.all _ (List.Mem.tail _ (List.Mem.tail _ ha))
  · exact h.nd
  · exact h.rng
theorem HC.dfrs0 {P : Program} {r : Option Nat} {N : Nat} {ds : List Deferred} {Q : Post} {E : Env} {w0 : World} {H : List Atom} {co : Code} (h : HC P r N ds co Q E w0 (A.dfrs [] :: H)) : HC P r N ds co Q E w0 H := fun w hM => h w hM.dfrs0
/-- What the body of a function that holds ranges over functions must achieve: it does not panic. -/
def bodyPostN (P : Program) (fn : Func) (R : Ending → World → Prop) : Post
  | .normal, a, w | .ret, a, w => LeavesInM Fence.wide 0 P fn a.tmps R a.defers .returning w
  | _, _, _ => False
theorem postN_M {P : Program} {fn : Func} {R : Ending → World → Prop} {e : Exit} {a : Act} {w : World} (h : bodyPostN P fn R e a w) : bodyPostM Fence.wide 0 P fn R e a w := by
  cases e <;> first | exact h | exact h.elim
instance {P : Program} {fn : Func} {R : Ending → World → Prop} : QPanic (bodyPostN P fn R) := ⟨fun _ _ _ _ _ h => h⟩
theorem enterN {P : Program} {N : Nat} {w0 : World} {H : List Atom} {f : FuncId} {fn : Func} {c : Code} {l : List Value} {R : Value → World → Prop} {w : World} [hf : FnIs P f fn] (hM : Mm w0 H w) (hb : fn.body = some c) (hN : fn.ntmps = N) (hl : Nat.ble l.length N = true)
    (h : HC P none N [] c (bodyPostN P fn (RetP R)) (Env.of 0 l) w0 H) : Fn P f l.toArray w R := enterM hb hN hl (fun a ha => wpIn_mono (h w hM a ha) fun _ _ _ hq => postN_M hq)
def marks (Ds : List Nat) : List Deferred := Ds.map markOf
section
variable {P : Program} {r : Option Nat} {N : Nat} {ds : List Deferred} {ol rest : List Oper} {Q : Post} {E : Env} {w0 : World} {H H' : List Atom} {next : Act → World → Prop} {g : Option (Nat × Bool)}
theorem Mm.dfrsTurn {w w' : World} {D : Nat} {Ds : List Nat} (hM : Mm w0 (A.dfrs (D :: Ds) :: H) w) (u : Upd1 D w w') : Mm w0 (A.dfrs Ds :: H) w' := by
  have hnd := hM.nd
  rw [fps_cons] at hnd
  have hD : D ∉ Ds := by
    have := (List.nodup_append.1 hnd).1
    exact (List.nodup_cons.1 this).1
  refine hM.turn (a := A.dfrs (D :: Ds)) (a' := A.dfrs Ds) Rpl.here u.os u.tape u.output (Nat.le_of_eq u.size.symm) (fun k _ hk => u.block k (fun e => hk (by subst e; exact List.Mem.head _))) ?_ ?_ ?_
  · intro D' hD'
    rw [u.block D' (fun e => hD (e ▸ hD'))]
    exact hM.all _ (List.Mem.head _) D' (List.Mem.tail _ hD')
  · exact (List.nodup_cons.1 (List.nodup_append.1 hnd).1).2
  · intro b hb; exact .inl (List.Mem.tail _ hb)
theorem leaves_marks {fn : Func} {tmps : Array Value} {R : Ending → World → Prop} {v : Value} : ∀ (Ds : List Nat) (w : World), Mm w0 (A.dfrs Ds :: H) w → (∀ w', Mm w0 H w' → (results fn tmps).run P w' = .ok v w' ∧ R (.returned v) w') →
    LeavesInM Fence.wide 0 P fn tmps R (marks Ds) .returning w
  | [], w, hM, h => by
    obtain ⟨h1, h2⟩ := h w hM.tail
    exact ⟨v, h1, h2⟩
  | D :: Ds, w, hM, h => by
    refine ⟨by simp, .inl ⟨D, _, rfl, run_takeDeferred (hM.all _ (List.Mem.head _) D (List.Mem.head _)), ?_⟩⟩
    exact leaves_marks Ds _ (hM.dfrsTurn (Upd1.put _ _ _)) h
/-- Out of a function with marks: nothing handed back. -/
theorem HX.retMs0 {fn : Func} {Ds : List Nat} {R : Value → World → Prop} (hr : fn.results = #[]) (hp : Pick (A.dfrs Ds) H H') (h : ∀ w, Mm w0 H' w → R (.tuple #[]) w) :
    HX N (marks Ds) .ret (bodyPostN P fn (RetP R)) E w0 H := fun w hM a ha => by
  simp only [bodyPostN, ha.defers]
  exact leaves_marks (v := .tuple #[]) Ds w (hM.perm hp.perm) fun w' hM' => ⟨results_none hr _ _ _, _, rfl, h w' hM'⟩
theorem HX.normMs0 {fn : Func} {Ds : List Nat} {R : Value → World → Prop} (hr : fn.results = #[]) (hp : Pick (A.dfrs Ds) H H') (h : ∀ w, Mm w0 H' w → R (.tuple #[]) w) :
    HX N (marks Ds) .normal (bodyPostN P fn (RetP R)) E w0 H := fun w hM a ha => by
  simp only [bodyPostN, ha.defers]
  exact leaves_marks (v := .tuple #[]) Ds w (hM.perm hp.perm) fun w' hM' => ⟨results_none hr _ _ _, _, rfl, h w' hM'⟩
/-- Two results, each a variable of one cell. -/
theorem HX.retMsC2 {fn : Func} {Ds : List Nat} {p q b c : Nat} {t u e e' : TypeId} {v v' : Value} {R : Value → World → Prop} [h1 : ATy P t false] [h2 : ATy P u false] (hr : fn.results = #[.cell p t, .cell q u]) (hp : Env.g E p = some (.pointer (some ⟨b, 0, none⟩)))
    (hq : Env.g E q = some (.pointer (some ⟨c, 0, none⟩))) (hpk : Pick (A.dfrs Ds) H H') (hb : A.blk b [v] e ∈ H') (hc : A.blk c [v'] e' ∈ H') (h : ∀ w, Mm w0 H' w → R (.tuple #[v, v']) w) :
    HX N (marks Ds) .ret (bodyPostN P fn (RetP R)) E w0 H := fun w hM a ha => by
  simp only [bodyPostN, ha.defers]
  refine leaves_marks (v := .tuple #[v, v']) Ds w (hM.perm hpk.perm) fun w' hM' => ⟨?_, _, rfl, h w' hM'⟩
  have e1 : a.tmps.getD p undef = .pointer (some ⟨b, 0, none⟩) := by rw [Array.getD_eq_getD_getElem?, ha.get _ _ hp]; rfl
  have e2 : a.tmps.getD q undef = .pointer (some ⟨c, 0, none⟩) := by rw [Array.getD_eq_getD_getElem?, ha.get _ _ hq]; rfl
  have l1 : (loadVar t ⟨b, 0, none⟩).run P w' = .ok v w' := by simp [loadVar, run_isAgg (h := h1), (hM'.blk hb).cell (i := 0) rfl]
  have l2 : (loadVar u ⟨c, 0, none⟩).run P w' = .ok v' w' := by simp [loadVar, run_isAgg (h := h2), (hM'.blk hc).cell (i := 0) rfl]
  have e1' : a.tmps[p]?.getD undef = .pointer (some ⟨b, 0, none⟩) := by simpa using e1
  have e2' : a.tmps[q]?.getD undef = .pointer (some ⟨c, 0, none⟩) := by simpa using e2
  simp [results, hr, e1', e2', asAddr, l1, l2, Sem.run_bind, Result.andThen]
theorem HX.retMs1 {fn : Func} {Ds : List Nat} {t : Nat} {v : Value} {R : Value → World → Prop} (hr : fn.results = #[.tmp t]) (hv : Env.g E t = some v) (hp : Pick (A.dfrs Ds) H H') (h : ∀ w, Mm w0 H' w → R v w) :
    HX N (marks Ds) .ret (bodyPostN P fn (RetP R)) E w0 H := fun w hM a ha => by
  simp only [bodyPostN, ha.defers]
  exact leaves_marks (v := v) Ds w (hM.perm hp.perm) fun w' hM' => ⟨by rw [results_tmp hr, Array.getD_eq_getD_getElem?, ha.get _ _ hv]; rfl, _, rfl, h w' hM'⟩
/-- A loop whose rounds leave marks. -/
def AgainD {α : Type} (N : Nat) (Ex : α → Env) (Hx : α → List Atom) (dx : α → List Deferred) (I : α → Prop) (μ : α → Nat) (w0 : World) (m : Nat) : Act → World → Prop :=
  fun a' w' => ∃ x', (I x' ∧ Mm w0 (Hx x') w') ∧ μ x' < m ∧ Rep N (dx x') (Ex x') a'
theorem HC.loopD {α : Type} {c : Code} (Ex : α → Env) (Hx : α → List Atom) (dx : α → List Deferred) (I : α → Prop) (μ : α → Nat) (x0 : α) (h0 : I x0) (hd : ds = dx x0) (hs : Env.sub E (Ex x0)) (hh : Hs H (Hx x0))
    (round : ∀ x, I x → HC P r N (dx x) c (Again (AgainD N Ex Hx dx I μ w0 (μ x)) Q) (Ex x) w0 (Hx x)) : HC P r N ds (.loop c) Q E w0 H := fun w hM a ha => by
  refine wpIn_loop_ghost (fun n a w => ∃ x, μ x = n ∧ (I x ∧ Mm w0 (Hx x) w) ∧ Rep N (dx x) (Ex x) a) (μ x0) ⟨x0, rfl, ⟨h0, hM.sub hh⟩, by rw [← hd]; exact ha.sub hs⟩ ?_
  rintro n a w ⟨x, rfl, ⟨hI, hM⟩, hr⟩
  refine wpIn_mono (round x hI w hM a hr) ?_
  intro e a' w' hq
  cases e with
  | normal => obtain ⟨x', h1, h2, h3⟩ := hq; exact ⟨μ x', h2, x', rfl, h1, h3⟩
  | exit id => exact hq
  | goto l => exact hq
  | ret => exact hq
  | panic ch => exact hq
  | outgrown => exact hq
theorem HX.againD {α : Type} {Ex : α → Env} {Hx : α → List Atom} {dx : α → List Deferred} {I : α → Prop} {m : Nat} {μ : α → Nat} (x' : α) (h1 : I x') (h2 : μ x' < m) (hd : ds = dx x') (h3 : Env.sub E (Ex x')) (hh : Hs H (Hx x')) :
    HX N ds .normal (Again (AgainD N Ex Hx dx I μ w0 m) Q) E w0 H := fun _ hM _ ha => ⟨x', ⟨h1, hM.sub hh⟩, h2, by rw [← hd]; exact ha.sub h3⟩
/-- The same where atoms have to be joined first. -/
theorem HX.againDm {α : Type} {Ex : α → Env} {Hx : α → List Atom} {dx : α → List Deferred} {I : α → Prop} {m : Nat} {μ : α → Nat} (x' : α) (h1 : I x') (h2 : μ x' < m) (hd : ds = dx x') (h3 : Env.sub E (Ex x')) (hh : ∀ w, Mm w0 H w → Mm w0 (Hx x') w) :
    HX N ds .normal (Again (AgainD N Ex Hx dx I μ w0 m) Q) E w0 H := fun _ hM _ ha => ⟨x', ⟨h1, hh _ hM⟩, h2, by rw [← hd]; exact ha.sub h3⟩
theorem HX.conv {e : Exit} {H2 : List Atom} (hh : ∀ w, Mm w0 H w → Mm w0 H2 w) (h : HX N ds e Q E w0 H2) : HX N ds e Q E w0 H := fun w hM => h w (hh w hM)
theorem HC.conv {c : Code} {H2 : List Atom} (hh : ∀ w, Mm w0 H w → Mm w0 H2 w) (h : HC P r N ds c Q E w0 H2) : HC P r N ds c Q E w0 H := fun w hM => h w (hh w hM)
variable {E0 : Env} {ps : List Nat} {assign body : Code} {l D : Nat} {R : Bool → World → Prop} {L : LoopState → Option Code → Atom}
theorem HX.rp_r (hL : ∀ st pe, L st pe = A.loop N E0 ps assign body st pe l) (hr : Rpl (L .busy none) (L .done (some .ret)) H H') (h : ∀ w', Mm w0 H' w' → R false w') :
    HX N [] .ret (RP N E0 ps assign body l R) E w0 H := fun w hM => by
  have hp := hM.all _ hr.mem
  refine WX.rp_r (by rw [hL] at hp; exact hp) (fun w' u hl => h w' ?_)
  exact hM.upd1 hr (by rw [hL]; rfl) u (by rw [hL]; exact hl) (by rw [hL]; rfl)
theorem HX.rp_e {id : Nat} (hL : ∀ st pe, L st pe = A.loop N E0 ps assign body st pe l) (hr : Rpl (L .busy none) (L .done (some (.exit id))) H H') (h : ∀ w', Mm w0 H' w' → R false w') :
    HX N [] (.exit id) (RP N E0 ps assign body l R) E w0 H := fun w hM => by
  have hp := hM.all _ hr.mem
  refine WX.rp_e (by rw [hL] at hp; exact hp) (fun w' u hl => h w' ?_)
  exact hM.upd1 hr (by rw [hL]; rfl) u (by rw [hL]; exact hl) (by rw [hL]; rfl)
/-- The call of yield, which may say stop. -/
theorem H1.yield2 {α : Type} {d : Option Nat} {x : Operand} {args : List Operand} {ats : Array TypeId} {ty : TypeId} {pos : String} {af : Array Edge} {vs : List Value} {Hz : α → List Atom} {I : Bool → α → Prop}
    (hd : dOk d N = true) (hx : Env.ev E x = some (.func (.yield l) #[] #[])) (ha : Env.evs E args = some vs) (hc : ∀ w, Mm w0 H w → Yld P l vs w fun b w' => ∃ z, I b z ∧ Mm w0 (Hz z) w')
    (h : ∀ b z, I b z → HN N ds next (putE d (.bool b) E) w0 (Hz z)) : H1 P r N ds next ⟨d, .call ⟨.value x, args.toArray, ats⟩, ty, pos, af, g⟩ Q E w0 H := fun w hM =>
  W1.yield hd hx ha (hc w hM) fun b w' ⟨z, hz, hM'⟩ => h b z hz w' hM'
theorem HC.rangeFuncS {α β : Type} {x : Operand} {gf : FuncId} {lb : List Value} [hcf : CallOk P gf] (Hz : α → List Atom) (I : α → Prop) (Hs' : β → List Atom) (I' : β → Prop) (co : β → Code) (hg : Env.ev E x = some (.func (.func gf) #[] lb.toArray))
    (h : ∀ D l (L : LoopState → Option Code → Atom), (∀ st pe, L st pe = A.loop N E ps assign body st pe l) → ∀ w1, Mm w0 (L .ready none :: A.dfr D :: H) w1 →
      Fn P gf (.func (.yield l) #[] #[] :: lb).toArray w1 fun _ w2 => (∃ z, I z ∧ Mm w0 (L .ready none :: A.dfr D :: Hz z) w2) ∨ (∃ z, I' z ∧ Mm w0 (L .done (some (co z)) :: A.dfr D :: Hs' z) w2))
    (h2 : ∀ D z, I z → HX N (markOf D :: ds) .normal Q E w0 (A.dfr D :: Hz z)) (h3 : ∀ D z, I' z → HC P none N (markOf D :: ds) (co z) Q E w0 (A.dfr D :: Hs' z)) : HC P none N ds (.rangeFunc x ps.toArray assign body) Q E w0 H := fun w hM => by
  refine WC.rangeFunc' hg ?_
  intro w1 D l L hL hD hl hs hx hr hd
  have hM1 : Mm w0 (A.loop N E ps assign body .ready none l :: A.dfr D :: H) w1 := by
    have h0 := hM.ext.size
    have hA : Mm w0 (A.dfr D :: H) w1 := (hM.more hx).cons ⟨_, hd, rfl⟩ (by simp [A.dfr, A.obj]) fun b hb => by
      have hb' : b = D := by simpa [A.dfr, A.obj] using hb
      subst hb'
      exact ⟨fun hm => by have := (hM.rng _ hm).2; omega, by omega, by omega⟩
    refine hA.cons ((hL _ _ _).1 hr) (by simp [A.loop]) fun b hb => ?_
    have hb' : b = l := by simpa [A.loop] using hb
    subst hb'
    refine ⟨fun hm => ?_, by omega, by omega⟩
    rw [fps_cons] at hm
    rcases List.mem_append.1 hm with hm | hm
    · have : b = D := by simpa [A.dfr, A.obj] using hm
      omega
    · have := (hM.rng _ hm).2; omega
  refine (h D l (fun st pe => A.loop N E ps assign body st pe l) (fun _ _ => rfl) w1 hM1).mono ?_
  rintro v w2 (⟨z, hz, hM2⟩ | ⟨z, hz, hM2⟩)
  · have hlp : LoopAt N E ps assign body .ready none l w2 := hM2.all _ (List.Mem.head _)
    exact .inl ⟨(hL _ _ _).2 hlp, fun w3 u => h2 D z hz w3 (hM2.drop1 rfl u)⟩
  · have hlp : LoopAt N E ps assign body .done (some (co z)) l w2 := hM2.all _ (List.Mem.head _)
    exact .inr ⟨co z, (hL _ _ _).2 hlp, fun w3 u => h3 D z hz w3 (hM2.drop1 rfl u)⟩
end
end Go.Sx

