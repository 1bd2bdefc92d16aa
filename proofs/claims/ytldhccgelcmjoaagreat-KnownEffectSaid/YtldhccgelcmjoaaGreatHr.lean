/-
  The layer with atoms: a range over a function; regions whose order is open inside of a round.
-/
import Derived.Test.YtldhccgelcmjoaaGreatHv
import Derived.Test.YtldhccgelcmjoaaGreatSxRange
namespace Go.Sx
open Go Go.RowKit
theorem opIn_round {P : Program} {n : Nat} {o : Oper} {a : Act} {w : World} {K : Act → World → Prop} {Q : Post} (r : Option Nat) (h : isDefer o.op = false) (h1 : o.wpIn (FW none) n P a w K Q) : o.wpIn (FW r) n P a w K Q := by
  unfold Oper.wpIn at *
  rw [semAt_of h] at h1 ⊢
  exact h1
theorem anyIn_round {P : Program} {n : Nat} {ops : Array Oper} {Q : Post} (r : Option Nat) (hd : ∀ (i : Nat) (o : Oper), ops[i]? = some o → isDefer o.op = false) :
    ∀ (fuel : Nat) (listed : Array Bool) (a : Act) (w : World), wpAnyIn (FW none) n P .any ops Q fuel listed a w → wpAnyIn (FW r) n P .any ops Q fuel listed a w := by
  intro fuel
  induction fuel with
  | zero => intro listed a w h; exact h
  | succ fuel ih =>
    intro listed a w h
    refine ⟨h.1, fun j hj => ?_⟩
    have h2 := wpOpIn_mono (fun a' w' h3 => ih _ a' w' h3) (h.2 j hj)
    unfold wpOpIn at *
    cases ho : ops[j]? with
    | none => rw [ho] at h2; exact h2
    | some o =>
      rw [ho] at h2
      dsimp only at h2 ⊢
      split
      · rename_i hw; rw [if_pos hw] at h2; exact opIn_round r (hd j o ho) h2
      · rename_i hw; rw [if_neg hw] at h2; exact h2
def A.loop (N : Nat) (E : Env) (ps : List Nat) (assign body : Code) (st : LoopState) (pe : Option Code) (l : Nat) : Atom :=
  ⟨[l], fun w => LoopAt N E ps assign body st pe l w, fun _ _ _ h hp => LoopAt.keep hp (h l (by simp))⟩
def A.dfr (D : Nat) : Atom := A.obj D (fun o => o = .deferred (some []))
theorem Mm.upd1 {w0 w w' : World} {H H' : List Atom} {a a' : Atom} {l : Nat} (h : Mm w0 H w) (hr : Rpl a a' H H') (hfp : a.fp = [l]) (u : Upd1 l w w') (ha : a'.p w') (hfp' : a'.fp = [l]) : Mm w0 H' w' :=
  h.turn hr u.os u.tape u.output (Nat.le_of_eq u.size.symm) (fun k _ hk => u.block k (by rw [hfp] at hk; simpa using hk)) ha (by rw [hfp']; simp) (fun b hb => .inl (by rw [hfp]; rwa [hfp'] at hb))
theorem Mm.drop1 {w0 w w' : World} {H : List Atom} {a : Atom} {l : Nat} (h : Mm w0 (a :: H) w) (hfp : a.fp = [l]) (u : Upd1 l w w') : Mm w0 H w' := by
  have hl := (h.rng l (mem_fps (List.Mem.head _) (by rw [hfp]; simp))).2
  rw [← u.size] at hl
  exact (h.upd1 (a' := A.obj l fun _ => True) Rpl.here hfp u ⟨w'.heap[l], by simp [hl], trivial⟩ rfl).tail
theorem Rpl.pick {a a' : Atom} {H H' : List Atom} (h : Pick a H H') : ∃ K, H.Perm (a :: H') ∧ Rpl a a' H K := by
  induction h with
  | here => exact ⟨_, List.Perm.refl _, Rpl.here⟩
  | there _ ih =>
    obtain ⟨K, h1, h2⟩ := ih
    exact ⟨_, (List.Perm.cons _ h1).trans (List.Perm.swap _ _ _), Rpl.there h2⟩
instance {N : Nat} {E : Env} {ps : List Nat} {assign body : Code} {l : Nat} {R : Bool → World → Prop} : QPanic (RP N E ps assign body l R) := ⟨fun _ _ _ _ _ h => h⟩
instance {P : Program} {N : Nat} {E : Env} {ps : List Nat} {assign body : Code} {l : Nat} {R : Bool → World → Prop} : QPanic (RA P N E ps assign body l R) := ⟨fun _ _ _ _ _ h => h⟩
section
variable {P : Program} {r : Option Nat} {N : Nat} {ds : List Deferred} {ol rest : List Oper} {Q : Post} {E : Env} {w0 : World} {H H' : List Atom} {next : Act → World → Prop} {g : Option (Nat × Bool)}
theorem HC.anyR [hm : Mixed P] {id : Nat} {l : List Oper} {fuel : Nat} (hf : l.length = fuel) (h : HA P N ds l fuel (Array.replicate l.length false) Q E w0 H) (hd : (l.all fun o => !isDefer o.op) = true := by kernel_rfl) :
    HC P r N ds (.region id l.toArray true) Q E w0 H := fun w hM a ha =>
  wpIn_region_any hm.is (by
    subst hf
    have h1 := h w.drew (hM.more (Ext.drew w)) a ha
    have h2 := anyIn_round r (fun i o ho => by
      have h3 : o ∈ l := List.mem_of_getElem? (i := i) (by simpa using ho)
      simpa using List.all_eq_true.1 hd o h3) _ _ _ _ h1
    simpa using h2)
theorem HC.anyCR [hm : Mixed P] {id : Nat} {ol : List Oper} {fuel : Nat} (cells : List (Addr × Value)) (hf : ol.length = fuel) (h : HB cells P N ds ol fuel (Array.replicate ol.length false) Q E w0 H) (hd : (ol.all fun o => !isDefer o.op) = true := by kernel_rfl) :
    HC P r N ds (.region id ol.toArray true) Q E w0 H := HC.anyR hf (fun w hM a ha => anyC_in _ _ _ _ (h w hM a ha)) hd
variable {E0 : Env} {ps : List Nat} {assign body : Code} {l D : Nat} {R : Bool → World → Prop} {L : LoopState → Option Code → Atom}
theorem HX.ra (hL : ∀ st pe, L st pe = A.loop N E0 ps assign body st pe l) (hr : Rpl (L .ready none) (L .busy none) H H') (h : HC P (some l) N [] body (RP N E0 ps assign body l R) E w0 H') :
    HX N [] .normal (RA P N E0 ps assign body l R) E w0 H := fun w hM => by
  have hp := hM.all _ hr.mem
  refine WX.ra (by rw [hL] at hp; exact hp) (fun w' u hl => h w' ?_)
  exact hM.upd1 hr (by rw [hL]; rfl) u (by rw [hL]; exact hl) (by rw [hL]; rfl)
theorem HX.rp_n (hL : ∀ st pe, L st pe = A.loop N E0 ps assign body st pe l) (hr : Rpl (L .busy none) (L .ready none) H H') (h : ∀ w', Mm w0 H' w' → R true w') :
    HX N [] .normal (RP N E0 ps assign body l R) E w0 H := fun w hM => by
  have hp := hM.all _ hr.mem
  refine WX.rp_n (by rw [hL] at hp; exact hp) (fun w' u hl => h w' ?_)
  exact hM.upd1 hr (by rw [hL]; rfl) u (by rw [hL]; exact hl) (by rw [hL]; rfl)
theorem Yld.ofH {args : List Value} (hL : ∀ st pe, L st pe = A.loop N E0 ps assign body st pe l) (hm : L .ready none ∈ H) (hlen : args.length = ps.length) (hps : (ps.all (Nat.blt · N)) = true)
    (h : HC P (some l) N [] assign (RA P N E0 ps assign body l R) (putAll (ps.zip args) E0) w0 H) : ∀ w, Mm w0 H w → Yld P l args w R := fun w hM => by
  have hp := hM.all _ hm
  exact Yld.of (by rw [hL] at hp; exact hp) hlen hps (h w hM)
theorem H1.yield {α : Type} {d : Option Nat} {x : Operand} {args : List Operand} {ats : Array TypeId} {ty : TypeId} {pos : String} {af : Array Edge} {vs : List Value} {Hz : α → List Atom} {I : α → Prop}
    (hd : dOk d N = true) (hx : Env.ev E x = some (.func (.yield l) #[] #[])) (ha : Env.evs E args = some vs) (hc : ∀ w, Mm w0 H w → Yld P l vs w fun b w' => b = true ∧ ∃ z, I z ∧ Mm w0 (Hz z) w')
    (h : ∀ z, I z → HN N ds next (putE d (.bool true) E) w0 (Hz z)) : H1 P r N ds next ⟨d, .call ⟨.value x, args.toArray, ats⟩, ty, pos, af, g⟩ Q E w0 H := fun w hM =>
  W1.yield hd hx ha (hc w hM) fun b w' ⟨hb, z, hz, hM'⟩ => by subst hb; exact h z hz w' hM'
theorem HC.rangeFunc {α : Type} {x : Operand} {gf : FuncId} {lb : List Value} [hcf : CallOk P gf] (Hz : α → List Atom) (I : α → Prop) (hg : Env.ev E x = some (.func (.func gf) #[] lb.toArray))
    (h : ∀ D l (L : LoopState → Option Code → Atom), (∀ st pe, L st pe = A.loop N E ps assign body st pe l) → ∀ w1, Mm w0 (L .ready none :: A.dfr D :: H) w1 →
      Fn P gf (.func (.yield l) #[] #[] :: lb).toArray w1 fun _ w2 => ∃ z, I z ∧ Mm w0 (L .ready none :: A.dfr D :: Hz z) w2)
    (h2 : ∀ D z, I z → HX N (markOf D :: ds) .normal Q E w0 (A.dfr D :: Hz z)) : HC P none N ds (.rangeFunc x ps.toArray assign body) Q E w0 H := fun w hM => by
  refine WC.rangeFunc' hg ?_
  intro w1 D l L hL hD hl hs hx hr hd
  have hM1 : Mm w0 (A.loop N E ps assign body .ready none l :: A.dfr D :: H) w1 := by
    have h0 := hM.ext.size
    have hA : Mm w0 (A.dfr D :: H) w1 := (hM.more hx).cons ⟨_, hd, rfl⟩ (by simp [A.dfr, A.obj]) fun b hb => by
      have hb' : b = D := by simpa [A.dfr, A.obj] using hb
      subst hb'
      exact ⟨fun hm => by have := (hM.rng _ hm).2; omega, by omega, by omega⟩
    refine hA.cons ((hL _ _ _).1 hr) (by simp [A.loop]) fun b hb => ?_
    have hb' : b = l := by simpa [A.loop] using hb
    subst hb'
    refine ⟨fun hm => ?_, by omega, by omega⟩
    rw [fps_cons] at hm
    rcases List.mem_append.1 hm with hm | hm
    · have : b = D := by simpa [A.dfr, A.obj] using hm
      omega
    · have := (hM.rng _ hm).2; omega
  refine (h D l (fun st pe => A.loop N E ps assign body st pe l) (fun _ _ => rfl) w1 hM1).mono ?_
  rintro v w2 ⟨z, hz, hM2⟩
  have hlp : LoopAt N E ps assign body .ready none l w2 := hM2.all _ (List.Mem.head _)
  exact .inl ⟨(hL _ _ _).2 hlp, fun w3 u => h2 D z hz w3 (hM2.drop1 rfl u)⟩
/- a function that holds such a loop -/
theorem enterMH {f : FuncId} {fn : Func} {c : Code} {l : List Value} {R : Value → World → Prop} {w : World} [hf : FnIs P f fn] (hb : fn.body = some c) (hN : fn.ntmps = N) (hl : Nat.ble l.length N = true)
    (h : HC P none N [] c (bodyPostM Fence.wide 0 P fn (RetP R)) (Env.of 0 l) w []) : Fn P f l.toArray w R := enterM hb hN hl (h w (Mm.refl w))
theorem HX.retM0_2 {fn : Func} {t u : Nat} {v v' : Value} {R : Value → World → Prop} (hr : fn.results = #[.tmp t, .tmp u]) (hv : Env.g E t = some v) (hv' : Env.g E u = some v') (h : ∀ w, Mm w0 H w → R (.tuple #[v, v']) w) :
    HX N [] .ret (bodyPostM Fence.wide 0 P fn (RetP R)) E w0 H := fun w hM => WX.retM0_2 hr hv hv' (h w hM)
theorem HX.retM2 {fn : Func} {t u D : Nat} {v v' : Value} {R : Value → World → Prop} (hr : fn.results = #[.tmp t, .tmp u]) (hv : Env.g E t = some v) (hv' : Env.g E u = some v') (hm : Pick (A.dfr D) H H') (h : ∀ w, Mm w0 H' w → R (.tuple #[v, v']) w) :
    HX N [markOf D] .ret (bodyPostM Fence.wide 0 P fn (RetP R)) E w0 H := fun w hM => by
  have hp := hM.perm hm.perm
  obtain ⟨o, h1, rfl⟩ : ∃ o, w.heap[D]? = some o ∧ o = .deferred (some []) := hp.all (A.dfr D) (List.Mem.head _)
  exact WX.retM2 hr hv hv' h1 fun w' u => h w' (hp.drop1 rfl u)
end
end Go.Sx

