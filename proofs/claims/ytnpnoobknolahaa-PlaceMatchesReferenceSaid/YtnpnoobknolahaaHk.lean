/-
  The layer with atoms: in open orders, loads of cells that stay as they are may go first, under a guard too.
-/
import Derived.Test.YtnpnoobknolahaaHj
namespace Go.Sx
open Go Go.RowKit
section
variable {P : Program} {ops : Array Oper} {Q : Post} {C : World → Prop}
theorem op_swap_g {j : Nat} {oi oj : Oper} {t : TypeId} {x : Operand} {v : Value} (ho : oi.op = .load t x) (hx : ∀ d, oi.dst = some d → x ≠ .tmp d) (hl' : ∀ d, oi.dst = some d → d ∉ oi.looksAt ops) (hj : ops[j]? = some oj) (hap : oi.apart ops oj = true) (hsj : ∀ cs b, oj.op ≠ .select cs b)
    (hQ : ∀ c a w, Q (.panic c) (a.put oi.dst v) w → Q (.panic c) a w) {K : Act → World → Prop} {a : Act} {w : World} (hu : a.eval x ≠ undef) (hw : Region.wanted oi (yielded ops a.tmps) = true) (h : wpOpIn (FW none) 0 P ops Q j K (a.put oi.dst v) w) :
    wpOpIn (FW none) 0 P ops Q j (fun a' w' => (a'.eval x = a.eval x ∧ Region.wanted oi (yielded ops a'.tmps) = true) ∧ K (a'.put oi.dst v) w') a w := by
  have hl : oi.looksAt ops = (⟨none, .move x, oi.type, oi.pos, #[], oi.guard⟩ : Oper).looksAt ops := by simp [Oper.looksAt, ho, Op.operands]
  obtain ⟨h0, h1⟩ := apart_parts hap
  have hev : ∀ a' : Act, (a'.put oi.dst v).eval x = a'.eval x := fun a' => Act.eval_put hx
  have hwp : ∀ a' : Act, Region.wanted oi (yielded ops (a'.put oi.dst v).tmps) = Region.wanted oi (yielded ops a'.tmps) := fun a' => wanted_put oi a' oi.dst v hl'
  have s1 := wpOpIn_put (F := FW none) (n := 0) (P := P) (ops := ops) (Q := Q) (oi := ⟨none, .move x, oi.type, oi.pos, #[], oi.guard⟩) (v := a.eval x) rfl hj (h0 _ rfl hl.symm) (fun _ _ e => by cases e) hsj (fun _ _ _ h => h) (a := a.put oi.dst v) (w := w) (K := K)
    ⟨.inl ⟨(hwp a).trans hw, fun w => by show Result.ok (Next.value ((a.put oi.dst v).eval x)) w = _; rw [hev]⟩, fun _ => rfl⟩ h
  have s2 := wpOpIn_put (F := FW none) (n := 0) (P := P) (ops := ops) (Q := Q) (oi := ⟨oi.dst, .move (.const v), oi.type, oi.pos, #[], none⟩) (v := v) rfl hj (h1 _ rfl (by simp [Oper.looksAt, Op.operands])) (fun _ _ e => by cases e) hsj hQ (a := a) (w := w)
    ⟨.inl ⟨rfl, fun w => rfl⟩, fun _ => rfl⟩ s1
  refine wpOpIn_mono (fun a' w' h3 => ⟨?_, h3.2.2⟩) s2
  rcases h3.2.1.1 with ⟨h4w, h4⟩ | ⟨-, h4⟩
  · have h5 := h4 w'
    have h6 : Result.ok (Next.value ((a'.put oi.dst v).eval x)) w' = Result.ok (Next.value (a.eval x)) w' := h5
    rw [hev] at h6
    injection h6 with h7
    injection h7 with h7
    exact ⟨h7, (hwp a').symm.trans h4w⟩
  · exact absurd h4 hu
theorem anyC_load_g {i : Nat} {oi : Oper} {t : TypeId} {x : Operand} {v : Value} {fuel : Nat} {listed : Array Bool} {a : Act} {w : World} (ho : oi.op = .load t x) (hx : ∀ d, oi.dst = some d → x ≠ .tmp d) (hl' : ∀ d, oi.dst = some d → d ∉ oi.looksAt ops) (hi : ops[i]? = some oi) (hs : Region.noSelect ops = true)
    (hf : Region.free .any ops listed i = true) (hr : (Region.ready .any ops listed).contains i = true) (hQ : ∀ c a w, Q (.panic c) (a.put oi.dst v) w → Q (.panic c) a w) (hu : a.eval x ≠ undef) (hw : Region.wanted oi (yielded ops a.tmps) = true)
    (hrun : ∀ a' : Act, a'.eval x = a.eval x → ∀ w, C w → (execOp a'.eval oi).run P w = .ok (.value v) w) (h : AnyC C P ops Q fuel (listed.setIfInBounds i true) (a.put oi.dst v) w) : AnyC C P ops Q (fuel + 1) listed a w := by
  refine anyC_first (fun a' => a'.eval x = a.eval x ∧ Region.wanted oi (yielded ops a'.tmps) = true) (fun {K a' w'} hy hC hk => ?_) (fun hj hap hy h => ?_) fuel listed a w (Region.free_spec hi hf) (by simpa using hr) ⟨rfl, hw⟩ h
  · unfold wpOpIn
    rw [hi]
    dsimp only
    rw [if_pos hy.2]
    refine ⟨fun _ _ => trivial, ?_⟩
    rw [semAt_of (by rw [ho]; rfl), hrun a' hy.1 w' hC]
    exact hk
  · refine wpOpIn_mono (fun a'' w'' h3 => ⟨⟨h3.1.1.trans hy.1, h3.1.2⟩, h3.2⟩) (op_swap_g ho hx hl' hj hap (fun cs b => Region.noSelect_spec hs _ _ cs b hj) hQ (by rw [hy.1]; exact hu) hy.2 h)
end
section
variable {P : Program} {N : Nat} {ds : List Deferred} {ol : List Oper} {Q : Post} {E : Env} {w0 : World} {H : List Atom} {fuel : Nat} {listed : Array Bool} {ty : TypeId} {pos : String} {af : Array Edge} {l : List (Addr × Value)}
theorem HB.ldg [hq : QPanic Q] {d : Nat} {t : TypeId} {x : Operand} {ad : Addr} {v : Value} {j : Nat} {want b : Bool} [hat : ATy P t false] (i : Nat) (ho : ol[i]? = some ⟨some d, .load t x, ty, pos, af, some (j, want)⟩) (hj : guardE ol E j = some b) (hx : Env.ev E x = some (.pointer (some ad))) (hc : (ad, v) ∈ l)
    (h : HB l P N ds ol fuel (listed.setIfInBounds i true) Q ((d, v) :: E) w0 H)
    (hb : b = want := by
      first | with_reducible rfl | assumption | (simp only [Bool.not_true, Bool.not_false]; done) | (simp only [decide_eq_true_eq, decide_eq_false_iff_not, Bool.not_true, Bool.not_false, not_true_eq_false, not_false_eq_true, reduceCtorEq]; first | done | assumption | omega))
    (hne : (match x with | .tmp t => !(Nat.beq t d) | _ => true) = true := by exact rfl)
    (hla : ((⟨some d, .load t x, ty, pos, af, some (j, want)⟩ : Oper).looksAt ol.toArray).contains d = false := by kernel_rfl)
    (hs : (Region.noSelect ol.toArray && Region.free .any ol.toArray listed i && (Region.ready .any ol.toArray listed).contains i) = true := by kernel_rfl)
    (hd : Nat.blt d N = true := by exact rfl) : HB l P N ds ol (fuel + 1) listed Q E w0 H := fun w hM a ha => by
  simp only [Bool.and_eq_true] at hs
  have ho' : ol.toArray[i]? = some ⟨some d, .load t x, ty, pos, af, some (j, want)⟩ := by simpa using ho
  have hy := guardE_spec hj ha
  refine anyC_load_g (t := t) (x := x) rfl (fun d' hd' e => ?_) (fun d' hd' hm => ?_) ho' hs.1.1 hs.1.2 hs.2 (fun c a w => hq.is c a _ _ w) (by rw [ha.ev hx]; intro h; cases h) (by simp only [Region.wanted, hy, hb, beq_self_eq_true]) (fun a' ha' w' hC => ?_) (h w hM _ (ha.put hd v))
  · cases hd'; subst e; simp at hne
  · cases hd'
    rw [List.contains_eq_mem, decide_eq_false_iff_not] at hla
    exact hla hm
  · have h1 : a'.eval x = .pointer (some ad) := ha'.trans (ha.ev hx)
    have h2 := hC _ hc
    simp only [execOp, h1, Instr.loadAt, Instr.sureAddr, loadVar, Sem.run_bind, Sem.run_pure]
    simp [run_isAgg, h2]
theorem HB.ldAg [hq : QPanic Q] {d : Nat} {t : TypeId} {x : Operand} {bb : Nat} {vs : List Value} {z : Value} {n sz : Nat} {j : Nat} {want b : Bool} [hat : ATy P t true] [hit : ITy P t z n sz] (i : Nat) (ho : ol[i]? = some ⟨some d, .load t x, ty, pos, af, some (j, want)⟩) (hj : guardE ol E j = some b) (hx : Env.ev E x = some (.pointer (some ⟨bb, 0, none⟩))) (hn : vs.length = n)
    (hc : ∀ i v, vs[i]? = some v → ((⟨bb, i, none⟩ : Addr), v) ∈ l)
    (h : HB l P N ds ol fuel (listed.setIfInBounds i true) Q ((d, .agg vs.toArray) :: E) w0 H)
    (hb : b = want := by
      first | with_reducible rfl | assumption | (simp only [Bool.not_true, Bool.not_false]; done) | (simp only [decide_eq_true_eq, decide_eq_false_iff_not, Bool.not_true, Bool.not_false, not_true_eq_false, not_false_eq_true, reduceCtorEq]; first | done | assumption | omega))
    (hne : (match x with | .tmp t => !(Nat.beq t d) | _ => true) = true := by exact rfl)
    (hla : ((⟨some d, .load t x, ty, pos, af, some (j, want)⟩ : Oper).looksAt ol.toArray).contains d = false := by kernel_rfl)
    (hs : (Region.noSelect ol.toArray && Region.free .any ol.toArray listed i && (Region.ready .any ol.toArray listed).contains i) = true := by kernel_rfl)
    (hd : Nat.blt d N = true := by exact rfl) : HB l P N ds ol (fuel + 1) listed Q E w0 H := fun w hM a ha => by
  simp only [Bool.and_eq_true] at hs
  have ho' : ol.toArray[i]? = some ⟨some d, .load t x, ty, pos, af, some (j, want)⟩ := by simpa using ho
  have hy := guardE_spec hj ha
  refine anyC_load_g (t := t) (x := x) rfl (fun d' hd' e => ?_) (fun d' hd' hm => ?_) ho' hs.1.1 hs.1.2 hs.2 (fun c a w => hq.is c a _ _ w) (by rw [ha.ev hx]; intro h; cases h) (by simp only [Region.wanted, hy, hb, beq_self_eq_true]) (fun a' ha' w' hC => ?_) (h w hM _ (ha.put hd (.agg vs.toArray)))
  · cases hd'; subst e; simp at hne
  · cases hd'
    rw [List.contains_eq_mem, decide_eq_false_iff_not] at hla
    exact hla hm
  · have h1 : a'.eval x = .pointer (some ⟨bb, 0, none⟩) := ha'.trans (ha.ev hx)
    have h2 : ∀ i v, vs[i]? = some v → w'.cell? ⟨bb, 0 + i, none⟩ = some v := fun i v hv => by rw [Nat.zero_add]; exact hC _ (hc i v hv)
    simp only [execOp, h1, Instr.loadAt, Instr.sureAddr, loadVar, Sem.run_bind, Sem.run_pure]
    simp [run_isAgg, run_sizeOf, loadCells, run_loadCellsFrom P w' bb 0 vs h2 n 0 #[] (by omega), Result.andThen, Sem.run_bind]
end
end Go.Sx

