/- Chapter 21: the law KnownCorrected: plain, and what its walk needs. -/
import Derived.Test.YtldhccgelcmjoaaGreatV5
namespace Go.Sx
open Go Go.Proofs Go.RowKit
def corT : ByteArray := ByteArray.mk #[99, 111, 114, 114, 101, 99, 116, 101, 100]
/-- A record, corrected. -/
def corR (s : Rc) (d : Int) (g : Bool) : Rc := ⟨s.kind, s.id, 9, d, g, s.start, s.stop, s.pack, s.person, s.role, s.purpose, s.clause, s.adm, s.party, corT⟩
theorem cor_get (s : Rc) (d : Int) (g : Bool) : ∀ i, (corR s d g).get i = s.get i
  | 0 | 1 | 2 | 3 | 4 | 5 | 6 | 7 | 8 | 9 => rfl
  | _ + 10 => rfl
theorem cor_key (s : Rc) (d : Int) (g : Bool) : keyR (corR s d g) = keyR s := by
  unfold keyR
  rw [cor_get]
  rfl
theorem cor_valid {s : Rc} (h : ValidR s) {d : Int} (hd : 0 ≤ d ∧ d ≤ 100000) (g : Bool) : ValidR (corR s d g) :=
  ⟨h.kind, of_decide_eq_true rfl, hd, of_decide_eq_true rfl, h.rest, fun p hp => by rw [cor_get]; exact h.lim p hp, fun i hi hm => by rw [cor_get]; exact h.zero i hi hm⟩
theorem cor_cells (s : Rc) (d : Int) (g : Bool) : ((((rcells s).set 2 (zv 9)).set 3 (zv d)).set 4 (.bool g)).set 14 (.string (ByteArray.mk #[99, 111, 114, 114, 101, 99, 116, 101, 100])) = rcells (corR s d g) := rfl
/-- Behind a correction: it, and what has another key. -/
theorem top_cor {l : List Rc} {s : Rc} {d day : Int} {g : Bool} (hl : ∀ t ∈ l, SomeOk t) (hs : s ∈ l) (hd : 0 ≤ d ∧ d ≤ 100000) (hday : d ≤ day) (t : Rc) :
    Top (l ++ [corR s d g]) day t ↔ t = corR s d g ∨ (Top l day t ∧ keyR t ≠ keyR (corR s d g)) := by
  have hv := cor_valid (hl s hs).valid hd g
  have hp : ∀ t ∈ l, keyR t = keyR (corR s d g) → Prev (corR s d g) t := fun t ht e =>
    ⟨⟨hv, (hl t ht).valid, e.symm⟩, .inl (by have := (hl t ht).ver; show t.version < 9; omega)⟩
  constructor
  · intro h
    rcases List.mem_append.1 h.mem with hm | hm
    · refine .inr ⟨⟨hm, h.now, fun u hu => h.top u (List.mem_append_left _ hu)⟩, fun e => ?_⟩
      exact h.top _ (List.mem_append_right _ (List.mem_singleton.2 rfl)) hday (hp t hm e)
    · exact .inl (List.mem_singleton.1 hm)
  · rintro (rfl | ⟨h, hk⟩)
    · refine ⟨List.mem_append_right _ (List.mem_singleton.2 rfl), ⟨hv, hday⟩, fun u hu _ hpr => ?_⟩
      rcases List.mem_append.1 hu with hm | hm
      · exact prev_irr _ (prev_trans hpr (hp u hm hpr.1.2.2))
      · rw [List.mem_singleton.1 hm] at hpr
        exact prev_irr _ hpr
    · exact top_snoc h fun e => hk e.2.1.2.2.symm
/-- How often a record stands among the first of a list. -/
noncomputable def cM (L : List Rc) (j : Nat) (r : Rc) : Int := b01 (inB (L.take j) r)
def cN (r : Rc) (i : Nat) : Int := if r.gone = false ∧ r.kind ≤ i then 1 else 0
theorem cM_lim (L : List Rc) (j : Nat) (r : Rc) : 0 ≤ cM L j r ∧ cM L j r ≤ 1 := by
  unfold cM
  cases inB (L.take j) r <;> decide
theorem cN_lim (r : Rc) (i : Nat) : 0 ≤ cN r i ∧ cN r i ≤ 1 := by
  unfold cN
  split <;> decide
theorem cM_zero (L : List Rc) (r : Rc) : cM L 0 r = 0 := by
  unfold cM
  rw [inB_no (by simp)]
  rfl
theorem asK.nodup {L : List Rc} (h : asK L) : L.Nodup := List.Pairwise.imp (fun {a b} hab e => by rw [e] at hab; exact absurd hab (by omega)) h
theorem take_snoc {L : List Rc} {j : Nat} {x : Rc} (hx : L[j]? = some x) : L.take (j + 1) = L.take j ++ [x] := by rw [List.take_add_one, hx]; rfl
theorem cM_yes {L : List Rc} (hL : asK L) {j : Nat} {r : Rc} (hx : L[j]? = some r) : cM L (j + 1) r = cM L j r + 1 := by
  have h1 : (L.take (j + 1)).Nodup := hL.nodup.sublist (List.take_sublist ..)
  rw [take_snoc hx, List.nodup_append] at h1
  have h2 : r ∉ L.take j := fun h => h1.2.2 r h r (List.mem_singleton.2 rfl) rfl
  unfold cM
  rw [take_snoc hx, inB_no h2, inB_yes (List.mem_append_right _ (List.mem_singleton.2 rfl))]
  rfl
theorem cM_no {L : List Rc} {j : Nat} {r x : Rc} (hx : L[j]? = some x) (h : x ≠ r) : cM L (j + 1) r = cM L j r := by
  unfold cM
  have e : inB (L.take (j + 1)) r = inB (L.take j) r := by
    rw [Bool.eq_iff_iff, inB_iff, inB_iff, take_snoc hx, List.mem_append, List.mem_singleton]
    exact ⟨fun h' => h'.resolve_right fun e => h e.symm, .inl⟩
  rw [e]
theorem cN_step {L : List Rc} {r : Rc} {i : Nat} (h : r ∈ L ↔ r.gone = false ∧ r.kind = (i : Int) + 1) : cN r i + cM L L.length r = cN r (i + 1) := by
  unfold cM
  rw [List.take_length]
  by_cases hm : r ∈ L
  · have h1 := h.1 hm
    rw [inB_yes hm, cN, cN, if_neg (fun e => by have := e.2; omega), if_pos ⟨h1.1, by omega⟩]
    rfl
  · rw [inB_no hm, cN, cN]
    by_cases h0 : r.gone = false
    · have h1 : r.kind ≠ (i : Int) + 1 := fun e => hm (h.2 ⟨h0, e⟩)
      by_cases h2 : r.kind ≤ i
      · rw [if_pos ⟨h0, h2⟩, if_pos ⟨h0, by omega⟩]
        rfl
      · rw [if_neg (fun e => h2 e.2), if_neg (fun e => by have := e.2; omega)]
        rfl
    · rw [if_neg (fun e => h0 e.1), if_neg (fun e => h0 e.1)]
      rfl
theorem cN_last {r : Rc} (h : 1 ≤ r.kind ∧ r.kind ≤ 8) : cN r 8 = b01 (!r.gone) := by
  unfold cN
  cases hg : r.gone with
  | true => rw [if_neg (fun e => by cases e.1)]; rfl
  | false => rw [if_pos ⟨rfl, h.2⟩]; rfl
/-- What is asked of the lists behind a correction. -/
structure CorL (r : Rc) (i : Nat) (LA LB : List Rc) : Prop where
  own : r ∈ LB ↔ r.gone = false ∧ r.kind = (i : Int) + 1
  fresh : ∀ x ∈ LB, x ≠ r → x ∈ LA ∧ keyS x ≠ keyS r
  old : ∀ y ∈ LA, keyS y ≠ keyS r → y ∈ LB
theorem cor_lists {l : List Rc} {s : Rc} {d day : Int} {g : Bool} (hl : ∀ t ∈ l, SomeOk t) (hs : s ∈ l) (hd : 0 ≤ d ∧ d ≤ 100000) (hday : d ≤ day) {i : Nat} {LA LB : List Rc} (hA : IsOf l day ((i : Int) + 1) LA) (hB : IsOf (l ++ [corR s d g]) day ((i : Int) + 1) LB) :
    CorL (corR s d g) i LA LB := by
  have hv := cor_valid (hl s hs).valid hd g
  refine ⟨?_, fun x hx hne => ?_, fun y hy hk => ?_⟩
  · rw [hB.mem, top_cor hl hs hd hday]
    exact ⟨fun h => ⟨h.1.2, h.2⟩, fun h => ⟨⟨.inl rfl, h.1⟩, h.2⟩⟩
  · obtain ⟨⟨h1, h2⟩, h3⟩ := (hB.mem x).1 hx
    rw [top_cor hl hs hd hday] at h1
    obtain ⟨h4, h5⟩ := h1.resolve_left hne
    exact ⟨(hA.mem x).2 ⟨⟨h4, h2⟩, h3⟩, fun e => h5 ((keyS_inj h4.now.1 hv).1 e)⟩
  · obtain ⟨⟨h1, h2⟩, h3⟩ := (hA.mem y).1 hy
    exact (hB.mem y).2 ⟨⟨(top_cor hl hs hd hday y).2 (.inr ⟨h1, fun e => hk ((keyS_inj h1.now.1 hv).2 e)⟩), h2⟩, h3⟩
theorem cor_late {l : List Rc} {s : Rc} {d day : Int} {g : Bool} (hday : ¬ d ≤ day) {A1 B1 : Nat → List Rc} (hA : ∀ i : Nat, i < 8 → IsOf l day ((i : Int) + 1) (A1 i)) (hB : ∀ i : Nat, i < 8 → IsOf (l ++ [corR s d g]) day ((i : Int) + 1) (B1 i)) : EqB A1 B1 := fun i hi =>
  (hA i hi).uniq (hB i hi) fun r _ _ => top_same (fun t ht => ⟨List.mem_append_left _, fun h => by
    rcases List.mem_append.1 h with h | h
    · exact h
    · rw [List.mem_singleton.1 h] at ht
      exact absurd ht hday⟩) r
theorem IsOf.ok {l : List Rc} {day k : Int} {L : List Rc} (h : IsOf l day k L) {r : Rc} (hr : r ∈ L) : RcOk r := RcOk.of_valid ((h.mem r).1 hr).1.1.now.1
theorem row_slot {q : Nat → Slot} {k b : Nat} (hk : k < 8) (e : (q k).1 = some ⟨b, 0, none⟩) : (row 8 fun i => slot (q i))[k]? = some (.slice (some ⟨b, 0, none⟩) (bsL q k).length (q k).2.1) := by
  rw [row_get _ hk, ← e]
  rfl
theorem POp.beqC {P : Program} {N : Nat} {ds : List Deferred} {E : Env} {t t' ty : TypeId} {x y : Operand} {b c : Bool} [UTy P t .bool] (hx : Env.ev E x = some (.bool b)) (hy : Env.ev E y = some (.bool c)) (h : b = c) : POp P N ds E (.binOp .eql t x y t') ty (.bool true) := by
  subst h
  have e : (b == b) = true := by cases b <;> rfl
  rw [← e]; exact POp.beql hx hy
/-- The cells of a block from its beginning on. -/
def cellsB (b : Nat) (vs : List Value) : List (Addr × Value) := vs.zipIdx.map fun p => (⟨b, p.2, none⟩, p.1)
theorem cellsB_mem {b : Nat} {vs : List Value} {i : Nat} {v : Value} (h : vs[i]? = some v) : ((⟨b, i, none⟩ : Addr), v) ∈ cellsB b vs := List.mem_map.2 ⟨(v, i), List.mk_mem_zipIdx_iff_getElem?.2 h, rfl⟩
theorem Keep.blkB {l : List (Addr × Value)} {w0 : World} {H : List Atom} {b : Nat} {vs : List Value} {e : TypeId} (hm : A.blk b vs e ∈ H) (h : Keep l w0 H) : Keep (cellsB b vs ++ l) w0 H := fun w hM p hp => by
  rcases List.mem_append.1 hp with hp | hp
  · obtain ⟨⟨v, i⟩, h1, rfl⟩ := List.mem_map.1 hp
    exact (hM.blk hm).cell (List.mk_mem_zipIdx_iff_getElem?.1 h1)
  · exact h w hM p hp
theorem cellsBL {b : Nat} {vs : List Value} {l : List (Addr × Value)} {p : Addr × Value} (h : p ∈ cellsB b vs) : p ∈ cellsB b vs ++ l := List.mem_append_left _ h
theorem cellsBR {b : Nat} {vs : List Value} {l : List (Addr × Value)} {p : Addr × Value} (h : p ∈ l) : p ∈ cellsB b vs ++ l := List.mem_append_right _ h
section
variable {P : Program} {N : Nat} {ds : List Deferred} {ol : List Oper} {Q : Post} {E : Env} {w0 : World} {H : List Atom} {fuel : Nat} {listed : Array Bool} {ty : TypeId} {pos : String} {af : Array Edge} {l : List (Addr × Value)}
theorem HB.ldB [hq : QPanic Q] {d : Nat} {t : TypeId} {x : Operand} {b : Nat} {vs : List Value} {z : Value} {n bb : Nat} [hat : ATy P t true] [hit : ITy P t z n bb] (i : Nat) (ho : ol[i]? = some ⟨some d, .load t x, ty, pos, af, none⟩) (hx : Env.ev E x = some (.pointer (some ⟨b, 0, none⟩))) (hn : vs.length = n)
    (hc : ∀ i v, vs[i]? = some v → ((⟨b, i, none⟩ : Addr), v) ∈ l)
    (h : HB l P N ds ol fuel (listed.setIfInBounds i true) Q ((d, .agg vs.toArray) :: E) w0 H)
    (hne : (match x with | .tmp t => !(Nat.beq t d) | _ => true) = true := by exact rfl)
    (hs : (Region.noSelect ol.toArray && Region.free .any ol.toArray listed i && (Region.ready .any ol.toArray listed).contains i) = true := by kernel_rfl)
    (hd : Nat.blt d N = true := by exact rfl) : HB l P N ds ol (fuel + 1) listed Q E w0 H := fun w hM a ha => by
  simp only [Bool.and_eq_true] at hs
  have ho' : ol.toArray[i]? = some ⟨some d, .load t x, ty, pos, af, none⟩ := by simpa using ho
  refine anyC_load (t := t) (x := x) rfl rfl (fun d' hd' e => ?_) ho' hs.1.1 hs.1.2 hs.2 (fun c a w => hq.is c a _ _ w) (fun a' ha' w' hC => ?_) (h w hM _ (ha.put hd (.agg vs.toArray)))
  · cases hd'; subst e; simp at hne
  · have h1 : a'.eval x = .pointer (some ⟨b, 0, none⟩) := ha'.trans (ha.ev hx)
    have h2 : ∀ i v, vs[i]? = some v → w'.cell? ⟨b, 0 + i, none⟩ = some v := fun i v hv => by rw [Nat.zero_add]; exact hC _ (hc i v hv)
    simp only [execOp, h1, Instr.loadAt, Instr.sureAddr, loadVar, Sem.run_bind, Sem.run_pure]
    simp [run_isAgg, run_sizeOf, loadCells, run_loadCellsFrom P w' b 0 vs h2 n 0 #[] (by omega), Result.andThen, Sem.run_bind]
end
/-- The lists of a base. -/
abbrev IsBase (l : List Rc) (day : Int) (q : Nat → Slot) : Prop := ∀ i : Nat, i < 8 → IsOf l day ((i : Int) + 1) (bsL q i)
section
variable {P : Program} {r : Option Nat} {N : Nat} {ds : List Deferred} {Q : Post} {E : Env} {w0 : World} {H : List Atom} {next : Act → World → Prop} {g : Option (Nat × Bool)} {d : Nat} {t ty : TypeId} {pos : String} {af : Array Edge} {x y : Operand}
/-- One record behind others. -/
theorem H1.appRec1 {e e' : TypeId} {z : Value} {bb c bs : Nat} {a : Option Addr} {l : List Rc} {rc : Rc} {H' : Option Addr → Nat → List Atom} [h : UTy P t (.slice e)] [hi : ITy P e z 15 bb] (hzs : z.cells.size = 15)
    (hx : Env.ev E x = some (.slice a l.length c)) (hy : Env.ev E y = some (.slice (some ⟨bs, 0, none⟩) 1 1)) (hr : ∀ a' c', Rpl (A.grow e 15 a c l.length (rcl l)) (A.grow e 15 a' c' (l ++ [rc]).length (rcl (l ++ [rc]))) H (H' a' c'))
    (hm : A.blk bs (rcells rc) e' ∈ H) (hnm : l.length ≤ 999999) (hb : bb ≤ 1000) (hd : Nat.blt d N = true)
    (hn : ∀ a' c', HN N ds next ((d, .slice a' (l ++ [rc]).length c') :: E) w0 (H' a' c')) :
    H1 P r N ds next ⟨some d, .call ⟨.builtin .append, #[x, y], #[t, t]⟩, ty, pos, af, g⟩ Q E w0 H :=
  H1.appRec (m := [rc]) hzs hx hy hr (fun w hM => RdR.of_blk (l := [rc]) (by rw [show rcl [rc] = rcells rc from List.append_nil _]; exact hM.blk hm)) (by simp only [List.length_singleton]; omega) hb hd hn
/-- A record of a base. -/
theorem H1.ldSlot {q : Nat → Slot} {k b j off n bb : Nat} {rc : Rc} {z : Value} [ha : ATy P t true] [hi : ITy P t z n bb] (hx : Env.ev E x = some (.pointer (some ⟨b, off, none⟩))) (hm : bsA q ∈ H) (hk : k < 8) (e : (q k).1 = some ⟨b, 0, none⟩) (hr : (bsL q k)[j]? = some rc) (hn : (rcells rc).length = n) (hd : Nat.blt d N = true)
    (h : HN N ds next ((d, recV rc) :: E) w0 H) (hoff : off = j * 15 := by first | rfl | exact Nat.zero_add _) : H1 P r N ds next ⟨some d, .load t x, ty, pos, af, g⟩ Q E w0 H := by
  subst hoff
  exact H1.ldAggw hx hn (fun w hM i v hv => hM.slotCell hm hk e hr i v hv) hd h
end
section
variable {N : Nat} {ds : List Deferred} {E : Env} {x y : Operand} {t' ty : TypeId}
theorem POp.eqYes {r s : Rc} (hx : Env.ev E x = some (recV r)) (hy : Env.ev E y = some (recV s)) (hr : RcOk r) (hs : RcOk s) (h : r = s) : POp Tryz.prog N ds E (.binOp .eql 24 x y t') ty (.bool true) := by
  have e := eqR_iff.2 h
  have h1 : POp Tryz.prog N ds E (.binOp .eql 24 x y t') ty (.bool (eqR r s)) := POp.eqRec hx hy hr hs
  rwa [e] at h1
theorem POp.eqNo {r s : Rc} (hx : Env.ev E x = some (recV r)) (hy : Env.ev E y = some (recV s)) (hr : RcOk r) (hs : RcOk s) (h : r ≠ s) : POp Tryz.prog N ds E (.binOp .eql 24 x y t') ty (.bool false) := by
  have e : eqR r s = false := by rw [← Bool.not_eq_true, eqR_iff]; exact h
  have h1 : POp Tryz.prog N ds E (.binOp .eql 24 x y t') ty (.bool (eqR r s)) := POp.eqRec hx hy hr hs
  rwa [e] at h1
theorem POp.seqNo {t : TypeId} {s u : ByteArray} [UTy Tryz.prog t .string] (hx : Env.ev E x = some (.string s)) (hy : Env.ev E y = some (.string u)) (h : s ≠ u) : POp Tryz.prog N ds E (.binOp .eql t x y t') ty (.bool false) := by
  rw [← decide_eq_false h]
  exact POp.seql hx hy
theorem POp.snYes {t : TypeId} {s u : ByteArray} [UTy Tryz.prog t .string] (hx : Env.ev E x = some (.string s)) (hy : Env.ev E y = some (.string u)) (h : s ≠ u) : POp Tryz.prog N ds E (.binOp .neq t x y t') ty (.bool true) := by
  have h1 : POp Tryz.prog N ds E (.binOp .neq t x y t') ty _ := POp.sneq hx hy
  simpa [h] using h1
theorem POp.snNo {t : TypeId} {s u : ByteArray} [UTy Tryz.prog t .string] (hx : Env.ev E x = some (.string s)) (hy : Env.ev E y = some (.string u)) (h : s = u) : POp Tryz.prog N ds E (.binOp .neq t x y t') ty (.bool false) := by
  have h1 : POp Tryz.prog N ds E (.binOp .neq t x y t') ty _ := POp.sneq hx hy
  simpa [h] using h1
end
attribute [local irreducible] WC WL WX POp Then Again Fn NX W1 WA WO QL RP RA Yld LoopAt HC HL HX HN H1 HA HO HQ HB HP A.blk A.grow A.rd A.obj A.mp AgainH CutH
attribute [local irreducible] A.dfr A.loop bsA
theorem Lists_q (q : Nat → Slot) (w : World) :
    Fn Tryz.prog 9 #[bsV q] w fun v w' => ∃ b : Nat, True ∧ v = .slice (some ⟨b, 0, none⟩) 8 8 ∧ Mm w [A.blk b (row 8 fun i => slot (q i)) 26] w' := by
  refine enterH (l := [_]) rfl Tryz.ntmps9 rfl ?_
  repeat' (first | apply HL.fold | apply HA.fold | apply HL.nil | apply HX.n_then | apply HC.seq | apply HC.region | refine HL.pa ?_ | refine HL.ga rfl ?_ | refine HL.na rfl ?_ | refine HL.nu rfl rfl ?_ | apply HC.block | apply HC.skip | apply HC.exit | apply HC.ret | apply HX.e_block | refine HX.e_other rfl ?_ | apply HX.e_then | apply HX.e_again | apply HX.n_block | apply HX.r_then | apply HX.r_block | apply HX.r_again | refine HC.cond_yes rfl ?_ | refine HC.cond_no rfl ?_ | refine HL.one (H1.ldb rfl memA rfl rfl ?_) | refine HC.cond rfl (fun hc => ?_) (fun hc => ?_) | refine HC.cond_b rfl (fun hc => ?_) (fun hc => ?_))
  refine HL.one (H1.boxAgg (cs := row 8 fun i => slot (q i)) rfl rfl (fun b1 => ?_))
  repeat' (first | apply HL.fold | apply HA.fold | apply HL.nil | apply HX.n_then | apply HC.seq | apply HC.region | refine HL.pa ?_ | refine HL.ga rfl ?_ | refine HL.na rfl ?_ | refine HL.nu rfl rfl ?_ | apply HC.block | apply HC.skip | apply HC.exit | apply HC.ret | apply HX.e_block | refine HX.e_other rfl ?_ | apply HX.e_then | apply HX.e_again | apply HX.n_block | apply HX.r_then | apply HX.r_block | apply HX.r_again | refine HC.cond_yes rfl ?_ | refine HC.cond_no rfl ?_ | refine HL.one (H1.ldb rfl memA rfl rfl ?_) | refine HC.cond rfl (fun hc => ?_) (fun hc => ?_) | refine HC.cond_b rfl (fun hc => ?_) (fun hc => ?_))
  refine HL.one (H1.lit (cs := row 8 fun i => slot (q i)) rfl rfl rfl rfl rfl rfl (fun b3 => ?_))
  repeat' (first | apply HL.fold | apply HA.fold | apply HL.nil | apply HX.n_then | apply HC.seq | apply HC.region | refine HL.pa ?_ | refine HL.ga rfl ?_ | refine HL.na rfl ?_ | refine HL.nu rfl rfl ?_ | apply HC.block | apply HC.skip | apply HC.exit | apply HC.ret | apply HX.e_block | refine HX.e_other rfl ?_ | apply HX.e_then | apply HX.e_again | apply HX.n_block | apply HX.r_then | apply HX.r_block | apply HX.r_again | refine HC.cond_yes rfl ?_ | refine HC.cond_no rfl ?_ | refine HL.one (H1.ldb rfl memA rfl rfl ?_) | refine HC.cond rfl (fun hc => ?_) (fun hc => ?_) | refine HC.cond_b rfl (fun hc => ?_) (fun hc => ?_))
  exact HX.ret1 rfl rfl fun w' hM => ⟨b3, trivial, rfl, hM.sub (by repeat (first | exact Hs.nil _ | (refine Hs.cons pickA ?_)))⟩
end Go.Sx

