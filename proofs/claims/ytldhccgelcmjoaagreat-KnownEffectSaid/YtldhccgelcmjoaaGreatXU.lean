/- Chapter 21: numbers, sorted, each once: slices.Sort, slices.Compact; a range over those that satisfy a condition. -/
import Derived.Test.YtldhccgelcmjoaaGreatXT
import Derived.Test.YtldhccgelcmjoaaGreatHr
import Derived.Test.YtldhccgelcmjoaaGreatHc
import Derived.Test.YtldhccgelcmjoaaGreatShelf
namespace Go.Sx
open Go Go.Proofs Go.RowKit
def srtI (l : List Int) : List Int := l.mergeSort fun x y => decide (x ≤ y)
theorem srtI_perm (l : List Int) : (srtI l).Perm l := List.mergeSort_perm _ _
theorem srtI_len (l : List Int) : (srtI l).length = l.length := (srtI_perm l).length_eq
theorem srtI_pw (l : List Int) : (srtI l).Pairwise (· ≤ ·) := by
  have := List.pairwise_mergeSort (le := fun x y : Int => decide (x ≤ y)) (by intro a b c; simp only [decide_eq_true_eq]; omega) (by intro a b; simp only [Bool.or_eq_true, decide_eq_true_eq]; omega) l
  exact this.imp fun h => by simpa using h
/-- The numbers, ascending, each once. -/
def numL (l : List Int) : List Int := Lib.compact (srtI l)
theorem compact_mem {m : List Int} (x : Int) : x ∈ Lib.compact m ↔ x ∈ m := by
  unfold Lib.compact Lib.compactUpTo
  rw [List.mem_map]
  constructor
  · rintro ⟨j, hj, rfl⟩
    have hlt := List.mem_range.1 (List.mem_filter.1 hj).1
    simp [hlt]
  · intro h
    obtain ⟨i, hi, hx⟩ := List.getElem_of_mem h
    suffices H : ∀ n i (hi : i < m.length), i ≤ n → m[i] = x → ∃ j, j ∈ (List.range m.length).filter (Lib.keeps m.toArray) ∧ m.toArray[j]! = x from H i i hi (Nat.le_refl _) hx
    intro n
    induction n with
    | zero =>
      intro i hi h0 hx
      obtain rfl : i = 0 := by omega
      exact ⟨0, List.mem_filter.2 ⟨List.mem_range.2 hi, by unfold Lib.keeps; simp⟩, by simp [hi, hx]⟩
    | succ n ih =>
      intro i hi hn hx
      by_cases hk : Lib.keeps m.toArray i = true
      · exact ⟨i, List.mem_filter.2 ⟨List.mem_range.2 hi, hk⟩, by simp [hi, hx]⟩
      · unfold Lib.keeps at hk
        rw [decide_eq_true_eq, not_or, Decidable.not_not] at hk
        have hi1 : i - 1 < m.length := by omega
        refine ih (i - 1) hi1 (by omega) ?_
        have := hk.2
        simp [hi, hi1] at this
        rw [← this]; exact hx
theorem compact_lt {m : List Int} (h : m.Pairwise (· ≤ ·)) : (Lib.compact m).Pairwise (· < ·) := by
  unfold Lib.compact Lib.compactUpTo
  rw [List.pairwise_map]
  refine ((List.pairwise_lt_range (n := m.length)).filter (Lib.keeps m.toArray)).imp_of_mem fun {i j} hi hj hij => ?_
  have hi1 := List.mem_range.1 (List.mem_filter.1 hi).1
  have hj1 := List.mem_filter.1 hj
  have hj2 := List.mem_range.1 hj1.1
  have hk := hj1.2
  unfold Lib.keeps at hk
  rw [decide_eq_true_eq] at hk
  have hj3 : j - 1 < m.length := by omega
  have hne : m[j] ≠ m[j - 1] := by
    rcases hk with hk | hk
    · omega
    · simpa [hj2, hj3] using hk
  have h1 := List.pairwise_iff_getElem.1 h (j - 1) j hj3 hj2 (by omega)
  have h2 : m[i] ≤ m[j - 1] := by
    by_cases e : i = j - 1
    · subst e; exact Int.le_refl _
    · exact List.pairwise_iff_getElem.1 h i (j - 1) hi1 hj3 (by omega)
  simp only [List.getElem!_toArray, List.getElem!_eq_getElem?_getD, List.getElem?_eq_getElem hi1, List.getElem?_eq_getElem hj2, Option.getD_some]
  omega
theorem mem_numL {l : List Int} {x : Int} : x ∈ numL l ↔ x ∈ l := by unfold numL; rw [compact_mem, (srtI_perm l).mem_iff]
theorem numL_lt (l : List Int) : (numL l).Pairwise (· < ·) := compact_lt (srtI_pw l)
theorem asc_same : ∀ {L M : List Int}, L.Pairwise (· < ·) → M.Pairwise (· < ·) → (∀ x, x ∈ L ↔ x ∈ M) → L = M
  | [], [], _, _, _ => rfl
  | [], b :: M, _, _, h => by have := (h b).2 (List.mem_cons_self ..); simp at this
  | a :: L, [], _, _, h => by have := (h a).1 (List.mem_cons_self ..); simp at this
  | a :: L, b :: M, hL, hM, h => by
    have h1 := List.pairwise_cons.1 hL
    have h2 := List.pairwise_cons.1 hM
    have e : a = b := by
      rcases List.mem_cons.1 ((h a).1 (List.mem_cons_self ..)) with e | ha
      · exact e
      · rcases List.mem_cons.1 ((h b).2 (List.mem_cons_self ..)) with e | hb
        · exact e.symm
        · have := h1.1 b hb
          have := h2.1 a ha
          omega
    subst e
    congr 1
    refine asc_same h1.2 h2.2 fun r => ?_
    constructor
    · intro hr
      rcases List.mem_cons.1 ((h r).1 (List.mem_cons_of_mem _ hr)) with rfl | hr2
      · have := h1.1 r hr; omega
      · exact hr2
    · intro hr
      rcases List.mem_cons.1 ((h r).2 (List.mem_cons_of_mem _ hr)) with rfl | hr2
      · have := h2.1 r hr; omega
      · exact hr2
theorem numL_same {l m : List Int} (h : ∀ x, x ∈ l ↔ x ∈ m) : numL l = numL m := asc_same (numL_lt l) (numL_lt m) fun x => by rw [mem_numL, mem_numL]; exact h x
theorem numL_len (l : List Int) : (numL l).length ≤ l.length := by
  rw [← srtI_len l]
  exact Lib.compact_length_le _
theorem putCells_take (ys : List Int) (cur : Array Value) (h : ys.length ≤ cur.size) : (Go.Sort.putCells (Value.int .i64) 0 ys.toArray cur).toList.take ys.length = ints ys := by
  apply List.ext_getElem?
  intro i
  rw [List.getElem?_take]
  by_cases hi : i < ys.length
  · rw [if_pos hi, ints_get hi]
    have hi2 : i < cur.size := by omega
    simp [Go.Sort.putCells, hi2, at', zv, hi]
  · rw [if_neg hi, List.getElem?_eq_none (by rw [ints_len]; omega)]
theorem sortI_fn {w0 w : World} {H H' : List Atom} {a : Option Addr} {c : Nat} {l : List Int} (hM : Mm w0 H w) (hr : Rpl (A.grow 3 1 a c l.length (ints l)) (A.grow 3 1 a c l.length (ints (srtI l))) H H') (hl : l.length ≤ 1000000) :
    Fn Tryz.prog 73 #[.slice a l.length c] w fun v w' => v = .tuple #[] ∧ Mm w0 H' w' := by
  by_cases h0 : l = []
  · subst h0
    refine Calls.mono (Tryz.slices_Sort_int_none a c w) ?_
    rintro e w' ⟨rfl, rfl⟩
    have hs : srtI [] = [] := by simp [srtI]
    rw [hs] at hr
    exact ⟨_, rfl, rfl, Rpl.same hr ▸ hM⟩
  have hne : l.length ≠ 0 := fun e => h0 (List.eq_nil_of_length_eq_zero e)
  have hown := hM.own hr.mem
  obtain ⟨b, cur, rfl, hg, hnc, hcm, hcs⟩ : ∃ b cur, a = some ⟨b, 0, none⟩ ∧ w.heap[b]? = some (.cells cur 3 (0, 0)) ∧ l.length ≤ c ∧ c ≤ maxLen ∧ cur.size = c * 1 := by
    rcases hown.2 with ⟨-, h2⟩ | ⟨g, cap, cur, hv, -, hg, hnc, hcm, hcs, -⟩
    · exact absurd h2 hne
    · cases hv; exact ⟨g, cur, rfl, hg, hnc, hcm, hcs⟩
  have hlt := (Array.getElem?_eq_some_iff.1 hg).1
  have hcell : ∀ j, j < l.length → w.cell? ⟨b, j, none⟩ = some (zv (at' l j)) := fun j hj => ownsRow_cell hown (ints_get hj)
  refine Calls.mono (Tryz.slices_Sort_int b 0 c l w (fun j hj => ?_) hlt (by omega)) ?_
  · have hj' : j < l.length := by simpa using hj
    rw [Nat.zero_add, hcell j hj']
    refine ⟨?_, by simp [World.frozen?, hg]⟩
    simp [at', hj', zv, getElem!_pos]
  · rintro e w' ⟨rfl, n, os, rfl⟩
    have hs : (Go.Sort.putRow (Value.int .i64) (Go.Sort.ahead w n) b 0 (srtI l).toArray).heap.size = w.heap.size := by simp [Go.Sort.putRow, Go.Sort.mapBlock, Go.Sort.ahead]
    refine ⟨_, rfl, rfl, hM.turn hr rfl rfl rfl ?_ (fun k hk hkb => ?_) ?_ (by simp [A.grow, Value.ownBlock]) (fun b' hb' => .inl (by simpa [A.grow, Value.ownBlock] using hb'))⟩
    · simp [Go.Sort.grow, Go.Sort.putRow, Go.Sort.mapBlock, Go.Sort.ahead]
    · have hkb' : ¬ b = k := fun e => hkb (by subst e; simp [A.grow, Value.ownBlock])
      show ((Go.Sort.putRow (Value.int .i64) (Go.Sort.ahead w n) b 0 (srtI l).toArray).heap ++ os)[k]? = _
      rw [Array.getElem?_append, if_pos (by rw [hs]; exact hk)]
      show (w.heap.modify b _)[k]? = _
      rw [Array.getElem?_modify, if_neg hkb']
    · have hls := srtI_len l
      refine ⟨by simp [ints, hls], .inr ⟨b, c, Go.Sort.putCells (Value.int .i64) 0 (srtI l).toArray cur, rfl, Nat.zero_le _, ?_, hnc, hcm, by simp [Go.Sort.putCells, hcs], ?_⟩⟩
      · have hm : (Go.Sort.putRow (Value.int .i64) (Go.Sort.ahead w n) b 0 (srtI l).toArray).heap[b]? = some (.cells (Go.Sort.putCells (Value.int .i64) 0 (srtI l).toArray cur) 3 (0, 0)) := by
          simp [Go.Sort.putRow, Go.Sort.mapBlock, Go.Sort.ahead, Array.getElem?_modify, hg, Go.Sort.onCells]
        show (Go.Sort.grow (Go.Sort.putRow (Value.int .i64) (Go.Sort.ahead w n) b 0 (srtI l).toArray) os).heap[b]? = _
        rw [Go.Sort.grow]
        simp only [Array.getElem?_append]
        rw [if_pos (by rw [hs]; exact hlt), hm]
      · rw [Nat.mul_one, ← hls]
        exact putCells_take _ _ (by omega)
theorem compactI_fn {w0 w : World} {H H' : List Atom} {a : Option Addr} {c : Nat} {l : List Int} (hM : Mm w0 H w) (hr : Rpl (A.grow 3 1 a c l.length (ints l)) (A.grow 3 1 a c (Lib.compact l).length (ints (Lib.compact l))) H H') (hl : l.length ≤ 1000000) :
    Fn Tryz.prog 74 #[.slice a l.length c] w fun v w' => v = .slice a (Lib.compact l).length c ∧ Mm w0 H' w' := by
  by_cases h0 : l = []
  · subst h0
    refine Calls.mono (Tryz.slices_Compact_int_empty a c w) ?_
    rintro e w' ⟨rfl, rfl⟩
    exact ⟨_, rfl, rfl, Rpl.same hr ▸ hM⟩
  have hne : l.length ≠ 0 := fun e => h0 (List.eq_nil_of_length_eq_zero e)
  have hown := hM.own hr.mem
  obtain ⟨b, cur, rfl, hg, hnc, hcm, hcs⟩ : ∃ b cur, a = some ⟨b, 0, none⟩ ∧ w.heap[b]? = some (.cells cur 3 (0, 0)) ∧ l.length ≤ c ∧ c ≤ maxLen ∧ cur.size = c * 1 := by
    rcases hown.2 with ⟨-, h2⟩ | ⟨g, cap, cur, hv, -, hg, hnc, hcm, hcs, -⟩
    · exact absurd h2 hne
    · cases hv; exact ⟨g, cur, rfl, hg, hnc, hcm, hcs⟩
  have hlt := (Array.getElem?_eq_some_iff.1 hg).1
  have hcell : ∀ j, j < l.length → w.cell? ⟨b, j, none⟩ = some (zv (at' l j)) := fun j hj => ownsRow_cell hown (ints_get hj)
  have hle : (Lib.compact l).length ≤ l.length := Lib.compact_length_le l
  refine Calls.mono (Tryz.slices_Compact_int b 0 c l w (fun j hj => ?_) (by omega) hnc) ?_
  · have hj' : j < l.length := by simpa using hj
    rw [Nat.zero_add, hcell j hj']
    refine ⟨?_, by simp [World.frozen?, hg]⟩
    simp [at', hj', zv, getElem!_pos]
  · rintro e w' ⟨rfl, q, rfl⟩
    obtain ⟨ys, hys⟩ : ∃ ys, ys = Lib.compact l ++ List.replicate (l.length - (Lib.compact l).length) 0 := ⟨_, rfl⟩
    have hyl : ys.length = l.length := by rw [hys, List.length_append, List.length_replicate]; omega
    rw [← hys]
    refine ⟨_, rfl, rfl, hM.turn hr rfl rfl rfl (by simp [Go.Sort.putRow, Go.Sort.mapBlock, Go.Sort.ahead]) (fun k hk hkb => ?_) ?_ (by simp [A.grow, Value.ownBlock]) (fun b' hb' => .inl (by simpa [A.grow, Value.ownBlock] using hb'))⟩
    · have hkb' : ¬ b = k := fun e => hkb (by subst e; simp [A.grow, Value.ownBlock])
      show (w.heap.modify b _)[k]? = _
      rw [Array.getElem?_modify, if_neg hkb']
    · refine ⟨by simp [ints], .inr ⟨b, c, Go.Sort.putCells (Value.int .i64) 0 ys.toArray cur, rfl, Nat.zero_le _, ?_, by omega, hcm, by simp [Go.Sort.putCells, hcs], ?_⟩⟩
      · simp [Go.Sort.putRow, Go.Sort.mapBlock, Go.Sort.ahead, Array.getElem?_modify, hg, Go.Sort.onCells]
      · have h1 := putCells_take ys cur (by omega)
        have h2 : (Go.Sort.putCells (Value.int .i64) 0 ys.toArray cur).toList.take ((Lib.compact l).length * 1) = ((Go.Sort.putCells (Value.int .i64) 0 ys.toArray cur).toList.take ys.length).take (Lib.compact l).length := by
          rw [List.take_take, Nat.mul_one, Nat.min_eq_left (by omega)]
        rw [h2, h1, hys, ints_app, ← ints_len (Lib.compact l), List.take_left]
section
variable {P : Program} {N : Nat} {E : Env} {w0 : World} {H H' : List Atom}
theorem run_loadVar1 {w : World} {t : TypeId} {a : Addr} {v : Value} [ha : ATy P t false] (hc : w.cell? a = some v) : (loadVar t a).run P w = .ok v w := by
  simp only [loadVar, Sem.run_bind]
  simp [run_isAgg, hc, Result.andThen]
/-- A result that is a variable's own cell, behind a range over a function. -/
theorem HX.retMc1 {fn : Func} {p b D : Nat} {ty e : TypeId} {v : Value} {R : Value → World → Prop} [ha : ATy P ty false] (hr : fn.results = #[.cell p ty]) (hp : Env.g E p = some (.pointer (some ⟨b, 0, none⟩)))
    (hm : Pick (A.dfr D) H H') (hb : A.blk b [v] e ∈ H') (h : ∀ w, Mm w0 H' w → R v w) : HX N [markOf D] .ret (bodyPostM Fence.wide 0 P fn (RetP R)) E w0 H := fun w hM a ha' => by
  have hpm := hM.perm hm.perm
  obtain ⟨o, hD, rfl⟩ : ∃ o, w.heap[D]? = some o ∧ o = .deferred (some []) := hpm.all (A.dfr D) (List.Mem.head _)
  simp only [bodyPostM, ha'.defers]
  refine ⟨by simp, .inl ⟨D, _, rfl, run_takeDeferred hD, ?_⟩⟩
  have hM2 := hpm.drop1 (l := D) rfl (Upd1.put w D (.deferred none))
  have e1 : a.tmps.getD p undef = .pointer (some ⟨b, 0, none⟩) := by rw [Array.getD_eq_getD_getElem?, ha'.get _ _ hp]; rfl
  have e1' : a.tmps[p]?.getD undef = .pointer (some ⟨b, 0, none⟩) := by simpa using e1
  refine ⟨_, ?_, _, rfl, h _ hM2⟩
  have := run_loadVar1 (P := P) (t := ty) ((hM2.blk hb).cell (i := 0) rfl)
  simp [results, hr, e1', asAddr, this]
end
attribute [local irreducible] WC WL WX POp Then Again Fn NX W1 WA WO QL RP RA Yld LoopAt HC HL HX HN H1 HA HO HQ HB HP A.blk A.grow A.rd A.obj A.mp AgainH CutH
attribute [local irreducible] A.dfr A.loop
theorem those_fn (a : Option Addr) (n c : Nat) (f : FuncId) (pre cap : List Value) (w : World) : Fn Tryz.prog 40 #[.slice a n c, .func (.func f) pre.toArray cap.toArray] w fun v w' => ∃ z : Nat × Nat, True ∧ v = .func (.func 75) #[] #[.pointer (some ⟨z.1, 0, none⟩), .pointer (some ⟨z.2, 0, none⟩)] ∧
    Mm w [A.blk z.2 [.func (.func f) pre.toArray cap.toArray] 36, A.blk z.1 [.slice a n c] 26] w' := by
  refine enterH (l := [_, _]) rfl Tryz.ntmps40 rfl ?_
  repeat' (first | apply HL.fold | apply HA.fold | apply HL.nil | apply HX.n_then | apply HC.seq | apply HC.region | refine HL.pa ?_ | refine HL.ga rfl ?_ | refine HL.na rfl ?_ | refine HL.nu rfl rfl ?_ | apply HC.block | apply HC.skip | apply HC.exit | apply HC.ret | apply HX.e_block | refine HX.e_other rfl ?_ | apply HX.e_then | apply HX.e_again | apply HX.n_block | apply HX.r_then | apply HX.r_block | apply HX.r_again | refine HC.cond_yes rfl ?_ | refine HC.cond_no rfl ?_ | refine HL.one (H1.ldb rfl memA rfl rfl ?_) | refine HC.cond rfl (fun hc => ?_) (fun hc => ?_) | refine HC.cond_b rfl (fun hc => ?_) (fun hc => ?_))
  refine HL.one (H1.box rfl rfl rfl (fun b2 => ?_))
  repeat' (first | apply HL.fold | apply HA.fold | apply HL.nil | apply HX.n_then | apply HC.seq | apply HC.region | refine HL.pa ?_ | refine HL.ga rfl ?_ | refine HL.na rfl ?_ | refine HL.nu rfl rfl ?_ | apply HC.block | apply HC.skip | apply HC.exit | apply HC.ret | apply HX.e_block | refine HX.e_other rfl ?_ | apply HX.e_then | apply HX.e_again | apply HX.n_block | apply HX.r_then | apply HX.r_block | apply HX.r_again | refine HC.cond_yes rfl ?_ | refine HC.cond_no rfl ?_ | refine HL.one (H1.ldb rfl memA rfl rfl ?_) | refine HC.cond rfl (fun hc => ?_) (fun hc => ?_) | refine HC.cond_b rfl (fun hc => ?_) (fun hc => ?_))
  refine HL.one (H1.box rfl rfl rfl (fun b3 => ?_))
  repeat' (first | apply HL.fold | apply HA.fold | apply HL.nil | apply HX.n_then | apply HC.seq | apply HC.region | refine HL.pa ?_ | refine HL.ga rfl ?_ | refine HL.na rfl ?_ | refine HL.nu rfl rfl ?_ | apply HC.block | apply HC.skip | apply HC.exit | apply HC.ret | apply HX.e_block | refine HX.e_other rfl ?_ | apply HX.e_then | apply HX.e_again | apply HX.n_block | apply HX.r_then | apply HX.r_block | apply HX.r_again | refine HC.cond_yes rfl ?_ | refine HC.cond_no rfl ?_ | refine HL.one (H1.ldb rfl memA rfl rfl ?_) | refine HC.cond rfl (fun hc => ?_) (fun hc => ?_) | refine HC.cond_b rfl (fun hc => ?_) (fun hc => ?_))
  exact HX.ret1 rfl rfl fun w' hM => ⟨(b2, b3), trivial, rfl, hM⟩
theorem those1_fn {w0 : World} {β : Type} {G : List Rc → β → List Atom} {l b2 b3 : Nat} {L : List Rc} {p : Rc → Bool} {a : Option Addr} {c : Nat} {fv : Value} (hl : L.length ≤ 1000000) (hR : RdR w0 (.slice a L.length c) L) (hp : Pr Tryz.prog w0 fv L p)
    (h2 : w0.cell? ⟨b2, 0, none⟩ = some (.slice a L.length c)) (h3 : w0.cell? ⟨b3, 0, none⟩ = some fv)
    (hy : ∀ (F : List Rc) (r : Rc) (x : β), r ∈ L → F.length < L.length → ∀ w, Mm w0 (G F x) w → Yld Tryz.prog l [recV r] w fun b w' => b = true ∧ ∃ x' : β, True ∧ Mm w0 (G (F ++ [r]) x') w') (x0 : β) :
    ∀ w, Mm w0 (G [] x0) w → Fn Tryz.prog 75 (.func (.yield l) #[] #[] :: [.pointer (some ⟨b2, 0, none⟩), .pointer (some ⟨b3, 0, none⟩)]).toArray w fun _ w' => ∃ x : β, True ∧ Mm w0 (G (L.filter p) x) w' := by
  intro w hM
  refine enterK (l := [_, _, _]) hM rfl Tryz.ntmps75 rfl ?_
  repeat' (first | apply HL.fold | apply HA.fold | apply HL.nil | apply HX.n_then | apply HC.seq | apply HC.region | refine HL.pa ?_ | refine HL.ga rfl ?_ | refine HL.na rfl ?_ | refine HL.nu rfl rfl ?_ | apply HC.block | apply HC.skip | apply HC.exit | apply HC.ret | apply HX.e_block | refine HX.e_other rfl ?_ | apply HX.e_then | apply HX.e_again | apply HX.n_block | apply HX.r_then | apply HX.r_block | apply HX.r_again | refine HC.cond_yes rfl ?_ | refine HC.cond_no rfl ?_ | refine HL.one (H1.ldb rfl memA rfl rfl ?_) | refine HC.cond rfl (fun hc => ?_) (fun hc => ?_) | refine HC.cond_b rfl (fun hc => ?_) (fun hc => ?_))
  refine HL.one (H1.ld0 rfl h2 rfl ?_)
  repeat' (first | apply HL.fold | apply HA.fold | apply HL.nil | apply HX.n_then | apply HC.seq | apply HC.region | refine HL.pa ?_ | refine HL.ga rfl ?_ | refine HL.na rfl ?_ | refine HL.nu rfl rfl ?_ | apply HC.block | apply HC.skip | apply HC.exit | apply HC.ret | apply HX.e_block | refine HX.e_other rfl ?_ | apply HX.e_then | apply HX.e_again | apply HX.n_block | apply HX.r_then | apply HX.r_block | apply HX.r_again | refine HC.cond_yes rfl ?_ | refine HC.cond_no rfl ?_ | refine HL.one (H1.ldb rfl memA rfl rfl ?_) | refine HC.cond rfl (fun hc => ?_) (fun hc => ?_) | refine HC.cond_b rfl (fun hc => ?_) (fun hc => ?_))
  refine HC.loop (α := Nat × β) (fun z => [(0, .func (.yield l) #[] #[]), (2, .pointer (some ⟨b3, 0, none⟩)), (6, .slice a L.length c), (7, zv (L.length : Int)), (8, zv (z.1 : Int))]) (fun z => G ((L.take z.1).filter p) z.2)
    (fun z => z.1 ≤ L.length) (fun z => L.length - z.1) (0, x0) (Nat.zero_le _) esA (Hs.refl _) ?_
  rintro ⟨j, x⟩ hj
  dsimp only at hj ⊢
  by_cases hlt : j < L.length
  rotate_left
  · obtain rfl : j = L.length := by omega
    rw [List.take_length]
    repeat' (first | apply HL.fold | apply HA.fold | apply HL.nil | apply HX.n_then | apply HC.seq | apply HC.region | refine HL.pa ?_ | refine HL.ga rfl ?_ | refine HL.na rfl ?_ | refine HL.nu rfl rfl ?_ | apply HC.block | apply HC.skip | apply HC.exit | apply HC.ret | apply HX.e_block | refine HX.e_other rfl ?_ | apply HX.e_then | apply HX.e_again | apply HX.n_block | apply HX.r_then | apply HX.r_block | apply HX.r_again | refine HC.cond_yes rfl ?_ | refine HC.cond_no rfl ?_ | refine HL.one (H1.ldb rfl memA rfl rfl ?_) | refine HC.cond rfl (fun hc => ?_) (fun hc => ?_) | refine HC.cond_b rfl (fun hc => ?_) (fun hc => ?_))
    exact HX.end0 rfl fun w' hM => ⟨x, trivial, hM⟩
  obtain ⟨r, hr⟩ : ∃ r, L[j]? = some r := ⟨_, List.getElem?_eq_getElem hlt⟩
  have hrm := List.mem_of_getElem? hr
  have htk : (L.take (j + 1)).filter p = (L.take j).filter p ++ (if p r = true then [r] else []) := by
    rw [List.take_add_one, hr, List.filter_append]
    congr 1
    show [r].filter p = _
    rw [List.filter_cons, List.filter_nil]
  have hfl : ((L.take j).filter p).length < L.length := by
    have h1 := List.length_filter_le p (L.take j)
    rw [List.length_take] at h1
    omega
  obtain ⟨bl, off, rfl, -, hcell⟩ := hR.at (fun e => by rw [e] at hlt; exact absurd hlt (Nat.not_lt_zero _))
  have hcl := hcell j r hr
  clear hcell
  repeat' (first | apply HL.fold | apply HA.fold | apply HL.nil | apply HX.n_then | apply HC.seq | apply HC.region | refine HL.pa ?_ | refine HL.ga rfl ?_ | refine HL.na rfl ?_ | refine HL.nu rfl rfl ?_ | apply HC.block | apply HC.skip | apply HC.exit | apply HC.ret | apply HX.e_block | refine HX.e_other rfl ?_ | apply HX.e_then | apply HX.e_again | apply HX.n_block | apply HX.r_then | apply HX.r_block | apply HX.r_again | refine HC.cond_yes rfl ?_ | refine HC.cond_no rfl ?_ | refine HL.one (H1.ldb rfl memA rfl rfl ?_) | refine HC.cond rfl (fun hc => ?_) (fun hc => ?_) | refine HC.cond_b rfl (fun hc => ?_) (fun hc => ?_))
  refine HL.one (H1.ldAggw (vs := rcells r) rfl rfl (fun w' hM i v hv => cell_ext hM.ext (hcl i v hv)) rfl ?_)
  repeat' (first | apply HL.fold | apply HA.fold | apply HL.nil | apply HX.n_then | apply HC.seq | apply HC.region | refine HL.pa ?_ | refine HL.ga rfl ?_ | refine HL.na rfl ?_ | refine HL.nu rfl rfl ?_ | apply HC.block | apply HC.skip | apply HC.exit | apply HC.ret | apply HX.e_block | refine HX.e_other rfl ?_ | apply HX.e_then | apply HX.e_again | apply HX.n_block | apply HX.r_then | apply HX.r_block | apply HX.r_again | refine HC.cond_yes rfl ?_ | refine HC.cond_no rfl ?_ | refine HL.one (H1.ldb rfl memA rfl rfl ?_) | refine HC.cond rfl (fun hc => ?_) (fun hc => ?_) | refine HC.cond_b rfl (fun hc => ?_) (fun hc => ?_))
  refine HL.one (H1.alloc (cs := rcells rcZ) rfl rfl (fun b5 => ?_))
  repeat' (first | apply HL.fold | apply HA.fold | apply HL.nil | apply HX.n_then | apply HC.seq | apply HC.region | refine HL.pa ?_ | refine HL.ga rfl ?_ | refine HL.na rfl ?_ | refine HL.nu rfl rfl ?_ | apply HC.block | apply HC.skip | apply HC.exit | apply HC.ret | apply HX.e_block | refine HX.e_other rfl ?_ | apply HX.e_then | apply HX.e_again | apply HX.n_block | apply HX.r_then | apply HX.r_block | apply HX.r_again | refine HC.cond_yes rfl ?_ | refine HC.cond_no rfl ?_ | refine HL.one (H1.ldb rfl memA rfl rfl ?_) | refine HC.cond rfl (fun hc => ?_) (fun hc => ?_) | refine HC.cond_b rfl (fun hc => ?_) (fun hc => ?_))
  refine HL.one (H1.stAgg (cs := rcells rcZ) (vs := rcells r) rfl rfl rfl (rcells_one r) Rpl.here rfl ?_)
  repeat' (first | apply HL.fold | apply HA.fold | apply HL.nil | apply HX.n_then | apply HC.seq | apply HC.region | refine HL.pa ?_ | refine HL.ga rfl ?_ | refine HL.na rfl ?_ | refine HL.nu rfl rfl ?_ | apply HC.block | apply HC.skip | apply HC.exit | apply HC.ret | apply HX.e_block | refine HX.e_other rfl ?_ | apply HX.e_then | apply HX.e_again | apply HX.n_block | apply HX.r_then | apply HX.r_block | apply HX.r_again | refine HC.cond_yes rfl ?_ | refine HC.cond_no rfl ?_ | refine HL.one (H1.ldb rfl memA rfl rfl ?_) | refine HC.cond rfl (fun hc => ?_) (fun hc => ?_) | refine HC.cond_b rfl (fun hc => ?_) (fun hc => ?_))
  refine HL.one (H1.ld0 rfl h3 rfl ?_)
  repeat' (first | apply HL.fold | apply HA.fold | apply HL.nil | apply HX.n_then | apply HC.seq | apply HC.region | refine HL.pa ?_ | refine HL.ga rfl ?_ | refine HL.na rfl ?_ | refine HL.nu rfl rfl ?_ | apply HC.block | apply HC.skip | apply HC.exit | apply HC.ret | apply HX.e_block | refine HX.e_other rfl ?_ | apply HX.e_then | apply HX.e_again | apply HX.n_block | apply HX.r_then | apply HX.r_block | apply HX.r_again | refine HC.cond_yes rfl ?_ | refine HC.cond_no rfl ?_ | refine HL.one (H1.ldb rfl memA rfl rfl ?_) | refine HC.cond rfl (fun hc => ?_) (fun hc => ?_) | refine HC.cond_b rfl (fun hc => ?_) (fun hc => ?_))
  refine HL.one (H1.ldAgg (vs := rcells r) rfl (.head _) rfl (fun i v hv => by rw [Nat.zero_add]; exact hv) rfl ?_)
  repeat' (first | apply HL.fold | apply HA.fold | apply HL.nil | apply HX.n_then | apply HC.seq | apply HC.region | refine HL.pa ?_ | refine HL.ga rfl ?_ | refine HL.na rfl ?_ | refine HL.nu rfl rfl ?_ | apply HC.block | apply HC.skip | apply HC.exit | apply HC.ret | apply HX.e_block | refine HX.e_other rfl ?_ | apply HX.e_then | apply HX.e_again | apply HX.n_block | apply HX.r_then | apply HX.r_block | apply HX.r_again | refine HC.cond_yes rfl ?_ | refine HC.cond_no rfl ?_ | refine HL.one (H1.ldb rfl memA rfl rfl ?_) | refine HC.cond rfl (fun hc => ?_) (fun hc => ?_) | refine HC.cond_b rfl (fun hc => ?_) (fun hc => ?_))
  refine HL.one (H1.callpr (y := .tmp 13) (fun w' hM => hp.ext hM.ext) hrm rfl rfl rfl ?_)
  cases hpr : p r
  · rw [hpr, if_neg Bool.false_ne_true, List.append_nil] at htk
    rw [← htk]
    repeat' (first | apply HL.fold | apply HA.fold | apply HL.nil | apply HX.n_then | apply HC.seq | apply HC.region | refine HL.pa ?_ | refine HL.ga rfl ?_ | refine HL.na rfl ?_ | refine HL.nu rfl rfl ?_ | apply HC.block | apply HC.skip | apply HC.exit | apply HC.ret | apply HX.e_block | refine HX.e_other rfl ?_ | apply HX.e_then | apply HX.e_again | apply HX.n_block | apply HX.r_then | apply HX.r_block | apply HX.r_again | refine HC.cond_yes rfl ?_ | refine HC.cond_no rfl ?_ | refine HL.one (H1.ldb rfl memA rfl rfl ?_) | refine HC.cond rfl (fun hc => ?_) (fun hc => ?_) | refine HC.cond_b rfl (fun hc => ?_) (fun hc => ?_))
    exact HX.again (j + 1, x) hlt (by show L.length - (j + 1) < L.length - j; omega) esA (Hs.refl _).skip
  · rw [hpr, if_pos rfl] at htk
    repeat' (first | apply HL.fold | apply HA.fold | apply HL.nil | apply HX.n_then | apply HC.seq | apply HC.region | refine HL.pa ?_ | refine HL.ga rfl ?_ | refine HL.na rfl ?_ | refine HL.nu rfl rfl ?_ | apply HC.block | apply HC.skip | apply HC.exit | apply HC.ret | apply HX.e_block | refine HX.e_other rfl ?_ | apply HX.e_then | apply HX.e_again | apply HX.n_block | apply HX.r_then | apply HX.r_block | apply HX.r_again | refine HC.cond_yes rfl ?_ | refine HC.cond_no rfl ?_ | refine HL.one (H1.ldb rfl memA rfl rfl ?_) | refine HC.cond rfl (fun hc => ?_) (fun hc => ?_) | refine HC.cond_b rfl (fun hc => ?_) (fun hc => ?_))
    refine HL.one (H1.ldAgg (vs := rcells r) rfl (.head _) rfl (fun i v hv => by rw [Nat.zero_add]; exact hv) rfl ?_)
    repeat' (first | apply HL.fold | apply HA.fold | apply HL.nil | apply HX.n_then | apply HC.seq | apply HC.region | refine HL.pa ?_ | refine HL.ga rfl ?_ | refine HL.na rfl ?_ | refine HL.nu rfl rfl ?_ | apply HC.block | apply HC.skip | apply HC.exit | apply HC.ret | apply HX.e_block | refine HX.e_other rfl ?_ | apply HX.e_then | apply HX.e_again | apply HX.n_block | apply HX.r_then | apply HX.r_block | apply HX.r_again | refine HC.cond_yes rfl ?_ | refine HC.cond_no rfl ?_ | refine HL.one (H1.ldb rfl memA rfl rfl ?_) | refine HC.cond rfl (fun hc => ?_) (fun hc => ?_) | refine HC.cond_b rfl (fun hc => ?_) (fun hc => ?_))
    refine HL.one (H1.yield (α := β) (Hz := fun x' => G ((L.take j).filter p ++ [r]) x') (I := fun _ => True) (vs := [recV r]) rfl rfl rfl (fun w' hM => hy _ r x hrm hfl w' hM.tail) ?_)
    intro x' _
    rw [← htk]
    repeat' (first | apply HL.fold | apply HA.fold | apply HL.nil | apply HX.n_then | apply HC.seq | apply HC.region | refine HL.pa ?_ | refine HL.ga rfl ?_ | refine HL.na rfl ?_ | refine HL.nu rfl rfl ?_ | apply HC.block | apply HC.skip | apply HC.exit | apply HC.ret | apply HX.e_block | refine HX.e_other rfl ?_ | apply HX.e_then | apply HX.e_again | apply HX.n_block | apply HX.r_then | apply HX.r_block | apply HX.r_again | refine HC.cond_yes rfl ?_ | refine HC.cond_no rfl ?_ | refine HL.one (H1.ldb rfl memA rfl rfl ?_) | refine HC.cond rfl (fun hc => ?_) (fun hc => ?_) | refine HC.cond_b rfl (fun hc => ?_) (fun hc => ?_))
    exact HX.again (j + 1, x') hlt (by show L.length - (j + 1) < L.length - j; omega) esA (Hs.refl _)
set_option maxHeartbeats 1000000 in
theorem numbers_fn (f : Rc → Int) (g : FuncId) (hg : CallOk Tryz.prog g) (hgf : ∀ r w, Fn Tryz.prog g #[recV r] w fun v w' => v = zv (f r) ∧ Ext w w') {L : List Rc} {p : Rc → Bool} {a : Option Addr} {c b2 b3 : Nat} {fv : Value} (w : World) (hl : L.length ≤ 1000000) (hR : RdR w (.slice a L.length c) L) (hp : Pr Tryz.prog w fv L p)
    (h2 : w.cell? ⟨b2, 0, none⟩ = some (.slice a L.length c)) (h3 : w.cell? ⟨b3, 0, none⟩ = some fv) :
    Fn Tryz.prog 39 #[.func (.func 75) #[] #[.pointer (some ⟨b2, 0, none⟩), .pointer (some ⟨b3, 0, none⟩)], fnV g] w fun v w' => ∃ z : Option Addr × Nat, True ∧ v = .slice z.1 (numL ((L.filter p).map f)).length z.2 ∧ Mm w [A.grow 3 1 z.1 z.2 (numL ((L.filter p).map f)).length (ints (numL ((L.filter p).map f)))] w' := by
  refine enterMH (l := [_, _]) rfl Tryz.ntmps39 rfl ?_
  repeat' (first | apply HL.fold | apply HA.fold | apply HL.nil | apply HX.n_then | apply HC.seq | apply HC.region | refine HL.pa ?_ | refine HL.ga rfl ?_ | refine HL.na rfl ?_ | refine HL.nu rfl rfl ?_ | apply HC.block | apply HC.skip | apply HC.exit | apply HC.ret | apply HX.e_block | refine HX.e_other rfl ?_ | apply HX.e_then | apply HX.e_again | apply HX.n_block | apply HX.r_then | apply HX.r_block | apply HX.r_again | refine HC.cond_yes rfl ?_ | refine HC.cond_no rfl ?_ | refine HL.one (H1.ldb rfl memA rfl rfl ?_) | refine HC.cond rfl (fun hc => ?_) (fun hc => ?_) | refine HC.cond_b rfl (fun hc => ?_) (fun hc => ?_))
  refine HL.one (H1.box rfl rfl rfl (fun b3' => ?_))
  repeat' (first | apply HL.fold | apply HA.fold | apply HL.nil | apply HX.n_then | apply HC.seq | apply HC.region | refine HL.pa ?_ | refine HL.ga rfl ?_ | refine HL.na rfl ?_ | refine HL.nu rfl rfl ?_ | apply HC.block | apply HC.skip | apply HC.exit | apply HC.ret | apply HX.e_block | refine HX.e_other rfl ?_ | apply HX.e_then | apply HX.e_again | apply HX.n_block | apply HX.r_then | apply HX.r_block | apply HX.r_again | refine HC.cond_yes rfl ?_ | refine HC.cond_no rfl ?_ | refine HL.one (H1.ldb rfl memA rfl rfl ?_) | refine HC.cond rfl (fun hc => ?_) (fun hc => ?_) | refine HC.cond_b rfl (fun hc => ?_) (fun hc => ?_))
  refine HL.one (H1.alloc (cs := [.slice none 0 0]) rfl rfl (fun b4 => ?_))
  repeat' (first | apply HL.fold | apply HA.fold | apply HL.nil | apply HX.n_then | apply HC.seq | apply HC.region | refine HL.pa ?_ | refine HL.ga rfl ?_ | refine HL.na rfl ?_ | refine HL.nu rfl rfl ?_ | apply HC.block | apply HC.skip | apply HC.exit | apply HC.ret | apply HX.e_block | refine HX.e_other rfl ?_ | apply HX.e_then | apply HX.e_again | apply HX.n_block | apply HX.r_then | apply HX.r_block | apply HX.r_again | refine HC.cond_yes rfl ?_ | refine HC.cond_no rfl ?_ | refine HL.one (H1.ldb rfl memA rfl rfl ?_) | refine HC.cond rfl (fun hc => ?_) (fun hc => ?_) | refine HC.cond_b rfl (fun hc => ?_) (fun hc => ?_))
  refine HC.grow0 3 1 ?_
  refine HC.sub [(3, .pointer (some ⟨b3', 0, none⟩)), (4, .pointer (some ⟨b4, 0, none⟩)), (6, .func (.func 75) #[] #[.pointer (some ⟨b2, 0, none⟩), .pointer (some ⟨b3, 0, none⟩)])]
    [A.blk b3' [fnV g] 37, A.blk b4 [.slice none 0 0] 43, A.grow 3 1 none 0 0 []] ?_ esA (by repeat (first | exact Hs.nil _ | (refine Hs.cons pickA ?_)))
  refine HC.rangeFunc (α := Option Addr × Nat) (lb := [.pointer (some ⟨b2, 0, none⟩), .pointer (some ⟨b3, 0, none⟩)]) (fun q => [A.blk b3' [fnV g] 37, A.blk b4 [.slice q.1 ((L.filter p).map f).length q.2] 43, A.grow 3 1 q.1 q.2 ((L.filter p).map f).length (ints ((L.filter p).map f))]) (fun _ => True) rfl ?_ ?_
  · intro D l LL hL w1 hM1
    refine those1_fn (β := Option Addr × Nat) (G := fun F q => LL .ready none :: A.dfr D :: [A.blk b3' [fnV g] 37, A.blk b4 [.slice q.1 (F.map f).length q.2] 43, A.grow 3 1 q.1 q.2 (F.map f).length (ints (F.map f))]) hl hR hp h2 h3 ?_ (none, 0) w1 hM1
    rintro F r ⟨a1, c1⟩ hr hF
    have hmap : (F ++ [r]).map f = F.map f ++ [f r] := by rw [List.map_append]; rfl
    rw [hmap]
    have hFl : (F.map f).length + 1 ≤ 1000000 := by rw [List.length_map]; omega
    generalize F.map f = xs at hFl ⊢
    refine Yld.ofH hL memA rfl rfl ?_
    dsimp only [List.zip_cons_cons, List.zip_nil_right, putAll]
    repeat' (first | apply HL.fold | apply HA.fold | apply HL.nil | apply HX.n_then | apply HC.seq | apply HC.region | refine HL.pa ?_ | refine HL.ga rfl ?_ | refine HL.na rfl ?_ | refine HL.nu rfl rfl ?_ | apply HC.block | apply HC.skip | apply HC.exit | apply HC.ret | apply HX.e_block | refine HX.e_other rfl ?_ | apply HX.e_then | apply HX.e_again | apply HX.n_block | apply HX.r_then | apply HX.r_block | apply HX.r_again | refine HC.cond_yes rfl ?_ | refine HC.cond_no rfl ?_ | refine HL.one (H1.ldb rfl memA rfl rfl ?_) | refine HC.cond rfl (fun hc => ?_) (fun hc => ?_) | refine HC.cond_b rfl (fun hc => ?_) (fun hc => ?_))
    refine HL.one (H1.alloc (cs := rcells rcZ) rfl rfl (fun b5 => ?_))
    repeat' (first | apply HL.fold | apply HA.fold | apply HL.nil | apply HX.n_then | apply HC.seq | apply HC.region | refine HL.pa ?_ | refine HL.ga rfl ?_ | refine HL.na rfl ?_ | refine HL.nu rfl rfl ?_ | apply HC.block | apply HC.skip | apply HC.exit | apply HC.ret | apply HX.e_block | refine HX.e_other rfl ?_ | apply HX.e_then | apply HX.e_again | apply HX.n_block | apply HX.r_then | apply HX.r_block | apply HX.r_again | refine HC.cond_yes rfl ?_ | refine HC.cond_no rfl ?_ | refine HL.one (H1.ldb rfl memA rfl rfl ?_) | refine HC.cond rfl (fun hc => ?_) (fun hc => ?_) | refine HC.cond_b rfl (fun hc => ?_) (fun hc => ?_))
    refine HL.one (H1.stAgg (cs := rcells rcZ) (vs := rcells r) rfl rfl rfl (rcells_one r) Rpl.here rfl ?_)
    repeat' (first | apply HL.fold | apply HA.fold | apply HL.nil | apply HX.n_then | apply HC.seq | apply HC.region | refine HL.pa ?_ | refine HL.ga rfl ?_ | refine HL.na rfl ?_ | refine HL.nu rfl rfl ?_ | apply HC.block | apply HC.skip | apply HC.exit | apply HC.ret | apply HX.e_block | refine HX.e_other rfl ?_ | apply HX.e_then | apply HX.e_again | apply HX.n_block | apply HX.r_then | apply HX.r_block | apply HX.r_again | refine HC.cond_yes rfl ?_ | refine HC.cond_no rfl ?_ | refine HL.one (H1.ldb rfl memA rfl rfl ?_) | refine HC.cond rfl (fun hc => ?_) (fun hc => ?_) | refine HC.cond_b rfl (fun hc => ?_) (fun hc => ?_))
    refine HX.ra hL rplA ?_
    repeat' (first | apply HL.fold | apply HA.fold | apply HL.nil | apply HX.n_then | apply HC.seq | apply HC.region | refine HL.pa ?_ | refine HL.ga rfl ?_ | refine HL.na rfl ?_ | refine HL.nu rfl rfl ?_ | apply HC.block | apply HC.skip | apply HC.exit | apply HC.ret | apply HX.e_block | refine HX.e_other rfl ?_ | apply HX.e_then | apply HX.e_again | apply HX.n_block | apply HX.r_then | apply HX.r_block | apply HX.r_again | refine HC.cond_yes rfl ?_ | refine HC.cond_no rfl ?_ | refine HL.one (H1.ldb rfl memA rfl rfl ?_) | refine HC.cond rfl (fun hc => ?_) (fun hc => ?_) | refine HC.cond_b rfl (fun hc => ?_) (fun hc => ?_))
    refine HC.anyCR ([(⟨b3', 0, none⟩, fnV g)]) rfl ?_
    refine HB.ld 1 rfl rfl memD ?_
    refine HB.all (by repeat (first | exact Keep.nil | refine Keep.blk (by (repeat (first | exact List.Mem.head _ | apply List.Mem.tail)); done) rfl ?_ | refine Keep.grow (by (repeat (first | exact List.Mem.head _ | apply List.Mem.tail)); done) (by assumption) ?_ | refine Keep.base (by assumption) ?_)) [0, 2] (by kernel_rfl) rfl ⟨⟨_, rfl, ?_⟩, ⟨_, rfl, ?_⟩, trivial⟩
    · refine HP.one ?_
      refine H1.ldb (v := .slice a1 xs.length c1) (cs := [.slice a1 xs.length c1]) rfl memA rfl rfl ?_
      apply HB.fold
      refine HB.all (by repeat (first | exact Keep.nil | refine Keep.blk (by (repeat (first | exact List.Mem.head _ | apply List.Mem.tail)); done) rfl ?_ | refine Keep.grow (by (repeat (first | exact List.Mem.head _ | apply List.Mem.tail)); done) (by assumption) ?_ | refine Keep.base (by assumption) ?_)) [2] (by kernel_rfl) rfl ⟨⟨_, rfl, ?_⟩, trivial⟩
      refine HP.one ?_
      refine H1.ldAgg (vs := rcells r) rfl memA rfl (fun i v hv => by rw [Nat.zero_add]; exact hv) rfl ?_
      apply HB.fold
      refine HB.all (by repeat (first | exact Keep.nil | refine Keep.blk (by (repeat (first | exact List.Mem.head _ | apply List.Mem.tail)); done) rfl ?_ | refine Keep.grow (by (repeat (first | exact List.Mem.head _ | apply List.Mem.tail)); done) (by assumption) ?_ | refine Keep.base (by assumption) ?_)) [3] (by kernel_rfl) rfl ⟨⟨_, rfl, ?_⟩, trivial⟩
      refine HP.one ?_
      refine H1.callv0 (hf := hg) (f := g) (cap := []) (vs := [recV r]) rfl rfl rfl (fun w' _ => call1 (hgf r w')) ?_
      apply HB.fold
      refine HB.all (by repeat (first | exact Keep.nil | refine Keep.blk (by (repeat (first | exact List.Mem.head _ | apply List.Mem.tail)); done) rfl ?_ | refine Keep.grow (by (repeat (first | exact List.Mem.head _ | apply List.Mem.tail)); done) (by assumption) ?_ | refine Keep.base (by assumption) ?_)) [4] (by kernel_rfl) rfl ⟨⟨_, rfl, ?_⟩, trivial⟩
      refine HP.one ?_
      refine H1.lit (cs := [zv (f r)]) rfl rfl rfl rfl rfl rfl (fun b8 => ?_)
      apply HB.fold
      refine HB.all (by repeat (first | exact Keep.nil | refine Keep.blk (by (repeat (first | exact List.Mem.head _ | apply List.Mem.tail)); done) rfl ?_ | refine Keep.grow (by (repeat (first | exact List.Mem.head _ | apply List.Mem.tail)); done) (by assumption) ?_ | refine Keep.base (by assumption) ?_)) [5] (by kernel_rfl) rfl ⟨⟨_, rfl, ?_⟩, trivial⟩
      refine HP.one ?_
      refine H1.app1 (u := zv (f r)) rfl rfl (fun _ _ => by first | ((repeat (first | with_reducible exact Rpl.here | with_reducible apply Rpl.there)); done) | (repeat (first | exact Rpl.here | apply Rpl.there))) memA rfl rfl hFl rfl rfl (fun a' c' => ?_)
      apply HB.fold
      refine HB.all (by repeat (first | exact Keep.nil | refine Keep.blk (by (repeat (first | exact List.Mem.head _ | apply List.Mem.tail)); done) rfl ?_ | refine Keep.grow (by (repeat (first | exact List.Mem.head _ | apply List.Mem.tail)); done) (by assumption) ?_ | refine Keep.base (by assumption) ?_)) [6] (by kernel_rfl) rfl ⟨⟨_, rfl, ?_⟩, trivial⟩
      refine HP.one ?_
      refine H1.st (b := b4) rfl rfl (by intro _ h; cases h) (by intro _ h; cases h) rplA (by exact Nat.zero_lt_one) ?_
      apply HB.fold
      refine HB.done (by repeat (first | exact Keep.nil | refine Keep.blk (by (repeat (first | exact List.Mem.head _ | apply List.Mem.tail)); done) rfl ?_ | refine Keep.grow (by (repeat (first | exact List.Mem.head _ | apply List.Mem.tail)); done) (by assumption) ?_ | refine Keep.base (by assumption) ?_)) (by kernel_rfl) ?_
      repeat' (first | apply HL.fold | apply HA.fold | apply HL.nil | apply HX.n_then | apply HC.seq | apply HC.region | refine HL.pa ?_ | refine HL.ga rfl ?_ | refine HL.na rfl ?_ | refine HL.nu rfl rfl ?_ | apply HC.block | apply HC.skip | apply HC.exit | apply HC.ret | apply HX.e_block | refine HX.e_other rfl ?_ | apply HX.e_then | apply HX.e_again | apply HX.n_block | apply HX.r_then | apply HX.r_block | apply HX.r_again | refine HC.cond_yes rfl ?_ | refine HC.cond_no rfl ?_ | refine HL.one (H1.ldb rfl memA rfl rfl ?_) | refine HC.cond rfl (fun hc => ?_) (fun hc => ?_) | refine HC.cond_b rfl (fun hc => ?_) (fun hc => ?_))
      refine HX.rp_n hL rplA fun w' hM => ⟨rfl, (some ⟨a', 0, none⟩, c'), trivial, ?_⟩
      dsimp only
      rw [List.length_append, ints_app]
      exact hM.sub (by repeat (first | exact Hs.nil _ | (refine Hs.cons pickA ?_)))
    · refine HP.one ?_
      refine H1.ldAgg (vs := rcells r) rfl memA rfl (fun i v hv => by rw [Nat.zero_add]; exact hv) rfl ?_
      apply HB.fold
      refine HB.all (by repeat (first | exact Keep.nil | refine Keep.blk (by (repeat (first | exact List.Mem.head _ | apply List.Mem.tail)); done) rfl ?_ | refine Keep.grow (by (repeat (first | exact List.Mem.head _ | apply List.Mem.tail)); done) (by assumption) ?_ | refine Keep.base (by assumption) ?_)) [0, 3] (by kernel_rfl) rfl ⟨⟨_, rfl, ?_⟩, ⟨_, rfl, ?_⟩, trivial⟩
      · refine HP.one ?_
        refine H1.ldb (v := .slice a1 xs.length c1) (cs := [.slice a1 xs.length c1]) rfl memA rfl rfl ?_
        apply HB.fold
        refine HB.all (by repeat (first | exact Keep.nil | refine Keep.blk (by (repeat (first | exact List.Mem.head _ | apply List.Mem.tail)); done) rfl ?_ | refine Keep.grow (by (repeat (first | exact List.Mem.head _ | apply List.Mem.tail)); done) (by assumption) ?_ | refine Keep.base (by assumption) ?_)) [3] (by kernel_rfl) rfl ⟨⟨_, rfl, ?_⟩, trivial⟩
        refine HP.one ?_
        refine H1.callv0 (hf := hg) (f := g) (cap := []) (vs := [recV r]) rfl rfl rfl (fun w' _ => call1 (hgf r w')) ?_
        apply HB.fold
        refine HB.all (by repeat (first | exact Keep.nil | refine Keep.blk (by (repeat (first | exact List.Mem.head _ | apply List.Mem.tail)); done) rfl ?_ | refine Keep.grow (by (repeat (first | exact List.Mem.head _ | apply List.Mem.tail)); done) (by assumption) ?_ | refine Keep.base (by assumption) ?_)) [4] (by kernel_rfl) rfl ⟨⟨_, rfl, ?_⟩, trivial⟩
        refine HP.one ?_
        refine H1.lit (cs := [zv (f r)]) rfl rfl rfl rfl rfl rfl (fun b8 => ?_)
        apply HB.fold
        refine HB.all (by repeat (first | exact Keep.nil | refine Keep.blk (by (repeat (first | exact List.Mem.head _ | apply List.Mem.tail)); done) rfl ?_ | refine Keep.grow (by (repeat (first | exact List.Mem.head _ | apply List.Mem.tail)); done) (by assumption) ?_ | refine Keep.base (by assumption) ?_)) [5] (by kernel_rfl) rfl ⟨⟨_, rfl, ?_⟩, trivial⟩
        refine HP.one ?_
        refine H1.app1 (u := zv (f r)) rfl rfl (fun _ _ => by first | ((repeat (first | with_reducible exact Rpl.here | with_reducible apply Rpl.there)); done) | (repeat (first | exact Rpl.here | apply Rpl.there))) memA rfl rfl hFl rfl rfl (fun a' c' => ?_)
        apply HB.fold
        refine HB.all (by repeat (first | exact Keep.nil | refine Keep.blk (by (repeat (first | exact List.Mem.head _ | apply List.Mem.tail)); done) rfl ?_ | refine Keep.grow (by (repeat (first | exact List.Mem.head _ | apply List.Mem.tail)); done) (by assumption) ?_ | refine Keep.base (by assumption) ?_)) [6] (by kernel_rfl) rfl ⟨⟨_, rfl, ?_⟩, trivial⟩
        refine HP.one ?_
        refine H1.st (b := b4) rfl rfl (by intro _ h; cases h) (by intro _ h; cases h) rplA (by exact Nat.zero_lt_one) ?_
        apply HB.fold
        refine HB.done (by repeat (first | exact Keep.nil | refine Keep.blk (by (repeat (first | exact List.Mem.head _ | apply List.Mem.tail)); done) rfl ?_ | refine Keep.grow (by (repeat (first | exact List.Mem.head _ | apply List.Mem.tail)); done) (by assumption) ?_ | refine Keep.base (by assumption) ?_)) (by kernel_rfl) ?_
        repeat' (first | apply HL.fold | apply HA.fold | apply HL.nil | apply HX.n_then | apply HC.seq | apply HC.region | refine HL.pa ?_ | refine HL.ga rfl ?_ | refine HL.na rfl ?_ | refine HL.nu rfl rfl ?_ | apply HC.block | apply HC.skip | apply HC.exit | apply HC.ret | apply HX.e_block | refine HX.e_other rfl ?_ | apply HX.e_then | apply HX.e_again | apply HX.n_block | apply HX.r_then | apply HX.r_block | apply HX.r_again | refine HC.cond_yes rfl ?_ | refine HC.cond_no rfl ?_ | refine HL.one (H1.ldb rfl memA rfl rfl ?_) | refine HC.cond rfl (fun hc => ?_) (fun hc => ?_) | refine HC.cond_b rfl (fun hc => ?_) (fun hc => ?_))
        refine HX.rp_n hL rplA fun w' hM => ⟨rfl, (some ⟨a', 0, none⟩, c'), trivial, ?_⟩
        dsimp only
        rw [List.length_append, ints_app]
        exact hM.sub (by repeat (first | exact Hs.nil _ | (refine Hs.cons pickA ?_)))
      · refine HP.one ?_
        refine H1.callv0 (hf := hg) (f := g) (cap := []) (vs := [recV r]) rfl rfl rfl (fun w' _ => call1 (hgf r w')) ?_
        apply HB.fold
        refine HB.all (by repeat (first | exact Keep.nil | refine Keep.blk (by (repeat (first | exact List.Mem.head _ | apply List.Mem.tail)); done) rfl ?_ | refine Keep.grow (by (repeat (first | exact List.Mem.head _ | apply List.Mem.tail)); done) (by assumption) ?_ | refine Keep.base (by assumption) ?_)) [0, 4] (by kernel_rfl) rfl ⟨⟨_, rfl, ?_⟩, ⟨_, rfl, ?_⟩, trivial⟩
        · refine HP.one ?_
          refine H1.ldb (v := .slice a1 xs.length c1) (cs := [.slice a1 xs.length c1]) rfl memA rfl rfl ?_
          apply HB.fold
          refine HB.all (by repeat (first | exact Keep.nil | refine Keep.blk (by (repeat (first | exact List.Mem.head _ | apply List.Mem.tail)); done) rfl ?_ | refine Keep.grow (by (repeat (first | exact List.Mem.head _ | apply List.Mem.tail)); done) (by assumption) ?_ | refine Keep.base (by assumption) ?_)) [4] (by kernel_rfl) rfl ⟨⟨_, rfl, ?_⟩, trivial⟩
          refine HP.one ?_
          refine H1.lit (cs := [zv (f r)]) rfl rfl rfl rfl rfl rfl (fun b8 => ?_)
          apply HB.fold
          refine HB.all (by repeat (first | exact Keep.nil | refine Keep.blk (by (repeat (first | exact List.Mem.head _ | apply List.Mem.tail)); done) rfl ?_ | refine Keep.grow (by (repeat (first | exact List.Mem.head _ | apply List.Mem.tail)); done) (by assumption) ?_ | refine Keep.base (by assumption) ?_)) [5] (by kernel_rfl) rfl ⟨⟨_, rfl, ?_⟩, trivial⟩
          refine HP.one ?_
          refine H1.app1 (u := zv (f r)) rfl rfl (fun _ _ => by first | ((repeat (first | with_reducible exact Rpl.here | with_reducible apply Rpl.there)); done) | (repeat (first | exact Rpl.here | apply Rpl.there))) memA rfl rfl hFl rfl rfl (fun a' c' => ?_)
          apply HB.fold
          refine HB.all (by repeat (first | exact Keep.nil | refine Keep.blk (by (repeat (first | exact List.Mem.head _ | apply List.Mem.tail)); done) rfl ?_ | refine Keep.grow (by (repeat (first | exact List.Mem.head _ | apply List.Mem.tail)); done) (by assumption) ?_ | refine Keep.base (by assumption) ?_)) [6] (by kernel_rfl) rfl ⟨⟨_, rfl, ?_⟩, trivial⟩
          refine HP.one ?_
          refine H1.st (b := b4) rfl rfl (by intro _ h; cases h) (by intro _ h; cases h) rplA (by exact Nat.zero_lt_one) ?_
          apply HB.fold
          refine HB.done (by repeat (first | exact Keep.nil | refine Keep.blk (by (repeat (first | exact List.Mem.head _ | apply List.Mem.tail)); done) rfl ?_ | refine Keep.grow (by (repeat (first | exact List.Mem.head _ | apply List.Mem.tail)); done) (by assumption) ?_ | refine Keep.base (by assumption) ?_)) (by kernel_rfl) ?_
          repeat' (first | apply HL.fold | apply HA.fold | apply HL.nil | apply HX.n_then | apply HC.seq | apply HC.region | refine HL.pa ?_ | refine HL.ga rfl ?_ | refine HL.na rfl ?_ | refine HL.nu rfl rfl ?_ | apply HC.block | apply HC.skip | apply HC.exit | apply HC.ret | apply HX.e_block | refine HX.e_other rfl ?_ | apply HX.e_then | apply HX.e_again | apply HX.n_block | apply HX.r_then | apply HX.r_block | apply HX.r_again | refine HC.cond_yes rfl ?_ | refine HC.cond_no rfl ?_ | refine HL.one (H1.ldb rfl memA rfl rfl ?_) | refine HC.cond rfl (fun hc => ?_) (fun hc => ?_) | refine HC.cond_b rfl (fun hc => ?_) (fun hc => ?_))
          refine HX.rp_n hL rplA fun w' hM => ⟨rfl, (some ⟨a', 0, none⟩, c'), trivial, ?_⟩
          dsimp only
          rw [List.length_append, ints_app]
          exact hM.sub (by repeat (first | exact Hs.nil _ | (refine Hs.cons pickA ?_)))
        · refine HP.one ?_
          refine H1.lit (cs := [zv (f r)]) rfl rfl rfl rfl rfl rfl (fun b8 => ?_)
          apply HB.fold
          refine HB.all (by repeat (first | exact Keep.nil | refine Keep.blk (by (repeat (first | exact List.Mem.head _ | apply List.Mem.tail)); done) rfl ?_ | refine Keep.grow (by (repeat (first | exact List.Mem.head _ | apply List.Mem.tail)); done) (by assumption) ?_ | refine Keep.base (by assumption) ?_)) [0] (by kernel_rfl) rfl ⟨⟨_, rfl, ?_⟩, trivial⟩
          refine HP.one ?_
          refine H1.ldb (v := .slice a1 xs.length c1) (cs := [.slice a1 xs.length c1]) rfl memA rfl rfl ?_
          apply HB.fold
          refine HB.all (by repeat (first | exact Keep.nil | refine Keep.blk (by (repeat (first | exact List.Mem.head _ | apply List.Mem.tail)); done) rfl ?_ | refine Keep.grow (by (repeat (first | exact List.Mem.head _ | apply List.Mem.tail)); done) (by assumption) ?_ | refine Keep.base (by assumption) ?_)) [5] (by kernel_rfl) rfl ⟨⟨_, rfl, ?_⟩, trivial⟩
          refine HP.one ?_
          refine H1.app1 (u := zv (f r)) rfl rfl (fun _ _ => by first | ((repeat (first | with_reducible exact Rpl.here | with_reducible apply Rpl.there)); done) | (repeat (first | exact Rpl.here | apply Rpl.there))) memA rfl rfl hFl rfl rfl (fun a' c' => ?_)
          apply HB.fold
          refine HB.all (by repeat (first | exact Keep.nil | refine Keep.blk (by (repeat (first | exact List.Mem.head _ | apply List.Mem.tail)); done) rfl ?_ | refine Keep.grow (by (repeat (first | exact List.Mem.head _ | apply List.Mem.tail)); done) (by assumption) ?_ | refine Keep.base (by assumption) ?_)) [6] (by kernel_rfl) rfl ⟨⟨_, rfl, ?_⟩, trivial⟩
          refine HP.one ?_
          refine H1.st (b := b4) rfl rfl (by intro _ h; cases h) (by intro _ h; cases h) rplA (by exact Nat.zero_lt_one) ?_
          apply HB.fold
          refine HB.done (by repeat (first | exact Keep.nil | refine Keep.blk (by (repeat (first | exact List.Mem.head _ | apply List.Mem.tail)); done) rfl ?_ | refine Keep.grow (by (repeat (first | exact List.Mem.head _ | apply List.Mem.tail)); done) (by assumption) ?_ | refine Keep.base (by assumption) ?_)) (by kernel_rfl) ?_
          repeat' (first | apply HL.fold | apply HA.fold | apply HL.nil | apply HX.n_then | apply HC.seq | apply HC.region | refine HL.pa ?_ | refine HL.ga rfl ?_ | refine HL.na rfl ?_ | refine HL.nu rfl rfl ?_ | apply HC.block | apply HC.skip | apply HC.exit | apply HC.ret | apply HX.e_block | refine HX.e_other rfl ?_ | apply HX.e_then | apply HX.e_again | apply HX.n_block | apply HX.r_then | apply HX.r_block | apply HX.r_again | refine HC.cond_yes rfl ?_ | refine HC.cond_no rfl ?_ | refine HL.one (H1.ldb rfl memA rfl rfl ?_) | refine HC.cond rfl (fun hc => ?_) (fun hc => ?_) | refine HC.cond_b rfl (fun hc => ?_) (fun hc => ?_))
          refine HX.rp_n hL rplA fun w' hM => ⟨rfl, (some ⟨a', 0, none⟩, c'), trivial, ?_⟩
          dsimp only
          rw [List.length_append, ints_app]
          exact hM.sub (by repeat (first | exact Hs.nil _ | (refine Hs.cons pickA ?_)))
  · rintro D ⟨a1, c1⟩ -
    dsimp only
    have hxl : ((L.filter p).map f).length ≤ 1000000 := by
      rw [List.length_map]
      have := List.length_filter_le p L
      omega
    generalize (L.filter p).map f = xs at hxl ⊢
    repeat' (first | apply HL.fold | apply HA.fold | apply HL.nil | apply HX.n_then | apply HC.seq | apply HC.region | refine HL.pa ?_ | refine HL.ga rfl ?_ | refine HL.na rfl ?_ | refine HL.nu rfl rfl ?_ | apply HC.block | apply HC.skip | apply HC.exit | apply HC.ret | apply HX.e_block | refine HX.e_other rfl ?_ | apply HX.e_then | apply HX.e_again | apply HX.n_block | apply HX.r_then | apply HX.r_block | apply HX.r_again | refine HC.cond_yes rfl ?_ | refine HC.cond_no rfl ?_ | refine HL.one (H1.ldb rfl memA rfl rfl ?_) | refine HC.cond rfl (fun hc => ?_) (fun hc => ?_) | refine HC.cond_b rfl (fun hc => ?_) (fun hc => ?_))
    refine HL.one (H1.callk (α := Unit) (V := fun _ => .tuple #[]) (I := fun _ => True) (H' := fun _ => [A.dfr D, A.blk b3' [fnV g] 37, A.blk b4 [.slice a1 xs.length c1] 43, A.grow 3 1 a1 c1 xs.length (ints (srtI xs))]) (vs := [.slice a1 xs.length c1]) rfl rfl (fun w' hM => (sortI_fn hM rplA hxl).mono fun v w' h => ⟨(), trivial, h⟩) ?_)
    rintro - -
    repeat' (first | apply HL.fold | apply HA.fold | apply HL.nil | apply HX.n_then | apply HC.seq | apply HC.region | refine HL.pa ?_ | refine HL.ga rfl ?_ | refine HL.na rfl ?_ | refine HL.nu rfl rfl ?_ | apply HC.block | apply HC.skip | apply HC.exit | apply HC.ret | apply HX.e_block | refine HX.e_other rfl ?_ | apply HX.e_then | apply HX.e_again | apply HX.n_block | apply HX.r_then | apply HX.r_block | apply HX.r_again | refine HC.cond_yes rfl ?_ | refine HC.cond_no rfl ?_ | refine HL.one (H1.ldb rfl memA rfl rfl ?_) | refine HC.cond rfl (fun hc => ?_) (fun hc => ?_) | refine HC.cond_b rfl (fun hc => ?_) (fun hc => ?_))
    have hsl := srtI_len xs
    refine HL.one (H1.callk (α := Unit) (V := fun _ => .slice a1 (numL xs).length c1) (I := fun _ => True) (H' := fun _ => [A.dfr D, A.blk b3' [fnV g] 37, A.blk b4 [.slice a1 xs.length c1] 43, A.grow 3 1 a1 c1 (numL xs).length (ints (numL xs))]) (vs := [.slice a1 xs.length c1]) rfl rfl (fun w' hM => by
      have h := compactI_fn (l := srtI xs) (a := a1) (c := c1) (H' := [A.dfr D, A.blk b3' [fnV g] 37, A.blk b4 [.slice a1 xs.length c1] 43, A.grow 3 1 a1 c1 (numL xs).length (ints (numL xs))]) (by rw [← hsl] at hM; exact hM) (by rw [hsl]; unfold numL; first | ((repeat (first | with_reducible exact Rpl.here | with_reducible apply Rpl.there)); done) | (repeat (first | exact Rpl.here | apply Rpl.there))) (by omega)
      rw [hsl] at h
      exact h.mono fun v w' h => ⟨(), trivial, h⟩) ?_)
    rintro - -
    repeat' (first | apply HL.fold | apply HA.fold | apply HL.nil | apply HX.n_then | apply HC.seq | apply HC.region | refine HL.pa ?_ | refine HL.ga rfl ?_ | refine HL.na rfl ?_ | refine HL.nu rfl rfl ?_ | apply HC.block | apply HC.skip | apply HC.exit | apply HC.ret | apply HX.e_block | refine HX.e_other rfl ?_ | apply HX.e_then | apply HX.e_again | apply HX.n_block | apply HX.r_then | apply HX.r_block | apply HX.r_again | refine HC.cond_yes rfl ?_ | refine HC.cond_no rfl ?_ | refine HL.one (H1.ldb rfl memA rfl rfl ?_) | refine HC.cond rfl (fun hc => ?_) (fun hc => ?_) | refine HC.cond_b rfl (fun hc => ?_) (fun hc => ?_))
    refine HL.one (H1.st (b := b4) rfl rfl (by intro _ h; cases h) (by intro _ h; cases h) rplA (by exact Nat.zero_lt_one) ?_)
    repeat' (first | apply HL.fold | apply HA.fold | apply HL.nil | apply HX.n_then | apply HC.seq | apply HC.region | refine HL.pa ?_ | refine HL.ga rfl ?_ | refine HL.na rfl ?_ | refine HL.nu rfl rfl ?_ | apply HC.block | apply HC.skip | apply HC.exit | apply HC.ret | apply HX.e_block | refine HX.e_other rfl ?_ | apply HX.e_then | apply HX.e_again | apply HX.n_block | apply HX.r_then | apply HX.r_block | apply HX.r_again | refine HC.cond_yes rfl ?_ | refine HC.cond_no rfl ?_ | refine HL.one (H1.ldb rfl memA rfl rfl ?_) | refine HC.cond rfl (fun hc => ?_) (fun hc => ?_) | refine HC.cond_b rfl (fun hc => ?_) (fun hc => ?_))
    exact HX.retMc1 (b := b4) rfl rfl Pick.here memA fun w' hM => ⟨(a1, c1), trivial, rfl, hM.sub (by repeat (first | exact Hs.nil _ | (refine Hs.cons pickA ?_)))⟩
end Go.Sx

