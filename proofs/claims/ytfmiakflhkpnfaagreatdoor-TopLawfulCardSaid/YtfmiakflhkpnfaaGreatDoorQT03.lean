/-
  A result that is a variable's own cells, and how a function is entered with atoms at hand.
-/
import Derived.Test.YtfmiakflhkpnfaaGreatDoorQT02
import Derived.Laws.ResultCell
import Derived.MapKept
import Derived.Maps.RangeRun
import Derived.Lib.Join
import Derived.Lib.TrimByte
import Derived.KernelRfl
import Derived.Test.YtfmiakflhkpnfaaGreatDoorProg
import Derived.Laws.CopyRow
import Derived.RecoverIn
namespace Go.Sx
open Go Go.RowKit
theorem run_loadVarAgg {P : Program} {w : World} {t : TypeId} {b off : Nat} {vs : List Value} {z : Value} {n bb : Nat} [ha : ATy P t true] [hi : ITy P t z n bb] (hn : vs.length = n)
    (hc : ∀ i v, vs[i]? = some v → w.cell? ⟨b, off + i, none⟩ = some v) : (loadVar t ⟨b, off, none⟩).run P w = .ok (.agg vs.toArray) w := by
  simp only [loadVar, Sem.run_bind]
  simp [run_isAgg, run_sizeOf, loadCells, run_loadCellsFrom P w b off vs hc n 0 #[] (by omega), Result.andThen, Sem.run_bind]
section
variable {P : Program} {N : Nat} {E : Env} {w0 : World} {H : List Atom}
theorem HX.retc2 {fn : Func} {p u b bb n : Nat} {ty e : TypeId} {z v : Value} {cs : List Value} {R : Value → World → Prop} [ha : ATy P ty true] [hi : ITy P ty z n bb] (hr : fn.results = #[.cell p ty, .tmp u]) (hp : Env.g E p = some (.pointer (some ⟨b, 0, none⟩)))
    (hv : Env.g E u = some v) (hm : A.blk b cs e ∈ H) (hn : cs.length = n) (h : ∀ w, Mm w0 H w → R (.tuple #[.agg cs.toArray, v]) w) : HX N [] .ret (bodyPost P fn (RetP R)) E w0 H := fun w hM a ha => by
  refine ⟨ha.defers, .tuple #[.agg cs.toArray, v], ?_, ⟨_, rfl, h w hM⟩⟩
  have e1 : a.tmps.getD p undef = .pointer (some ⟨b, 0, none⟩) := by rw [Array.getD_eq_getD_getElem?, ha.get _ _ hp]; rfl
  have e2 : a.tmps.getD u undef = v := by rw [Array.getD_eq_getD_getElem?, ha.get _ _ hv]; rfl
  rw [results_cell_tmp hr, e1, e2]
  have := run_loadVarAgg (P := P) (w := w) (t := ty) (b := b) (off := 0) hn (fun i v hv => by rw [Nat.zero_add]; exact (hM.blk hm).cell hv)
  simp [asAddr, Result.andThen, this]
theorem HX.retc1 {fn : Func} {p b bb n : Nat} {ty e : TypeId} {z : Value} {cs : List Value} {R : Value → World → Prop} [ha : ATy P ty true] [hi : ITy P ty z n bb] (hr : fn.results = #[.cell p ty]) (hp : Env.g E p = some (.pointer (some ⟨b, 0, none⟩)))
    (hm : A.blk b cs e ∈ H) (hn : cs.length = n) (h : ∀ w, Mm w0 H w → R (.agg cs.toArray) w) : HX N [] .ret (bodyPost P fn (RetP R)) E w0 H := fun w hM a ha => by
  refine ⟨ha.defers, .agg cs.toArray, ?_, ⟨_, rfl, h w hM⟩⟩
  have e1 : a.tmps.getD p undef = .pointer (some ⟨b, 0, none⟩) := by rw [Array.getD_eq_getD_getElem?, ha.get _ _ hp]; rfl
  have e1' : a.tmps[p]?.getD undef = .pointer (some ⟨b, 0, none⟩) := by simpa using e1
  have := run_loadVarAgg (P := P) (w := w) (t := ty) (b := b) (off := 0) hn (fun i v hv => by rw [Nat.zero_add]; exact (hM.blk hm).cell hv)
  simp [results, hr, e1', asAddr, this]
theorem enterK {f : FuncId} {fn : Func} {c : Code} {l : List Value} {R : Value → World → Prop} {w : World} [hf : FnIs P f fn] (hM : Mm w0 H w) (hb : fn.body = some c) (hN : fn.ntmps = N) (hl : Nat.ble l.length N = true)
    (h : HC P none N [] c (bodyPost P fn (RetP R)) (Env.of 0 l) w0 H) : Fn P f l.toArray w R := enter hb hN hl (h w hM)
end
end Go.Sx
/-
  The layer with atoms: bytes and strings.
-/
namespace Go.Sx
open Go Go.RowKit
def mkS (n : Nat) (f : Nat → Nat) : ByteArray := ⟨((List.range n).map fun q => UInt8.ofNat (f q)).toArray⟩
def u8v (n : Nat) : Value := .int .u8 (n : Int)
section
variable {P : Program} {r : Option Nat} {N : Nat} {ds : List Deferred} {ol rest : List Oper} {Q : Post} {E : Env} {w0 : World} {H : List Atom} {next : Act → World → Prop} {g : Option (Nat × Bool)} {fuel : Nat} {listed : Array Bool}
variable {d : Nat} {t t' ty : TypeId} {pos : String} {af : Array Edge} {x y : Operand} {m n : Int} {a b : Nat}
theorem HQ.ldb {v : Value} {b i : Nat} {cs : List Value} {e : TypeId} [ha : ATy P t false] (hx : Env.ev E x = some (.pointer (some ⟨b, i, none⟩))) (hm : A.blk b cs e ∈ H) (hi : cs[i]? = some v) (hd : Nat.blt d N = true)
    (h : HQ P r N ds ol rest Q ((d, v) :: E) w0 H) : HQ P r N ds ol (⟨some d, .load t x, ty, pos, af, none⟩ :: rest) Q E w0 H := HQ.ld hx (fun _ hM => (hM.blk hm).cell hi) hd h
theorem op_mono2 {F : Fence} {n' : Nat} {o : Oper} {a : Act} {w : World} {K K' : Act → World → Prop} {Q Q' : Post} (h : ∀ a w, K a w → K' a w) (hq : ∀ e a w, e ≠ .normal → Q e a w → Q' e a w)
    (hh : o.wpIn F n' P a w K Q) : o.wpIn F n' P a w K' Q' := by
  unfold Oper.wpIn at *
  refine ⟨hh.1, ?_⟩
  have hh := hh.2
  generalize (o.semAt F.round a.eval).run P w = r at *
  cases r with
  | ok x w' =>
    cases x <;> simp only [Oper.uponIn] at hh ⊢ <;>
      first
        | exact h _ _ hh
        | exact ⟨hh.1, CallsIn.mono hh.2 (fun e w'' he => by cases e <;> first | exact h _ _ he | exact hq _ _ _ (by simp) he | (obtain ⟨a1, w1, h1⟩ := he; exact ⟨a1, w1, hq _ _ _ (by simp) h1⟩))⟩
        | exact ⟨hh.1, RowsIn.mono hh.2 (fun _ _ he => h _ _ he)⟩
        | exact ⟨hh.1, RoundIn.mono hh.2 (fun e w'' he => by cases e <;> first | exact h _ _ he | exact hq _ _ _ (by simp) he | (obtain ⟨a1, w1, h1⟩ := he; exact ⟨a1, w1, hq _ _ _ (by simp) h1⟩))⟩
  | halt x w' => cases x <;> simp only [Oper.uponIn] at hh ⊢ <;> first | exact hh | exact hq _ _ _ (by simp) hh
end
theorem row_step {n i : Nat} {f g : Nat → Value} {v : Value} (h1 : g i = v) (h2 : ∀ q, q ≠ i → f q = g q) : (row n f).set i v = row n g := by
  rw [row_set]
  apply row_congr
  intro q _
  by_cases e : q = i
  · subst e; simp [h1]
  · simp [e, h2 q e]
theorem Hs.blk {b : Nat} {cs cs' : List Value} {e : TypeId} {H1 H' : List Atom} (h : cs = cs') (hs : Hs H1 H') : Hs (A.blk b cs e :: H1) (A.blk b cs' e :: H') := by
  subst h; exact Hs.cons Pick.here hs
end Go.Sx
/-
  Slices of numbers: as lists; the library's small functions on them; range loops.
-/
namespace Go.Sx
open Go Go.RowKit
abbrev zv (x : Int) : Value := .int .i64 x
def ints (l : List Int) : List Value := l.map zv
def at' (l : List Int) (i : Nat) : Int := l.getD i 0
theorem ints_len (l : List Int) : (ints l).length = l.length := by simp [ints]
theorem ints_get {l : List Int} {i : Nat} (h : i < l.length) : (ints l)[i]? = some (zv (at' l i)) := by simp [ints, at', h]
theorem ints_app (l m : List Int) : ints (l ++ m) = ints l ++ ints m := by simp [ints]
theorem ints_one : ∀ (l : List Int), ∀ u ∈ ints l, u.oneCell' = true := fun l u hu => by
  obtain ⟨x, -, rfl⟩ := List.mem_map.1 hu; rfl
theorem at_mem {l : List Int} {i : Nat} (h : i < l.length) : at' l i ∈ l := by
  unfold at'; rw [List.getD_eq_getElem?_getD, List.getElem?_eq_getElem h]; exact List.getElem_mem h
theorem take_at {l : List Int} {i : Nat} (h : i < l.length) : l.take (i + 1) = l.take i ++ [at' l i] := by
  rw [List.take_succ_eq_append_getElem h]; simp [at', h]
theorem Rd.isInts {w : World} {v : Value} {l : List Int} (h : Rd w v (ints l)) : ∃ a c, v = .slice a l.length c ∧ l.length ≤ c := by
  obtain ⟨a, c, h1, h2, -⟩ := h
  rw [ints_len] at h1 h2
  exact ⟨a, c, h1, h2⟩
theorem Rd.iat {w : World} {a : Option Addr} {n c : Nat} {l : List Int} (h : Rd w (.slice a n c) (ints l)) (hne : l ≠ []) : ∃ b off, a = some ⟨b, off, none⟩ ∧ b < w.heap.size := by
  obtain ⟨b, off, c', h1, -, h3, -⟩ := h.at (by intro e; apply hne; have := congrArg List.length e; simpa [ints] using this)
  cases h1
  exact ⟨b, off, rfl, h3⟩
end Go.Sx
/-
  Statements whose order is open: the lexical order is enough: checked on a skeleton.
-/
namespace Go.Sx
open Go Go.RowKit
abbrev Sk := Option Nat × List Nat × List Nat
def memB (x : Nat) : List Nat → Bool
  | [] => false
  | y :: l => Nat.beq x y || memB x l
theorem memB_iff {x : Nat} : ∀ {l : List Nat}, memB x l = true ↔ x ∈ l
  | [] => by simp [memB]
  | y :: l => by
    simp only [memB, Bool.or_eq_true, memB_iff, List.mem_cons]
    constructor
    · rintro (h | h)
      · exact .inl (Nat.eq_of_beq_eq_true h)
      · exact .inr h
    · rintro (rfl | h)
      · exact .inl (Nat.beq_refl _)
      · exact .inr h
def apartS (x y : Sk) : Bool :=
  (match x.1 with
   | some d => !(memB d y.2.1) && (match y.1 with | some e => !(Nat.beq e d) | none => true)
   | none => true) &&
  (match y.1 with
   | some d => !(memB d x.2.1)
   | none => true)
def skOf (ops : Array Oper) (o : Oper) : Sk := (o.dst, o.looksAt ops, (o.after.toList.filter (Region.binds .any)).map (·.on))
def pairB (k : Nat) (x : Sk) : List Sk → Bool
  | [] => true
  | y :: l => (memB k y.2.2 || apartS x y) && pairB k x l
def allLt (k : Nat) : List Nat → Bool
  | [] => true
  | x :: l => Nat.blt x k && allLt k l
def skB (k : Nat) : List Sk → Bool
  | [] => true
  | x :: l => allLt k x.2.2 && pairB k x l && skB (k + 1) l
theorem allLt_iff {k : Nat} : ∀ {l : List Nat}, allLt k l = true → ∀ x ∈ l, x < k
  | [], _, _, hx => by cases hx
  | y :: l, h, x, hx => by
    simp only [allLt, Bool.and_eq_true] at h
    rcases List.mem_cons.1 hx with rfl | hx
    · simpa [Nat.blt_eq] using h.1
    · exact allLt_iff h.2 x hx
theorem pairB_at {k : Nat} {x : Sk} : ∀ {l : List Sk}, pairB k x l = true → ∀ y ∈ l, k ∈ y.2.2 ∨ apartS x y = true
  | [], _, _, hy => by cases hy
  | z :: l, h, y, hy => by
    simp only [pairB, Bool.and_eq_true, Bool.or_eq_true] at h
    rcases List.mem_cons.1 hy with rfl | hy
    · exact h.1.imp (fun h => memB_iff.1 h) id
    · exact pairB_at h.2 y hy
theorem skB_at : ∀ {l : List Sk} {k : Nat}, skB k l = true → ∀ i x, l[i]? = some x → (∀ d ∈ x.2.2, d < k + i) ∧ ∀ j y, i < j → l[j]? = some y → (k + i) ∈ y.2.2 ∨ apartS x y = true
  | [], _, _, i, x, hx => by simp at hx
  | z :: l, k, h, i, x, hx => by
    simp only [skB, Bool.and_eq_true] at h
    cases i with
    | zero =>
      simp only [List.getElem?_cons_zero, Option.some.injEq] at hx
      subst hx
      refine ⟨allLt_iff h.1.1, fun j y hj hy => ?_⟩
      cases j with
      | zero => cases hj
      | succ j =>
        rw [List.getElem?_cons_succ] at hy
        exact pairB_at h.1.2 y (List.mem_of_getElem? hy)
    | succ i =>
      rw [List.getElem?_cons_succ] at hx
      obtain ⟨h1, h2⟩ := skB_at h.2 i x hx
      have e : k + 1 + i = k + (i + 1) := by omega
      rw [e] at h1 h2
      refine ⟨h1, fun j y hj hy => ?_⟩
      cases j with
      | zero => cases hj
      | succ j =>
        rw [List.getElem?_cons_succ] at hy
        exact h2 j y (by omega) hy
theorem contains_memB (d : Nat) (l : List Nat) : l.contains d = memB d l := by
  cases h : memB d l with
  | true => exact List.contains_iff_mem.2 (memB_iff.1 h)
  | false =>
    cases hc : l.contains d with
    | false => rfl
    | true => rw [memB_iff.2 (List.contains_iff_mem.1 hc)] at h; cases h
theorem apart_sk (ops : Array Oper) (x y : Oper) : x.apart ops y = apartS (skOf ops x) (skOf ops y) := by
  unfold Oper.apart apartS skOf
  simp only
  congr 1
  · cases x.dst with
    | none => rfl
    | some d =>
      simp only
      rw [contains_memB]
      congr 1
      cases y.dst with
      | none => rfl
      | some e =>
        simp only
        by_cases h : e = d
        · subst h; simp
        · have h1 : Nat.beq e d = false := beq_ne h
          rw [h1]; simp [h]
  · cases y.dst with
    | none => rfl
    | some d => simp only; rw [contains_memB]
theorem lexB_sk {l : List Oper} (sk : List Sk) (h1 : l.map (skOf l.toArray) = sk) (h2 : skB 0 sk = true) (h3 : Region.noSelect l.toArray = true) : Region.lexB .any l.toArray = true := by
  unfold Region.lexB
  rw [h3, Bool.true_and]
  have key : ∀ (fuel k : Nat) (listed : Array Bool), fuel + k = l.length → listed.size = l.length → (∀ i, i < l.length → listed[i]? = some (decide (i < k))) → Region.lexFrom .any l.toArray fuel k listed = true := by
    intro fuel
    induction fuel with
    | zero =>
      intro k listed hk hs hl
      unfold Region.lexFrom Region.ready
      rw [List.isEmpty_iff, List.filter_eq_nil_iff]
      intro i hi
      have hi' : i < l.length := by simpa using hi
      have e : listed.getD i true = true := by
        rw [Array.getD_eq_getD_getElem?, hl i hi']
        simp; omega
      simp [e]
    | succ fuel ih =>
      intro k listed hk hs hl
      have hkl : k < l.length := by omega
      obtain ⟨o, ho⟩ : ∃ o, l[k]? = some o := ⟨l[k], by simp [hkl]⟩
      have hsk : sk[k]? = some (skOf l.toArray o) := by rw [← h1, List.getElem?_map, ho]; rfl
      obtain ⟨g1, g2⟩ := skB_at h2 k _ hsk
      rw [Nat.zero_add] at g1 g2
      unfold Region.lexFrom
      rw [Bool.and_eq_true, Bool.and_eq_true]
      refine ⟨⟨?_, ?_⟩, ?_⟩
      · rw [List.contains_iff_mem]
        unfold Region.ready
        rw [List.mem_filter]
        refine ⟨by simpa using hkl, ?_⟩
        have e : listed.getD k true = false := by
          rw [Array.getD_eq_getD_getElem?, hl k hkl]; simp
        have e2 : (l.toArray)[k]? = some o := by simpa using ho
        rw [e, e2]
        simp only [Bool.not_false, Option.map_some, Option.getD_some, Bool.true_and]
        rw [Array.all_eq_true_iff_forall_mem]
        intro ed hed
        by_cases hb : Region.binds .any ed = true
        · have hlt : ed.on < k := g1 ed.on (by
            simp only [skOf, List.mem_map, List.mem_filter]
            exact ⟨ed, ⟨by simpa using hed, hb⟩, rfl⟩)
          have : listed.getD ed.on false = true := by
            rw [Array.getD_eq_getD_getElem?, hl ed.on (by omega)]; simp [hlt]
          rw [this]; simp
        · simp [hb]
      · unfold Region.free
        have e2 : (l.toArray)[k]? = some o := by simpa using ho
        rw [e2]
        simp only
        rw [List.all_eq_true]
        intro j hj
        have hj' : j < l.length := by simpa using hj
        by_cases hjk : j = k
        · simp [hjk]
        · by_cases hlt : j < k
          · have : listed.getD j true = true := by rw [Array.getD_eq_getD_getElem?, hl j hj']; simp [hlt]
            simp [this]
          · obtain ⟨oj, hoj⟩ : ∃ o, l[j]? = some o := ⟨l[j], by simp [hj']⟩
            have hskj : sk[j]? = some (skOf l.toArray oj) := by rw [← h1, List.getElem?_map, hoj]; rfl
            have e3 : (l.toArray)[j]? = some oj := by simpa using hoj
            rw [e3]
            simp only [Bool.or_eq_true]
            right
            rcases g2 j _ (by omega) hskj with h | h
            · left
              rw [Array.any_eq_true']
              simp only [skOf, List.mem_map, List.mem_filter] at h
              obtain ⟨ed, ⟨h4, h5⟩, h6⟩ := h
              exact ⟨ed, by simpa using h4, by simp [h5, h6]⟩
            · right
              rw [apart_sk]; exact h
      · refine ih (k + 1) _ (by omega) (by simp [hs]) fun i hi => ?_
        rw [Array.getElem?_setIfInBounds]
        by_cases e : k = i
        · subst e; simp [hs, hkl]
        · rw [if_neg e, hl i hi]
          congr 1
          rw [decide_eq_decide]
          omega
  have := key l.length 0 (Array.replicate l.length false) (by omega) (by simp) (fun i hi => by simp [hi])
  simpa using this
section
variable {P : Program} {r : Option Nat} {N : Nat} {ds : List Deferred} {Q : Post} {E : Env} {w0 : World} {H : List Atom}
theorem HC.quietS [hm : Mixed P] {id : Nat} {l : List Oper} (sk : List Sk) (h1 : l.map (skOf l.toArray) = sk) (h2 : skB 0 sk = true) (h3 : Region.noSelect l.toArray = true) (h : HQ P r N ds l l Q E w0 H) : HC P r N ds (.region id l.toArray true) Q E w0 H := HC.quiet (lexB_sk sk h1 h2 h3) h
end
end Go.Sx
/-
  The layer with atoms: maps whose keys are numbers.
-/
namespace Go.Sx
open Go Go.RowKit
def mpP (q : IntKind) (l : List (Int × Value)) (o : Obj) : Prop := ∃ es clk, o = .map es clk ∧ es.toList.map (fun e => (e.key, e.val)) = l.map fun p => (Value.int q p.1, p.2)
def A.mp (b : Nat) (q : IntKind) (l : List (Int × Value)) : Atom := A.obj b (mpP q l)
def mset : List (Int × Value) → Int → Value → List (Int × Value)
  | [], x, v => [(x, v)]
  | (y, u) :: l, x, v => if x = y then (x, v) :: l else (y, u) :: mset l x v
def mget : List (Int × Value) → Int → Option Value
  | [], _ => none
  | (y, u) :: l, x => if x = y then some u else mget l x
def midx : List (Int × Value) → Int → Option (Nat × Value)
  | [], _ => none
  | (y, u) :: l, x => if x = y then some (0, u) else (midx l x).map fun p => (p.1 + 1, p.2)
theorem findNow_int (q : IntKind) (x : Int) : ∀ (es : List MapEntry) (l : List (Int × Value)) (i : Nat), es.map (fun e => (e.key, e.val)) = l.map (fun p => (Value.int q p.1, p.2)) →
    Instr.findNow (.int q) (.int q x) es i = some ((midx l x).map fun p => (p.1 + i, p.2))
  | [], [], i, _ => rfl
  | [], _ :: _, _, h => by simp at h
  | _ :: _, [], _, h => by simp at h
  | e :: es, (y, u) :: l, i, h => by
    simp only [List.map_cons, List.cons.injEq, Prod.mk.injEq] at h
    obtain ⟨⟨h1, h2⟩, h3⟩ := h
    unfold Instr.findNow
    rw [h1]
    simp only [Instr.sameNow, if_true, midx]
    by_cases hxy : x = y
    · subst hxy
      simp [h2]
    · have : (x == y) = false := by simp [hxy]
      rw [this, if_neg hxy]
      simp only
      rw [findNow_int q x es l (i + 1) h3]
      cases midx l x with
      | none => rfl
      | some p => simp; omega
theorem midx_none {l : List (Int × Value)} {x : Int} (v : Value) (h : midx l x = none) : mset l x v = l ++ [(x, v)] := by
  induction l with
  | nil => rfl
  | cons p l ih =>
    obtain ⟨y, u⟩ := p
    simp only [midx] at h
    by_cases hxy : x = y
    · rw [if_pos hxy] at h; cases h
    · rw [if_neg hxy] at h
      simp only [mset, if_neg hxy, List.cons_append]
      rw [ih (by simpa using h)]
theorem midx_some {l : List (Int × Value)} {x : Int} (v : Value) {i : Nat} {u : Value} (h : midx l x = some (i, u)) : mset l x v = l.set i (x, v) ∧ i < l.length ∧ l[i]? = some (x, u) := by
  induction l generalizing i u with
  | nil => cases h
  | cons p l ih =>
    obtain ⟨y, u'⟩ := p
    simp only [midx] at h
    by_cases hxy : x = y
    · rw [if_pos hxy] at h
      cases h
      simp [mset, hxy]
    · rw [if_neg hxy] at h
      rw [Option.map_eq_some_iff] at h
      obtain ⟨⟨j, u2⟩, h1, h2⟩ := h
      cases h2
      obtain ⟨h3, h4, h5⟩ := ih h1
      simp only [mset, if_neg hxy, h3]
      exact ⟨by simp, by simpa using h4, by simpa using h5⟩
theorem run_checkKey_int {P : Program} {w : World} {k : TypeId} {q : IntKind} (hk : P.underlying k = some (.int q)) (e : Bool) (n : Nat) (x : Int) : (Instr.checkKey e (n + 1) k (.int q x)).run P w = .ok () w := by
  unfold Instr.checkKey
  simp only [Sem.run_bind, run_underlying hk, Result.andThen]
  rfl
theorem run_keyStays {P : Program} {w : World} (q : IntKind) (x : Int) : (Instr.keyThatStays (.int q x) (.int q x)).run P w = .ok (.int q x) w := by
  have : Instr.sameBits 10000 (.int q x) (.int q x) = true := by unfold Instr.sameBits; simp
  unfold Instr.keyThatStays
  rw [this]; rfl
theorem run_getMap {P : Program} {w : World} {b : Nat} {es : Array MapEntry} {clk : Nat} (hb : w.heap[b]? = some (.map es clk)) : (getObj b).run P w = .ok (.map es clk) w := by
  simp [getObj, Sem.run, hb]
theorem run_setMap {P : Program} {w : World} {b : Nat} {es : Array MapEntry} {clk : Nat} (o : Obj) (hb : w.heap[b]? = some (.map es clk)) : (setObj b o).run P w = .ok () (w.putObj b o) := by
  simp [setObj, Sem.run, hb, World.putObj]
theorem run_findKey_int {P : Program} {w : World} {k : TypeId} {q : IntKind} (hk : P.underlying k = some (.int q)) (x : Int) (es : List MapEntry) (l : List (Int × Value)) (hes : es.map (fun e => (e.key, e.val)) = l.map (fun p => (Value.int q p.1, p.2))) :
    (Instr.findKey k (.int q x) es).run P w = .ok (midx l x) w := by
  unfold Instr.findKey
  simp only [Sem.run_bind, run_underlying hk, Result.andThen, findNow_int q x es l 0 hes, Sem.run_pure]
  cases midx l x <;> rfl
section
variable {P : Program} {r : Option Nat} {N : Nat} {ds : List Deferred} {ol rest : List Oper} {Q : Post} {E : Env} {w0 : World} {H : List Atom} {next : Act → World → Prop} {g : Option (Nat × Bool)}
variable {d : Nat} {t ty : TypeId} {pos : String} {af : Array Edge} {x y z : Operand}
end
end Go.Sx
/-
  The layer with atoms: numbers without sign of 64 bits; maps with numbers as keys that are looked up, filled and ranged over.
-/
namespace Go.Sx
open Go Go.RowKit
theorem wrap_u64 {n : Nat} (h : n < 18446744073709551616) : IntKind.u64.wrap (n : Int) = (n : Int) := by
  simp [IntKind.wrap, IntKind.bits, IntKind.signed]; omega
section
variable {P : Program} {r : Option Nat} {N : Nat} {ds : List Deferred} {E : Env} {t t' ty : TypeId} {x y : Operand} {k' : IntKind} {m n : Int} {a b : Nat}
theorem POp.and64 (hx : Env.ev E x = some (.int .u64 m)) (hy : Env.ev E y = some (.int .u64 n)) (em : m = (a : Int)) (en : n = (b : Int)) (h1 : a < 18446744073709551616) (h2 : b < 18446744073709551616) :
    POp P N ds E (.binOp .and t x y t') ty (.int .u64 ((a &&& b : Nat) : Int)) := POp.bin hx hy guard_int fun w => by
  subst em; subst en
  have e : bits .and .u64 (a : Int) (b : Int) = ((a &&& b : Nat) : Int) := by
    show IntKind.u64.wrap (((BitVec.ofInt 64 a &&& BitVec.ofInt 64 b).toNat : Nat) : Int) = _
    rw [BitVec.toNat_and, ofInt_toNat a h1, ofInt_toNat b h2]
    exact wrap_u64 (Nat.lt_of_le_of_lt Nat.and_le_left h1)
  rw [binOp_and, intBits_and, e]; rfl
theorem POp.or64 (hx : Env.ev E x = some (.int .u64 m)) (hy : Env.ev E y = some (.int .u64 n)) (em : m = (a : Int)) (en : n = (b : Int)) (h1 : a < 18446744073709551616) (h2 : b < 18446744073709551616) :
    POp P N ds E (.binOp .or t x y t') ty (.int .u64 ((a ||| b : Nat) : Int)) := POp.bin hx hy guard_int fun w => by
  subst em; subst en
  have e : bits .or .u64 (a : Int) (b : Int) = ((a ||| b : Nat) : Int) := by
    show IntKind.u64.wrap (((BitVec.ofInt 64 a ||| BitVec.ofInt 64 b).toNat : Nat) : Int) = _
    rw [BitVec.toNat_or, ofInt_toNat a h1, ofInt_toNat b h2]
    exact wrap_u64 (Nat.or_lt_two_pow (n := 64) h1 h2)
  rw [binOp_or, intBits_or, e]; rfl
theorem POp.shr64 (hx : Env.ev E x = some (.int .u64 m)) (hy : Env.ev E y = some (.int k' n)) (em : m = (a : Int)) (en : n = (b : Int)) (h1 : b < 64) :
    POp P N ds E (.binOp .shr t x y t') ty (.int .u64 ((a >>> b : Nat) : Int)) := POp.bin hx hy guard_int fun w => by
  subst em; subst en
  rw [binOp_shr, shift_shr .u64 k' a b (by omega) (by simp [IntKind.bits]; omega), Nat.shiftRight_eq_div_pow]
  simp
theorem POp.shl64 (hx : Env.ev E x = some (.int .u64 m)) (hy : Env.ev E y = some (.int k' n)) (em : m = (a : Int)) (en : n = (b : Int)) (h1 : b < 64) (h2 : a <<< b < 18446744073709551616) :
    POp P N ds E (.binOp .shl t x y t') ty (.int .u64 ((a <<< b : Nat) : Int)) := POp.bin hx hy guard_int fun w => by
  subst em; subst en
  have e : ((a : Int) * 2 ^ ((b : Int).toNat)) = ((a <<< b : Nat) : Int) := by rw [Nat.shiftLeft_eq]; simp
  rw [binOp_shl, shift_shl .u64 k' a b (by omega) (by simp [IntKind.bits]; omega), e, wrap_u64 h2]; rfl
theorem POp.sub64 (hx : Env.ev E x = some (.int .u64 m)) (hy : Env.ev E y = some (.int .u64 n)) (em : m = (a : Int)) (en : n = (b : Int)) (h1 : b ≤ a) (h2 : a < 18446744073709551616) :
    POp P N ds E (.binOp .sub t x y t') ty (.int .u64 ((a - b : Nat) : Int)) := (POp.sub' hx hy).of (by
  subst em; subst en
  rw [show (a : Int) - (b : Int) = ((a - b : Nat) : Int) by omega, wrap_u64 (by omega)])
end
theorem midx_get (l : List (Int × Value)) (x : Int) : (midx l x).map (·.2) = mget l x := by
  induction l with
  | nil => rfl
  | cons p l ih =>
    obtain ⟨y, u⟩ := p
    simp only [midx, mget]
    split
    · rfl
    · rw [← ih]; cases midx l x <;> rfl
structure MQ (q : IntKind) (l : List (Int × Value)) (es : Array MapEntry) (clk : Nat) : Prop where
  ents : es.toList.map (fun e => (e.key, e.val)) = l.map fun p => (Value.int q p.1, p.2)
  born : ∀ e ∈ es.toList, e.born < clk
  nd : (es.toList.map (·.born)).Nodup
theorem MQ.nil (q : IntKind) : MQ q [] #[] 0 := ⟨rfl, by simp, by simp⟩
def mqP (q : IntKind) (l : List (Int × Value)) (o : Obj) : Prop := ∃ es clk, o = .map es clk ∧ MQ q l es clk
def A.mq (b : Nat) (q : IntKind) (l : List (Int × Value)) : Atom := A.obj b (mqP q l)
def A.mit (r b clk : Nat) (seen : Array Nat) : Atom := A.obj r fun o => o = .mapIter (some b) clk seen clk
section
variable {P : Program} {w : World} {t k e : TypeId} {q : IntKind} {b : Nat} {l : List (Int × Value)} {o : Obj} {z : Value} {sz bb : Nat}
theorem run_mapUpdate_mq (ht : P.underlying t = some (.map k e)) (hk : P.underlying k = some (.int q)) (hb : w.heap[b]? = some o) (ho : mqP q l o) (x : Int) (v : Value) :
    ∃ o', (Instr.mapUpdate t (.map (some b)) (.int q x) v).run P w = .ok () (w.putObj b o') ∧ mqP q (mset l x v) o' := by
  obtain ⟨es, clk, rfl, h⟩ := ho
  have hes := h.ents
  have hf := run_findKey_int (P := P) (w := w) hk x es.toList l hes
  have hlen : es.size = l.length := by have := congrArg List.length hes; simpa using this
  cases hm : midx l x with
  | none =>
    refine ⟨.map (es.push { key := .int q x, val := v, born := clk }) (clk + 1), ?_, ?_⟩
    · rw [hm] at hf
      unfold Instr.mapUpdate
      simp only [Sem.run_bind, run_underlying ht, Result.andThen, run_getMap hb, run_checkKey_int hk _ 9999 x, hf, run_setMap _ hb]
    · refine ⟨_, _, rfl, ?_, ?_, ?_⟩
      · rw [midx_none v hm]
        simp [hes]
      · intro y hy
        rw [Array.toList_push] at hy
        rcases List.mem_append.1 hy with hy | hy
        · exact Nat.lt_succ_of_lt (h.born y hy)
        · rw [List.mem_singleton] at hy; subst hy; exact Nat.lt_succ_self _
      · rw [Array.toList_push, List.map_append]
        refine List.nodup_append.2 ⟨h.nd, by simp, fun a ha c hc e => ?_⟩
        obtain ⟨y, hy, rfl⟩ := List.mem_map.1 ha
        simp only [List.map_cons, List.map_nil, List.mem_singleton] at hc
        have := h.born y hy
        omega
  | some p =>
    obtain ⟨i, u⟩ := p
    obtain ⟨h1, h2, h3⟩ := midx_some v hm
    have hi : i < es.size := by omega
    have hkey : es[i].key = .int q x := by
      have := congrArg (fun l => l[i]?) hes
      simp [h3, hi] at this
      exact this.1
    have hb2 : (es.modify i fun e => { e with key := .int q x, val := v }).toList.map (·.born) = es.toList.map (·.born) := by
      apply List.ext_getElem?
      intro j
      simp only [List.getElem?_map, Array.getElem?_toList]
      rw [Array.getElem?_modify]
      by_cases e : i = j
      · subst e; simp [hi]
      · simp [e]
    refine ⟨.map (es.modify i fun e => { e with key := .int q x, val := v }) clk, ?_, ?_⟩
    · rw [hm] at hf
      have hk2 : ((es[i]?).map (·.key)).getD (.int q x) = .int q x := by simp [hi, hkey]
      unfold Instr.mapUpdate
      simp only [Sem.run_bind, run_underlying ht, Result.andThen, run_getMap hb, run_checkKey_int hk _ 9999 x, hf, hk2, run_keyStays, run_setMap _ hb]
    · refine ⟨_, _, rfl, ?_, ?_, ?_⟩
      · rw [h1]
        apply List.ext_getElem?
        intro j
        have hj := congrArg (fun l => l[j]?) hes
        simp only [List.getElem?_map, Array.getElem?_toList] at hj ⊢
        rw [Array.getElem?_modify, List.getElem?_set]
        by_cases e : i = j
        · subst e
          simp [hi, h2]
        · simp only [if_neg e]
          exact hj
      · intro y hy
        have h4 : y.born ∈ (es.modify i fun e => { e with key := .int q x, val := v }).toList.map (·.born) := List.mem_map.2 ⟨y, hy, rfl⟩
        rw [hb2] at h4
        obtain ⟨y0, h5, h6⟩ := List.mem_map.1 h4
        rw [← h6]; exact h.born y0 h5
      · rw [hb2]; exact h.nd
end
section
variable {P : Program} {r : Option Nat} {N : Nat} {ds : List Deferred} {ol rest : List Oper} {Q : Post} {E : Env} {w0 : World} {H : List Atom} {next : Act → World → Prop} {g : Option (Nat × Bool)}
variable {d : Nat} {t ty : TypeId} {pos : String} {af : Array Edge} {x y z : Operand}
theorem H1.mkmq (q : IntKind) (hd : Nat.blt d N = true) (h : ∀ b, HN N ds next ((d, .map (some b)) :: E) w0 (A.mq b q [] :: H)) : H1 P r N ds next ⟨some d, .makeMap t none, ty, pos, af, g⟩ Q E w0 H := fun w hM =>
  W1.run (v := .map (some w.heap.size)) (w' := w.alloc (.map #[] 0)) (fun _ _ => rfl) rfl hd (h _ _ (by
    refine (hM.more (Ext.alloc w _)).cons ⟨_, World.alloc_heap_new w _, _, _, rfl, MQ.nil q⟩ (by simp [A.mq, A.obj]) fun b hb => ?_
    have hb' : b = w.heap.size := by simpa [A.mq, A.obj] using hb
    subst hb'
    refine ⟨fun hm => ?_, hM.ext.size, by simp⟩
    have := (hM.rng _ hm).2
    omega))
theorem H1.mqset {b : Nat} {k e : TypeId} {q : IntKind} {l : List (Int × Value)} {n : Int} {v : Value} {H' : List Atom} [ht : UTy P t (.map k e)] [hk : UTy P k (.int q)] (hx : Env.ev E x = some (.map (some b))) (hy : Env.ev E y = some (.int q n)) (hz : Env.ev E z = some v)
    (hr : Rpl (A.mq b q l) (A.mq b q (mset l n v)) H H') (h : HN N ds next E w0 H') : H1 P r N ds next ⟨none, .mapUpdate t x y z, ty, pos, af, g⟩ Q E w0 H := fun w hM => by
  obtain ⟨o, hb, ho⟩ : ∃ o, w.heap[b]? = some o ∧ mqP q l o := hM.all _ hr.mem
  obtain ⟨o', hrun, ho'⟩ := run_mapUpdate_mq (P := P) ht.is hk.is hb ho n v
  have hlt := (Array.getElem?_eq_some_iff.1 hb).1
  refine W1.skip (w' := w.putObj b o') (fun a ha => ?_) rfl rfl (h _ (hM.turn hr rfl rfl rfl (by simp) (fun k _ hk' => ?_) ⟨o', World.putObj_heap_same hlt, ho'⟩ (by simp [A.mq, A.obj]) fun b' hb' => .inl hb'))
  · simp only [execOp, ha.ev hx, ha.ev hy, ha.ev hz, Sem.run_bind, hrun, Result.andThen, Sem.run_pure]
  · exact World.putObj_heap_other (by simpa [A.mq, A.obj] using hk')
theorem H1.mqrange {b clk : Nat} {k e : TypeId} {es : Array MapEntry} [ht : UTy P t (.map k e)] (hx : Env.ev E x = some (.map (some b))) (hb : ∀ w, Mm w0 H w → w.heap[b]? = some (.map es clk)) (hd : Nat.blt d N = true)
    (h : ∀ i, HN N ds next ((d, .pointer (some ⟨i, 0, none⟩)) :: E) w0 (A.mit i b clk #[] :: H)) : H1 P r N ds next ⟨some d, .range t x, ty, pos, af, g⟩ Q E w0 H := fun w hM => by
  refine W1.run (v := .pointer (some ⟨w.heap.size, 0, none⟩)) (w' := w.alloc (.mapIter (some b) clk #[] clk)) (fun a ha => ?_) rfl hd (h _ _ ?_)
  · simp only [execOp, ha.ev hx, Instr.range, Sem.run_bind, run_underlying ht.is, run_getMap (hb w hM), Result.andThen, Sem.run_pure, run_newObj_alloc]
  · refine (hM.more (Ext.alloc w _)).cons ⟨_, World.alloc_heap_new w _, rfl⟩ (by simp [A.mit, A.obj]) fun b' hb' => ?_
    have hb2 : b' = w.heap.size := by simpa [A.mit, A.obj] using hb'
    subst hb2
    refine ⟨fun hm => ?_, hM.ext.size, by simp⟩
    have := (hM.rng _ hm).2
    omega
theorem H1.mqnext {i b clk : Nat} {es : Array MapEntry} {seen : Array Nat} {H' : Array Nat → List Atom} (hx : Env.ev E x = some (.pointer (some ⟨i, 0, none⟩))) (hb : ∀ w, Mm w0 H w → w.heap[b]? = some (.map es clk)) (hborn : ∀ e ∈ es.toList, e.born < clk)
    (hr : ∀ s, Rpl (A.mit i b clk seen) (A.mit i b clk s) H (H' s)) (hd : Nat.blt d N = true)
    (h0 : (∀ e ∈ es.toList, e.born ∈ seen) → HN N ds next ((d, .tuple #[.bool false]) :: E) w0 H)
    (h1 : ∀ e ∈ es.toList, e.born ∉ seen → HN N ds next ((d, .tuple #[.bool true, e.key, e.val]) :: E) w0 (H' (seen.push e.born))) : H1 P r N ds next ⟨some d, .next x false, ty, pos, af, g⟩ Q E w0 H := fun w hM => by
  have hr0 : w.heap[i]? = some (.mapIter (some b) clk seen clk) := by
    obtain ⟨o, h1, rfl⟩ : ∃ o, w.heap[i]? = some o ∧ o = .mapIter (some b) clk seen clk := hM.all _ (hr #[]).mem
    exact h1
  have hlt := (Array.getElem?_eq_some_iff.1 hr0).1
  rcases run_next_at (P := P) w ty i b clk clk seen es clk hr0 (hb w hM) hborn (Nat.le_refl _) with ⟨hz, hrun⟩ | ⟨e, he, w1, hw1, hrun⟩
  · refine W1.run (v := .tuple #[.bool false]) (w' := w) (fun a ha => ?_) rfl hd (h0 (fun e he => ?_) w hM)
    · simp only [execOp, ha.ev hx, Sem.run_bind, hrun, Result.andThen, Sem.run_pure]
    · refine Classical.byContradiction fun hn => ?_
      have : leftOf es seen = #[] := Array.eq_empty_of_size_eq_zero hz
      unfold leftOf at this
      rw [Array.filter_eq_empty_iff] at this
      exact this e (by simpa using he) (by simp [hn])
  · have he2 : e ∈ es.toList ∧ e.born ∉ seen := by
      unfold leftOf at he
      simp at he
      exact ⟨by simpa using he.1, he.2⟩
    have hM1 : Mm w0 H w1 := by
      rcases hw1 with rfl | rfl
      · exact hM
      · exact hM.more (Ext.drew w)
    refine W1.run (v := .tuple #[.bool true, e.key, e.val]) (w' := ChangeMaps.setBlock w1 i (.mapIter (some b) clk (seen.push e.born) clk)) (fun a ha => ?_) rfl hd (h1 e he2.1 he2.2 _ ?_)
    · simp only [execOp, ha.ev hx, Sem.run_bind, hrun, Result.andThen, Sem.run_pure]
    · have hlt1 : i < w1.heap.size := by rcases hw1 with rfl | rfl <;> exact hlt
      refine hM1.turn (hr _) rfl rfl rfl (by simp [ChangeMaps.setBlock]) (fun k _ hk => ?_) ⟨_, by simp [ChangeMaps.setBlock, hlt1], rfl⟩ (by simp [A.mit, A.obj]) fun b' hb' => .inl hb'
      have hne : i ≠ k := fun e => hk (by simp [A.mit, A.obj, e])
      simp [ChangeMaps.setBlock, hne]
theorem H1.mqentry {i b clk : Nat} {es : Array MapEntry} {seen : Array Nat} {e : MapEntry} (hx : Env.ev E x = some (.pointer (some ⟨i, 0, none⟩))) (hb : ∀ w, Mm w0 H w → w.heap[b]? = some (.map es clk)) (he : e ∈ es.toList) (hn : (es.toList.map (·.born)).Nodup)
    (hm : A.mit i b clk (seen.push e.born) ∈ H) (hd : Nat.blt d N = true) (h : HN N ds next ((d, .tuple #[e.key, e.val]) :: E) w0 H) : H1 P r N ds next ⟨some d, .entry x, ty, pos, af, g⟩ Q E w0 H := fun w hM => by
  have hr0 : w.heap[i]? = some (.mapIter (some b) clk (seen.push e.born) clk) := by
    obtain ⟨o, h1, rfl⟩ : ∃ o, w.heap[i]? = some o ∧ o = .mapIter (some b) clk (seen.push e.born) clk := hM.all _ hm
    exact h1
  refine W1.run (v := .tuple #[e.key, e.val]) (w' := w) (fun a ha => ?_) rfl hd (h w hM)
  simp only [execOp, ha.ev hx, Sem.run_bind, run_entry_at w i b clk seen es clk e hr0 (hb w hM) he hn, Result.andThen, Sem.run_pure]
end
def mleft (es : Array MapEntry) (seen : Array Nat) : Nat := (es.toList.filter fun e => decide (e.born ∉ seen)).length
theorem mleft_lt {es : Array MapEntry} {seen : Array Nat} {e : MapEntry} (he : e ∈ es.toList) (hn : e.born ∉ seen) : mleft es (seen.push e.born) < mleft es seen := by
  unfold mleft
  have h1 : (es.toList.filter fun x => decide (x.born ∉ seen.push e.born)) = (es.toList.filter fun x => decide (x.born ∉ seen)).filter fun x => decide (x.born ≠ e.born) := by
    rw [List.filter_filter]
    refine List.filter_congr fun x _ => ?_
    rw [Bool.eq_iff_iff, Bool.and_eq_true, decide_eq_true_eq, decide_eq_true_eq, decide_eq_true_eq, Array.mem_push, not_or]
    exact And.comm
  rw [h1]
  exact List.length_filter_lt_length_iff_exists.2 ⟨e, List.mem_filter.2 ⟨he, decide_eq_true hn⟩, by simp⟩
end Go.Sx
/-
  The layer with atoms: aggregates loaded first in open orders; several results; the head of a slice; slices of structs.
-/
namespace Go.Sx
open Go Go.RowKit
def cellsA (b : Nat) (vs : List Value) : List (Addr × Value) := vs.zipIdx.map fun p => (⟨b, p.2, none⟩, p.1)
theorem cellsA_mem {b : Nat} {vs : List Value} {i : Nat} {v : Value} (h : vs[i]? = some v) : ((⟨b, i, none⟩ : Addr), v) ∈ cellsA b vs := List.mem_map.2 ⟨(v, i), List.mk_mem_zipIdx_iff_getElem?.2 h, rfl⟩
theorem Keep.blkA {l : List (Addr × Value)} {w0 : World} {H : List Atom} {b : Nat} {vs : List Value} {e : TypeId} (hm : A.blk b vs e ∈ H) (h : Keep l w0 H) : Keep (cellsA b vs ++ l) w0 H := fun w hM p hp => by
  rcases List.mem_append.1 hp with hp | hp
  · obtain ⟨⟨v, i⟩, h1, rfl⟩ := List.mem_map.1 hp
    exact (hM.blk hm).cell (List.mk_mem_zipIdx_iff_getElem?.1 h1)
  · exact h w hM p hp
theorem cellsL {b : Nat} {vs : List Value} {l : List (Addr × Value)} {p : Addr × Value} (h : p ∈ cellsA b vs) : p ∈ cellsA b vs ++ l := List.mem_append_left _ h
theorem cellsR {b : Nat} {vs : List Value} {l : List (Addr × Value)} {p : Addr × Value} (h : p ∈ l) : p ∈ cellsA b vs ++ l := List.mem_append_right _ h
section
variable {P : Program} {N : Nat} {ds : List Deferred} {ol : List Oper} {Q : Post} {E : Env} {w0 : World} {H : List Atom} {fuel : Nat} {listed : Array Bool} {ty : TypeId} {pos : String} {af : Array Edge} {l : List (Addr × Value)}
theorem HB.ldA [hq : QPanic Q] {d : Nat} {t : TypeId} {x : Operand} {b : Nat} {vs : List Value} {z : Value} {n bb : Nat} [hat : ATy P t true] [hit : ITy P t z n bb] (i : Nat) (ho : ol[i]? = some ⟨some d, .load t x, ty, pos, af, none⟩) (hx : Env.ev E x = some (.pointer (some ⟨b, 0, none⟩))) (hn : vs.length = n)
    (hc : ∀ i v, vs[i]? = some v → ((⟨b, i, none⟩ : Addr), v) ∈ l)
    (h : HB l P N ds ol fuel (listed.setIfInBounds i true) Q ((d, .agg vs.toArray) :: E) w0 H)
    (hne : (match x with | .tmp t => !(Nat.beq t d) | _ => true) = true := by exact rfl)
    (hs : (Region.noSelect ol.toArray && Region.free .any ol.toArray listed i && (Region.ready .any ol.toArray listed).contains i) = true := by kernel_rfl)
    (hd : Nat.blt d N = true := by exact rfl) : HB l P N ds ol (fuel + 1) listed Q E w0 H := fun w hM a ha => by
  simp only [Bool.and_eq_true] at hs
  have ho' : ol.toArray[i]? = some ⟨some d, .load t x, ty, pos, af, none⟩ := by simpa using ho
  refine anyC_load (t := t) (x := x) rfl rfl (fun d' hd' e => ?_) ho' hs.1.1 hs.1.2 hs.2 (fun c a w => hq.is c a _ _ w) (fun a' ha' w' hC => ?_) (h w hM _ (ha.put hd (.agg vs.toArray)))
  · cases hd'; subst e; simp at hne
  · have h1 : a'.eval x = .pointer (some ⟨b, 0, none⟩) := ha'.trans (ha.ev hx)
    have h2 : ∀ i v, vs[i]? = some v → w'.cell? ⟨b, 0 + i, none⟩ = some v := fun i v hv => by rw [Nat.zero_add]; exact hC _ (hc i v hv)
    simp only [execOp, h1, Instr.loadAt, Instr.sureAddr, loadVar, Sem.run_bind, Sem.run_pure]
    simp [run_isAgg, run_sizeOf, loadCells, run_loadCellsFrom P w' b 0 vs h2 n 0 #[] (by omega), Result.andThen, Sem.run_bind]
/- several results -/
def ResAll (P : Program) (E : Env) (w : World) : List ResultVar → List Value → Prop
  | [], [] => True
  | .tmp t :: rs, v :: vs => Env.g E t = some v ∧ ResAll P E w rs vs
  | .cell p t :: rs, v :: vs => (∃ ad, Env.g E p = some (.pointer (some ad)) ∧ (loadVar t ad).run P w = .ok v w) ∧ ResAll P E w rs vs
  | _, _ => False
def resOne (tmps : Array Value) : ResultVar → Sem Value
  | .tmp t => pure (tmps.getD t undef)
  | .cell a t => do loadVar t (← asAddr (tmps.getD a undef))
theorem results_eq (fn : Func) (tmps : Array Value) : results fn tmps = (fn.results.mapM (resOne tmps) >>= fun vs => pure (if h : vs.size = 1 then vs[0] else .tuple vs)) := by
  unfold results
  have e : (fun | .tmp t => (pure (tmps.getD t undef) : Sem Value) | .cell a t => do loadVar t (← asAddr (tmps.getD a undef)) : ResultVar → Sem Value) = resOne tmps := funext fun x => by cases x <;> rfl
  rw [← e]
  rfl
theorem res_all {a : Act} {w : World} (ha : Rep N ds E a) : ∀ (rs : List ResultVar) (vs : List Value), ResAll P E w rs vs → (rs.mapM (resOne a.tmps)).run P w = .ok vs w := by
  intro rs
  induction rs with
  | nil =>
    intro vs h
    cases vs with
    | nil => rfl
    | cons v vs => exact h.elim
  | cons r rs ih =>
    intro vs h
    cases vs with
    | nil => cases r <;> exact h.elim
    | cons v vs =>
      have h1 : (resOne a.tmps r).run P w = .ok v w ∧ ResAll P E w rs vs := by
        cases r with
        | tmp t =>
          obtain ⟨h1, h2⟩ := h
          have e1 : a.tmps.getD t undef = v := by rw [Array.getD_eq_getD_getElem?, ha.get _ _ h1]; rfl
          exact ⟨by show (pure (a.tmps.getD t undef) : Sem Value).run P w = _; rw [e1]; rfl, h2⟩
        | cell p t =>
          obtain ⟨⟨ad, h1, h2⟩, h3⟩ := h
          have e1 : a.tmps.getD p undef = .pointer (some ad) := by rw [Array.getD_eq_getD_getElem?, ha.get _ _ h1]; rfl
          exact ⟨by
            show (asAddr (a.tmps.getD p undef) >>= fun ad => loadVar t ad).run P w = _
            rw [e1]; simp only [asAddr, Sem.run_bind, Sem.run_pure, Result.andThen]; exact h2, h3⟩
      rw [List.mapM_cons]
      simp only [Sem.run_bind, h1.1, Result.andThen, ih vs h1.2, Sem.run_pure]
theorem HX.retG {fn : Func} {rs : List ResultVar} {vs : List Value} {R : Value → World → Prop} (hr : fn.results = rs.toArray) (h1 : Nat.beq vs.length 1 = false) (hv : ∀ w, Mm w0 H w → ResAll P E w rs vs) (h : ∀ w, Mm w0 H w → R (.tuple vs.toArray) w) :
    HX N [] .ret (bodyPost P fn (RetP R)) E w0 H := fun w hM a ha => by
  refine ⟨ha.defers, .tuple vs.toArray, ?_, ⟨_, rfl, h w hM⟩⟩
  have h2 := res_all ha rs vs (hv w hM)
  have h3 : ¬ vs.length = 1 := fun e => by rw [e] at h1; cases h1
  rw [results_eq, hr, List.mapM_toArray]
  have h4 : (Functor.map List.toArray (rs.mapM (resOne a.tmps))).run P w = .ok vs.toArray w := by
    rw [map_eq_pure_bind]
    simp only [Sem.run_bind, h2, Result.andThen, Sem.run_pure]
  simp only [Sem.run_bind, h4, Result.andThen, Sem.run_pure]
  simp [h3]
theorem loadVar_agg {w : World} {t : TypeId} {b : Nat} {cs : List Value} {e : TypeId} {z : Value} {n bb : Nat} [ha : ATy P t true] [hi : ITy P t z n bb] (hM : Mm w0 H w) (hm : A.blk b cs e ∈ H) (hn : cs.length = n) : (loadVar t ⟨b, 0, none⟩).run P w = .ok (.agg cs.toArray) w :=
  run_loadVarAgg hn fun i v hv => by rw [Nat.zero_add]; exact (hM.blk hm).cell hv
end
end Go.Sx
/-
  The layer with atoms: in open orders, loads of cells that stay as they are may go first, under a guard too.
-/
namespace Go.Sx
open Go Go.RowKit
section
variable {P : Program} {ops : Array Oper} {Q : Post} {C : World → Prop}
theorem op_swap_g {j : Nat} {oi oj : Oper} {t : TypeId} {x : Operand} {v : Value} (ho : oi.op = .load t x) (hx : ∀ d, oi.dst = some d → x ≠ .tmp d) (hl' : ∀ d, oi.dst = some d → d ∉ oi.looksAt ops) (hj : ops[j]? = some oj) (hap : oi.apart ops oj = true) (hsj : ∀ cs b, oj.op ≠ .select cs b)
    (hQ : ∀ c a w, Q (.panic c) (a.put oi.dst v) w → Q (.panic c) a w) {K : Act → World → Prop} {a : Act} {w : World} (hu : a.eval x ≠ undef) (hw : Region.wanted oi (yielded ops a.tmps) = true) (h : wpOpIn (FW none) 0 P ops Q j K (a.put oi.dst v) w) :
    wpOpIn (FW none) 0 P ops Q j (fun a' w' => (a'.eval x = a.eval x ∧ Region.wanted oi (yielded ops a'.tmps) = true) ∧ K (a'.put oi.dst v) w') a w := by
  have hl : oi.looksAt ops = (⟨none, .move x, oi.type, oi.pos, #[], oi.guard⟩ : Oper).looksAt ops := by simp [Oper.looksAt, ho, Op.operands]
  obtain ⟨h0, h1⟩ := apart_parts hap
  have hev : ∀ a' : Act, (a'.put oi.dst v).eval x = a'.eval x := fun a' => Act.eval_put hx
  have hwp : ∀ a' : Act, Region.wanted oi (yielded ops (a'.put oi.dst v).tmps) = Region.wanted oi (yielded ops a'.tmps) := fun a' => wanted_put oi a' oi.dst v hl'
  have s1 := wpOpIn_put (F := FW none) (n := 0) (P := P) (ops := ops) (Q := Q) (oi := ⟨none, .move x, oi.type, oi.pos, #[], oi.guard⟩) (v := a.eval x) rfl hj (h0 _ rfl hl.symm) (fun _ _ e => by cases e) hsj (fun _ _ _ h => h) (a := a.put oi.dst v) (w := w) (K := K)
    ⟨.inl ⟨(hwp a).trans hw, fun w => by show Result.ok (Next.value ((a.put oi.dst v).eval x)) w = _; rw [hev]⟩, fun _ => rfl⟩ h
  have s2 := wpOpIn_put (F := FW none) (n := 0) (P := P) (ops := ops) (Q := Q) (oi := ⟨oi.dst, .move (.const v), oi.type, oi.pos, #[], none⟩) (v := v) rfl hj (h1 _ rfl (by simp [Oper.looksAt, Op.operands])) (fun _ _ e => by cases e) hsj hQ (a := a) (w := w)
    ⟨.inl ⟨rfl, fun w => rfl⟩, fun _ => rfl⟩ s1
  refine wpOpIn_mono (fun a' w' h3 => ⟨?_, h3.2.2⟩) s2
  rcases h3.2.1.1 with ⟨h4w, h4⟩ | ⟨-, h4⟩
  · have h5 := h4 w'
    have h6 : Result.ok (Next.value ((a'.put oi.dst v).eval x)) w' = Result.ok (Next.value (a.eval x)) w' := h5
    rw [hev] at h6
    injection h6 with h7
    injection h7 with h7
    exact ⟨h7, (hwp a').symm.trans h4w⟩
  · exact absurd h4 hu
theorem anyC_load_g {i : Nat} {oi : Oper} {t : TypeId} {x : Operand} {v : Value} {fuel : Nat} {listed : Array Bool} {a : Act} {w : World} (ho : oi.op = .load t x) (hx : ∀ d, oi.dst = some d → x ≠ .tmp d) (hl' : ∀ d, oi.dst = some d → d ∉ oi.looksAt ops) (hi : ops[i]? = some oi) (hs : Region.noSelect ops = true)
    (hf : Region.free .any ops listed i = true) (hr : (Region.ready .any ops listed).contains i = true) (hQ : ∀ c a w, Q (.panic c) (a.put oi.dst v) w → Q (.panic c) a w) (hu : a.eval x ≠ undef) (hw : Region.wanted oi (yielded ops a.tmps) = true)
    (hrun : ∀ a' : Act, a'.eval x = a.eval x → ∀ w, C w → (execOp a'.eval oi).run P w = .ok (.value v) w) (h : AnyC C P ops Q fuel (listed.setIfInBounds i true) (a.put oi.dst v) w) : AnyC C P ops Q (fuel + 1) listed a w := by
  refine anyC_first (fun a' => a'.eval x = a.eval x ∧ Region.wanted oi (yielded ops a'.tmps) = true) (fun {K a' w'} hy hC hk => ?_) (fun hj hap hy h => ?_) fuel listed a w (Region.free_spec hi hf) (by simpa using hr) ⟨rfl, hw⟩ h
  · unfold wpOpIn
    rw [hi]
    dsimp only
    rw [if_pos hy.2]
    refine ⟨fun _ _ => trivial, ?_⟩
    rw [semAt_of (by rw [ho]; rfl), hrun a' hy.1 w' hC]
    exact hk
  · refine wpOpIn_mono (fun a'' w'' h3 => ⟨⟨h3.1.1.trans hy.1, h3.1.2⟩, h3.2⟩) (op_swap_g ho hx hl' hj hap (fun cs b => Region.noSelect_spec hs _ _ cs b hj) hQ (by rw [hy.1]; exact hu) hy.2 h)
end
section
variable {P : Program} {N : Nat} {ds : List Deferred} {ol : List Oper} {Q : Post} {E : Env} {w0 : World} {H : List Atom} {fuel : Nat} {listed : Array Bool} {ty : TypeId} {pos : String} {af : Array Edge} {l : List (Addr × Value)}
theorem HB.ldg [hq : QPanic Q] {d : Nat} {t : TypeId} {x : Operand} {ad : Addr} {v : Value} {j : Nat} {want b : Bool} [hat : ATy P t false] (i : Nat) (ho : ol[i]? = some ⟨some d, .load t x, ty, pos, af, some (j, want)⟩) (hj : guardE ol E j = some b) (hx : Env.ev E x = some (.pointer (some ad))) (hc : (ad, v) ∈ l)
    (h : HB l P N ds ol fuel (listed.setIfInBounds i true) Q ((d, v) :: E) w0 H)
    (hb : b = want := by
      first | with_reducible rfl | assumption | (simp only [Bool.not_true, Bool.not_false]; done) | (simp only [decide_eq_true_eq, decide_eq_false_iff_not, Bool.not_true, Bool.not_false, not_true_eq_false, not_false_eq_true, reduceCtorEq]; first | done | assumption | omega))
    (hne : (match x with | .tmp t => !(Nat.beq t d) | _ => true) = true := by exact rfl)
    (hla : ((⟨some d, .load t x, ty, pos, af, some (j, want)⟩ : Oper).looksAt ol.toArray).contains d = false := by kernel_rfl)
    (hs : (Region.noSelect ol.toArray && Region.free .any ol.toArray listed i && (Region.ready .any ol.toArray listed).contains i) = true := by kernel_rfl)
    (hd : Nat.blt d N = true := by exact rfl) : HB l P N ds ol (fuel + 1) listed Q E w0 H := fun w hM a ha => by
  simp only [Bool.and_eq_true] at hs
  have ho' : ol.toArray[i]? = some ⟨some d, .load t x, ty, pos, af, some (j, want)⟩ := by simpa using ho
  have hy := guardE_spec hj ha
  refine anyC_load_g (t := t) (x := x) rfl (fun d' hd' e => ?_) (fun d' hd' hm => ?_) ho' hs.1.1 hs.1.2 hs.2 (fun c a w => hq.is c a _ _ w) (by rw [ha.ev hx]; intro h; cases h) (by simp only [Region.wanted, hy, hb, beq_self_eq_true]) (fun a' ha' w' hC => ?_) (h w hM _ (ha.put hd v))
  · cases hd'; subst e; simp at hne
  · cases hd'
    rw [List.contains_eq_mem, decide_eq_false_iff_not] at hla
    exact hla hm
  · have h1 : a'.eval x = .pointer (some ad) := ha'.trans (ha.ev hx)
    have h2 := hC _ hc
    simp only [execOp, h1, Instr.loadAt, Instr.sureAddr, loadVar, Sem.run_bind, Sem.run_pure]
    simp [run_isAgg, h2]
end
end Go.Sx
/- Plain: the numbers of chapter 17 as natural numbers. No program in sight. -/
namespace Go.Sx
def redL : List Nat := [0, 29, 58, 39, 116, 105, 78, 83, 232, 245, 210, 207, 156, 129, 166, 187]
def fewP (a b : Nat) : Nat → Nat
  | 0 => 0
  | i + 1 => if (b >>> i) &&& 1 = 1 then fewP a b i ^^^ (a <<< i) else fewP a b i
def fewN (a b : Nat) : Nat := (fewP a b 4 &&& 255) ^^^ redL.getD (fewP a b 4 >>> 8) 0
def sixteenN (a : Nat) : Nat := ((a <<< 4) &&& 255) ^^^ redL.getD (a >>> 4) 0
def mulN (a b : Nat) : Nat := fewN a (b &&& 15) ^^^ sixteenN (fewN a (b >>> 4))
def invP (a : Nat) : Nat → Nat × Nat
  | 0 => (1, a)
  | i + 1 => let q := mulN (invP a i).2 (invP a i).2; (mulN (invP a i).1 q, q)
def invN (a : Nat) : Nat := (invP a 7).1

theorem redL_lt : ∀ i, redL.getD i 0 < 256 := by
  intro i
  rcases Nat.lt_or_ge i 16 with h | h
  · have : ∀ j : Fin 16, redL.getD j.1 0 < 256 := by decide
    exact this ⟨i, h⟩
  · simp [redL, List.getD_eq_getElem?_getD, List.getElem?_eq_none (show [0, 29, 58, 39, 116, 105, 78, 83, 232, 245, 210, 207, 156, 129, 166, 187].length ≤ i from h)]
theorem shl_lt {a i k n : Nat} (h : a < 2 ^ k) (hk : k + i ≤ n) : a <<< i < 2 ^ n := by
  rw [Nat.shiftLeft_eq]
  calc a * 2 ^ i < 2 ^ k * 2 ^ i := Nat.mul_lt_mul_of_pos_right h (Nat.two_pow_pos i)
    _ = 2 ^ (k + i) := (Nat.pow_add 2 k i).symm
    _ ≤ 2 ^ n := Nat.pow_le_pow_right (by decide) hk
theorem fewN_lt {a b : Nat} : fewN a b < 256 :=
  Nat.xor_lt_two_pow (n := 8) (Nat.lt_of_le_of_lt Nat.and_le_right (by decide)) (redL_lt _)
theorem sixteenN_lt {a : Nat} : sixteenN a < 256 :=
  Nat.xor_lt_two_pow (n := 8) (Nat.lt_of_le_of_lt Nat.and_le_right (by decide)) (redL_lt _)
theorem mulN_lt {a b : Nat} : mulN a b < 256 := Nat.xor_lt_two_pow (n := 8) fewN_lt sixteenN_lt
end Go.Sx
namespace Go.Sx
def belS (i acc h : Nat) : Nat := if h = i then acc else mulN acc (invN (i ^^^ h))
def outS (i x acc h : Nat) : Nat := if h = i then acc else mulN acc (x ^^^ h)
def bel (nums : List Nat) (i : Nat) : Nat := nums.foldl (belS i) 1
def belA (nums : List Nat) (j : Nat) : Nat := if j ∈ nums then bel nums j else 0
def wgt (nums : List Nat) (x i : Nat) : Nat := nums.foldl (outS i x) (bel nums i)
def wgtA (nums : List Nat) (x j : Nat) : Nat := if j ∈ nums then wgt nums x j else 0
def nu (nums : List Nat) (k : Nat) : Nat := nums.getD k 0
end Go.Sx
namespace Go.Sx
def fr (frs : List ByteArray) (i : Nat) : ByteArray := frs.getD i ByteArray.empty
def strs (l : List ByteArray) : List Value := l.map .string
def cmpF (frs : List ByteArray) (W : Nat → Nat) (at' acc i : Nat) : Nat := acc ^^^ mulN (W i) (sb (fr frs i) at')
def cmpS (frs : List ByteArray) (nums : List Nat) (W : Nat → Nat) (at' : Nat) : Nat := nums.foldl (cmpF frs W at') 0
def cmpStr (frs : List ByteArray) (nums : List Nat) (W : Nat → Nat) (m : Nat) : ByteArray := ⟨((List.range m).map fun q => UInt8.ofNat (cmpS frs nums W q)).toArray⟩
end Go.Sx
namespace Go.Sx
def mOf (l k : Nat) : Nat := (l + k - 1) / k
def zeros (n : Nat) : ByteArray := ⟨(List.replicate n (0 : UInt8)).toArray⟩
def padS (s : ByteArray) (k : Nat) : ByteArray := s ++ zeros (k * mOf s.size k - s.size)
def partOf (s : ByteArray) (k i : Nat) : ByteArray := (padS s k).extract (i * mOf s.size k) ((i + 1) * mOf s.size k)
def parts (s : ByteArray) (k : Nat) : List ByteArray := (List.range k).map (partOf s k)
def codeA (s : ByteArray) (k j : Nat) : ByteArray := if j < k then partOf s k j else cmpStr (parts s k) (List.range k) (wgtA (List.range k) j) (mOf s.size k)
def codeL (s : ByteArray) (k n : Nat) : List ByteArray := (List.range n).map (codeA s k)

end Go.Sx
namespace Go.Sx
def isC (k n : Int) : Prop := 1 ≤ k ∧ k ≤ n ∧ n ≤ 9
def tf (th : List Bool) (i : Nat) : Bool := th.getD i false
def bools (l : List Bool) : List Value := l.map .bool
def tnums (th : List Bool) (i k : Nat) : List Nat := ((List.range i).filter (tf th)).take k
def cN (th : List Bool) (k : Nat) : List Nat := tnums th th.length k
def cM (frs : List ByteArray) (th : List Bool) (k : Nat) : Nat := (fr frs (nu (cN th k) 0)).size
def cOut (frs : List ByteArray) (th : List Bool) (k j : Nat) : ByteArray := cmpStr frs (cN th k) (wgtA (cN th k) j) (cM frs th k)
def CompOK (frs : List ByteArray) (th : List Bool) (k : Int) : Prop :=
  isC k frs.length ∧ th.length = frs.length ∧ (cN th k.toNat).length = k.toNat ∧ (∀ i, i < frs.length → tf th i = true → (fr frs i).size = cM frs th k.toNat ∧ cM frs th k.toNat ≤ 4096) ∧
    ∀ i, i < frs.length → tf th i = true → cOut frs th k.toNat i = fr frs i
end Go.Sx
namespace Go.Sx
open Go
def catS (l : List ByteArray) : ByteArray := ⟨(l.map (·.data.toList)).flatten.toArray⟩
theorem join_empty (l : List ByteArray) : (⟨(Lib.join (l.map (·.data.toList)) (ByteArray.mk #[]).data.toList).toArray⟩ : ByteArray) = catS l := by
  unfold catS
  congr 1
  cases l with
  | nil => rfl
  | cons x r =>
    rw [List.map_cons, Lib.join_cons]
    simp only [Lib.joinTail, List.flatten_cons, List.map_map]
    rfl
def allOut (frs : List ByteArray) (th : List Bool) (k : Nat) : List ByteArray := (List.range frs.length).map (cOut frs th k)
def catO (frs : List ByteArray) (th : List Bool) (k : Nat) : ByteArray := catS ((List.range k).map (cOut frs th k))
def FragOK (frs : List ByteArray) (th : List Bool) (k which : Int) : Prop := CompOK frs th k ∧ 0 ≤ which ∧ which < frs.length
def JoinOK (frs : List ByteArray) (th : List Bool) (k len : Int) : Prop :=
  CompOK frs th k ∧ 0 ≤ len ∧ len ≤ 4096 * k ∧ (cM frs th k.toNat : Int) = (len + k - 1) / k ∧ ∀ j, len.toNat ≤ j → j < (catO frs th k.toNat).size → sb (catO frs th k.toNat) j = 0
end Go.Sx
namespace Go.Sx
open Go
def exAb : ByteArray := ByteArray.mk #[97, 98]
def exL : List ByteArray := [ByteArray.mk #[97], ByteArray.mk #[98], ByteArray.mk #[103]]
end Go.Sx
/- Plain, chapter 24: nodes, and which are valid. -/
namespace Go.Sx
open Go Go.RowKit
structure Nd where
  id : Int
  kind : Int
  pack : Int
  src : List Int
instance : Inhabited Nd := ⟨⟨0, 0, 0, []⟩⟩
def ndC (n : Nd) (v : Value) : List Value := [zv n.id, zv n.kind, zv n.pack, v]
def ndV (n : Nd) (v : Value) : Value := .agg #[zv n.id, zv n.kind, zv n.pack, v]
def ndAt (l : List Nd) (i : Nat) : Nd := l.getD i default
structure RdN (w : World) (v : Value) (l : List Nd) (U : Nat → Value) : Prop where
  shape : ∃ a c, v = .slice a l.length c ∧ l.length ≤ c ∧ (l = [] ∨ ∃ b off, a = some ⟨b, off, none⟩ ∧ ∀ i, i < l.length → ∀ (j : Nat) (u : Value), (ndC (ndAt l i) (U i))[j]? = some u → w.cell? ⟨b, off + i * 4 + j, none⟩ = some u)
  src : ∀ i, i < l.length → Rd w (U i) (ints (ndAt l i).src)
theorem RdN.ext {w w' : World} {v : Value} {l : List Nd} {U : Nat → Value} (h : RdN w v l U) (k : Ext w w') : RdN w' v l U := by
  obtain ⟨a, c, h1, h2, h3⟩ := h.shape
  refine ⟨⟨a, c, h1, h2, ?_⟩, fun i hi => (h.src i hi).ext k⟩
  rcases h3 with h3 | ⟨b, off, h4, h5⟩
  · exact .inl h3
  · exact .inr ⟨b, off, h4, fun i hi j u hu => cell_ext k (h5 i hi j u hu)⟩
theorem ndAt_take {l : List Nd} {i : Nat} (h : i < l.length) : l.take (i + 1) = l.take i ++ [ndAt l i] := by
  rw [List.take_add_one, List.getElem?_eq_getElem h]
  simp [ndAt, h]
def AscI (l : List Int) : Prop := l.Pairwise (· < ·)
instance (l : List Int) : Decidable (AscI l) := by unfold AscI; infer_instance
theorem ascI_snoc {l : List Int} {x y : Int} : AscI (l ++ [x] ++ [y]) ↔ AscI (l ++ [x]) ∧ x < y := by
  unfold AscI
  rw [List.pairwise_append]
  constructor
  · rintro ⟨h1, -, h3⟩
    exact ⟨h1, h3 x (List.mem_append_right _ (.head _)) y (.head _)⟩
  · rintro ⟨h1, h2⟩
    refine ⟨h1, List.pairwise_singleton _ _, fun a ha b hb => ?_⟩
    rcases List.mem_cons.1 hb with rfl | hb
    · rcases List.mem_append.1 ha with ha | ha
      · have := (List.pairwise_append.1 h1).2.2 a ha x (.head _)
        omega
      · rcases List.mem_cons.1 ha with rfl | ha
        · exact h2
        · cases ha
    · cases hb
theorem ascI_sub {l m : List Int} (h : AscI l) (hs : m.Sublist l) : AscI m := List.Pairwise.sublist hs h
theorem ascI_short {l : List Int} (h : l.length ≤ 1) : AscI l := by
  match l, h with
  | [], _ => exact List.Pairwise.nil
  | [x], _ => exact List.pairwise_singleton _ _
def getI (l : List Int) (i : Nat) : Int := l.getD i 0
theorem getI_take {l : List Int} {i : Nat} (h : i < l.length) : l.take (i + 1) = l.take i ++ [getI l i] := by
  rw [List.take_add_one, List.getElem?_eq_getElem h]
  simp [getI, h]
theorem ints_getI {l : List Int} {i : Nat} (h : i < l.length) : (ints l)[i]? = some (zv (getI l i)) := by unfold ints getI; simp [h]
theorem ascI_step {l : List Int} {i : Nat} (h : i + 1 < l.length) : AscI (l.take (i + 2)) ↔ AscI (l.take (i + 1)) ∧ getI l i < getI l (i + 1) := by
  rw [getI_take h, getI_take (i := i) (by omega)]
  exact ascI_snoc
def idOk (n : Int) : Prop := 1 ≤ n ∧ n ≤ 1000000
instance (n : Int) : Decidable (idOk n) := by unfold idOk; infer_instance
def pkOf : List Nd → Int → Option Int
  | [], _ => none
  | n :: l, i => match pkOf l i with
    | some p => some p
    | none => if i = n.id then some n.pack else none
theorem pkOf_snoc (l : List Nd) (n : Nd) (i : Int) : pkOf (l ++ [n]) i = if i = n.id then some n.pack else pkOf l i := by
  induction l with
  | nil => show (match (none : Option Int) with | some p => some p | none => if i = n.id then some n.pack else none) = _; rfl
  | cons m l ih =>
    show (match pkOf (l ++ [n]) i with | some p => some p | none => if i = m.id then some m.pack else none) = if i = n.id then some n.pack else (match pkOf l i with | some p => some p | none => if i = m.id then some m.pack else none)
    rw [ih]
    by_cases h : i = n.id
    · rw [if_pos h, if_pos h]
    · rw [if_neg h, if_neg h]
def srcsOk (l : List Nd) (s : List Int) : Prop := ∀ x ∈ s, (pkOf l x).isSome = true
instance (l : List Nd) (s : List Int) : Decidable (srcsOk l s) := by unfold srcsOk; infer_instance
def ownB (l : List Nd) (pack : Int) (s : List Int) : Bool := s.any fun x => pkOf l x == some pack
def hasN (l : List Nd) (n : Nd) : Bool := decide (idOk n.id) && decide (idOk n.pack) && decide (1 ≤ n.kind) && decide (n.kind ≤ 5) && decide (n.src.length ≤ 8) && (decide (n.kind = 1) == decide (n.src.length = 0)) && decide (srcsOk l n.src) && (decide (n.kind = 1) || ownB l n.pack n.src) && decide (AscI n.src)
def allN (l : List Nd) : Nat → Bool
  | 0 => true
  | i + 1 => allN l i && hasN (l.take i) (ndAt l i)
def validN (l : List Nd) : Bool := allN l l.length && decide (l.length ≤ 400) && decide (AscI (l.map Nd.id))
theorem allN_false {l : List Nd} {i j : Nat} (h : hasN (l.take i) (ndAt l i) = false) (hij : i < j) : allN l j = false := by
  induction j with
  | zero => omega
  | succ j ih =>
    show (allN l j && hasN (l.take j) (ndAt l j)) = false
    by_cases e : i = j
    · subst e; rw [h, Bool.and_false]
    · rw [ih (by omega), Bool.false_and]
end Go.Sx
/-
  By program: the facts of this seat about functions and types, as instances of the layer's classes.
-/
namespace Go.Sx
open Go Go.Proofs
instance : FnIs Tryz.prog 3 Tryz.f3 := ⟨Tryz.func3⟩
instance : CallOk Tryz.prog 4 := ⟨Tryz.call4⟩
instance : FnIs Tryz.prog 4 Tryz.f4 := ⟨Tryz.func4⟩
instance : CallOk Tryz.prog 5 := ⟨Tryz.call5⟩
instance : FnIs Tryz.prog 5 Tryz.f5 := ⟨Tryz.func5⟩
instance : CallOk Tryz.prog 6 := ⟨Tryz.call6⟩
instance : FnIs Tryz.prog 6 Tryz.f6 := ⟨Tryz.func6⟩
instance : CallOk Tryz.prog 7 := ⟨Tryz.call7⟩
instance : FnIs Tryz.prog 7 Tryz.f7 := ⟨Tryz.func7⟩
instance : CallOk Tryz.prog 8 := ⟨Tryz.call8⟩
instance : FnIs Tryz.prog 8 Tryz.f8 := ⟨Tryz.func8⟩
instance : CallOk Tryz.prog 9 := ⟨Tryz.call9⟩
instance : FnIs Tryz.prog 9 Tryz.f9 := ⟨Tryz.func9⟩
instance : CallOk Tryz.prog 10 := ⟨Tryz.call10⟩
instance : FnIs Tryz.prog 10 Tryz.f10 := ⟨Tryz.func10⟩
instance : CallOk Tryz.prog 11 := ⟨Tryz.call11⟩
instance : FnIs Tryz.prog 11 Tryz.f11 := ⟨Tryz.func11⟩
instance : CallOk Tryz.prog 12 := ⟨Tryz.call12⟩
instance : FnIs Tryz.prog 12 Tryz.f12 := ⟨Tryz.func12⟩
instance : CallOk Tryz.prog 13 := ⟨Tryz.call13⟩
instance : FnIs Tryz.prog 13 Tryz.f13 := ⟨Tryz.func13⟩
instance : CallOk Tryz.prog 14 := ⟨Tryz.call14⟩
instance : FnIs Tryz.prog 14 Tryz.f14 := ⟨Tryz.func14⟩
instance : CallOk Tryz.prog 15 := ⟨Tryz.call15⟩
instance : FnIs Tryz.prog 15 Tryz.f15 := ⟨Tryz.func15⟩
instance : CallOk Tryz.prog 16 := ⟨Tryz.call16⟩
instance : FnIs Tryz.prog 16 Tryz.f16 := ⟨Tryz.func16⟩
instance : CallOk Tryz.prog 17 := ⟨Tryz.call17⟩
instance : FnIs Tryz.prog 17 Tryz.f17 := ⟨Tryz.func17⟩
instance : CallOk Tryz.prog 18 := ⟨Tryz.call18⟩
instance : FnIs Tryz.prog 18 Tryz.f18 := ⟨Tryz.func18⟩
instance : CallOk Tryz.prog 19 := ⟨Tryz.call19⟩
instance : FnIs Tryz.prog 19 Tryz.f19 := ⟨Tryz.func19⟩
instance : CallOk Tryz.prog 20 := ⟨Tryz.call20⟩
instance : FnIs Tryz.prog 20 Tryz.f20 := ⟨Tryz.func20⟩
instance : CallOk Tryz.prog 21 := ⟨Tryz.call21⟩
instance : FnIs Tryz.prog 21 Tryz.f21 := ⟨Tryz.func21⟩
instance : CallOk Tryz.prog 22 := ⟨Tryz.call22⟩
instance : FnIs Tryz.prog 22 Tryz.f22 := ⟨Tryz.func22⟩
instance : CallOk Tryz.prog 23 := ⟨Tryz.call23⟩
instance : CallOk Tryz.prog 24 := ⟨Tryz.call24⟩
instance : FnIs Tryz.prog 24 Tryz.f24 := ⟨Tryz.func24⟩
instance : CallOk Tryz.prog 25 := ⟨Tryz.call25⟩
instance : CallOk Tryz.prog 26 := ⟨Tryz.call26⟩
instance : FnIs Tryz.prog 26 Tryz.f26 := ⟨Tryz.func26⟩
instance : CallOk Tryz.prog 27 := ⟨Tryz.call27⟩
instance : FnIs Tryz.prog 27 Tryz.f27 := ⟨Tryz.func27⟩
instance : CallOk Tryz.prog 28 := ⟨Tryz.call28⟩
instance : FnIs Tryz.prog 28 Tryz.f28 := ⟨Tryz.func28⟩
instance : CallOk Tryz.prog 29 := ⟨Tryz.call29⟩
instance : FnIs Tryz.prog 29 Tryz.f29 := ⟨Tryz.func29⟩
instance : CallOk Tryz.prog 30 := ⟨Tryz.call30⟩
instance : FnIs Tryz.prog 30 Tryz.f30 := ⟨Tryz.func30⟩
instance : CallOk Tryz.prog 31 := ⟨Tryz.call31⟩
instance : FnIs Tryz.prog 31 Tryz.f31 := ⟨Tryz.func31⟩
instance : CallOk Tryz.prog 32 := ⟨Tryz.call32⟩
instance : FnIs Tryz.prog 32 Tryz.f32 := ⟨Tryz.func32⟩
instance : CallOk Tryz.prog 33 := ⟨Tryz.call33⟩
instance : FnIs Tryz.prog 33 Tryz.f33 := ⟨Tryz.func33⟩
instance : CallOk Tryz.prog 34 := ⟨Tryz.call34⟩
instance : FnIs Tryz.prog 34 Tryz.f34 := ⟨Tryz.func34⟩
instance : CallOk Tryz.prog 35 := ⟨Tryz.call35⟩
instance : FnIs Tryz.prog 35 Tryz.f35 := ⟨Tryz.func35⟩
instance : CallOk Tryz.prog 36 := ⟨Tryz.call36⟩
instance : FnIs Tryz.prog 36 Tryz.f36 := ⟨Tryz.func36⟩
instance : CallOk Tryz.prog 37 := ⟨Tryz.call37⟩
instance : FnIs Tryz.prog 37 Tryz.f37 := ⟨Tryz.func37⟩
instance : CallOk Tryz.prog 38 := ⟨Tryz.call38⟩
instance : FnIs Tryz.prog 38 Tryz.f38 := ⟨Tryz.func38⟩
instance : CallOk Tryz.prog 39 := ⟨Tryz.call39⟩
instance : FnIs Tryz.prog 39 Tryz.f39 := ⟨Tryz.func39⟩
instance : CallOk Tryz.prog 40 := ⟨Tryz.call40⟩
instance : FnIs Tryz.prog 40 Tryz.f40 := ⟨Tryz.func40⟩
instance : CallOk Tryz.prog 41 := ⟨Tryz.call41⟩
instance : FnIs Tryz.prog 41 Tryz.f41 := ⟨Tryz.func41⟩
instance : CallOk Tryz.prog 42 := ⟨Tryz.call42⟩
instance : FnIs Tryz.prog 42 Tryz.f42 := ⟨Tryz.func42⟩
instance : CallOk Tryz.prog 43 := ⟨Tryz.call43⟩
instance : FnIs Tryz.prog 43 Tryz.f43 := ⟨Tryz.func43⟩
instance : CallOk Tryz.prog 44 := ⟨Tryz.call44⟩
instance : FnIs Tryz.prog 44 Tryz.f44 := ⟨Tryz.func44⟩
instance : CallOk Tryz.prog 45 := ⟨Tryz.call45⟩
instance : CallOk Tryz.prog 46 := ⟨Tryz.call46⟩
instance : FnIs Tryz.prog 46 Tryz.f46 := ⟨Tryz.func46⟩
instance : CallOk Tryz.prog 47 := ⟨Tryz.call47⟩
instance : FnIs Tryz.prog 47 Tryz.f47 := ⟨Tryz.func47⟩
instance : CallOk Tryz.prog 48 := ⟨Tryz.call48⟩
instance : FnIs Tryz.prog 48 Tryz.f48 := ⟨Tryz.func48⟩
instance : CallOk Tryz.prog 49 := ⟨Tryz.call49⟩
instance : FnIs Tryz.prog 49 Tryz.f49 := ⟨Tryz.func49⟩
instance : CallOk Tryz.prog 50 := ⟨Tryz.call50⟩
instance : FnIs Tryz.prog 50 Tryz.f50 := ⟨Tryz.func50⟩
instance : CallOk Tryz.prog 51 := ⟨Tryz.call51⟩
instance : FnIs Tryz.prog 51 Tryz.f51 := ⟨Tryz.func51⟩
instance : CallOk Tryz.prog 52 := ⟨Tryz.call52⟩
instance : FnIs Tryz.prog 52 Tryz.f52 := ⟨Tryz.func52⟩
instance : CallOk Tryz.prog 53 := ⟨Tryz.call53⟩
instance : FnIs Tryz.prog 53 Tryz.f53 := ⟨Tryz.func53⟩
instance : CallOk Tryz.prog 54 := ⟨Tryz.call54⟩
instance : FnIs Tryz.prog 54 Tryz.f54 := ⟨Tryz.func54⟩
instance : CallOk Tryz.prog 55 := ⟨Tryz.call55⟩
instance : FnIs Tryz.prog 55 Tryz.f55 := ⟨Tryz.func55⟩
instance : CallOk Tryz.prog 56 := ⟨Tryz.call56⟩
instance : FnIs Tryz.prog 56 Tryz.f56 := ⟨Tryz.func56⟩
instance : CallOk Tryz.prog 57 := ⟨Tryz.call57⟩
instance : FnIs Tryz.prog 57 Tryz.f57 := ⟨Tryz.func57⟩
instance : CallOk Tryz.prog 58 := ⟨Tryz.call58⟩
instance : FnIs Tryz.prog 58 Tryz.f58 := ⟨Tryz.func58⟩
instance : CallOk Tryz.prog 62 := ⟨Tryz.call62⟩
instance : FnIs Tryz.prog 62 Tryz.f62 := ⟨Tryz.func62⟩
instance : CallOk Tryz.prog 63 := ⟨Tryz.call63⟩
instance : FnIs Tryz.prog 63 Tryz.f63 := ⟨Tryz.func63⟩
instance : CallOk Tryz.prog 64 := ⟨Tryz.call64⟩
instance : FnIs Tryz.prog 64 Tryz.f64 := ⟨Tryz.func64⟩
instance : CallOk Tryz.prog 65 := ⟨Tryz.call65⟩
instance : FnIs Tryz.prog 65 Tryz.f65 := ⟨Tryz.func65⟩
instance : CallOk Tryz.prog 66 := ⟨Tryz.call66⟩
instance : FnIs Tryz.prog 66 Tryz.f66 := ⟨Tryz.func66⟩
instance : CallOk Tryz.prog 67 := ⟨Tryz.call67⟩
instance : CallOk Tryz.prog 68 := ⟨Tryz.call68⟩
instance : FnIs Tryz.prog 68 Tryz.f68 := ⟨Tryz.func68⟩
instance : CallOk Tryz.prog 69 := ⟨Tryz.call69⟩
instance : FnIs Tryz.prog 69 Tryz.f69 := ⟨Tryz.func69⟩
instance : CallOk Tryz.prog 70 := ⟨Tryz.call70⟩
instance : FnIs Tryz.prog 70 Tryz.f70 := ⟨Tryz.func70⟩
instance : CallOk Tryz.prog 71 := ⟨Tryz.call71⟩
instance : FnIs Tryz.prog 71 Tryz.f71 := ⟨Tryz.func71⟩
instance : CallOk Tryz.prog 72 := ⟨Tryz.call72⟩
instance : FnIs Tryz.prog 72 Tryz.f72 := ⟨Tryz.func72⟩
instance : CallOk Tryz.prog 73 := ⟨Tryz.call73⟩
instance : FnIs Tryz.prog 73 Tryz.f73 := ⟨Tryz.func73⟩
instance : CallOk Tryz.prog 74 := ⟨Tryz.call74⟩
instance : FnIs Tryz.prog 74 Tryz.f74 := ⟨Tryz.func74⟩
instance : CallOk Tryz.prog 75 := ⟨Tryz.call75⟩
instance : FnIs Tryz.prog 75 Tryz.f75 := ⟨Tryz.func75⟩
instance : CallOk Tryz.prog 76 := ⟨Tryz.call76⟩
instance : FnIs Tryz.prog 76 Tryz.f76 := ⟨Tryz.func76⟩
instance : CallOk Tryz.prog 77 := ⟨Tryz.call77⟩
instance : FnIs Tryz.prog 77 Tryz.f77 := ⟨Tryz.func77⟩
instance : CallOk Tryz.prog 78 := ⟨Tryz.call78⟩
instance : FnIs Tryz.prog 78 Tryz.f78 := ⟨Tryz.func78⟩
instance : CallOk Tryz.prog 79 := ⟨Tryz.call79⟩
instance : FnIs Tryz.prog 79 Tryz.f79 := ⟨Tryz.func79⟩
instance : CallOk Tryz.prog 80 := ⟨Tryz.call80⟩
instance : FnIs Tryz.prog 80 Tryz.f80 := ⟨Tryz.func80⟩
instance : CallOk Tryz.prog 81 := ⟨Tryz.call81⟩
instance : FnIs Tryz.prog 81 Tryz.f81 := ⟨Tryz.func81⟩
instance : CallOk Tryz.prog 82 := ⟨Tryz.call82⟩
instance : FnIs Tryz.prog 82 Tryz.f82 := ⟨Tryz.func82⟩
instance : CallOk Tryz.prog 83 := ⟨Tryz.call83⟩
instance : FnIs Tryz.prog 83 Tryz.f83 := ⟨Tryz.func83⟩
instance : CallOk Tryz.prog 84 := ⟨Tryz.call84⟩
instance : FnIs Tryz.prog 84 Tryz.f84 := ⟨Tryz.func84⟩
instance : CallOk Tryz.prog 85 := ⟨Tryz.call85⟩
instance : FnIs Tryz.prog 85 Tryz.f85 := ⟨Tryz.func85⟩
instance : CallOk Tryz.prog 86 := ⟨Tryz.call86⟩
instance : FnIs Tryz.prog 86 Tryz.f86 := ⟨Tryz.func86⟩
instance : CallOk Tryz.prog 96 := ⟨Tryz.call96⟩
instance : FnIs Tryz.prog 96 Tryz.f96 := ⟨Tryz.func96⟩
instance : CallOk Tryz.prog 97 := ⟨Tryz.call97⟩
instance : FnIs Tryz.prog 97 Tryz.f97 := ⟨Tryz.func97⟩
instance : CallOk Tryz.prog 98 := ⟨Tryz.call98⟩
instance : FnIs Tryz.prog 98 Tryz.f98 := ⟨Tryz.func98⟩
instance : CallOk Tryz.prog 99 := ⟨Tryz.call99⟩
instance : FnIs Tryz.prog 99 Tryz.f99 := ⟨Tryz.func99⟩
instance : CallOk Tryz.prog 100 := ⟨Tryz.call100⟩
instance : FnIs Tryz.prog 100 Tryz.f100 := ⟨Tryz.func100⟩
instance : CallOk Tryz.prog 101 := ⟨Tryz.call101⟩
instance : FnIs Tryz.prog 101 Tryz.f101 := ⟨Tryz.func101⟩
instance : CallOk Tryz.prog 102 := ⟨Tryz.call102⟩
instance : FnIs Tryz.prog 102 Tryz.f102 := ⟨Tryz.func102⟩
instance : CallOk Tryz.prog 103 := ⟨Tryz.call103⟩
instance : FnIs Tryz.prog 103 Tryz.f103 := ⟨Tryz.func103⟩
instance : CallOk Tryz.prog 104 := ⟨Tryz.call104⟩
instance : FnIs Tryz.prog 104 Tryz.f104 := ⟨Tryz.func104⟩
instance : CallOk Tryz.prog 105 := ⟨Tryz.call105⟩
instance : FnIs Tryz.prog 105 Tryz.f105 := ⟨Tryz.func105⟩
instance : CallOk Tryz.prog 106 := ⟨Tryz.call106⟩
instance : FnIs Tryz.prog 106 Tryz.f106 := ⟨Tryz.func106⟩
instance : CallOk Tryz.prog 114 := ⟨Tryz.call114⟩
instance : FnIs Tryz.prog 114 Tryz.f114 := ⟨Tryz.func114⟩
instance : CallOk Tryz.prog 115 := ⟨Tryz.call115⟩
instance : FnIs Tryz.prog 115 Tryz.f115 := ⟨Tryz.func115⟩
instance : CallOk Tryz.prog 116 := ⟨Tryz.call116⟩
instance : FnIs Tryz.prog 116 Tryz.f116 := ⟨Tryz.func116⟩
instance : CallOk Tryz.prog 117 := ⟨Tryz.call117⟩
instance : FnIs Tryz.prog 117 Tryz.f117 := ⟨Tryz.func117⟩
instance : CallOk Tryz.prog 118 := ⟨Tryz.call118⟩
instance : FnIs Tryz.prog 118 Tryz.f118 := ⟨Tryz.func118⟩
instance : CallOk Tryz.prog 119 := ⟨Tryz.call119⟩
instance : FnIs Tryz.prog 119 Tryz.f119 := ⟨Tryz.func119⟩
instance : CallOk Tryz.prog 120 := ⟨Tryz.call120⟩
instance : FnIs Tryz.prog 120 Tryz.f120 := ⟨Tryz.func120⟩
instance : CallOk Tryz.prog 121 := ⟨Tryz.call121⟩
instance : FnIs Tryz.prog 121 Tryz.f121 := ⟨Tryz.func121⟩
instance : CallOk Tryz.prog 122 := ⟨Tryz.call122⟩
instance : FnIs Tryz.prog 122 Tryz.f122 := ⟨Tryz.func122⟩
instance : CallOk Tryz.prog 123 := ⟨Tryz.call123⟩
instance : FnIs Tryz.prog 123 Tryz.f123 := ⟨Tryz.func123⟩
instance : CallOk Tryz.prog 134 := ⟨Tryz.call134⟩
instance : FnIs Tryz.prog 134 Tryz.f134 := ⟨Tryz.func134⟩
instance : CallOk Tryz.prog 135 := ⟨Tryz.call135⟩
instance : FnIs Tryz.prog 135 Tryz.f135 := ⟨Tryz.func135⟩
instance : CallOk Tryz.prog 136 := ⟨Tryz.call136⟩
instance : FnIs Tryz.prog 136 Tryz.f136 := ⟨Tryz.func136⟩
instance : CallOk Tryz.prog 137 := ⟨Tryz.call137⟩
instance : FnIs Tryz.prog 137 Tryz.f137 := ⟨Tryz.func137⟩
instance : CallOk Tryz.prog 138 := ⟨Tryz.call138⟩
instance : FnIs Tryz.prog 138 Tryz.f138 := ⟨Tryz.func138⟩
instance : CallOk Tryz.prog 139 := ⟨Tryz.call139⟩
instance : CallOk Tryz.prog 140 := ⟨Tryz.call140⟩
instance : CallOk Tryz.prog 141 := ⟨Tryz.call141⟩
instance : FnIs Tryz.prog 141 Tryz.f141 := ⟨Tryz.func141⟩
instance : CallOk Tryz.prog 142 := ⟨Tryz.call142⟩
instance : FnIs Tryz.prog 142 Tryz.f142 := ⟨Tryz.func142⟩
instance : CallOk Tryz.prog 143 := ⟨Tryz.call143⟩
instance : FnIs Tryz.prog 143 Tryz.f143 := ⟨Tryz.func143⟩
instance : CallOk Tryz.prog 144 := ⟨Tryz.call144⟩
instance : FnIs Tryz.prog 144 Tryz.f144 := ⟨Tryz.func144⟩
instance : CallOk Tryz.prog 145 := ⟨Tryz.call145⟩
instance : FnIs Tryz.prog 145 Tryz.f145 := ⟨Tryz.func145⟩
instance : CallOk Tryz.prog 146 := ⟨Tryz.call146⟩
instance : FnIs Tryz.prog 146 Tryz.f146 := ⟨Tryz.func146⟩
instance : CallOk Tryz.prog 147 := ⟨Tryz.call147⟩
instance : FnIs Tryz.prog 147 Tryz.f147 := ⟨Tryz.func147⟩
instance : CallOk Tryz.prog 148 := ⟨Tryz.call148⟩
instance : FnIs Tryz.prog 148 Tryz.f148 := ⟨Tryz.func148⟩
instance : CallOk Tryz.prog 150 := ⟨Tryz.call150⟩
instance : CallOk Tryz.prog 151 := ⟨Tryz.call151⟩
instance : FnIs Tryz.prog 151 Tryz.f151 := ⟨Tryz.func151⟩
instance : CallOk Tryz.prog 152 := ⟨Tryz.call152⟩
instance : FnIs Tryz.prog 152 Tryz.f152 := ⟨Tryz.func152⟩
instance : CallOk Tryz.prog 153 := ⟨Tryz.call153⟩
instance : FnIs Tryz.prog 153 Tryz.f153 := ⟨Tryz.func153⟩
instance : CallOk Tryz.prog 157 := ⟨Tryz.call157⟩
instance : FnIs Tryz.prog 157 Tryz.f157 := ⟨Tryz.func157⟩
instance : CallOk Tryz.prog 158 := ⟨Tryz.call158⟩
instance : FnIs Tryz.prog 158 Tryz.f158 := ⟨Tryz.func158⟩
instance : CallOk Tryz.prog 159 := ⟨Tryz.call159⟩
instance : FnIs Tryz.prog 159 Tryz.f159 := ⟨Tryz.func159⟩
instance : CallOk Tryz.prog 160 := ⟨Tryz.call160⟩
instance : FnIs Tryz.prog 160 Tryz.f160 := ⟨Tryz.func160⟩
instance : CallOk Tryz.prog 168 := ⟨Tryz.call168⟩
instance : CallOk Tryz.prog 173 := ⟨Tryz.call173⟩
instance : FnIs Tryz.prog 173 Tryz.f173 := ⟨Tryz.func173⟩
instance : CallOk Tryz.prog 174 := ⟨Tryz.call174⟩
instance : CallOk Tryz.prog 178 := ⟨Tryz.call178⟩
instance : FnIs Tryz.prog 178 Tryz.f178 := ⟨Tryz.func178⟩
instance : CallOk Tryz.prog 179 := ⟨Tryz.call179⟩
instance : FnIs Tryz.prog 179 Tryz.f179 := ⟨Tryz.func179⟩
instance : CallOk Tryz.prog 180 := ⟨Tryz.call180⟩
instance : FnIs Tryz.prog 180 Tryz.f180 := ⟨Tryz.func180⟩
instance : CallOk Tryz.prog 181 := ⟨Tryz.call181⟩
instance : FnIs Tryz.prog 181 Tryz.f181 := ⟨Tryz.func181⟩
instance : CallOk Tryz.prog 182 := ⟨Tryz.call182⟩
instance : FnIs Tryz.prog 182 Tryz.f182 := ⟨Tryz.func182⟩
instance : CallOk Tryz.prog 183 := ⟨Tryz.call183⟩
instance : FnIs Tryz.prog 183 Tryz.f183 := ⟨Tryz.func183⟩
instance : CallOk Tryz.prog 184 := ⟨Tryz.call184⟩
instance : FnIs Tryz.prog 184 Tryz.f184 := ⟨Tryz.func184⟩
instance : CallOk Tryz.prog 185 := ⟨Tryz.call185⟩
instance : FnIs Tryz.prog 185 Tryz.f185 := ⟨Tryz.func185⟩
instance : CallOk Tryz.prog 186 := ⟨Tryz.call186⟩
instance : FnIs Tryz.prog 186 Tryz.f186 := ⟨Tryz.func186⟩
instance : CallOk Tryz.prog 187 := ⟨Tryz.call187⟩
instance : FnIs Tryz.prog 187 Tryz.f187 := ⟨Tryz.func187⟩
instance : CallOk Tryz.prog 188 := ⟨Tryz.call188⟩
instance : FnIs Tryz.prog 188 Tryz.f188 := ⟨Tryz.func188⟩
instance : CallOk Tryz.prog 189 := ⟨Tryz.call189⟩
instance : FnIs Tryz.prog 189 Tryz.f189 := ⟨Tryz.func189⟩
instance : CallOk Tryz.prog 190 := ⟨Tryz.call190⟩
instance : FnIs Tryz.prog 190 Tryz.f190 := ⟨Tryz.func190⟩
instance : CallOk Tryz.prog 191 := ⟨Tryz.call191⟩
instance : FnIs Tryz.prog 191 Tryz.f191 := ⟨Tryz.func191⟩
instance : CallOk Tryz.prog 192 := ⟨Tryz.call192⟩
instance : FnIs Tryz.prog 192 Tryz.f192 := ⟨Tryz.func192⟩
instance : CallOk Tryz.prog 193 := ⟨Tryz.call193⟩
instance : FnIs Tryz.prog 193 Tryz.f193 := ⟨Tryz.func193⟩
instance : CallOk Tryz.prog 194 := ⟨Tryz.call194⟩
instance : FnIs Tryz.prog 194 Tryz.f194 := ⟨Tryz.func194⟩
instance : CallOk Tryz.prog 200 := ⟨Tryz.call200⟩
instance : FnIs Tryz.prog 200 Tryz.f200 := ⟨Tryz.func200⟩
instance : CallOk Tryz.prog 201 := ⟨Tryz.call201⟩
instance : FnIs Tryz.prog 201 Tryz.f201 := ⟨Tryz.func201⟩
instance : CallOk Tryz.prog 202 := ⟨Tryz.call202⟩
instance : FnIs Tryz.prog 202 Tryz.f202 := ⟨Tryz.func202⟩
instance : CallOk Tryz.prog 204 := ⟨Tryz.call204⟩
instance : CallOk Tryz.prog 205 := ⟨Tryz.call205⟩
instance : FnIs Tryz.prog 205 Tryz.f205 := ⟨Tryz.func205⟩
instance : CallOk Tryz.prog 206 := ⟨Tryz.call206⟩
instance : FnIs Tryz.prog 206 Tryz.f206 := ⟨Tryz.func206⟩
instance : CallOk Tryz.prog 207 := ⟨Tryz.call207⟩
instance : FnIs Tryz.prog 207 Tryz.f207 := ⟨Tryz.func207⟩
instance : CallOk Tryz.prog 208 := ⟨Tryz.call208⟩
instance : FnIs Tryz.prog 208 Tryz.f208 := ⟨Tryz.func208⟩
instance : CallOk Tryz.prog 209 := ⟨Tryz.call209⟩
instance : FnIs Tryz.prog 209 Tryz.f209 := ⟨Tryz.func209⟩
instance : CallOk Tryz.prog 210 := ⟨Tryz.call210⟩
instance : FnIs Tryz.prog 210 Tryz.f210 := ⟨Tryz.func210⟩
instance : CallOk Tryz.prog 212 := ⟨Tryz.call212⟩
instance : FnIs Tryz.prog 212 Tryz.f212 := ⟨Tryz.func212⟩
instance : CallOk Tryz.prog 226 := ⟨Tryz.call226⟩
instance : FnIs Tryz.prog 226 Tryz.f226 := ⟨Tryz.func226⟩
instance : CallOk Tryz.prog 227 := ⟨Tryz.call227⟩
instance : FnIs Tryz.prog 227 Tryz.f227 := ⟨Tryz.func227⟩
instance : CallOk Tryz.prog 238 := ⟨Tryz.call238⟩
instance : FnIs Tryz.prog 238 Tryz.f238 := ⟨Tryz.func238⟩
instance : CallOk Tryz.prog 239 := ⟨Tryz.call239⟩
instance : CallOk Tryz.prog 240 := ⟨Tryz.call240⟩
instance : FnIs Tryz.prog 240 Tryz.f240 := ⟨Tryz.func240⟩
instance : CallOk Tryz.prog 241 := ⟨Tryz.call241⟩
instance : FnIs Tryz.prog 241 Tryz.f241 := ⟨Tryz.func241⟩
instance : CallOk Tryz.prog 242 := ⟨Tryz.call242⟩
instance : FnIs Tryz.prog 242 Tryz.f242 := ⟨Tryz.func242⟩
instance : CallOk Tryz.prog 260 := ⟨Tryz.call260⟩
instance : FnIs Tryz.prog 260 Tryz.f260 := ⟨Tryz.func260⟩
instance : UTy Tryz.prog 3 (.int .i64) := ⟨Tryz.underlying3⟩
instance : ITy Tryz.prog 3 (Go.Value.int Go.IntKind.i64 0) 1 8 := ⟨by kernel_rfl⟩
instance : ATy Tryz.prog 3 false := ⟨by kernel_rfl⟩
instance : UTy Tryz.prog 4 .bool := ⟨Tryz.underlying4⟩
instance : ITy Tryz.prog 4 (Go.Value.bool Bool.false) 1 1 := ⟨by kernel_rfl⟩
instance : ATy Tryz.prog 4 false := ⟨by kernel_rfl⟩
instance : UTy Tryz.prog 5 (.int .u8) := ⟨Tryz.underlying5⟩
instance : ITy Tryz.prog 5 (Go.Value.int Go.IntKind.u8 0) 1 1 := ⟨by kernel_rfl⟩
instance : ATy Tryz.prog 5 false := ⟨by kernel_rfl⟩
instance : UTy Tryz.prog 9 .string := ⟨Tryz.underlying9⟩
instance : ITy Tryz.prog 9 (Go.Value.string (ByteArray.mk #[])) 1 16 := ⟨by kernel_rfl⟩
instance : ATy Tryz.prog 9 false := ⟨by kernel_rfl⟩
instance : UTy Tryz.prog 22 (.slice 63) := ⟨Tryz.underlying22⟩
instance : UTy Tryz.prog 23 (.slice 66) := ⟨Tryz.underlying23⟩
instance : UTy Tryz.prog 25 (.slice 39) := ⟨Tryz.underlying25⟩
instance : ITy Tryz.prog 25 (Go.Value.slice none 0 0) 1 24 := ⟨by kernel_rfl⟩
instance : ATy Tryz.prog 25 false := ⟨by kernel_rfl⟩
instance : UTy Tryz.prog 26 (.slice 9) := ⟨Tryz.underlying26⟩
instance : ITy Tryz.prog 26 (Go.Value.slice none 0 0) 1 24 := ⟨by kernel_rfl⟩
instance : ATy Tryz.prog 26 false := ⟨by kernel_rfl⟩
instance : UTy Tryz.prog 30 (.slice 33) := ⟨Tryz.underlying30⟩
instance : ITy Tryz.prog 30 (Go.Value.slice none 0 0) 1 24 := ⟨by kernel_rfl⟩
instance : ATy Tryz.prog 30 false := ⟨by kernel_rfl⟩
instance : ITy Tryz.prog 33 (Go.Value.agg #[(Go.Value.int Go.IntKind.i64 0), (Go.Value.int Go.IntKind.i64 0), (Go.Value.int Go.IntKind.i64 0), (Go.Value.int Go.IntKind.i64 0), (Go.Value.bool Bool.false), (Go.Value.int Go.IntKind.i64 0), (Go.Value.int Go.IntKind.i64 0), (Go.Value.int Go.IntKind.i64 0), (Go.Value.int Go.IntKind.i64 0), (Go.Value.int Go.IntKind.i64 0), (Go.Value.int Go.IntKind.i64 0), (Go.Value.int Go.IntKind.i64 0), (Go.Value.bool Bool.false), (Go.Value.int Go.IntKind.i64 0), (Go.Value.string (ByteArray.mk #[]))]) 15 128 := ⟨by kernel_rfl⟩
instance : ATy Tryz.prog 33 true := ⟨by kernel_rfl⟩
instance : FTy Tryz.prog 33 0 0 3 := ⟨by kernel_rfl⟩
instance : FTy Tryz.prog 33 1 1 3 := ⟨by kernel_rfl⟩
instance : FTy Tryz.prog 33 2 2 3 := ⟨by kernel_rfl⟩
instance : FTy Tryz.prog 33 3 3 3 := ⟨by kernel_rfl⟩
instance : FTy Tryz.prog 33 4 4 4 := ⟨by kernel_rfl⟩
instance : FTy Tryz.prog 33 5 5 3 := ⟨by kernel_rfl⟩
instance : FTy Tryz.prog 33 6 6 3 := ⟨by kernel_rfl⟩
instance : FTy Tryz.prog 33 7 7 3 := ⟨by kernel_rfl⟩
instance : FTy Tryz.prog 33 8 8 3 := ⟨by kernel_rfl⟩
instance : FTy Tryz.prog 33 9 9 3 := ⟨by kernel_rfl⟩
instance : FTy Tryz.prog 33 10 10 3 := ⟨by kernel_rfl⟩
instance : FTy Tryz.prog 33 11 11 3 := ⟨by kernel_rfl⟩
instance : FTy Tryz.prog 33 12 12 4 := ⟨by kernel_rfl⟩
instance : FTy Tryz.prog 33 13 13 3 := ⟨by kernel_rfl⟩
instance : FTy Tryz.prog 33 14 14 9 := ⟨by kernel_rfl⟩
instance : ITy Tryz.prog 35 (Go.Value.agg #[(Go.Value.slice none 0 0), (Go.Value.slice none 0 0), (Go.Value.slice none 0 0), (Go.Value.slice none 0 0), (Go.Value.slice none 0 0), (Go.Value.slice none 0 0), (Go.Value.slice none 0 0), (Go.Value.slice none 0 0)]) 8 192 := ⟨by kernel_rfl⟩
instance : ATy Tryz.prog 35 true := ⟨by kernel_rfl⟩
instance : FTy Tryz.prog 35 0 0 30 := ⟨by kernel_rfl⟩
instance : FTy Tryz.prog 35 1 1 30 := ⟨by kernel_rfl⟩
instance : FTy Tryz.prog 35 2 2 30 := ⟨by kernel_rfl⟩
instance : FTy Tryz.prog 35 3 3 30 := ⟨by kernel_rfl⟩
instance : FTy Tryz.prog 35 4 4 30 := ⟨by kernel_rfl⟩
instance : FTy Tryz.prog 35 5 5 30 := ⟨by kernel_rfl⟩
instance : FTy Tryz.prog 35 6 6 30 := ⟨by kernel_rfl⟩
instance : FTy Tryz.prog 35 7 7 30 := ⟨by kernel_rfl⟩
instance : UTy Tryz.prog 37 (.slice 3) := ⟨Tryz.underlying37⟩
instance : ITy Tryz.prog 37 (Go.Value.slice none 0 0) 1 24 := ⟨by kernel_rfl⟩
instance : ATy Tryz.prog 37 false := ⟨by kernel_rfl⟩
instance : ITy Tryz.prog 39 (Go.Value.agg #[(Go.Value.int Go.IntKind.i64 0), (Go.Value.int Go.IntKind.i64 0), (Go.Value.int Go.IntKind.i64 0), (Go.Value.slice none 0 0)]) 4 48 := ⟨by kernel_rfl⟩
instance : ATy Tryz.prog 39 true := ⟨by kernel_rfl⟩
instance : FTy Tryz.prog 39 0 0 3 := ⟨by kernel_rfl⟩
instance : FTy Tryz.prog 39 1 1 3 := ⟨by kernel_rfl⟩
instance : FTy Tryz.prog 39 2 2 3 := ⟨by kernel_rfl⟩
instance : FTy Tryz.prog 39 3 3 37 := ⟨by kernel_rfl⟩
instance : ITy Tryz.prog 41 (Go.Value.agg #[(Go.Value.int Go.IntKind.i64 0), (Go.Value.int Go.IntKind.i64 0), (Go.Value.string (ByteArray.mk #[])), (Go.Value.string (ByteArray.mk #[])), (Go.Value.slice none 0 0), (Go.Value.slice none 0 0)]) 6 96 := ⟨by kernel_rfl⟩
instance : ATy Tryz.prog 41 true := ⟨by kernel_rfl⟩
instance : ITy Tryz.prog 42 (Go.Value.int Go.IntKind.i64 0) 1 8 := ⟨by kernel_rfl⟩
instance : ATy Tryz.prog 42 false := ⟨by kernel_rfl⟩
instance : ITy Tryz.prog 48 (Go.Value.agg #[(Go.Value.string (ByteArray.mk #[])), (Go.Value.int Go.IntKind.i64 0)]) 2 24 := ⟨by kernel_rfl⟩
instance : ATy Tryz.prog 48 true := ⟨by kernel_rfl⟩
instance : FTy Tryz.prog 48 0 0 9 := ⟨by kernel_rfl⟩
instance : FTy Tryz.prog 48 1 1 3 := ⟨by kernel_rfl⟩
instance : UTy Tryz.prog 49 (.slice 48) := ⟨Tryz.underlying49⟩
instance : ITy Tryz.prog 49 (Go.Value.slice none 0 0) 1 24 := ⟨by kernel_rfl⟩
instance : ATy Tryz.prog 49 false := ⟨by kernel_rfl⟩
instance : ITy Tryz.prog 51 (Go.Value.agg #[(Go.Value.int Go.IntKind.i64 0), (Go.Value.int Go.IntKind.i64 0), (Go.Value.bool Bool.false), (Go.Value.int Go.IntKind.i64 0), (Go.Value.int Go.IntKind.i64 0), (Go.Value.int Go.IntKind.i64 0)]) 6 48 := ⟨by kernel_rfl⟩
instance : ATy Tryz.prog 51 true := ⟨by kernel_rfl⟩
instance : FTy Tryz.prog 51 0 0 3 := ⟨by kernel_rfl⟩
instance : FTy Tryz.prog 51 1 1 3 := ⟨by kernel_rfl⟩
instance : FTy Tryz.prog 51 2 2 4 := ⟨by kernel_rfl⟩
instance : FTy Tryz.prog 51 3 3 3 := ⟨by kernel_rfl⟩
instance : FTy Tryz.prog 51 4 4 3 := ⟨by kernel_rfl⟩
instance : FTy Tryz.prog 51 5 5 3 := ⟨by kernel_rfl⟩
instance : UTy Tryz.prog 52 (.slice 51) := ⟨Tryz.underlying52⟩
instance : ITy Tryz.prog 52 (Go.Value.slice none 0 0) 1 24 := ⟨by kernel_rfl⟩
instance : ATy Tryz.prog 52 false := ⟨by kernel_rfl⟩
instance : ITy Tryz.prog 54 (Go.Value.agg #[(Go.Value.slice none 0 0), (Go.Value.slice none 0 0), (Go.Value.int Go.IntKind.i64 0), (Go.Value.string (ByteArray.mk #[]))]) 4 72 := ⟨by kernel_rfl⟩
instance : ATy Tryz.prog 54 true := ⟨by kernel_rfl⟩
instance : FTy Tryz.prog 54 0 0 49 := ⟨by kernel_rfl⟩
instance : FTy Tryz.prog 54 1 1 52 := ⟨by kernel_rfl⟩
instance : FTy Tryz.prog 54 2 2 3 := ⟨by kernel_rfl⟩
instance : FTy Tryz.prog 54 3 3 9 := ⟨by kernel_rfl⟩
instance : ITy Tryz.prog 61 (Go.Value.agg #[(Go.Value.int Go.IntKind.i64 0), (Go.Value.int Go.IntKind.i64 0)]) 2 16 := ⟨by kernel_rfl⟩
instance : ATy Tryz.prog 61 true := ⟨by kernel_rfl⟩
instance : FTy Tryz.prog 61 0 0 3 := ⟨by kernel_rfl⟩
instance : FTy Tryz.prog 61 1 1 3 := ⟨by kernel_rfl⟩
instance : UTy Tryz.prog 62 (.slice 61) := ⟨Tryz.underlying62⟩
instance : UTy Tryz.prog 63 (.array 4 3) := ⟨Tryz.underlying63⟩
instance : ITy Tryz.prog 63 (Go.Value.agg #[(Go.Value.int Go.IntKind.i64 0), (Go.Value.int Go.IntKind.i64 0), (Go.Value.int Go.IntKind.i64 0), (Go.Value.int Go.IntKind.i64 0)]) 4 32 := ⟨by kernel_rfl⟩
instance : ATy Tryz.prog 63 true := ⟨by kernel_rfl⟩
instance : UTy Tryz.prog 66 (.array 6 3) := ⟨Tryz.underlying66⟩
instance : ITy Tryz.prog 66 (Go.Value.agg #[(Go.Value.int Go.IntKind.i64 0), (Go.Value.int Go.IntKind.i64 0), (Go.Value.int Go.IntKind.i64 0), (Go.Value.int Go.IntKind.i64 0), (Go.Value.int Go.IntKind.i64 0), (Go.Value.int Go.IntKind.i64 0)]) 6 48 := ⟨by kernel_rfl⟩
instance : ATy Tryz.prog 66 true := ⟨by kernel_rfl⟩
instance : UTy Tryz.prog 71 (.map 9 33) := ⟨Tryz.underlying71⟩
instance : ITy Tryz.prog 73 (Go.Value.pointer none) 1 8 := ⟨by kernel_rfl⟩
instance : ATy Tryz.prog 73 false := ⟨by kernel_rfl⟩
instance : ATy Tryz.prog 77 false := ⟨by kernel_rfl⟩
instance : ITy Tryz.prog 80 (Go.Value.agg #[(Go.Value.slice none 0 0), (Go.Value.slice none 0 0)]) 2 48 := ⟨by kernel_rfl⟩
instance : ATy Tryz.prog 80 true := ⟨by kernel_rfl⟩
instance : FTy Tryz.prog 80 0 0 25 := ⟨by kernel_rfl⟩
instance : FTy Tryz.prog 80 1 1 26 := ⟨by kernel_rfl⟩
instance : ITy Tryz.prog 82 Go.Value.nilFunc 1 8 := ⟨by kernel_rfl⟩
instance : ATy Tryz.prog 82 false := ⟨by kernel_rfl⟩
instance : UTy Tryz.prog 84 (.map 3 144) := ⟨Tryz.underlying84⟩
instance : ATy Tryz.prog 94 false := ⟨by kernel_rfl⟩
instance : FTy Tryz.prog 97 0 0 54 := ⟨by kernel_rfl⟩
instance : ITy Tryz.prog 98 Go.Value.nilFunc 1 8 := ⟨by kernel_rfl⟩
instance : UTy Tryz.prog 100 (.map 3 98) := ⟨Tryz.underlying100⟩
instance : UTy Tryz.prog 103 (.pointer 106) := ⟨Tryz.underlying103⟩
instance : ITy Tryz.prog 103 (Go.Value.pointer none) 1 8 := ⟨by kernel_rfl⟩
instance : ATy Tryz.prog 103 false := ⟨by kernel_rfl⟩
instance : UTy Tryz.prog 104 (.slice 5) := ⟨Tryz.underlying104⟩
instance : ITy Tryz.prog 104 (Go.Value.slice none 0 0) 1 24 := ⟨by kernel_rfl⟩
instance : ATy Tryz.prog 104 false := ⟨by kernel_rfl⟩
instance : ITy Tryz.prog 106 (Go.Value.agg #[(Go.Value.pointer none), (Go.Value.slice none 0 0)]) 2 32 := ⟨by kernel_rfl⟩
instance : FTy Tryz.prog 106 0 0 103 := ⟨by kernel_rfl⟩
instance : FTy Tryz.prog 106 1 1 104 := ⟨by kernel_rfl⟩
instance : FTy Tryz.prog 108 0 0 106 := ⟨by kernel_rfl⟩
instance : UTy Tryz.prog 114 (.slice 172) := ⟨Tryz.underlying114⟩
instance : ITy Tryz.prog 114 (Go.Value.slice none 0 0) 1 24 := ⟨by kernel_rfl⟩
instance : ATy Tryz.prog 114 false := ⟨by kernel_rfl⟩
instance : ITy Tryz.prog 116 (Go.Value.agg #[(Go.Value.bool Bool.false), (Go.Value.slice none 0 0), (Go.Value.int Go.IntKind.i64 0), (Go.Value.int Go.IntKind.i64 0), (Go.Value.string (ByteArray.mk #[]))]) 5 64 := ⟨by kernel_rfl⟩
instance : ATy Tryz.prog 116 true := ⟨by kernel_rfl⟩
instance : FTy Tryz.prog 116 0 0 4 := ⟨by kernel_rfl⟩
instance : FTy Tryz.prog 116 1 1 114 := ⟨by kernel_rfl⟩
instance : ITy Tryz.prog 118 Go.Value.nilFunc 1 8 := ⟨by kernel_rfl⟩
instance : ATy Tryz.prog 118 false := ⟨by kernel_rfl⟩
instance : ITy Tryz.prog 119 Go.Value.nilFunc 1 8 := ⟨by kernel_rfl⟩
instance : ATy Tryz.prog 119 false := ⟨by kernel_rfl⟩
instance : ITy Tryz.prog 121 (Go.Value.agg #[(Go.Value.slice none 0 0), Go.Value.nilFunc, Go.Value.nilFunc]) 3 40 := ⟨by kernel_rfl⟩
instance : FTy Tryz.prog 121 0 0 37 := ⟨by kernel_rfl⟩
instance : FTy Tryz.prog 121 1 1 118 := ⟨by kernel_rfl⟩
instance : FTy Tryz.prog 121 2 2 119 := ⟨by kernel_rfl⟩
instance : UTy Tryz.prog 122 (.array 7 121) := ⟨Tryz.underlying122⟩
instance : ITy Tryz.prog 122 (Go.Value.agg #[(Go.Value.slice none 0 0), Go.Value.nilFunc, Go.Value.nilFunc, (Go.Value.slice none 0 0), Go.Value.nilFunc, Go.Value.nilFunc, (Go.Value.slice none 0 0), Go.Value.nilFunc, Go.Value.nilFunc, (Go.Value.slice none 0 0), Go.Value.nilFunc, Go.Value.nilFunc, (Go.Value.slice none 0 0), Go.Value.nilFunc, Go.Value.nilFunc, (Go.Value.slice none 0 0), Go.Value.nilFunc, Go.Value.nilFunc, (Go.Value.slice none 0 0), Go.Value.nilFunc, Go.Value.nilFunc]) 21 280 := ⟨by kernel_rfl⟩
instance : ATy Tryz.prog 122 true := ⟨by kernel_rfl⟩
instance : UTy Tryz.prog 126 (.int .u32) := ⟨Tryz.underlying126⟩
instance : ITy Tryz.prog 126 (Go.Value.int Go.IntKind.u32 0) 1 4 := ⟨by kernel_rfl⟩
instance : ATy Tryz.prog 126 false := ⟨by kernel_rfl⟩
instance : UTy Tryz.prog 127 (.slice 126) := ⟨Tryz.underlying127⟩
instance : UTy Tryz.prog 130 (.int .u64) := ⟨Tryz.underlying130⟩
instance : UTy Tryz.prog 137 (.array 9 73) := ⟨Tryz.underlying137⟩
instance : ITy Tryz.prog 144 (Go.Value.agg #[]) 0 0 := ⟨by kernel_rfl⟩
instance : ITy Tryz.prog 147 (Go.Value.agg #[(Go.Value.int Go.IntKind.i64 0), (Go.Value.int Go.IntKind.i64 0), (Go.Value.int Go.IntKind.i64 0)]) 3 24 := ⟨by kernel_rfl⟩
instance : ATy Tryz.prog 147 true := ⟨by kernel_rfl⟩
instance : FTy Tryz.prog 147 2 2 3 := ⟨by kernel_rfl⟩
instance : ATy Tryz.prog 156 false := ⟨by kernel_rfl⟩
instance : UTy Tryz.prog 163 (.pointer 5) := ⟨Tryz.underlying163⟩
instance : FTy Tryz.prog 169 0 0 9 := ⟨by kernel_rfl⟩
instance : FTy Tryz.prog 169 1 1 3 := ⟨by kernel_rfl⟩
instance : ITy Tryz.prog 172 (Go.Value.agg #[(Go.Value.string (ByteArray.mk #[])), (Go.Value.slice none 0 0)]) 2 40 := ⟨by kernel_rfl⟩
instance : ATy Tryz.prog 172 true := ⟨by kernel_rfl⟩
instance : FTy Tryz.prog 172 0 0 9 := ⟨by kernel_rfl⟩
instance : FTy Tryz.prog 172 1 1 37 := ⟨by kernel_rfl⟩
instance : ATy Tryz.prog 175 false := ⟨by kernel_rfl⟩
instance : UTy Tryz.prog 181 (.int .u64) := ⟨Tryz.underlying181⟩
instance : ITy Tryz.prog 181 (Go.Value.int Go.IntKind.u64 0) 1 8 := ⟨by kernel_rfl⟩
instance : ATy Tryz.prog 181 false := ⟨by kernel_rfl⟩
instance : UTy Tryz.prog 183 (.slice 186) := ⟨Tryz.underlying183⟩
instance : ITy Tryz.prog 183 (Go.Value.slice none 0 0) 1 24 := ⟨by kernel_rfl⟩
instance : ATy Tryz.prog 183 false := ⟨by kernel_rfl⟩
instance : ITy Tryz.prog 184 Go.Value.nilFunc 1 8 := ⟨by kernel_rfl⟩
instance : ATy Tryz.prog 184 false := ⟨by kernel_rfl⟩
instance : ITy Tryz.prog 186 (Go.Value.agg #[Go.Value.nilFunc, (Go.Value.int Go.IntKind.i64 0), (Go.Value.int Go.IntKind.i64 0)]) 3 24 := ⟨by kernel_rfl⟩
instance : ATy Tryz.prog 186 true := ⟨by kernel_rfl⟩
instance : FTy Tryz.prog 186 0 0 184 := ⟨by kernel_rfl⟩
instance : FTy Tryz.prog 186 1 1 3 := ⟨by kernel_rfl⟩
instance : FTy Tryz.prog 186 2 2 3 := ⟨by kernel_rfl⟩
instance : ITy Tryz.prog 188 (Go.Value.agg #[(Go.Value.slice none 0 0), Go.Value.nilFunc, (Go.Value.int Go.IntKind.i64 0), (Go.Value.int Go.IntKind.i64 0), Go.Value.nilFunc]) 5 56 := ⟨by kernel_rfl⟩
instance : ATy Tryz.prog 188 true := ⟨by kernel_rfl⟩
instance : FTy Tryz.prog 188 0 0 183 := ⟨by kernel_rfl⟩
instance : FTy Tryz.prog 188 1 1 186 := ⟨by kernel_rfl⟩
instance : FTy Tryz.prog 188 2 4 82 := ⟨by kernel_rfl⟩
instance : ITy Tryz.prog 193 (Go.Value.agg #[(Go.Value.pointer none), (Go.Value.slice none 0 0)]) 2 32 := ⟨by kernel_rfl⟩
instance : FTy Tryz.prog 193 0 0 106 := ⟨by kernel_rfl⟩
instance : UTy Tryz.prog 205 (.map 3 39) := ⟨Tryz.underlying205⟩
instance : UTy Tryz.prog 259 (.slice 37) := ⟨Tryz.underlying259⟩
instance : UTy Tryz.prog 264 (.array 8 126) := ⟨Tryz.underlying264⟩
instance : ITy Tryz.prog 264 (Go.Value.agg #[(Go.Value.int Go.IntKind.u32 0), (Go.Value.int Go.IntKind.u32 0), (Go.Value.int Go.IntKind.u32 0), (Go.Value.int Go.IntKind.u32 0), (Go.Value.int Go.IntKind.u32 0), (Go.Value.int Go.IntKind.u32 0), (Go.Value.int Go.IntKind.u32 0), (Go.Value.int Go.IntKind.u32 0)]) 8 32 := ⟨by kernel_rfl⟩
instance : ATy Tryz.prog 264 true := ⟨by kernel_rfl⟩
instance : UTy Tryz.prog 295 (.array 64 126) := ⟨Tryz.underlying295⟩
instance : ITy Tryz.prog 295 (Go.Value.agg #[(Go.Value.int Go.IntKind.u32 0), (Go.Value.int Go.IntKind.u32 0), (Go.Value.int Go.IntKind.u32 0), (Go.Value.int Go.IntKind.u32 0), (Go.Value.int Go.IntKind.u32 0), (Go.Value.int Go.IntKind.u32 0), (Go.Value.int Go.IntKind.u32 0), (Go.Value.int Go.IntKind.u32 0), (Go.Value.int Go.IntKind.u32 0), (Go.Value.int Go.IntKind.u32 0), (Go.Value.int Go.IntKind.u32 0), (Go.Value.int Go.IntKind.u32 0), (Go.Value.int Go.IntKind.u32 0), (Go.Value.int Go.IntKind.u32 0), (Go.Value.int Go.IntKind.u32 0), (Go.Value.int Go.IntKind.u32 0), (Go.Value.int Go.IntKind.u32 0), (Go.Value.int Go.IntKind.u32 0), (Go.Value.int Go.IntKind.u32 0), (Go.Value.int Go.IntKind.u32 0), (Go.Value.int Go.IntKind.u32 0), (Go.Value.int Go.IntKind.u32 0), (Go.Value.int Go.IntKind.u32 0), (Go.Value.int Go.IntKind.u32 0), (Go.Value.int Go.IntKind.u32 0), (Go.Value.int Go.IntKind.u32 0), (Go.Value.int Go.IntKind.u32 0), (Go.Value.int Go.IntKind.u32 0), (Go.Value.int Go.IntKind.u32 0), (Go.Value.int Go.IntKind.u32 0), (Go.Value.int Go.IntKind.u32 0), (Go.Value.int Go.IntKind.u32 0), (Go.Value.int Go.IntKind.u32 0), (Go.Value.int Go.IntKind.u32 0), (Go.Value.int Go.IntKind.u32 0), (Go.Value.int Go.IntKind.u32 0), (Go.Value.int Go.IntKind.u32 0), (Go.Value.int Go.IntKind.u32 0), (Go.Value.int Go.IntKind.u32 0), (Go.Value.int Go.IntKind.u32 0), (Go.Value.int Go.IntKind.u32 0), (Go.Value.int Go.IntKind.u32 0), (Go.Value.int Go.IntKind.u32 0), (Go.Value.int Go.IntKind.u32 0), (Go.Value.int Go.IntKind.u32 0), (Go.Value.int Go.IntKind.u32 0), (Go.Value.int Go.IntKind.u32 0), (Go.Value.int Go.IntKind.u32 0), (Go.Value.int Go.IntKind.u32 0), (Go.Value.int Go.IntKind.u32 0), (Go.Value.int Go.IntKind.u32 0), (Go.Value.int Go.IntKind.u32 0), (Go.Value.int Go.IntKind.u32 0), (Go.Value.int Go.IntKind.u32 0), (Go.Value.int Go.IntKind.u32 0), (Go.Value.int Go.IntKind.u32 0), (Go.Value.int Go.IntKind.u32 0), (Go.Value.int Go.IntKind.u32 0), (Go.Value.int Go.IntKind.u32 0), (Go.Value.int Go.IntKind.u32 0), (Go.Value.int Go.IntKind.u32 0), (Go.Value.int Go.IntKind.u32 0), (Go.Value.int Go.IntKind.u32 0), (Go.Value.int Go.IntKind.u32 0)]) 64 256 := ⟨by kernel_rfl⟩
instance : ATy Tryz.prog 295 true := ⟨by kernel_rfl⟩
instance : UTy Tryz.prog 298 (.array 32 5) := ⟨Tryz.underlying298⟩
instance : ITy Tryz.prog 298 (Go.Value.agg #[(Go.Value.int Go.IntKind.u8 0), (Go.Value.int Go.IntKind.u8 0), (Go.Value.int Go.IntKind.u8 0), (Go.Value.int Go.IntKind.u8 0), (Go.Value.int Go.IntKind.u8 0), (Go.Value.int Go.IntKind.u8 0), (Go.Value.int Go.IntKind.u8 0), (Go.Value.int Go.IntKind.u8 0), (Go.Value.int Go.IntKind.u8 0), (Go.Value.int Go.IntKind.u8 0), (Go.Value.int Go.IntKind.u8 0), (Go.Value.int Go.IntKind.u8 0), (Go.Value.int Go.IntKind.u8 0), (Go.Value.int Go.IntKind.u8 0), (Go.Value.int Go.IntKind.u8 0), (Go.Value.int Go.IntKind.u8 0), (Go.Value.int Go.IntKind.u8 0), (Go.Value.int Go.IntKind.u8 0), (Go.Value.int Go.IntKind.u8 0), (Go.Value.int Go.IntKind.u8 0), (Go.Value.int Go.IntKind.u8 0), (Go.Value.int Go.IntKind.u8 0), (Go.Value.int Go.IntKind.u8 0), (Go.Value.int Go.IntKind.u8 0), (Go.Value.int Go.IntKind.u8 0), (Go.Value.int Go.IntKind.u8 0), (Go.Value.int Go.IntKind.u8 0), (Go.Value.int Go.IntKind.u8 0), (Go.Value.int Go.IntKind.u8 0), (Go.Value.int Go.IntKind.u8 0), (Go.Value.int Go.IntKind.u8 0), (Go.Value.int Go.IntKind.u8 0)]) 32 32 := ⟨by kernel_rfl⟩
instance : UTy Tryz.prog 299 .unsafePointer := ⟨Tryz.underlying299⟩
end Go.Sx
/- By program: how the values of structs and arrays are laid out. -/
namespace Go.Sx
open Go Go.Proofs
instance : BTy Tryz.prog 33 [(0, 1), (1, 1), (2, 1), (3, 1), (4, 1), (5, 1), (6, 1), (7, 1), (8, 1), (9, 1), (10, 1), (11, 1), (12, 1), (13, 1), (14, 1)] [(Go.Value.int Go.IntKind.i64 0), (Go.Value.int Go.IntKind.i64 0), (Go.Value.int Go.IntKind.i64 0), (Go.Value.int Go.IntKind.i64 0), (Go.Value.bool Bool.false), (Go.Value.int Go.IntKind.i64 0), (Go.Value.int Go.IntKind.i64 0), (Go.Value.int Go.IntKind.i64 0), (Go.Value.int Go.IntKind.i64 0), (Go.Value.int Go.IntKind.i64 0), (Go.Value.int Go.IntKind.i64 0), (Go.Value.int Go.IntKind.i64 0), (Go.Value.bool Bool.false), (Go.Value.int Go.IntKind.i64 0), (Go.Value.string (ByteArray.mk #[]))] := ⟨by kernel_rfl⟩
instance : BTy Tryz.prog 39 [(0, 1), (1, 1), (2, 1), (3, 1)] [(Go.Value.int Go.IntKind.i64 0), (Go.Value.int Go.IntKind.i64 0), (Go.Value.int Go.IntKind.i64 0), (Go.Value.slice none 0 0)] := ⟨by kernel_rfl⟩
instance : BTy Tryz.prog 41 [(0, 1), (1, 1), (2, 1), (3, 1), (4, 1), (5, 1)] [(Go.Value.int Go.IntKind.i64 0), (Go.Value.int Go.IntKind.i64 0), (Go.Value.string (ByteArray.mk #[])), (Go.Value.string (ByteArray.mk #[])), (Go.Value.slice none 0 0), (Go.Value.slice none 0 0)] := ⟨by kernel_rfl⟩
instance : BTy Tryz.prog 48 [(0, 1), (1, 1)] [(Go.Value.string (ByteArray.mk #[])), (Go.Value.int Go.IntKind.i64 0)] := ⟨by kernel_rfl⟩
instance : BTy Tryz.prog 51 [(0, 1), (1, 1), (2, 1), (3, 1), (4, 1), (5, 1)] [(Go.Value.int Go.IntKind.i64 0), (Go.Value.int Go.IntKind.i64 0), (Go.Value.bool Bool.false), (Go.Value.int Go.IntKind.i64 0), (Go.Value.int Go.IntKind.i64 0), (Go.Value.int Go.IntKind.i64 0)] := ⟨by kernel_rfl⟩
instance : BTy Tryz.prog 54 [(0, 1), (1, 1), (2, 1), (3, 1)] [(Go.Value.slice none 0 0), (Go.Value.slice none 0 0), (Go.Value.int Go.IntKind.i64 0), (Go.Value.string (ByteArray.mk #[]))] := ⟨by kernel_rfl⟩
instance : BTy Tryz.prog 61 [(0, 1), (1, 1)] [(Go.Value.int Go.IntKind.i64 0), (Go.Value.int Go.IntKind.i64 0)] := ⟨by kernel_rfl⟩
instance : BTy Tryz.prog 80 [(0, 1), (1, 1)] [(Go.Value.slice none 0 0), (Go.Value.slice none 0 0)] := ⟨by kernel_rfl⟩
instance : BTy Tryz.prog 97 [(0, 4)] [(Go.Value.slice none 0 0), (Go.Value.slice none 0 0), (Go.Value.int Go.IntKind.i64 0), (Go.Value.string (ByteArray.mk #[]))] := ⟨by kernel_rfl⟩
instance : BTy Tryz.prog 108 [(0, 2)] [(Go.Value.pointer none), (Go.Value.slice none 0 0)] := ⟨by kernel_rfl⟩
instance : BTy Tryz.prog 121 [(0, 1), (1, 1), (2, 1)] [(Go.Value.slice none 0 0), Go.Value.nilFunc, Go.Value.nilFunc] := ⟨by kernel_rfl⟩
instance : BTy Tryz.prog 122 [(0, 3), (3, 3), (6, 3), (9, 3), (12, 3), (15, 3), (18, 3)] [(Go.Value.slice none 0 0), Go.Value.nilFunc, Go.Value.nilFunc, (Go.Value.slice none 0 0), Go.Value.nilFunc, Go.Value.nilFunc, (Go.Value.slice none 0 0), Go.Value.nilFunc, Go.Value.nilFunc, (Go.Value.slice none 0 0), Go.Value.nilFunc, Go.Value.nilFunc, (Go.Value.slice none 0 0), Go.Value.nilFunc, Go.Value.nilFunc, (Go.Value.slice none 0 0), Go.Value.nilFunc, Go.Value.nilFunc, (Go.Value.slice none 0 0), Go.Value.nilFunc, Go.Value.nilFunc] := ⟨by kernel_rfl⟩
instance : BTy Tryz.prog 137 [(0, 1), (1, 1), (2, 1), (3, 1), (4, 1), (5, 1), (6, 1), (7, 1), (8, 1)] [(Go.Value.pointer none), (Go.Value.pointer none), (Go.Value.pointer none), (Go.Value.pointer none), (Go.Value.pointer none), (Go.Value.pointer none), (Go.Value.pointer none), (Go.Value.pointer none), (Go.Value.pointer none)] := ⟨by kernel_rfl⟩
instance : BTy Tryz.prog 144 [] [] := ⟨by kernel_rfl⟩
instance : BTy Tryz.prog 147 [(0, 1), (1, 1), (2, 1)] [(Go.Value.int Go.IntKind.i64 0), (Go.Value.int Go.IntKind.i64 0), (Go.Value.int Go.IntKind.i64 0)] := ⟨by kernel_rfl⟩
instance : BTy Tryz.prog 169 [(0, 1), (1, 1)] [(Go.Value.string (ByteArray.mk #[])), (Go.Value.int Go.IntKind.i64 0)] := ⟨by kernel_rfl⟩
instance : BTy Tryz.prog 186 [(0, 1), (1, 1), (2, 1)] [Go.Value.nilFunc, (Go.Value.int Go.IntKind.i64 0), (Go.Value.int Go.IntKind.i64 0)] := ⟨by kernel_rfl⟩
instance : BTy Tryz.prog 188 [(0, 1), (1, 3), (4, 1)] [(Go.Value.slice none 0 0), Go.Value.nilFunc, (Go.Value.int Go.IntKind.i64 0), (Go.Value.int Go.IntKind.i64 0), Go.Value.nilFunc] := ⟨by kernel_rfl⟩
instance : BTy Tryz.prog 264 [(0, 1), (1, 1), (2, 1), (3, 1), (4, 1), (5, 1), (6, 1), (7, 1)] [(Go.Value.int Go.IntKind.u32 0), (Go.Value.int Go.IntKind.u32 0), (Go.Value.int Go.IntKind.u32 0), (Go.Value.int Go.IntKind.u32 0), (Go.Value.int Go.IntKind.u32 0), (Go.Value.int Go.IntKind.u32 0), (Go.Value.int Go.IntKind.u32 0), (Go.Value.int Go.IntKind.u32 0)] := ⟨by kernel_rfl⟩
end Go.Sx
/- The seat's own facts that many texts need. -/
namespace Go.Sx
open Go Go.Proofs
instance mixedI : Mixed Tryz.prog := ⟨by kernel_rfl⟩
end Go.Sx
/- Chapter 24: Valid: the walk. -/
namespace Go.Sx
open Go Go.Proofs Go.RowKit
theorem hwNB {G G2 : Prop} (x : G2) (hwq : Hold G2 → G := by
    intro hQq
    repeat' (first | refine HL.pa ?_ (POp.nilCheck rfl) | apply HL.fold | apply HA.fold | apply HL.nil | apply HX.n_then | apply HC.seq | apply HC.region | refine HL.pa ?_ | refine HL.ga rfl ?_ | refine HL.na rfl ?_ | refine HL.nu rfl rfl ?_ | apply HC.block | apply HC.skip | apply HC.exit | apply HC.ret | apply HX.e_block | refine HX.e_other rfl ?_ | apply HX.e_then | apply HX.e_again | apply HX.n_block | apply HX.r_then | apply HX.r_block | apply HX.r_again | refine HC.cond_yes rfl ?_ | refine HC.cond_no rfl ?_ | refine HL.one (H1.ldb rfl memA rfl rfl ?_) | refine HC.cond rfl (fun hc => ?_) (fun hc => ?_) | refine HC.cond_b rfl (fun hc => ?_) (fun hc => ?_))
    exact hQq.get) : G := hwq ⟨x⟩
section
variable {P : Program} {w : World} {t k e : TypeId} {q : IntKind} {b : Nat} {l : List (Int × Value)} {o : Obj} {z : Value} {sz bb : Nat}
theorem run_lookup_mq2 (ht : P.underlying t = some (.map k e)) (hk : P.underlying k = some (.int q)) [hi : ITy P e z sz bb] (hb : w.heap[b]? = some o) (ho : mqP q l o) (x : Int) :
    (Instr.lookup t (.map (some b)) (.int q x) true).run P w = .ok (.tuple #[(mget l x).getD z, .bool (mget l x).isSome]) w := by
  obtain ⟨es, clk, rfl, h⟩ := ho
  have hf := run_findKey_int (P := P) (w := w) hk x es.toList l h.ents
  unfold Instr.lookup
  simp only [Sem.run_bind, run_underlying ht, Result.andThen, run_getMap hb, Sem.run_pure, run_checkKey_int hk _ 9999 x, hf]
  rw [← midx_get]
  cases midx l x with
  | none => simp [run_zeroValue (h := hi)]
  | some p => simp
end
section
variable {P : Program} {r : Option Nat} {N : Nat} {ds : List Deferred} {ol rest : List Oper} {Q : Post} {E : Env} {w0 : World} {H : List Atom} {next : Act → World → Prop} {g : Option (Nat × Bool)}
variable {d : Nat} {t ty : TypeId} {pos : String} {af : Array Edge} {x y z : Operand}
theorem H1.mqget2 {b : Nat} {k e : TypeId} {q : IntKind} {l : List (Int × Value)} {n : Int} {zv : Value} {sz bb : Nat} [ht : UTy P t (.map k e)] [hk : UTy P k (.int q)] [hi : ITy P e zv sz bb] (hx : Env.ev E x = some (.map (some b))) (hy : Env.ev E y = some (.int q n))
    (hm : A.mq b q l ∈ H) (hd : Nat.blt d N = true) (h : HN N ds next ((d, .tuple #[(mget l n).getD zv, .bool (mget l n).isSome]) :: E) w0 H) : H1 P r N ds next ⟨some d, .lookup t x y true, ty, pos, af, g⟩ Q E w0 H := fun w hM => by
  obtain ⟨o, h1, h2⟩ : ∃ o, w.heap[b]? = some o ∧ mqP q l o := hM.all _ hm
  refine W1.run (v := .tuple #[(mget l n).getD zv, .bool (mget l n).isSome]) (w' := w) (fun a ha' => ?_) rfl hd (h w hM)
  simp only [execOp, ha'.ev hx, ha'.ev hy, Sem.run_bind, run_lookup_mq2 ht.is hk.is h1 h2 n, Result.andThen, Sem.run_pure]
end
theorem mget_mset2 (l : List (Int × Value)) (n : Int) (v : Value) (x : Int) : mget (mset l n v) x = if x = n then some v else mget l x := by
  induction l with
  | nil => rfl
  | cons p l ih =>
    obtain ⟨y, u⟩ := p
    show mget (if n = y then (n, v) :: l else (y, u) :: mset l n v) x = if x = n then some v else (if x = y then some u else mget l x)
    by_cases h : n = y
    · subst h
      rw [if_pos rfl]
      show (if x = n then some v else mget l x) = _
      by_cases h2 : x = n
      · rw [if_pos h2, if_pos h2]
      · rw [if_neg h2, if_neg h2, if_neg h2]
    · rw [if_neg h]
      show (if x = y then some u else mget (mset l n v) x) = _
      rw [ih]
      by_cases h2 : x = n
      · subst h2; rw [if_neg h, if_pos rfl, if_pos rfl]
      · rw [if_neg h2, if_neg h2]
def trM (l : List Nd) (U : Nat → Value) : Nat → List (Int × Value)
  | 0 => []
  | i + 1 => mset (trM l U i) (ndAt l i).id (ndV (ndAt l i) (U i))
theorem trM_get (l : List Nd) (U : Nat → Value) (hU : ∀ i, i < l.length → (U i).oneCell' = true) (x : Int) : ∀ (i : Nat), i ≤ l.length → (mget (trM l U i) x = none ∧ pkOf (l.take i) x = none) ∨ ∃ n v, mget (trM l U i) x = some (ndV n v) ∧ v.oneCell' = true ∧ pkOf (l.take i) x = some n.pack
  | 0, _ => .inl ⟨rfl, rfl⟩
  | i + 1, h => by
    have ht := ndAt_take (show i < l.length by omega)
    show (mget (mset (trM l U i) (ndAt l i).id (ndV (ndAt l i) (U i))) x = none ∧ _) ∨ ∃ n v, mget (mset (trM l U i) (ndAt l i).id (ndV (ndAt l i) (U i))) x = some (ndV n v) ∧ _ ∧ _
    rw [mget_mset2, ht, pkOf_snoc]
    by_cases e : x = (ndAt l i).id
    · rw [if_pos e, if_pos e]
      exact .inr ⟨_, _, rfl, hU i h, rfl⟩
    · rw [if_neg e, if_neg e]
      exact trM_get l U hU x i (by omega)
theorem nd_one {n : Nd} {v : Value} (h : v.oneCell' = true) : ∀ u ∈ ndC n v, u.oneCell' = true := by
  intro u hu
  rcases List.mem_cons.1 hu with rfl | hu
  · rfl
  rcases List.mem_cons.1 hu with rfl | hu
  · rfl
  rcases List.mem_cons.1 hu with rfl | hu
  · rfl
  rcases List.mem_cons.1 hu with rfl | hu
  · exact h
  · cases hu
attribute [local irreducible] WC WL WX POp Then Again Fn NX W1 WA WO QL RP RA Yld LoopAt HC HL HX HN H1 HA HO HQ HB HP A.blk A.grow A.rd A.obj A.mp AgainH CutH
attribute [local irreducible] A.mq A.mit
theorem isID_fn (n : Int) (w : World) : Fn Tryz.prog 200 #[zv n] w fun v w' => v = .bool (decide (idOk n)) ∧ w = w' := by
  refine enter (l := [_]) rfl Tryz.ntmps200 rfl ?_
  by_cases h1 : 1 ≤ n
  · by_cases h2 : n ≤ 1000000
    · repeat' (first | apply WL.fold | apply WA.fold | apply WL.nil | apply WX.n_then | apply WC.seq | apply WC.region | refine WL.pa ?_ | refine WL.ga rfl ?_ | refine WL.na rfl ?_ | refine WL.nu rfl rfl ?_ | apply WC.block | apply WC.skip | apply WC.exit | apply WC.ret | apply WX.e_block | refine WX.e_other rfl ?_ | apply WX.e_then | apply WX.e_again | apply WX.n_block | apply WX.r_then | apply WX.r_block | apply WX.r_again | refine WC.cond_yes rfl ?_ | refine WC.cond_no rfl ?_ | refine WC.cond rfl (fun hc => ?_) (fun hc => ?_) | refine WC.cond_b rfl (fun hc => ?_) (fun hc => ?_))
      exact WX.ret1 rfl rfl ⟨by rw [decide_eq_true h2, decide_eq_true (p := idOk n) ⟨h1, h2⟩], rfl⟩
    · repeat' (first | apply WL.fold | apply WA.fold | apply WL.nil | apply WX.n_then | apply WC.seq | apply WC.region | refine WL.pa ?_ | refine WL.ga rfl ?_ | refine WL.na rfl ?_ | refine WL.nu rfl rfl ?_ | apply WC.block | apply WC.skip | apply WC.exit | apply WC.ret | apply WX.e_block | refine WX.e_other rfl ?_ | apply WX.e_then | apply WX.e_again | apply WX.n_block | apply WX.r_then | apply WX.r_block | apply WX.r_again | refine WC.cond_yes rfl ?_ | refine WC.cond_no rfl ?_ | refine WC.cond rfl (fun hc => ?_) (fun hc => ?_) | refine WC.cond_b rfl (fun hc => ?_) (fun hc => ?_))
      exact WX.ret1 rfl rfl ⟨by rw [decide_eq_false h2, decide_eq_false (p := idOk n) fun h => h2 h.2], rfl⟩
  · repeat' (first | apply WL.fold | apply WA.fold | apply WL.nil | apply WX.n_then | apply WC.seq | apply WC.region | refine WL.pa ?_ | refine WL.ga rfl ?_ | refine WL.na rfl ?_ | refine WL.nu rfl rfl ?_ | apply WC.block | apply WC.skip | apply WC.exit | apply WC.ret | apply WX.e_block | refine WX.e_other rfl ?_ | apply WX.e_then | apply WX.e_again | apply WX.n_block | apply WX.r_then | apply WX.r_block | apply WX.r_again | refine WC.cond_yes rfl ?_ | refine WC.cond_no rfl ?_ | refine WC.cond rfl (fun hc => ?_) (fun hc => ?_) | refine WC.cond_b rfl (fun hc => ?_) (fun hc => ?_))
    exact WX.ret1 rfl rfl ⟨by rw [decide_eq_false (p := idOk n) fun h => h1 h.1], rfl⟩
theorem has1_fn (n : Int) (w : World) : Fn Tryz.prog 202 #[zv n] w fun v w' => v = zv n ∧ w = w' := by
  refine enter (l := [_]) rfl Tryz.ntmps202 rfl ?_
  repeat' (first | apply WL.fold | apply WA.fold | apply WL.nil | apply WX.n_then | apply WC.seq | apply WC.region | refine WL.pa ?_ | refine WL.ga rfl ?_ | refine WL.na rfl ?_ | refine WL.nu rfl rfl ?_ | apply WC.block | apply WC.skip | apply WC.exit | apply WC.ret | apply WX.e_block | refine WX.e_other rfl ?_ | apply WX.e_then | apply WX.e_again | apply WX.n_block | apply WX.r_then | apply WX.r_block | apply WX.r_again | refine WC.cond_yes rfl ?_ | refine WC.cond_no rfl ?_ | refine WC.cond rfl (fun hc => ?_) (fun hc => ?_) | refine WC.cond_b rfl (fun hc => ?_) (fun hc => ?_))
  exact WX.ret1 rfl rfl ⟨rfl, rfl⟩
theorem valid1_fn (n : Nd) (v : Value) (w : World) : Fn Tryz.prog 136 #[ndV n v] w fun u w' => u = zv n.id ∧ Ext w w' := by
  refine enterH (l := [_]) rfl Tryz.ntmps136 rfl ?_
  refine hwNB ?_
  refine HL.one (H1.boxAgg (cs := [zv n.id, zv n.kind, zv n.pack, v]) rfl rfl (fun b1 => ?_))
  refine hwNB ?_
  exact HX.ret1 rfl rfl fun w' hM => ⟨rfl, hM.ext⟩
theorem ascI_fn (v : Value) (l : List Int) (hl : l.length ≤ 1000000) (w : World) (hR : Rd w v (ints l)) :
    Fn Tryz.prog 201 #[v, .func (.func 202) #[] #[]] w fun u w' => u = .bool (decide (AscI l)) ∧ Ext w w' := by
  obtain ⟨a0, c0, rfl, hc0, hcl⟩ : ∃ a c, v = .slice a l.length c ∧ l.length ≤ c ∧ (l = [] ∨ ∃ b off, a = some ⟨b, off, none⟩ ∧ ∀ i u, (ints l)[i]? = some u → w.cell? ⟨b, off + i, none⟩ = some u) := by
    obtain ⟨a, c, h1, h2, h3⟩ := hR
    rw [ints_len] at h1 h2
    refine ⟨a, c, h1, h2, ?_⟩
    rcases h3 with h3 | ⟨b, off, h4, -, h5⟩
    · exact .inl (by simpa [ints] using h3)
    · exact .inr ⟨b, off, h4, h5⟩
  refine enterH (l := [_, _]) rfl Tryz.ntmps201 rfl ?_
  refine hwNB ?_
  refine HC.loop (α := Nat) (fun k => [(0, .slice a0 l.length c0), (1, .func (.func 202) #[] #[]), (5, zv ((k + 1 : Nat) : Int))]) (fun _ => []) (fun k => (k = 0 ∨ k + 1 ≤ l.length) ∧ AscI (l.take (k + 1))) (fun k => l.length - k) 0 ⟨.inl rfl, ascI_short (by rw [List.length_take]; omega)⟩ esA (Hs.refl _) ?_
  rintro k ⟨hk, hA⟩
  by_cases hlt : k + 1 < l.length
  rotate_left
  · have hn : ¬ ((k + 1 : Nat) : Int) < (l.length : Int) := by omega
    have he : AscI l := by
      have : l.take (k + 1) = l := List.take_of_length_le (by omega)
      rw [this] at hA; exact hA
    refine hwNB ?_
    exact HX.ret1 rfl rfl fun w' hM => ⟨by rw [decide_eq_true he], hM.ext⟩
  have hn : ((k + 1 : Nat) : Int) < (l.length : Int) := by omega
  obtain ⟨b, off, rfl, hb⟩ : ∃ b off, a0 = some ⟨b, off, none⟩ ∧ ∀ i u, (ints l)[i]? = some u → w.cell? ⟨b, off + i, none⟩ = some u := by
    rcases hcl with h | h
    · rw [h] at hlt; cases hlt
    · exact h
  have hx := hb k _ (ints_getI (show k < l.length by omega))
  have hy := hb (k + 1) _ (ints_getI hlt)
  have hst := ascI_step hlt
  generalize getI l k = x at hx hst
  generalize getI l (k + 1) = y at hy hst
  refine hwNB ?_
  refine HC.cut (α := Unit) (fun _ => [(0, .slice (some ⟨b, off, none⟩) l.length c0), (1, .func (.func 202) #[] #[]), (5, zv ((k + 1 : Nat) : Int)), (25, .bool (decide (y ≤ x)))]) (fun _ => []) (fun _ => True) ?_ ?_
  · refine HC.anyC ([(⟨b, off + k, none⟩, zv x), (⟨b, off + (k + 1), none⟩, zv y)]) rfl ?_
    refine HB.pa 0 rfl ?_
    refine HB.pa 1 rfl ?_
    refine HB.pa 2 rfl ?_
    refine HB.pa 3 rfl ?_ ((POp.sub rfl rfl (by omega) (by omega)).of (congrArg zv (show ((k + 1 : Nat) : Int) - 1 = (k : Int) by omega)))
    refine HB.pa 4 rfl ?_
    refine HB.ld 5 rfl rfl memD ?_
    refine HB.pa 7 rfl ?_
    refine HB.pa 8 rfl ?_
    refine HB.pa 9 rfl ?_
    refine HB.pa 10 rfl ?_
    refine HB.ld 11 rfl rfl memD ?_
    refine HB.all (by (exact Keep.base hx (Keep.base hy Keep.nil))) [6] (by kernel_rfl) rfl ⟨⟨_, rfl, ?_⟩, trivial⟩
    refine HP.one ?_
    refine H1.callv0 (f := 202) (u := zv x) (cap := []) (vs := [zv x]) rfl rfl rfl (fun w' hM => (has1_fn x w').mono fun v w2 h => ⟨h.1, h.2 ▸ Ext.refl _⟩) ?_
    apply HB.fold
    refine HB.all (by (exact Keep.base hx (Keep.base hy Keep.nil))) [12] (by kernel_rfl) rfl ⟨⟨_, rfl, ?_⟩, trivial⟩
    refine HP.one ?_
    refine H1.callv0 (f := 202) (u := zv y) (cap := []) (vs := [zv y]) rfl rfl rfl (fun w' hM => (has1_fn y w').mono fun v w2 h => ⟨h.1, h.2 ▸ Ext.refl _⟩) ?_
    apply HB.fold
    refine HB.pa 13 rfl ?_
    refine HB.done (by (exact Keep.base hx (Keep.base hy Keep.nil))) (by kernel_rfl) ?_
    exact HX.cut () trivial esA (Hs.refl _)
  rintro - -
  by_cases hxy : y ≤ x
  · refine hwNB ?_
    exact HX.ret1 rfl rfl fun w' hM => ⟨by rw [decide_eq_false fun h : AscI l => by have := (hst.1 (ascI_sub h (List.take_sublist _ _))).2; omega], hM.ext⟩
  · refine hwNB ?_
    exact HX.again (k + 1) ⟨.inr hlt, hst.2 ⟨hA, by omega⟩⟩ (by show l.length - (k + 1) < l.length - k; omega) esA (Hs.refl _)
end Go.Sx
/- Chapter 24: which nodes are valid: the walk. -/
namespace Go.Sx
open Go Go.Proofs Go.RowKit
theorem hnNC {G G2 : Prop} (x : G2) (hwq : Hold G2 → G := by
    intro hQq
    repeat' (first | refine HL.pa ?_ (POp.nilCheck rfl) | apply HL.fold | apply HA.fold | apply HL.nil | apply HX.n_then | apply HC.seq | apply HC.region | refine HL.pa ?_ | refine HL.ga rfl ?_ | refine HL.na rfl ?_ | refine HL.nu rfl rfl ?_ | apply HC.block | apply HC.skip | apply HC.exit | apply HC.ret | apply HX.e_block | refine HX.e_other rfl ?_ | apply HX.e_then | apply HX.e_again | apply HX.n_block | apply HX.r_then | apply HX.r_block | apply HX.r_again | refine HC.cond_yes rfl ?_ | refine HC.cond_no rfl ?_ | refine HL.one (H1.ldb rfl memA rfl rfl ?_))
    exact hQq.get) : G := hwq ⟨x⟩
theorem ids_len (l : List Nd) : (l.map Nd.id).length = l.length := List.length_map ..
theorem ids_get {l : List Nd} {i : Nat} (h : i < l.length) : getI (l.map Nd.id) i = (ndAt l i).id := by unfold getI ndAt; simp [h]
theorem RdN.cell {w : World} {a : Option Addr} {c : Nat} {l : List Nd} {U : Nat → Value} (h : RdN w (.slice a l.length c) l U) {i : Nat} (hi : i < l.length) : ∃ b off, a = some ⟨b, off, none⟩ ∧ ∀ k, k < l.length → ∀ (j : Nat) (u : Value), (ndC (ndAt l k) (U k))[j]? = some u → w.cell? ⟨b, off + k * 4 + j, none⟩ = some u := by
  obtain ⟨a', c', h1, h2, h3⟩ := h.shape
  cases h1
  rcases h3 with h3 | ⟨b, off, h4, h5⟩
  · rw [h3] at hi; cases hi
  · exact ⟨b, off, h4, h5⟩
theorem srcsOk_snoc {L : List Nd} {s : List Int} {x : Int} : srcsOk L (s ++ [x]) ↔ srcsOk L s ∧ (pkOf L x).isSome = true := by
  unfold srcsOk
  constructor
  · intro h
    exact ⟨fun y hy => h y (List.mem_append_left _ hy), h x (List.mem_append_right _ (.head _))⟩
  · rintro ⟨h1, h2⟩ y hy
    rcases List.mem_append.1 hy with hy | hy
    · exact h1 y hy
    · rcases List.mem_cons.1 hy with rfl | hy
      · exact h2
      · cases hy
theorem ownB_snoc (L : List Nd) (p : Int) (s : List Int) (x : Int) : ownB L p (s ++ [x]) = (ownB L p s || (pkOf L x == some p)) := by unfold ownB; rw [List.any_append]; simp
attribute [local irreducible] WC WL WX POp Then Again Fn NX W1 WA WO QL RP RA Yld LoopAt HC HL HX HN H1 HA HO HQ HB HP A.blk A.grow A.rd A.obj A.mp AgainH CutH
attribute [local irreducible] A.mq A.mit
theorem ascN_fn {a0 : Option Addr} {c0 : Nat} (l : List Nd) {U : Nat → Value} (hl : l.length ≤ 1000000) (w : World) (hR : RdN w (.slice a0 l.length c0) l U) :
    Fn Tryz.prog 135 #[.slice a0 l.length c0, .func (.func 136) #[] #[]] w fun u w' => u = .bool (decide (AscI (l.map Nd.id))) ∧ Ext w w' := by
  refine enterH (l := [_, _]) rfl Tryz.ntmps135 rfl ?_
  refine hwNB ?_
  refine HC.loop (α := Nat) (fun k => [(0, .slice a0 l.length c0), (1, .func (.func 136) #[] #[]), (5, zv ((k + 1 : Nat) : Int))]) (fun _ => []) (fun k => (k = 0 ∨ k + 1 ≤ l.length) ∧ AscI ((l.map Nd.id).take (k + 1))) (fun k => l.length - k) 0 ⟨.inl rfl, ascI_short (by rw [List.length_take]; omega)⟩ esA (Hs.refl _) ?_
  rintro k ⟨hk, hA⟩
  by_cases hlt : k + 1 < l.length
  rotate_left
  · have hn : ¬ ((k + 1 : Nat) : Int) < (l.length : Int) := by omega
    have he : AscI (l.map Nd.id) := by
      have : (l.map Nd.id).take (k + 1) = l.map Nd.id := List.take_of_length_le (by rw [ids_len]; omega)
      rw [this] at hA; exact hA
    refine hwNB ?_
    exact HX.ret1 rfl rfl fun w' hM => ⟨by rw [decide_eq_true he], hM.ext⟩
  have hn : ((k + 1 : Nat) : Int) < (l.length : Int) := by omega
  obtain ⟨b, off, rfl, hb⟩ := hR.cell hlt
  have hx := hb k (by omega)
  have hy := hb (k + 1) hlt
  have hst := ascI_step (l := l.map Nd.id) (i := k) (by rw [ids_len]; exact hlt)
  rw [ids_get (by omega), ids_get hlt] at hst
  generalize ndAt l k = x at hx hst
  generalize ndAt l (k + 1) = y at hy hst
  generalize U k = ux at hx
  generalize U (k + 1) = uy at hy
  refine hwNB ?_
  refine HC.cut (α := Unit) (fun _ => [(0, .slice (some ⟨b, off, none⟩) l.length c0), (1, .func (.func 136) #[] #[]), (5, zv ((k + 1 : Nat) : Int)), (25, .bool (decide (y.id ≤ x.id)))]) (fun _ => []) (fun _ => True) ?_ ?_
  · refine HC.any rfl ?_
    refine HA.pa 0 rfl ?_
    refine HA.pa 1 rfl ?_
    refine HA.pa 2 rfl ?_
    refine HA.pa 3 rfl ?_ ((POp.sub rfl rfl (by omega) (by omega)).of (congrArg zv (show ((k + 1 : Nat) : Int) - 1 = (k : Int) by omega)))
    refine HA.pa 4 rfl ?_
    refine HA.pa 7 rfl ?_
    refine HA.pa 8 rfl ?_
    refine HA.pa 9 rfl ?_
    refine HA.pa 10 rfl ?_
    refine HA.all [5, 11] (by kernel_rfl) rfl ⟨⟨_, rfl, ?_⟩, ⟨_, rfl, ?_⟩, trivial⟩
    · refine HO.one ?_
      refine H1.ldAggw (b := b) (off := off + k * 4) (vs := ndC x ux) rfl rfl (fun w' hM j u hu => cell_ext hM.ext (hx j u hu)) rfl ?_
      apply HA.fold
      refine HA.all [6, 11] (by kernel_rfl) rfl ⟨⟨_, rfl, ?_⟩, ⟨_, rfl, ?_⟩, trivial⟩
      · refine HO.one ?_
        refine H1.callv0 (f := 136) (u := zv x.id) (cap := []) (vs := [ndV x ux]) rfl rfl rfl (fun w' hM => valid1_fn x ux w') ?_
        apply HA.fold
        refine HA.all [11] (by kernel_rfl) rfl ⟨⟨_, rfl, ?_⟩, trivial⟩
        refine HO.one ?_
        refine H1.ldAggw (b := b) (off := off + (k + 1) * 4) (vs := ndC y uy) rfl rfl (fun w' hM j u hu => cell_ext hM.ext (hy j u hu)) rfl ?_
        apply HA.fold
        refine HA.all [12] (by kernel_rfl) rfl ⟨⟨_, rfl, ?_⟩, trivial⟩
        refine HO.one ?_
        refine H1.callv0 (f := 136) (u := zv y.id) (cap := []) (vs := [ndV y uy]) rfl rfl rfl (fun w' hM => valid1_fn y uy w') ?_
        apply HA.fold
        refine HA.pa 13 rfl ?_
        refine HA.done (by kernel_rfl) ?_
        exact HX.cut () trivial esA (Hs.refl _)
      · refine HO.one ?_
        refine H1.ldAggw (b := b) (off := off + (k + 1) * 4) (vs := ndC y uy) rfl rfl (fun w' hM j u hu => cell_ext hM.ext (hy j u hu)) rfl ?_
        apply HA.fold
        refine HA.all [6] (by kernel_rfl) rfl ⟨⟨_, rfl, ?_⟩, trivial⟩
        refine HO.one ?_
        refine H1.callv0 (f := 136) (u := zv x.id) (cap := []) (vs := [ndV x ux]) rfl rfl rfl (fun w' hM => valid1_fn x ux w') ?_
        apply HA.fold
        refine HA.all [12] (by kernel_rfl) rfl ⟨⟨_, rfl, ?_⟩, trivial⟩
        refine HO.one ?_
        refine H1.callv0 (f := 136) (u := zv y.id) (cap := []) (vs := [ndV y uy]) rfl rfl rfl (fun w' hM => valid1_fn y uy w') ?_
        apply HA.fold
        refine HA.pa 13 rfl ?_
        refine HA.done (by kernel_rfl) ?_
        exact HX.cut () trivial esA (Hs.refl _)
    · refine HO.one ?_
      refine H1.ldAggw (b := b) (off := off + (k + 1) * 4) (vs := ndC y uy) rfl rfl (fun w' hM j u hu => cell_ext hM.ext (hy j u hu)) rfl ?_
      apply HA.fold
      refine HA.all [5] (by kernel_rfl) rfl ⟨⟨_, rfl, ?_⟩, trivial⟩
      refine HO.one ?_
      refine H1.ldAggw (b := b) (off := off + k * 4) (vs := ndC x ux) rfl rfl (fun w' hM j u hu => cell_ext hM.ext (hx j u hu)) rfl ?_
      apply HA.fold
      refine HA.all [6] (by kernel_rfl) rfl ⟨⟨_, rfl, ?_⟩, trivial⟩
      refine HO.one ?_
      refine H1.callv0 (f := 136) (u := zv x.id) (cap := []) (vs := [ndV x ux]) rfl rfl rfl (fun w' hM => valid1_fn x ux w') ?_
      apply HA.fold
      refine HA.all [12] (by kernel_rfl) rfl ⟨⟨_, rfl, ?_⟩, trivial⟩
      refine HO.one ?_
      refine H1.callv0 (f := 136) (u := zv y.id) (cap := []) (vs := [ndV y uy]) rfl rfl rfl (fun w' hM => valid1_fn y uy w') ?_
      apply HA.fold
      refine HA.pa 13 rfl ?_
      refine HA.done (by kernel_rfl) ?_
      exact HX.cut () trivial esA (Hs.refl _)
  rintro - -
  by_cases hxy : y.id ≤ x.id
  · refine hwNB ?_
    exact HX.ret1 rfl rfl fun w' hM => ⟨by rw [decide_eq_false fun h : AscI (l.map Nd.id) => by have := (hst.1 (ascI_sub h (List.take_sublist _ _))).2; omega], hM.ext⟩
  · refine hwNB ?_
    exact HX.again (k + 1) ⟨.inr hlt, hst.2 ⟨hA, by omega⟩⟩ (by show l.length - (k + 1) < l.length - k; omega) esA (Hs.refl _)
set_option maxHeartbeats 2000000 in
theorem has24_fn {w0 w : World} {H : List Atom} {b : Nat} {l : List Nd} {U : Nat → Value} {i : Nat} (n : Nd) (vf : Value) (hi : i ≤ l.length) (hU : ∀ i, i < l.length → (U i).oneCell' = true) (hn : n.src.length ≤ 1000000) (hR : Rd w0 vf (ints n.src)) (hM : Mm w0 (A.mq b .i64 (trM l U i) :: H) w) :
    Fn Tryz.prog 134 #[.map (some b), ndV n vf] w fun v w' => ∃ _ : Unit, True ∧ v = .bool (hasN (l.take i) n) ∧ Mm w0 (A.mq b .i64 (trM l U i) :: H) w' := by
  obtain ⟨a0, c0, rfl, hc0, hcl⟩ : ∃ a c, vf = .slice a n.src.length c ∧ n.src.length ≤ c ∧ (n.src = [] ∨ ∃ b off, a = some ⟨b, off, none⟩) := by
    obtain ⟨a, c, h1, h2, h3⟩ := hR
    rw [ints_len] at h1 h2
    refine ⟨a, c, h1, h2, ?_⟩
    rcases h3 with h3 | ⟨b, off, h4, -, -⟩
    · exact .inl (by simpa [ints] using h3)
    · exact .inr ⟨b, off, h4⟩
  have hget := fun x => trM_get l U hU x i hi
  generalize l.take i = L at hget ⊢
  obtain ⟨id, kind, pack, src⟩ := n
  dsimp only at hn hR hc0 hcl
  refine enterK (l := [_, _]) hM rfl Tryz.ntmps134 rfl ?_
  unfold ndV
  dsimp only
  refine hwNB ?_
  refine HL.one (H1.boxAgg (cs := [zv id, zv kind, zv pack, .slice a0 src.length c0]) rfl rfl (fun b3 => ?_))
  refine hwNB ?_
  refine HL.one (H1.call0 (vs := [_]) rfl rfl (fun w' _ => isID_fn id w') ?_)
  by_cases h1 : idOk id
  rotate_left
  · rw [decide_eq_false h1]
    refine hwNB ?_
    exact HX.ret1 rfl rfl fun w' hM => ⟨(), trivial, by unfold hasN; simp [h1], hM.tail⟩
  rw [decide_eq_true h1]
  refine hwNB ?_
  refine HL.one (H1.call0 (vs := [_]) rfl rfl (fun w' _ => isID_fn pack w') ?_)
  by_cases h2 : idOk pack
  rotate_left
  · rw [decide_eq_false h2]
    refine hwNB ?_
    exact HX.ret1 rfl rfl fun w' hM => ⟨(), trivial, by unfold hasN; simp [h2], hM.tail⟩
  rw [decide_eq_true h2]
  by_cases h3 : 1 ≤ kind
  rotate_left
  · have h3' : kind < 1 := by omega
    refine hwNB ?_
    exact HX.ret1 rfl rfl fun w' hM => ⟨(), trivial, by unfold hasN; simp [h3], hM.tail⟩
  have h3' : ¬ kind < 1 := by omega
  by_cases h4 : kind ≤ 5
  rotate_left
  · have h4' : 5 < kind := by omega
    refine hwNB ?_
    exact HX.ret1 rfl rfl fun w' hM => ⟨(), trivial, by unfold hasN; simp [h4], hM.tail⟩
  have h4' : ¬ 5 < kind := by omega
  by_cases h5 : src.length ≤ 8
  rotate_left
  · have h5' : (8 : Int) < (src.length : Int) := by omega
    refine hwNB ?_
    exact HX.ret1 rfl rfl fun w' hM => ⟨(), trivial, by unfold hasN; simp [h5], hM.tail⟩
  have h5' : ¬ (8 : Int) < (src.length : Int) := by omega
  have hc : (((src.length : Nat) : Int) = 0) ↔ src.length = 0 := by omega
  by_cases h6 : (decide (kind = 1) == decide ((src.length : Int) = 0)) = true
  rotate_left
  · have h6' : (decide (kind = 1) == decide ((src.length : Int) = 0)) = false := by simpa using h6
    refine hnNC ?_
    rw [h6']
    refine hwNB ?_
    exact HX.ret1 rfl rfl fun w' hM => ⟨(), trivial, by unfold hasN; rw [show (decide (kind = 1) == decide (src.length = 0)) = false by rw [← h6']; simp]; simp, hM.tail⟩
  refine hnNC ?_
  rw [h6]
  have h6' : (decide (kind = 1) == decide (src.length = 0)) = true := by rw [← h6]; simp
  refine hwNB ?_
  refine HC.loop (α := Nat × Bool) (fun p => [(0, .map (some b)), (3, .pointer (some ⟨b3, 0, none⟩)), (6, .bool p.2), (50, .slice a0 src.length c0), (51, zv (src.length : Int)), (52, zv (p.1 : Int))]) (fun _ => A.blk b3 [zv id, zv kind, zv pack, .slice a0 src.length c0] 39 :: A.mq b .i64 (trM l U i) :: H) (fun p => p.1 ≤ src.length ∧ srcsOk L (src.take p.1) ∧ p.2 = (decide (kind = 1) || ownB L pack (src.take p.1))) (fun p => src.length - p.1) (0, decide (kind = 1)) ⟨Nat.zero_le _, by rw [List.take_zero]; intro x hx; (cases hx), by rw [List.take_zero]; simp [ownB]⟩ esA (Hs.refl _) ?_
  rintro ⟨k, o⟩ ⟨hk, hS, ho⟩
  dsimp only at hk hS ho
  by_cases hlt : k < src.length
  rotate_left
  · have hk' : ¬ ((k : Nat) : Int) < (src.length : Int) := by omega
    have hke : src.take k = src := List.take_of_length_le (by omega)
    rw [hke] at hS ho
    cases o with
    | false =>
      refine hwNB ?_
      exact HX.ret1 rfl rfl fun w' hM => ⟨(), trivial, by unfold hasN; rw [← ho]; simp, hM.tail⟩
    | true =>
      refine hwNB ?_
      refine HL.one (H1.callx (vs := [_, _]) rfl rfl (fun w' hM => ascI_fn _ src hn w' (hR.ext hM.ext)) ?_)
      refine hwNB ?_
      exact HX.ret1 rfl rfl fun w' hM => ⟨(), trivial, by unfold hasN; rw [← ho, h6']; simp [h1, h2, h3, h4, h5, hS], hM.tail⟩
  have hk' : ((k : Nat) : Int) < (src.length : Int) := by omega
  obtain ⟨b4, off4, rfl⟩ : ∃ b off, a0 = some ⟨b, off, none⟩ := by
    rcases hcl with h | h
    · rw [h] at hlt; cases hlt
    · exact h
  have hb := hR.cell (ints_getI hlt)
  have hxm : getI src k ∈ src := by unfold getI; simp [hlt]
  have ht := getI_take hlt
  generalize getI src k = x at hb ht hxm
  refine hwNB ?_
  refine HL.one (H1.ld0 rfl hb rfl ?_)
  refine hwNB ?_
  refine HL.one (H1.mqget2 (n := x) (l := trM l U i) rfl rfl memA rfl ?_)
  rcases hget x with ⟨hg1, hg2⟩ | ⟨n, v, hg1, hv, hg2⟩
  · rw [hg1, Option.getD_none, Option.isSome_none]
    refine hwNB ?_
    refine HL.one (H1.alloc (cs := ndC ⟨0, 0, 0, []⟩ (.slice none 0 0)) rfl rfl (fun b9 => ?_))
    refine hwNB ?_
    refine HL.one (H1.stAgg (cs := ndC ⟨0, 0, 0, []⟩ (.slice none 0 0)) (vs := ndC ⟨0, 0, 0, []⟩ (.slice none 0 0)) rfl rfl rfl (nd_one rfl) rplA rfl ?_)
    refine hwNB ?_
    exact HX.ret1 rfl rfl fun w' hM => ⟨(), trivial, by unfold hasN; rw [decide_eq_false (p := srcsOk L src) fun h => by have := h x hxm; rw [hg2] at this; cases this]; simp, hM.tail.tail⟩
  · rw [hg1, Option.getD_some, Option.isSome_some]
    refine hwNB ?_
    refine HL.one (H1.alloc (cs := ndC ⟨0, 0, 0, []⟩ (.slice none 0 0)) rfl rfl (fun b9 => ?_))
    refine hwNB ?_
    refine HL.one (H1.stAgg (cs := ndC ⟨0, 0, 0, []⟩ (.slice none 0 0)) (vs := ndC n v) rfl rfl rfl (nd_one hv) rplA rfl ?_)
    have hS2 : srcsOk L (src.take (k + 1)) := by rw [ht]; exact srcsOk_snoc.2 ⟨hS, by rw [hg2]; rfl⟩
    have ho2 : ownB L pack (src.take (k + 1)) = (ownB L pack (src.take k) || decide (n.pack = pack)) := by
      rw [ht, ownB_snoc, hg2]
      congr 1
    cases o with
    | true =>
      refine hwNB ?_
      exact HX.again (k + 1, true) ⟨hlt, hS2, by show true = _; rw [ho2, ← Bool.or_assoc, ← ho]; rfl⟩ (by show src.length - (k + 1) < src.length - k; omega) esA (Hs.skip (Hs.refl _))
    | false =>
      refine hwNB ?_
      exact HX.again (k + 1, decide (n.pack = pack)) ⟨hlt, hS2, by show decide (n.pack = pack) = _; rw [ho2, ← Bool.or_assoc, ← ho]; rfl⟩ (by show src.length - (k + 1) < src.length - k; omega) esA (Hs.skip (Hs.refl _))
end Go.Sx
/- Chapter 2 in plain words: the digest of a string. -/
namespace Go.Sx
def rot (x : UInt32) (n : Nat) : UInt32 := x <<< UInt32.ofNat (32 - n) ||| x >>> UInt32.ofNat n
def mixW (x : UInt32) (l : List Nat) : UInt32 := l.foldl (fun o n => o ^^^ rot x n) 0
def bt (b : List UInt8) (i : Nat) : UInt32 := (b.getD i 0).toUInt32
def wordAt (b : List UInt8) (i : Nat) : UInt32 := bt b (4 * i) <<< UInt32.ofNat 24 ||| bt b (4 * i + 1) <<< UInt32.ofNat 16 ||| bt b (4 * i + 2) <<< UInt32.ofNat 8 ||| bt b (4 * i + 3)
def wW (b : List UInt8) (i : Nat) : UInt32 :=
  if i < 16 then wordAt b i
  else wW b (i - 16) + (mixW (wW b (i - 15)) [7, 18] ^^^ wW b (i - 15) >>> UInt32.ofNat 3) + wW b (i - 7) + (mixW (wW b (i - 2)) [17, 19] ^^^ wW b (i - 2) >>> UInt32.ofNat 10)
termination_by i
decreasing_by all_goals omega
theorem wW_lo {b : List UInt8} {i : Nat} (h : i < 16) : wW b i = wordAt b i := by rw [wW, if_pos h]
theorem wW_hi {b : List UInt8} {i : Nat} (h : ¬ i < 16) : wW b i = wW b (i - 16) + (mixW (wW b (i - 15)) [7, 18] ^^^ wW b (i - 15) >>> UInt32.ofNat 3) + wW b (i - 7) + (mixW (wW b (i - 2)) [17, 19] ^^^ wW b (i - 2) >>> UInt32.ofNat 10) := by
  rw [wW, if_neg h]
structure S8 where
  a : UInt32
  b : UInt32
  c : UInt32
  d : UInt32
  e : UInt32
  f : UInt32
  g : UInt32
  h : UInt32
def S8.l (s : S8) : List UInt32 := [s.a, s.b, s.c, s.d, s.e, s.f, s.g, s.h]
def kL : List UInt32 := [
  0x428a2f98, 0x71374491, 0xb5c0fbcf, 0xe9b5dba5, 0x3956c25b, 0x59f111f1, 0x923f82a4, 0xab1c5ed5,
  0xd807aa98, 0x12835b01, 0x243185be, 0x550c7dc3, 0x72be5d74, 0x80deb1fe, 0x9bdc06a7, 0xc19bf174,
  0xe49b69c1, 0xefbe4786, 0x0fc19dc6, 0x240ca1cc, 0x2de92c6f, 0x4a7484aa, 0x5cb0a9dc, 0x76f988da,
  0x983e5152, 0xa831c66d, 0xb00327c8, 0xbf597fc7, 0xc6e00bf3, 0xd5a79147, 0x06ca6351, 0x14292967,
  0x27b70a85, 0x2e1b2138, 0x4d2c6dfc, 0x53380d13, 0x650a7354, 0x766a0abb, 0x81c2c92e, 0x92722c85,
  0xa2bfe8a1, 0xa81a664b, 0xc24b8b70, 0xc76c51a3, 0xd192e819, 0xd6990624, 0xf40e3585, 0x106aa070,
  0x19a4c116, 0x1e376c08, 0x2748774c, 0x34b0bcb5, 0x391c0cb3, 0x4ed8aa4a, 0x5b9cca4f, 0x682e6ff3,
  0x748f82ee, 0x78a5636f, 0x84c87814, 0x8cc70208, 0x90befffa, 0xa4506ceb, 0xbef9a3f7, 0xc67178f2]
def kW (i : Nat) : UInt32 := kL.getD i 0
def rT (k w : UInt32) (s : S8) : UInt32 := s.h + mixW s.e [6, 11, 25] + (s.e &&& s.f ^^^ ~~~s.e &&& s.g) + k + w
def rU (s : S8) : UInt32 := mixW s.a [2, 13, 22] + (s.a &&& s.b ^^^ s.a &&& s.c ^^^ s.b &&& s.c)
def rnd (k w : UInt32) (s : S8) : S8 := ⟨rT k w s + rU s, s.a, s.b, s.c, s.d + rT k w s, s.e, s.f, s.g⟩
def rnds (b : List UInt8) (s : S8) : Nat → S8
  | 0 => s
  | i + 1 => rnd (kW i) (wW b i) (rnds b s i)
def S8.add (s t : S8) : S8 := ⟨s.a + t.a, s.b + t.b, s.c + t.c, s.d + t.d, s.e + t.e, s.f + t.f, s.g + t.g, s.h + t.h⟩
def comp (s : S8) (b : List UInt8) : S8 := s.add (rnds b s 64)
def shaI : S8 := ⟨0x6a09e667, 0xbb67ae85, 0x3c6ef372, 0xa54ff53a, 0x510e527f, 0x9b05688c, 0x1f83d9ab, 0x5be0cd19⟩
def by4 (x : UInt32) : List UInt8 := [(x >>> UInt32.ofNat 24).toUInt8, (x >>> UInt32.ofNat 16).toUInt8, (x >>> UInt32.ofNat 8).toUInt8, (x >>> UInt32.ofNat 0).toUInt8]
def digL (s : S8) : List UInt8 := s.l.flatMap by4
theorem digL_len (s : S8) : (digL s).length = 32 := rfl
def shaZ (n : Nat) : Nat := (119 - n % 64) % 64
def shaT (n j : Nat) : UInt8 := UInt8.ofNat ((8 * n) >>> (8 * (7 - j)))
def shaP (s : List UInt8) : List UInt8 := s ++ [128] ++ List.replicate (shaZ s.length) 0 ++ (List.range 8).map (shaT s.length)
theorem shaP_len (s : List UInt8) : (shaP s).length = s.length + 1 + shaZ s.length + 8 := by
  unfold shaP; simp only [List.length_append, List.length_replicate, List.length_map, List.length_range, List.length_cons, List.length_nil]
theorem shaP_mod (s : List UInt8) : (shaP s).length % 64 = 0 := by
  rw [shaP_len]; unfold shaZ; omega
def sums (b : List UInt8) : Nat → S8
  | 0 => shaI
  | i + 1 => comp (sums b i) ((b.drop (64 * i)).take 64)
def sumL (s : List UInt8) : List UInt8 := digL (sums (shaP s) ((shaP s).length / 64))
theorem sumL_len (s : List UInt8) : (sumL s).length = 32 := digL_len _
def sumS (s : ByteArray) : ByteArray := ⟨(sumL s.data.toList).toArray⟩
theorem sumS_size (s : ByteArray) : (sumS s).size = 32 := by
  show (sumL s.data.toList).toArray.size = 32
  rw [List.size_toArray, sumL_len]
end Go.Sx
/- The layer with atoms: words of 32 bits. -/
namespace Go.Sx
open Go Go.RowKit
abbrev w32 (x : UInt32) : Value := .int .u32 (x.toNat : Int)
abbrev b8 (x : UInt8) : Value := .int .u8 (x.toNat : Int)
theorem wrap_u32 (n : Int) : IntKind.u32.wrap n = n % 4294967296 := by
  simp [IntKind.wrap, IntKind.bits, IntKind.signed]
theorem wrap_w32 (x : UInt32) : IntKind.u32.wrap (x.toNat : Int) = (x.toNat : Int) := by
  have := x.toNat_lt
  rw [wrap_u32]; omega
theorem wrap_u8m (n : Int) : IntKind.u8.wrap n = n % 256 := by
  simp [IntKind.wrap, IntKind.bits, IntKind.signed]
theorem ofInt32 (x : UInt32) : BitVec.ofInt 32 (x.toNat : Int) = x.toBitVec := by
  rw [BitVec.ofInt_natCast]; exact BitVec.eq_of_toNat_eq (by simp)
section
variable {P : Program} {r : Option Nat} {N : Nat} {ds : List Deferred} {E : Env} {t t' ty : TypeId} {x y : Operand} {k k' : IntKind} {a b : UInt32} {n : Int}
theorem POp.xor32 (hx : Env.ev E x = some (w32 a)) (hy : Env.ev E y = some (w32 b)) : POp P N ds E (.binOp .xor t x y t') ty (w32 (a ^^^ b)) := POp.bin hx hy guard_int fun w => by
  have e : bits .xor .u32 (a.toNat : Int) (b.toNat : Int) = ((a ^^^ b).toNat : Int) := by
    show IntKind.u32.wrap (((BitVec.ofInt 32 a.toNat ^^^ BitVec.ofInt 32 b.toNat).toNat : Nat) : Int) = _
    rw [ofInt32, ofInt32]; exact wrap_w32 (a ^^^ b)
  rw [binOp_xor, intBits_xor, e]; rfl
theorem POp.and32 (hx : Env.ev E x = some (w32 a)) (hy : Env.ev E y = some (w32 b)) : POp P N ds E (.binOp .and t x y t') ty (w32 (a &&& b)) := POp.bin hx hy guard_int fun w => by
  have e : bits .and .u32 (a.toNat : Int) (b.toNat : Int) = ((a &&& b).toNat : Int) := by
    show IntKind.u32.wrap (((BitVec.ofInt 32 a.toNat &&& BitVec.ofInt 32 b.toNat).toNat : Nat) : Int) = _
    rw [ofInt32, ofInt32]; exact wrap_w32 (a &&& b)
  rw [binOp_and, intBits_and, e]; rfl
theorem POp.or32 (hx : Env.ev E x = some (w32 a)) (hy : Env.ev E y = some (w32 b)) : POp P N ds E (.binOp .or t x y t') ty (w32 (a ||| b)) := POp.bin hx hy guard_int fun w => by
  have e : bits .or .u32 (a.toNat : Int) (b.toNat : Int) = ((a ||| b).toNat : Int) := by
    show IntKind.u32.wrap (((BitVec.ofInt 32 a.toNat ||| BitVec.ofInt 32 b.toNat).toNat : Nat) : Int) = _
    rw [ofInt32, ofInt32]; exact wrap_w32 (a ||| b)
  rw [binOp_or, intBits_or, e]; rfl
theorem POp.add32 (hx : Env.ev E x = some (w32 a)) (hy : Env.ev E y = some (w32 b)) : POp P N ds E (.binOp .add t x y t') ty (w32 (a + b)) := (POp.add' hx hy).of (by
  rw [wrap_u32]
  have : (a + b).toNat = (a.toNat + b.toNat) % 4294967296 := UInt32.toNat_add a b
  unfold w32
  rw [this]; simp)
theorem POp.not32 (hx : Env.ev E x = some (w32 a)) : POp P N ds E (.unOp .xor t x) ty (w32 (~~~a)) := fun c ha d pos af g w => by
  have e : bits .xor .u32 IntKind.u32.max (a.toNat : Int) = ((~~~a).toNat : Int) := by
    show IntKind.u32.wrap (((BitVec.ofInt 32 IntKind.u32.max ^^^ BitVec.ofInt 32 a.toNat).toNat : Nat) : Int) = _
    rw [ofInt32, show BitVec.ofInt 32 IntKind.u32.max = BitVec.allOnes 32 from by decide, BitVec.allOnes_xor]; exact wrap_w32 (~~~a)
  have e2 : (if IntKind.u32.signed = true then (-1 : Int) else IntKind.u32.max) = IntKind.u32.max := rfl
  simp only [execOp, ha.ev hx, Op.unary, e2, intBits_xor, e]; rfl
theorem sh32 {s : Nat} (h : s < 32) : (UInt32.ofNat s).toNat % 32 = s := by
  rw [UInt32.toNat_ofNat']; omega
theorem POp.shl32 {s : Nat} (hx : Env.ev E x = some (w32 a)) (hy : Env.ev E y = some (.int k' n)) (en : n = (s : Int)) (h : s < 32) : POp P N ds E (.binOp .shl t x y t') ty (w32 (a <<< UInt32.ofNat s)) := POp.bin hx hy guard_int fun w => by
  subst en
  have e : ((a.toNat : Int) * 2 ^ ((s : Int).toNat)) = ((a.toNat <<< s : Nat) : Int) := by rw [Nat.shiftLeft_eq]; simp
  have e2 : (a <<< UInt32.ofNat s).toNat = a.toNat <<< s % 4294967296 := by
    rw [UInt32.toNat_shiftLeft, sh32 h]
  rw [binOp_shl, shift_shl .u32 k' a.toNat s (by omega) (by simp [IntKind.bits]; omega), e, wrap_u32, w32, e2]; simp [Sem.run_pure]
theorem POp.shr32 {s : Nat} (hx : Env.ev E x = some (w32 a)) (hy : Env.ev E y = some (.int k' n)) (en : n = (s : Int)) (h : s < 32) : POp P N ds E (.binOp .shr t x y t') ty (w32 (a >>> UInt32.ofNat s)) := POp.bin hx hy guard_int fun w => by
  subst en
  have e2 : (a >>> UInt32.ofNat s).toNat = a.toNat >>> s := by
    rw [UInt32.toNat_shiftRight, sh32 h]
  rw [binOp_shr, shift_shr .u32 k' a.toNat s (by omega) (by simp [IntKind.bits]; omega), w32, e2, Nat.shiftRight_eq_div_pow]; simp
theorem POp.conv832 {c : UInt8} {src dst : TypeId} {d' : TypeDesc} [hs : UTy P src d'] [hd : UTy P dst (.int .u32)] (hx : Env.ev E x = some (b8 c)) : POp P N ds E (.convert src dst x) ty (w32 c.toUInt32) := (POp.conv (k' := .u32) hx).of (by
  have := c.toNat_lt
  rw [wrap_u32, w32, UInt8.toNat_toUInt32]; congr 1; omega)
theorem POp.conv328 {src dst : TypeId} {d' : TypeDesc} [hs : UTy P src d'] [hd : UTy P dst (.int .u8)] (hx : Env.ev E x = some (w32 a)) : POp P N ds E (.convert src dst x) ty (b8 a.toUInt8) := (POp.conv (k' := .u8) hx).of (by
  rw [wrap_u8m, b8, UInt32.toNat_toUInt8]; congr 1)
theorem POp.conv648 {m : Nat} {src dst : TypeId} {d' : TypeDesc} [hs : UTy P src d'] [hd : UTy P dst (.int .u8)] (hx : Env.ev E x = some (.int .i64 (m : Int))) : POp P N ds E (.convert src dst x) ty (b8 (UInt8.ofNat m)) := (POp.conv (k' := .u8) hx).of (by
  rw [wrap_u8m, b8, UInt8.toNat_ofNat']; congr 1)
end
end Go.Sx
/-
  The layer with atoms: arrays by value, slices of arrays, copies into a block.
-/
namespace Go.Sx
open Go Go.RowKit
section
variable {P : Program} {r : Option Nat} {N : Nat} {ds : List Deferred} {ol rest : List Oper} {Q : Post} {E : Env} {w0 : World} {H : List Atom} {next : Act → World → Prop} {g : Option (Nat × Bool)}
variable {d : Nat} {t t' ty : TypeId} {pos : String} {af : Array Edge} {x y lo hi : Operand} {k k' : IntKind} {m n : Int}
theorem POp.index_agg {e : TypeId} {len bb i : Nat} {z v : Value} {cs : List Value} [h : UTy P t (.array len e)] [hi : ITy P e z 1 bb] [ha' : ATy P e false] (hx : Env.ev E x = some (.agg cs.toArray)) (hy : Env.ev E y = some (.int k n)) (ei : n = (i : Int)) (h1 : i < len) (hv : cs[i]? = some v) :
    POp P N ds E (.index t x y) ty v := fun a ha d pos af g w => by
  subst ei
  have h2 : (0 : Int) ≤ (i : Int) ∧ (i : Int) < (len : Int) := ⟨by omega, by omega⟩
  simp [execOp, ha.ev hx, ha.ev hy, Instr.index, asIntOf, run_underlying h.is, Sem.run_bind, h2, run_sizeOf, part, run_isAgg, hv]
  intro h; omega
theorem POp.arr_lo {e : TypeId} {len b off sz bb i : Nat} {z : Value} [h : UTy P t (.array len e)] [hi : ITy P e z sz bb] (hx : Env.ev E x = some (.pointer (some ⟨b, off, none⟩))) (hl : Env.ev E lo = some (.int k n)) (ei : n = (i : Int)) (h1 : i < len) :
    POp P N ds E (.slice t x (some lo) none none) ty (.slice (some ⟨b, off + i * sz, none⟩) (len - i) (len - i)) := fun a ha d pos af g w => by
  subst ei
  have hne : ¬ len = i := by omega
  simp [execOp, ha.ev hx, ha.ev hl, Instr.sliceAt, Instr.sureAddr, run_underlying h.is, Instr.sliceBounds, run_bound (show (0 : Int) ≤ i by omega) (show (i : Int) ≤ ((len : Nat) : Int) by omega), Sem.run_bind, run_sizeOf, hne, add_lit]
theorem POp.arr_hi {e : TypeId} {len b off sz bb i : Nat} {z : Value} [h : UTy P t (.array len e)] [hi' : ITy P e z sz bb] (hx : Env.ev E x = some (.pointer (some ⟨b, off, none⟩))) (hl : Env.ev E hi = some (.int k n)) (ei : n = (i : Int)) (h1 : i ≤ len) :
    POp P N ds E (.slice t x none (some hi) none) ty (.slice (some ⟨b, off, none⟩) i len) := fun a ha d pos af g w => by
  subst ei
  by_cases hne : len = 0
  · subst hne
    simp [execOp, ha.ev hx, ha.ev hl, Instr.sliceAt, Instr.sureAddr, run_underlying h.is, Instr.sliceBounds, run_bound (show (0 : Int) ≤ i by omega) (show (i : Int) ≤ ((0 : Nat) : Int) by omega), Sem.run_bind, run_sizeOf]
  · simp [execOp, ha.ev hx, ha.ev hl, Instr.sliceAt, Instr.sureAddr, run_underlying h.is, Instr.sliceBounds, run_bound (show (0 : Int) ≤ i by omega) (show (i : Int) ≤ ((len : Nat) : Int) by omega), Sem.run_bind, run_sizeOf, add_lit]
theorem POp.arr_all {e : TypeId} {len b off sz bb : Nat} {z : Value} [h : UTy P t (.array len e)] [hi' : ITy P e z sz bb] (hx : Env.ev E x = some (.pointer (some ⟨b, off, none⟩))) :
    POp P N ds E (.slice t x none none none) ty (.slice (some ⟨b, off, none⟩) len len) := fun a ha d pos af g w => by
  by_cases hne : len = 0
  · subst hne
    simp [execOp, ha.ev hx, Instr.sliceAt, Instr.sureAddr, run_underlying h.is, Instr.sliceBounds, Sem.run_bind, run_sizeOf]
  · simp [execOp, ha.ev hx, Instr.sliceAt, Instr.sureAddr, run_underlying h.is, Instr.sliceBounds, Sem.run_bind, run_sizeOf, add_lit]
theorem H1.copyB {e eb : TypeId} {z : Value} {bb b o dl dc sl sc : Nat} {ad : Addr} {cur cs cur' : List Value} {H' : List Atom} {t2 : TypeId} [h : UTy P t (.slice e)] [hi' : ITy P e z 1 bb] (hx : Env.ev E x = some (.slice (some ⟨b, o, none⟩) dl dc)) (hy : Env.ev E y = some (.slice (some ad) sl sc))
    (hn : cs.length = min sl dl) (hsrc : ∀ w, Mm w0 H w → ∀ j v, cs[j]? = some v → w.cell? (ad.add j) = some v) (h1 : ∀ v ∈ cs, v.oneCell' = true) (hfit : o + cs.length ≤ cur.length) (he : cur.take o ++ cs ++ cur.drop (o + cs.length) = cur')
    (hr : Rpl (A.blk b cur eb) (A.blk b cur' eb) H H') (hd : Nat.blt d N = true) (hn' : HN N ds next ((d, zv (cs.length : Int)) :: E) w0 H') :
    H1 P r N ds next ⟨some d, .call ⟨.builtin .copy, #[x, y], #[t, t2]⟩, ty, pos, af, g⟩ Q E w0 H := fun w hM => by
  subst he
  obtain ⟨i, hi1, hi2, hi3, hi4⟩ := hi'.parts
  have hb : w.heap[b]? = some (.cells cur.toArray eb (0, 0)) := hM.blk hr.mem
  have hrun := run_copy_row P w t t2 ty e b o dl dc ad sl sc cur.toArray eb cs h.is (by rw [hi1, Option.map_some, hi3]) hb hn (hsrc w hM) (by simpa using hfit) h1
  refine W1.run (v := zv (cs.length : Int)) (w' := w.setRow b (cur.take o ++ cs ++ cur.drop (o + cs.length)).toArray) (fun a ha => ?_) rfl hd (hn' _ (hM.turn hr rfl rfl rfl (by simp [World.setRow]) (fun q hq hq' => ?_) ?_ (by simp [A.blk]) fun b' hb' => .inl hb'))
  · simp only [execOp, resolve, invoke, Go.builtin, Sem.run_bind, Sem.run_pure, Result.andThen, List.map_toArray, List.map_cons, List.map_nil, ha.ev hx, ha.ev hy, hrun]; rfl
  · have hne : ¬ b = q := fun e => hq' (by simp [A.blk, e])
    simp [World.setRow, Array.getElem?_modify, hne]
  · show (w.setRow b _).heap[b]? = _
    simp [World.setRow, Array.getElem?_modify, hb]
theorem H1.callk {α : Type} {V : α → Value} {H' : α → List Atom} {I : α → Prop} {d : Option Nat} {f : FuncId} {args : List Operand} {ats : Array TypeId} {vs : List Value}
    [hf : CallOk P f] (hd : dOk d N = true) (ha : Env.evs E args = some vs) (hc : ∀ w, Mm w0 H w → Fn P f vs.toArray w fun v w' => ∃ z, I z ∧ v = V z ∧ Mm w0 (H' z) w')
    (h : ∀ z, I z → HN N ds next (putE d (V z) E) w0 (H' z)) :
    H1 P r N ds next ⟨d, .call ⟨.value (.func f), args.toArray, ats⟩, ty, pos, af, g⟩ Q E w0 H := fun w hM => W1.call hd ha (hc w hM) (by
    rintro v w' ⟨z, hz, rfl, hn⟩; exact h z hz w' hn)
variable {e : TypeId}
theorem run_equalIn_pnil [h : UTy P t (.pointer e)] (w : World) (d : Nat) (a : Option Addr) : (Op.equalIn (d + 1) t (.pointer a) (.pointer none)).run P w = .ok a.isNone w := by
  cases a <;> simp [Op.equalIn, Sem.run_bind, run_underlying h.is, Result.andThen]
theorem POp.pnil1 [h : UTy P t (.pointer e)] (hx : Env.ev E x = some (.pointer none)) (hy : Env.ev E y = some (.pointer none)) : POp P N ds E (.binOp .eql t x y t') ty (.bool true) :=
  POp.bin hx hy (fun w => by rw [eqGuard_at_pointer]; rfl) fun w => by
    have e1 := run_equalIn_pnil (P := P) (t := t) w 9999 none
    show ((Op.equalIn (9999 + 1) t (.pointer none) (.pointer none)) >>= fun r => pure (Value.bool r)).run P w = _
    rw [Sem.run_bind, e1]; rfl
theorem POp.pnil0 {a : Addr} [h : UTy P t (.pointer e)] (hx : Env.ev E x = some (.pointer (some a))) (hy : Env.ev E y = some (.pointer none)) : POp P N ds E (.binOp .eql t x y t') ty (.bool false) :=
  POp.bin hx hy (fun w => by rw [eqGuard_at_pointer]; rfl) fun w => by
    have e1 := run_equalIn_pnil (P := P) (t := t) w 9999 (some a)
    show ((Op.equalIn (9999 + 1) t (.pointer (some a)) (.pointer none)) >>= fun r => pure (Value.bool r)).run P w = _
    rw [Sem.run_bind, e1]; rfl
end
end Go.Sx
/-
  The layer with atoms: calls that may panic, functions that panic, deferred closures that recover.
-/
namespace Go.Sx
open Go Go.RowKit
section
variable {P : Program} {r : Option Nat} {N : Nat} {ds : List Deferred} {ol rest : List Oper} {Q : Post} {E : Env} {w0 : World} {H : List Atom} {next : Act → World → Prop} {g : Option (Nat × Bool)}
variable {d : Option Nat} {ty : TypeId} {pos : String} {af : Array Edge} {x : Operand}
def EndP {α β : Type} (I : α → Prop) (V : α → Value) (Ha : α → List Atom) (J : β → Prop) (ch : List PanicEntry) (Hb : β → List Atom) (w0 : World) (e : Ending) (w' : World) : Prop :=
  (∃ z, I z ∧ e = .returned (V z) ∧ Mm w0 (Ha z) w') ∨ (∃ z, J z ∧ e = .panicked ch ∧ Mm w0 (Hb z) w')
theorem enterD {f : FuncId} {fn : Func} {c : Code} {l : List Value} {R : Ending → World → Prop} {w : World} [hf : FnIs P f fn] (hM : Mm w0 H w) (hb : fn.body = some c) (hN : fn.ntmps = N) (hl : Nat.ble l.length N = true)
    (h : HC P none N [] c (bodyPostDIn Fence.wide 0 P fn R) (Env.of 0 l) w0 H) : Calls P f l.toArray w R := by
  refine (callsIn_wide (n := 0)).1 (callsIn_of_wp_defers hf.is hb trivial ?_ rfl)
  have hl' : l.length ≤ N := by simpa using hl
  refine h w hM _ ⟨by simp [hN]; omega, rfl, fun t v ht => ?_⟩
  obtain ⟨-, h2⟩ := Env.of_g l 0 t v ht
  have hlt : t < l.length := by
    rcases Nat.lt_or_ge t l.length with h | h
    · exact h
    · simp [List.getElem?_eq_none h] at h2
  rw [Array.getElem?_append_left (by simpa using hlt)]
  simpa using h2
def DFn (P : Program) (f : FuncId) (args : Array Value) (u u' : FrameMode) (w : World) (R : World → Prop) : Prop :=
  CallsDIn Fence.wide 0 P f args u w fun e v w' => e = .returned (.tuple #[]) ∧ v = u' ∧ R w'
end
theorem wpS_of_HC {P : Program} {N : Nat} {c : Code} {Q : Exit → Act → List Frame → World → Prop} {a : Act} {cs : List Frame} {w w0 : World} {H : List Atom} {E : Env} (hM : Mm w0 H w) (hr : Rep N [] E a) (h : HC P none N [] c (fun e a' w' => Q e a' cs w') E w0 H) :
    c.wpSIn Fence.wide 0 P Q a cs w := wpSIn_of_wpIn rfl (h w hM a hr)
theorem HX.endS {P : Program} {N : Nat} {E : Env} {w0 : World} {H : List Atom} {fn : Func} {c₀ : Frame} {cs : List Frame} {u : FrameMode} {R : Ending → FrameMode → World → Prop} (hr : fn.results = #[]) (h : ∀ w, Mm w0 H w → R (.returned (.tuple #[])) u w) :
    HX N [] .normal (fun e a' w' => bodyPostS P fn c₀ cs R e a' ({ c₀ with mode := u } :: cs) w') E w0 H := fun w hM _ ha => ⟨ha.defers, u, rfl, _, results_none hr _ _ _, h w hM⟩
theorem frame_same {c : Frame} {u : FrameMode} (h : c.mode = u) : c = { c with mode := u } := by
  cases c; simp only at h; subst h; rfl
end Go.Sx
