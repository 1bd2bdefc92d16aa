/-
  A result that is a variable's own cells, and how a function is entered with atoms at hand.
-/
import Derived.Test.YtdfkohdcoigofaaGreatDoorQH02
import Derived.Laws.ResultCell
import Derived.MapKept
import Derived.Maps.RangeRun
import Derived.Lib.Join
import Derived.Lib.TrimByte
import Derived.KernelRfl
import Derived.Test.YtdfkohdcoigofaaGreatDoorProg
import Derived.Shelf.GgClosure.StringsIndexFuncTop
import Derived.Ground.GgwProg
import Derived.Ground.NamesProg
namespace Go.Sx
open Go Go.RowKit
theorem run_loadVarAgg {P : Program} {w : World} {t : TypeId} {b off : Nat} {vs : List Value} {z : Value} {n bb : Nat} [ha : ATy P t true] [hi : ITy P t z n bb] (hn : vs.length = n)
    (hc : ∀ i v, vs[i]? = some v → w.cell? ⟨b, off + i, none⟩ = some v) : (loadVar t ⟨b, off, none⟩).run P w = .ok (.agg vs.toArray) w := by
  simp only [loadVar, Sem.run_bind]
  simp [run_isAgg, run_sizeOf, loadCells, run_loadCellsFrom P w b off vs hc n 0 #[] (by omega), Result.andThen, Sem.run_bind]
section
variable {P : Program} {N : Nat} {E : Env} {w0 : World} {H : List Atom}
theorem HX.retc2 {fn : Func} {p u b bb n : Nat} {ty e : TypeId} {z v : Value} {cs : List Value} {R : Value → World → Prop} [ha : ATy P ty true] [hi : ITy P ty z n bb] (hr : fn.results = #[.cell p ty, .tmp u]) (hp : Env.g E p = some (.pointer (some ⟨b, 0, none⟩)))
    (hv : Env.g E u = some v) (hm : A.blk b cs e ∈ H) (hn : cs.length = n) (h : ∀ w, Mm w0 H w → R (.tuple #[.agg cs.toArray, v]) w) : HX N [] .ret (bodyPost P fn (RetP R)) E w0 H := fun w hM a ha => by
  refine ⟨ha.defers, .tuple #[.agg cs.toArray, v], ?_, ⟨_, rfl, h w hM⟩⟩
  have e1 : a.tmps.getD p undef = .pointer (some ⟨b, 0, none⟩) := by rw [Array.getD_eq_getD_getElem?, ha.get _ _ hp]; rfl
  have e2 : a.tmps.getD u undef = v := by rw [Array.getD_eq_getD_getElem?, ha.get _ _ hv]; rfl
  rw [results_cell_tmp hr, e1, e2]
  have := run_loadVarAgg (P := P) (w := w) (t := ty) (b := b) (off := 0) hn (fun i v hv => by rw [Nat.zero_add]; exact (hM.blk hm).cell hv)
  simp [asAddr, Result.andThen, this]
theorem HX.retc1 {fn : Func} {p b bb n : Nat} {ty e : TypeId} {z : Value} {cs : List Value} {R : Value → World → Prop} [ha : ATy P ty true] [hi : ITy P ty z n bb] (hr : fn.results = #[.cell p ty]) (hp : Env.g E p = some (.pointer (some ⟨b, 0, none⟩)))
    (hm : A.blk b cs e ∈ H) (hn : cs.length = n) (h : ∀ w, Mm w0 H w → R (.agg cs.toArray) w) : HX N [] .ret (bodyPost P fn (RetP R)) E w0 H := fun w hM a ha => by
  refine ⟨ha.defers, .agg cs.toArray, ?_, ⟨_, rfl, h w hM⟩⟩
  have e1 : a.tmps.getD p undef = .pointer (some ⟨b, 0, none⟩) := by rw [Array.getD_eq_getD_getElem?, ha.get _ _ hp]; rfl
  have e1' : a.tmps[p]?.getD undef = .pointer (some ⟨b, 0, none⟩) := by simpa using e1
  have := run_loadVarAgg (P := P) (w := w) (t := ty) (b := b) (off := 0) hn (fun i v hv => by rw [Nat.zero_add]; exact (hM.blk hm).cell hv)
  simp [results, hr, e1', asAddr, this]
/-- A function, entered with atoms at hand. -/
theorem enterK {f : FuncId} {fn : Func} {c : Code} {l : List Value} {R : Value → World → Prop} {w : World} [hf : FnIs P f fn] (hM : Mm w0 H w) (hb : fn.body = some c) (hN : fn.ntmps = N) (hl : Nat.ble l.length N = true)
    (h : HC P none N [] c (bodyPost P fn (RetP R)) (Env.of 0 l) w0 H) : Fn P f l.toArray w R := enter hb hN hl (h w hM)
end
end Go.Sx
/-
  The layer with atoms: bytes and strings.
-/
namespace Go.Sx
open Go Go.RowKit
/-- The string with bytes f. -/
def mkS (n : Nat) (f : Nat → Nat) : ByteArray := ⟨((List.range n).map fun q => UInt8.ofNat (f q)).toArray⟩
def u8v (n : Nat) : Value := .int .u8 (n : Int)
section
variable {P : Program} {r : Option Nat} {N : Nat} {ds : List Deferred} {ol rest : List Oper} {Q : Post} {E : Env} {w0 : World} {H : List Atom} {next : Act → World → Prop} {g : Option (Nat × Bool)} {fuel : Nat} {listed : Array Bool}
variable {d : Nat} {t t' ty : TypeId} {pos : String} {af : Array Edge} {x y : Operand} {m n : Int} {a b : Nat}
theorem HQ.ldb {v : Value} {b i : Nat} {cs : List Value} {e : TypeId} [ha : ATy P t false] (hx : Env.ev E x = some (.pointer (some ⟨b, i, none⟩))) (hm : A.blk b cs e ∈ H) (hi : cs[i]? = some v) (hd : Nat.blt d N = true)
    (h : HQ P r N ds ol rest Q ((d, v) :: E) w0 H) : HQ P r N ds ol (⟨some d, .load t x, ty, pos, af, none⟩ :: rest) Q E w0 H := HQ.ld hx (fun _ hM => (hM.blk hm).cell hi) hd h
theorem op_mono2 {F : Fence} {n' : Nat} {o : Oper} {a : Act} {w : World} {K K' : Act → World → Prop} {Q Q' : Post} (h : ∀ a w, K a w → K' a w) (hq : ∀ e a w, e ≠ .normal → Q e a w → Q' e a w)
    (hh : o.wpIn F n' P a w K Q) : o.wpIn F n' P a w K' Q' := by
  unfold Oper.wpIn at *
  refine ⟨hh.1, ?_⟩
  have hh := hh.2
  generalize (o.semAt F.round a.eval).run P w = r at *
  cases r with
  | ok x w' =>
    cases x <;> simp only [Oper.uponIn] at hh ⊢ <;>
      first
        | exact h _ _ hh
        | exact ⟨hh.1, CallsIn.mono hh.2 (fun e w'' he => by cases e <;> first | exact h _ _ he | exact hq _ _ _ (by simp) he | (obtain ⟨a1, w1, h1⟩ := he; exact ⟨a1, w1, hq _ _ _ (by simp) h1⟩))⟩
        | exact ⟨hh.1, RowsIn.mono hh.2 (fun _ _ he => h _ _ he)⟩
        | exact ⟨hh.1, RoundIn.mono hh.2 (fun e w'' he => by cases e <;> first | exact h _ _ he | exact hq _ _ _ (by simp) he | (obtain ⟨a1, w1, h1⟩ := he; exact ⟨a1, w1, hq _ _ _ (by simp) h1⟩))⟩
  | halt x w' => cases x <;> simp only [Oper.uponIn] at hh ⊢ <;> first | exact hh | exact hq _ _ _ (by simp) hh
end
theorem row_step {n i : Nat} {f g : Nat → Value} {v : Value} (h1 : g i = v) (h2 : ∀ q, q ≠ i → f q = g q) : (row n f).set i v = row n g := by
  rw [row_set]
  apply row_congr
  intro q _
  by_cases e : q = i
  · subst e; simp [h1]
  · simp [e, h2 q e]
theorem Hs.blk {b : Nat} {cs cs' : List Value} {e : TypeId} {H1 H' : List Atom} (h : cs = cs') (hs : Hs H1 H') : Hs (A.blk b cs e :: H1) (A.blk b cs' e :: H') := by
  subst h; exact Hs.cons Pick.here hs
end Go.Sx
/-
  Slices of numbers: as lists; the library's small functions on them; range loops.
-/
namespace Go.Sx
open Go Go.RowKit
abbrev zv (x : Int) : Value := .int .i64 x
def ints (l : List Int) : List Value := l.map zv
def at' (l : List Int) (i : Nat) : Int := l.getD i 0
theorem ints_len (l : List Int) : (ints l).length = l.length := by simp [ints]
theorem ints_get {l : List Int} {i : Nat} (h : i < l.length) : (ints l)[i]? = some (zv (at' l i)) := by simp [ints, at', h]
theorem ints_app (l m : List Int) : ints (l ++ m) = ints l ++ ints m := by simp [ints]
theorem ints_one : ∀ (l : List Int), ∀ u ∈ ints l, u.oneCell' = true := fun l u hu => by
  obtain ⟨x, -, rfl⟩ := List.mem_map.1 hu; rfl
theorem at_mem {l : List Int} {i : Nat} (h : i < l.length) : at' l i ∈ l := by
  unfold at'; rw [List.getD_eq_getElem?_getD, List.getElem?_eq_getElem h]; exact List.getElem_mem h
theorem take_at {l : List Int} {i : Nat} (h : i < l.length) : l.take (i + 1) = l.take i ++ [at' l i] := by
  rw [List.take_succ_eq_append_getElem h]; simp [at', h]
/-- A slice of numbers that reads as l: its parts. -/
theorem Rd.isInts {w : World} {v : Value} {l : List Int} (h : Rd w v (ints l)) : ∃ a c, v = .slice a l.length c ∧ l.length ≤ c := by
  obtain ⟨a, c, h1, h2, -⟩ := h
  rw [ints_len] at h1 h2
  exact ⟨a, c, h1, h2⟩
/-- Where element i lies. -/
theorem Rd.iat {w : World} {a : Option Addr} {n c : Nat} {l : List Int} (h : Rd w (.slice a n c) (ints l)) (hne : l ≠ []) : ∃ b off, a = some ⟨b, off, none⟩ ∧ b < w.heap.size := by
  obtain ⟨b, off, c', h1, -, h3, -⟩ := h.at (by intro e; apply hne; have := congrArg List.length e; simpa [ints] using this)
  cases h1
  exact ⟨b, off, rfl, h3⟩
end Go.Sx
/-
  Statements whose order is open: the lexical order is enough: checked on a skeleton.
-/
namespace Go.Sx
open Go Go.RowKit
abbrev Sk := Option Nat × List Nat × List Nat
def memB (x : Nat) : List Nat → Bool
  | [] => false
  | y :: l => Nat.beq x y || memB x l
theorem memB_iff {x : Nat} : ∀ {l : List Nat}, memB x l = true ↔ x ∈ l
  | [] => by simp [memB]
  | y :: l => by
    simp only [memB, Bool.or_eq_true, memB_iff, List.mem_cons]
    constructor
    · rintro (h | h)
      · exact .inl (Nat.eq_of_beq_eq_true h)
      · exact .inr h
    · rintro (rfl | h)
      · exact .inl (Nat.beq_refl _)
      · exact .inr h
def apartS (x y : Sk) : Bool :=
  (match x.1 with
   | some d => !(memB d y.2.1) && (match y.1 with | some e => !(Nat.beq e d) | none => true)
   | none => true) &&
  (match y.1 with
   | some d => !(memB d x.2.1)
   | none => true)
def skOf (ops : Array Oper) (o : Oper) : Sk := (o.dst, o.looksAt ops, (o.after.toList.filter (Region.binds .any)).map (·.on))
def pairB (k : Nat) (x : Sk) : List Sk → Bool
  | [] => true
  | y :: l => (memB k y.2.2 || apartS x y) && pairB k x l
def allLt (k : Nat) : List Nat → Bool
  | [] => true
  | x :: l => Nat.blt x k && allLt k l
def skB (k : Nat) : List Sk → Bool
  | [] => true
  | x :: l => allLt k x.2.2 && pairB k x l && skB (k + 1) l
theorem allLt_iff {k : Nat} : ∀ {l : List Nat}, allLt k l = true → ∀ x ∈ l, x < k
  | [], _, _, hx => by cases hx
  | y :: l, h, x, hx => by
    simp only [allLt, Bool.and_eq_true] at h
    rcases List.mem_cons.1 hx with rfl | hx
    · simpa [Nat.blt_eq] using h.1
    · exact allLt_iff h.2 x hx
theorem pairB_at {k : Nat} {x : Sk} : ∀ {l : List Sk}, pairB k x l = true → ∀ y ∈ l, k ∈ y.2.2 ∨ apartS x y = true
  | [], _, _, hy => by cases hy
  | z :: l, h, y, hy => by
    simp only [pairB, Bool.and_eq_true, Bool.or_eq_true] at h
    rcases List.mem_cons.1 hy with rfl | hy
    · exact h.1.imp (fun h => memB_iff.1 h) id
    · exact pairB_at h.2 y hy
theorem skB_at : ∀ {l : List Sk} {k : Nat}, skB k l = true → ∀ i x, l[i]? = some x → (∀ d ∈ x.2.2, d < k + i) ∧ ∀ j y, i < j → l[j]? = some y → (k + i) ∈ y.2.2 ∨ apartS x y = true
  | [], _, _, i, x, hx => by simp at hx
  | z :: l, k, h, i, x, hx => by
    simp only [skB, Bool.and_eq_true] at h
    cases i with
    | zero =>
      simp only [List.getElem?_cons_zero, Option.some.injEq] at hx
      subst hx
      refine ⟨allLt_iff h.1.1, fun j y hj hy => ?_⟩
      cases j with
      | zero => cases hj
      | succ j =>
        rw [List.getElem?_cons_succ] at hy
        exact pairB_at h.1.2 y (List.mem_of_getElem? hy)
    | succ i =>
      rw [List.getElem?_cons_succ] at hx
      obtain ⟨h1, h2⟩ := skB_at h.2 i x hx
      have e : k + 1 + i = k + (i + 1) := by omega
      rw [e] at h1 h2
      refine ⟨h1, fun j y hj hy => ?_⟩
      cases j with
      | zero => cases hj
      | succ j =>
        rw [List.getElem?_cons_succ] at hy
        exact h2 j y (by omega) hy
theorem contains_memB (d : Nat) (l : List Nat) : l.contains d = memB d l := by
  cases h : memB d l with
  | true => exact List.contains_iff_mem.2 (memB_iff.1 h)
  | false =>
    cases hc : l.contains d with
    | false => rfl
    | true => rw [memB_iff.2 (List.contains_iff_mem.1 hc)] at h; cases h
theorem apart_sk (ops : Array Oper) (x y : Oper) : x.apart ops y = apartS (skOf ops x) (skOf ops y) := by
  unfold Oper.apart apartS skOf
  simp only
  congr 1
  · cases x.dst with
    | none => rfl
    | some d =>
      simp only
      rw [contains_memB]
      congr 1
      cases y.dst with
      | none => rfl
      | some e =>
        simp only
        by_cases h : e = d
        · subst h; simp
        · have h1 : Nat.beq e d = false := beq_ne h
          rw [h1]; simp [h]
  · cases y.dst with
    | none => rfl
    | some d => simp only; rw [contains_memB]
theorem lexB_sk {l : List Oper} (sk : List Sk) (h1 : l.map (skOf l.toArray) = sk) (h2 : skB 0 sk = true) (h3 : Region.noSelect l.toArray = true) : Region.lexB .any l.toArray = true := by
  unfold Region.lexB
  rw [h3, Bool.true_and]
  have key : ∀ (fuel k : Nat) (listed : Array Bool), fuel + k = l.length → listed.size = l.length → (∀ i, i < l.length → listed[i]? = some (decide (i < k))) → Region.lexFrom .any l.toArray fuel k listed = true := by
    intro fuel
    induction fuel with
    | zero =>
      intro k listed hk hs hl
      unfold Region.lexFrom Region.ready
      rw [List.isEmpty_iff, List.filter_eq_nil_iff]
      intro i hi
      have hi' : i < l.length := by simpa using hi
      have e : listed.getD i true = true := by
        rw [Array.getD_eq_getD_getElem?, hl i hi']
        simp; omega
      simp [e]
    | succ fuel ih =>
      intro k listed hk hs hl
      have hkl : k < l.length := by omega
      obtain ⟨o, ho⟩ : ∃ o, l[k]? = some o := ⟨l[k], by simp [hkl]⟩
      have hsk : sk[k]? = some (skOf l.toArray o) := by rw [← h1, List.getElem?_map, ho]; rfl
      obtain ⟨g1, g2⟩ := skB_at h2 k _ hsk
      rw [Nat.zero_add] at g1 g2
      unfold Region.lexFrom
      rw [Bool.and_eq_true, Bool.and_eq_true]
      refine ⟨⟨?_, ?_⟩, ?_⟩
      · rw [List.contains_iff_mem]
        unfold Region.ready
        rw [List.mem_filter]
        refine ⟨by simpa using hkl, ?_⟩
        have e : listed.getD k true = false := by
          rw [Array.getD_eq_getD_getElem?, hl k hkl]; simp
        have e2 : (l.toArray)[k]? = some o := by simpa using ho
        rw [e, e2]
        simp only [Bool.not_false, Option.map_some, Option.getD_some, Bool.true_and]
        rw [Array.all_eq_true_iff_forall_mem]
        intro ed hed
        by_cases hb : Region.binds .any ed = true
        · have hlt : ed.on < k := g1 ed.on (by
            simp only [skOf, List.mem_map, List.mem_filter]
            exact ⟨ed, ⟨by simpa using hed, hb⟩, rfl⟩)
          have : listed.getD ed.on false = true := by
            rw [Array.getD_eq_getD_getElem?, hl ed.on (by omega)]; simp [hlt]
          rw [this]; simp
        · simp [hb]
      · unfold Region.free
        have e2 : (l.toArray)[k]? = some o := by simpa using ho
        rw [e2]
        simp only
        rw [List.all_eq_true]
        intro j hj
        have hj' : j < l.length := by simpa using hj
        by_cases hjk : j = k
        · simp [hjk]
        · by_cases hlt : j < k
          · have : listed.getD j true = true := by rw [Array.getD_eq_getD_getElem?, hl j hj']; simp [hlt]
            simp [this]
          · obtain ⟨oj, hoj⟩ : ∃ o, l[j]? = some o := ⟨l[j], by simp [hj']⟩
            have hskj : sk[j]? = some (skOf l.toArray oj) := by rw [← h1, List.getElem?_map, hoj]; rfl
            have e3 : (l.toArray)[j]? = some oj := by simpa using hoj
            rw [e3]
            simp only [Bool.or_eq_true]
            right
            rcases g2 j _ (by omega) hskj with h | h
            · left
              rw [Array.any_eq_true']
              simp only [skOf, List.mem_map, List.mem_filter] at h
              obtain ⟨ed, ⟨h4, h5⟩, h6⟩ := h
              exact ⟨ed, by simpa using h4, by simp [h5, h6]⟩
            · right
              rw [apart_sk]; exact h
      · refine ih (k + 1) _ (by omega) (by simp [hs]) fun i hi => ?_
        rw [Array.getElem?_setIfInBounds]
        by_cases e : k = i
        · subst e; simp [hs, hkl]
        · rw [if_neg e, hl i hi]
          congr 1
          rw [decide_eq_decide]
          omega
  have := key l.length 0 (Array.replicate l.length false) (by omega) (by simp) (fun i hi => by simp [hi])
  simpa using this
section
variable {P : Program} {r : Option Nat} {N : Nat} {ds : List Deferred} {Q : Post} {E : Env} {w0 : World} {H : List Atom}
theorem HC.quietS [hm : Mixed P] {id : Nat} {l : List Oper} (sk : List Sk) (h1 : l.map (skOf l.toArray) = sk) (h2 : skB 0 sk = true) (h3 : Region.noSelect l.toArray = true) (h : HQ P r N ds l l Q E w0 H) : HC P r N ds (.region id l.toArray true) Q E w0 H := HC.quiet (lexB_sk sk h1 h2 h3) h
end
end Go.Sx
/-
  The layer with atoms: maps whose keys are numbers.
-/
namespace Go.Sx
open Go Go.RowKit
/-- A map of the call's own: what it holds, in the order in which it came. -/
def mpP (q : IntKind) (l : List (Int × Value)) (o : Obj) : Prop := ∃ es clk, o = .map es clk ∧ es.toList.map (fun e => (e.key, e.val)) = l.map fun p => (Value.int q p.1, p.2)
def A.mp (b : Nat) (q : IntKind) (l : List (Int × Value)) : Atom := A.obj b (mpP q l)
def mset : List (Int × Value) → Int → Value → List (Int × Value)
  | [], x, v => [(x, v)]
  | (y, u) :: l, x, v => if x = y then (x, v) :: l else (y, u) :: mset l x v
def mget : List (Int × Value) → Int → Option Value
  | [], _ => none
  | (y, u) :: l, x => if x = y then some u else mget l x
def midx : List (Int × Value) → Int → Option (Nat × Value)
  | [], _ => none
  | (y, u) :: l, x => if x = y then some (0, u) else (midx l x).map fun p => (p.1 + 1, p.2)
theorem findNow_int (q : IntKind) (x : Int) : ∀ (es : List MapEntry) (l : List (Int × Value)) (i : Nat), es.map (fun e => (e.key, e.val)) = l.map (fun p => (Value.int q p.1, p.2)) →
    Instr.findNow (.int q) (.int q x) es i = some ((midx l x).map fun p => (p.1 + i, p.2))
  | [], [], i, _ => rfl
  | [], _ :: _, _, h => by simp at h
  | _ :: _, [], _, h => by simp at h
  | e :: es, (y, u) :: l, i, h => by
    simp only [List.map_cons, List.cons.injEq, Prod.mk.injEq] at h
    obtain ⟨⟨h1, h2⟩, h3⟩ := h
    unfold Instr.findNow
    rw [h1]
    simp only [Instr.sameNow, if_true, midx]
    by_cases hxy : x = y
    · subst hxy
      simp [h2]
    · have : (x == y) = false := by simp [hxy]
      rw [this, if_neg hxy]
      simp only
      rw [findNow_int q x es l (i + 1) h3]
      cases midx l x with
      | none => rfl
      | some p => simp; omega
theorem midx_none {l : List (Int × Value)} {x : Int} (v : Value) (h : midx l x = none) : mset l x v = l ++ [(x, v)] := by
  induction l with
  | nil => rfl
  | cons p l ih =>
    obtain ⟨y, u⟩ := p
    simp only [midx] at h
    by_cases hxy : x = y
    · rw [if_pos hxy] at h; cases h
    · rw [if_neg hxy] at h
      simp only [mset, if_neg hxy, List.cons_append]
      rw [ih (by simpa using h)]
theorem midx_some {l : List (Int × Value)} {x : Int} (v : Value) {i : Nat} {u : Value} (h : midx l x = some (i, u)) : mset l x v = l.set i (x, v) ∧ i < l.length ∧ l[i]? = some (x, u) := by
  induction l generalizing i u with
  | nil => cases h
  | cons p l ih =>
    obtain ⟨y, u'⟩ := p
    simp only [midx] at h
    by_cases hxy : x = y
    · rw [if_pos hxy] at h
      cases h
      simp [mset, hxy]
    · rw [if_neg hxy] at h
      rw [Option.map_eq_some_iff] at h
      obtain ⟨⟨j, u2⟩, h1, h2⟩ := h
      cases h2
      obtain ⟨h3, h4, h5⟩ := ih h1
      simp only [mset, if_neg hxy, h3]
      exact ⟨by simp, by simpa using h4, by simpa using h5⟩
theorem run_checkKey_int {P : Program} {w : World} {k : TypeId} {q : IntKind} (hk : P.underlying k = some (.int q)) (e : Bool) (n : Nat) (x : Int) : (Instr.checkKey e (n + 1) k (.int q x)).run P w = .ok () w := by
  unfold Instr.checkKey
  simp only [Sem.run_bind, run_underlying hk, Result.andThen]
  rfl
theorem run_keyStays {P : Program} {w : World} (q : IntKind) (x : Int) : (Instr.keyThatStays (.int q x) (.int q x)).run P w = .ok (.int q x) w := by
  have : Instr.sameBits 10000 (.int q x) (.int q x) = true := by unfold Instr.sameBits; simp
  unfold Instr.keyThatStays
  rw [this]; rfl
theorem run_getMap {P : Program} {w : World} {b : Nat} {es : Array MapEntry} {clk : Nat} (hb : w.heap[b]? = some (.map es clk)) : (getObj b).run P w = .ok (.map es clk) w := by
  simp [getObj, Sem.run, hb]
theorem run_setMap {P : Program} {w : World} {b : Nat} {es : Array MapEntry} {clk : Nat} (o : Obj) (hb : w.heap[b]? = some (.map es clk)) : (setObj b o).run P w = .ok () (w.putObj b o) := by
  simp [setObj, Sem.run, hb, World.putObj]
theorem run_findKey_int {P : Program} {w : World} {k : TypeId} {q : IntKind} (hk : P.underlying k = some (.int q)) (x : Int) (es : List MapEntry) (l : List (Int × Value)) (hes : es.map (fun e => (e.key, e.val)) = l.map (fun p => (Value.int q p.1, p.2))) :
    (Instr.findKey k (.int q x) es).run P w = .ok (midx l x) w := by
  unfold Instr.findKey
  simp only [Sem.run_bind, run_underlying hk, Result.andThen, findNow_int q x es l 0 hes, Sem.run_pure]
  cases midx l x <;> rfl
section
variable {P : Program} {r : Option Nat} {N : Nat} {ds : List Deferred} {ol rest : List Oper} {Q : Post} {E : Env} {w0 : World} {H : List Atom} {next : Act → World → Prop} {g : Option (Nat × Bool)}
variable {d : Nat} {t ty : TypeId} {pos : String} {af : Array Edge} {x y z : Operand}
end
end Go.Sx
/-
  The layer with atoms: numbers without sign of 64 bits; maps with numbers as keys that are looked up, filled and ranged over.
-/
namespace Go.Sx
open Go Go.RowKit
theorem wrap_u64 {n : Nat} (h : n < 18446744073709551616) : IntKind.u64.wrap (n : Int) = (n : Int) := by
  simp [IntKind.wrap, IntKind.bits, IntKind.signed]; omega
section
variable {P : Program} {r : Option Nat} {N : Nat} {ds : List Deferred} {E : Env} {t t' ty : TypeId} {x y : Operand} {k' : IntKind} {m n : Int} {a b : Nat}
theorem POp.and64 (hx : Env.ev E x = some (.int .u64 m)) (hy : Env.ev E y = some (.int .u64 n)) (em : m = (a : Int)) (en : n = (b : Int)) (h1 : a < 18446744073709551616) (h2 : b < 18446744073709551616) :
    POp P N ds E (.binOp .and t x y t') ty (.int .u64 ((a &&& b : Nat) : Int)) := POp.bin hx hy guard_int fun w => by
  subst em; subst en
  have e : bits .and .u64 (a : Int) (b : Int) = ((a &&& b : Nat) : Int) := by
    show IntKind.u64.wrap (((BitVec.ofInt 64 a &&& BitVec.ofInt 64 b).toNat : Nat) : Int) = _
    rw [BitVec.toNat_and, ofInt_toNat a h1, ofInt_toNat b h2]
    exact wrap_u64 (Nat.lt_of_le_of_lt Nat.and_le_left h1)
  rw [binOp_and, intBits_and, e]; rfl
theorem POp.or64 (hx : Env.ev E x = some (.int .u64 m)) (hy : Env.ev E y = some (.int .u64 n)) (em : m = (a : Int)) (en : n = (b : Int)) (h1 : a < 18446744073709551616) (h2 : b < 18446744073709551616) :
    POp P N ds E (.binOp .or t x y t') ty (.int .u64 ((a ||| b : Nat) : Int)) := POp.bin hx hy guard_int fun w => by
  subst em; subst en
  have e : bits .or .u64 (a : Int) (b : Int) = ((a ||| b : Nat) : Int) := by
    show IntKind.u64.wrap (((BitVec.ofInt 64 a ||| BitVec.ofInt 64 b).toNat : Nat) : Int) = _
    rw [BitVec.toNat_or, ofInt_toNat a h1, ofInt_toNat b h2]
    exact wrap_u64 (Nat.or_lt_two_pow (n := 64) h1 h2)
  rw [binOp_or, intBits_or, e]; rfl
theorem POp.shr64 (hx : Env.ev E x = some (.int .u64 m)) (hy : Env.ev E y = some (.int k' n)) (em : m = (a : Int)) (en : n = (b : Int)) (h1 : b < 64) :
    POp P N ds E (.binOp .shr t x y t') ty (.int .u64 ((a >>> b : Nat) : Int)) := POp.bin hx hy guard_int fun w => by
  subst em; subst en
  rw [binOp_shr, shift_shr .u64 k' a b (by omega) (by simp [IntKind.bits]; omega), Nat.shiftRight_eq_div_pow]
  simp
theorem POp.shl64 (hx : Env.ev E x = some (.int .u64 m)) (hy : Env.ev E y = some (.int k' n)) (em : m = (a : Int)) (en : n = (b : Int)) (h1 : b < 64) (h2 : a <<< b < 18446744073709551616) :
    POp P N ds E (.binOp .shl t x y t') ty (.int .u64 ((a <<< b : Nat) : Int)) := POp.bin hx hy guard_int fun w => by
  subst em; subst en
  have e : ((a : Int) * 2 ^ ((b : Int).toNat)) = ((a <<< b : Nat) : Int) := by rw [Nat.shiftLeft_eq]; simp
  rw [binOp_shl, shift_shl .u64 k' a b (by omega) (by simp [IntKind.bits]; omega), e, wrap_u64 h2]; rfl
theorem POp.sub64 (hx : Env.ev E x = some (.int .u64 m)) (hy : Env.ev E y = some (.int .u64 n)) (em : m = (a : Int)) (en : n = (b : Int)) (h1 : b ≤ a) (h2 : a < 18446744073709551616) :
    POp P N ds E (.binOp .sub t x y t') ty (.int .u64 ((a - b : Nat) : Int)) := (POp.sub' hx hy).of (by
  subst em; subst en
  rw [show (a : Int) - (b : Int) = ((a - b : Nat) : Int) by omega, wrap_u64 (by omega)])
end
theorem midx_get (l : List (Int × Value)) (x : Int) : (midx l x).map (·.2) = mget l x := by
  induction l with
  | nil => rfl
  | cons p l ih =>
    obtain ⟨y, u⟩ := p
    simp only [midx, mget]
    split
    · rfl
    · rw [← ih]; cases midx l x <;> rfl
/-- A map that may be ranged over: what it holds, in the order in which it came; no stamp twice. -/
structure MQ (q : IntKind) (l : List (Int × Value)) (es : Array MapEntry) (clk : Nat) : Prop where
  ents : es.toList.map (fun e => (e.key, e.val)) = l.map fun p => (Value.int q p.1, p.2)
  born : ∀ e ∈ es.toList, e.born < clk
  nd : (es.toList.map (·.born)).Nodup
theorem MQ.nil (q : IntKind) : MQ q [] #[] 0 := ⟨rfl, by simp, by simp⟩
def mqP (q : IntKind) (l : List (Int × Value)) (o : Obj) : Prop := ∃ es clk, o = .map es clk ∧ MQ q l es clk
def A.mq (b : Nat) (q : IntKind) (l : List (Int × Value)) : Atom := A.obj b (mqP q l)
/-- An iterator over map b: the stamps of what has come. -/
def A.mit (r b clk : Nat) (seen : Array Nat) : Atom := A.obj r fun o => o = .mapIter (some b) clk seen clk
section
variable {P : Program} {w : World} {t k e : TypeId} {q : IntKind} {b : Nat} {l : List (Int × Value)} {o : Obj} {z : Value} {sz bb : Nat}
theorem run_lookup_mq (ht : P.underlying t = some (.map k e)) (hk : P.underlying k = some (.int q)) [hi : ITy P e z sz bb] (hb : w.heap[b]? = some o) (ho : mqP q l o) (x : Int) :
    (Instr.lookup t (.map (some b)) (.int q x) false).run P w = .ok ((mget l x).getD z) w := by
  obtain ⟨es, clk, rfl, h⟩ := ho
  have hf := run_findKey_int (P := P) (w := w) hk x es.toList l h.ents
  unfold Instr.lookup
  simp only [Sem.run_bind, run_underlying ht, Result.andThen, run_getMap hb, Sem.run_pure, run_checkKey_int hk _ 9999 x, hf]
  rw [← midx_get]
  cases midx l x with
  | none => simp [run_zeroValue (h := hi)]
  | some p => simp
theorem run_mapUpdate_mq (ht : P.underlying t = some (.map k e)) (hk : P.underlying k = some (.int q)) (hb : w.heap[b]? = some o) (ho : mqP q l o) (x : Int) (v : Value) :
    ∃ o', (Instr.mapUpdate t (.map (some b)) (.int q x) v).run P w = .ok () (w.putObj b o') ∧ mqP q (mset l x v) o' := by
  obtain ⟨es, clk, rfl, h⟩ := ho
  have hes := h.ents
  have hf := run_findKey_int (P := P) (w := w) hk x es.toList l hes
  have hlen : es.size = l.length := by have := congrArg List.length hes; simpa using this
  cases hm : midx l x with
  | none =>
    refine ⟨.map (es.push { key := .int q x, val := v, born := clk }) (clk + 1), ?_, ?_⟩
    · rw [hm] at hf
      unfold Instr.mapUpdate
      simp only [Sem.run_bind, run_underlying ht, Result.andThen, run_getMap hb, run_checkKey_int hk _ 9999 x, hf, run_setMap _ hb]
    · refine ⟨_, _, rfl, ?_, ?_, ?_⟩
      · rw [midx_none v hm]
        simp [hes]
      · intro y hy
        rw [Array.toList_push] at hy
        rcases List.mem_append.1 hy with hy | hy
        · exact Nat.lt_succ_of_lt (h.born y hy)
        · rw [List.mem_singleton] at hy; subst hy; exact Nat.lt_succ_self _
      · rw [Array.toList_push, List.map_append]
        refine List.nodup_append.2 ⟨h.nd, by simp, fun a ha c hc e => ?_⟩
        obtain ⟨y, hy, rfl⟩ := List.mem_map.1 ha
        simp only [List.map_cons, List.map_nil, List.mem_singleton] at hc
        have := h.born y hy
        omega
  | some p =>
    obtain ⟨i, u⟩ := p
    obtain ⟨h1, h2, h3⟩ := midx_some v hm
    have hi : i < es.size := by omega
    have hkey : es[i].key = .int q x := by
      have := congrArg (fun l => l[i]?) hes
      simp [h3, hi] at this
      exact this.1
    have hb2 : (es.modify i fun e => { e with key := .int q x, val := v }).toList.map (·.born) = es.toList.map (·.born) := by
      apply List.ext_getElem?
      intro j
      simp only [List.getElem?_map, Array.getElem?_toList]
      rw [Array.getElem?_modify]
      by_cases e : i = j
      · subst e; simp [hi]
      · simp [e]
    refine ⟨.map (es.modify i fun e => { e with key := .int q x, val := v }) clk, ?_, ?_⟩
    · rw [hm] at hf
      have hk2 : ((es[i]?).map (·.key)).getD (.int q x) = .int q x := by simp [hi, hkey]
      unfold Instr.mapUpdate
      simp only [Sem.run_bind, run_underlying ht, Result.andThen, run_getMap hb, run_checkKey_int hk _ 9999 x, hf, hk2, run_keyStays, run_setMap _ hb]
    · refine ⟨_, _, rfl, ?_, ?_, ?_⟩
      · rw [h1]
        apply List.ext_getElem?
        intro j
        have hj := congrArg (fun l => l[j]?) hes
        simp only [List.getElem?_map, Array.getElem?_toList] at hj ⊢
        rw [Array.getElem?_modify, List.getElem?_set]
        by_cases e : i = j
        · subst e
          simp [hi, h2]
        · simp only [if_neg e]
          exact hj
      · intro y hy
        have h4 : y.born ∈ (es.modify i fun e => { e with key := .int q x, val := v }).toList.map (·.born) := List.mem_map.2 ⟨y, hy, rfl⟩
        rw [hb2] at h4
        obtain ⟨y0, h5, h6⟩ := List.mem_map.1 h4
        rw [← h6]; exact h.born y0 h5
      · rw [hb2]; exact h.nd
end
section
variable {P : Program} {r : Option Nat} {N : Nat} {ds : List Deferred} {ol rest : List Oper} {Q : Post} {E : Env} {w0 : World} {H : List Atom} {next : Act → World → Prop} {g : Option (Nat × Bool)}
variable {d : Nat} {t ty : TypeId} {pos : String} {af : Array Edge} {x y z : Operand}
theorem H1.mkmq (q : IntKind) (hd : Nat.blt d N = true) (h : ∀ b, HN N ds next ((d, .map (some b)) :: E) w0 (A.mq b q [] :: H)) : H1 P r N ds next ⟨some d, .makeMap t none, ty, pos, af, g⟩ Q E w0 H := fun w hM =>
  W1.run (v := .map (some w.heap.size)) (w' := w.alloc (.map #[] 0)) (fun _ _ => rfl) rfl hd (h _ _ (by
    refine (hM.more (Ext.alloc w _)).cons ⟨_, World.alloc_heap_new w _, _, _, rfl, MQ.nil q⟩ (by simp [A.mq, A.obj]) fun b hb => ?_
    have hb' : b = w.heap.size := by simpa [A.mq, A.obj] using hb
    subst hb'
    refine ⟨fun hm => ?_, hM.ext.size, by simp⟩
    have := (hM.rng _ hm).2
    omega))
theorem H1.mqget {b : Nat} {k e : TypeId} {q : IntKind} {l : List (Int × Value)} {n : Int} {zv : Value} {sz bb : Nat} [ht : UTy P t (.map k e)] [hk : UTy P k (.int q)] [hi : ITy P e zv sz bb] (hx : Env.ev E x = some (.map (some b))) (hy : Env.ev E y = some (.int q n))
    (hm : A.mq b q l ∈ H) (hd : Nat.blt d N = true) (h : HN N ds next ((d, (mget l n).getD zv) :: E) w0 H) : H1 P r N ds next ⟨some d, .lookup t x y false, ty, pos, af, g⟩ Q E w0 H := fun w hM => by
  obtain ⟨o, h1, h2⟩ : ∃ o, w.heap[b]? = some o ∧ mqP q l o := hM.all _ hm
  refine W1.run (v := (mget l n).getD zv) (w' := w) (fun a ha' => ?_) rfl hd (h w hM)
  simp only [execOp, ha'.ev hx, ha'.ev hy, Sem.run_bind, run_lookup_mq ht.is hk.is h1 h2 n, Result.andThen, Sem.run_pure]
theorem H1.mqset {b : Nat} {k e : TypeId} {q : IntKind} {l : List (Int × Value)} {n : Int} {v : Value} {H' : List Atom} [ht : UTy P t (.map k e)] [hk : UTy P k (.int q)] (hx : Env.ev E x = some (.map (some b))) (hy : Env.ev E y = some (.int q n)) (hz : Env.ev E z = some v)
    (hr : Rpl (A.mq b q l) (A.mq b q (mset l n v)) H H') (h : HN N ds next E w0 H') : H1 P r N ds next ⟨none, .mapUpdate t x y z, ty, pos, af, g⟩ Q E w0 H := fun w hM => by
  obtain ⟨o, hb, ho⟩ : ∃ o, w.heap[b]? = some o ∧ mqP q l o := hM.all _ hr.mem
  obtain ⟨o', hrun, ho'⟩ := run_mapUpdate_mq (P := P) ht.is hk.is hb ho n v
  have hlt := (Array.getElem?_eq_some_iff.1 hb).1
  refine W1.skip (w' := w.putObj b o') (fun a ha => ?_) rfl rfl (h _ (hM.turn hr rfl rfl rfl (by simp) (fun k _ hk' => ?_) ⟨o', World.putObj_heap_same hlt, ho'⟩ (by simp [A.mq, A.obj]) fun b' hb' => .inl hb'))
  · simp only [execOp, ha.ev hx, ha.ev hy, ha.ev hz, Sem.run_bind, hrun, Result.andThen, Sem.run_pure]
  · exact World.putObj_heap_other (by simpa [A.mq, A.obj] using hk')
theorem H1.mqrange {b clk : Nat} {k e : TypeId} {es : Array MapEntry} [ht : UTy P t (.map k e)] (hx : Env.ev E x = some (.map (some b))) (hb : ∀ w, Mm w0 H w → w.heap[b]? = some (.map es clk)) (hd : Nat.blt d N = true)
    (h : ∀ i, HN N ds next ((d, .pointer (some ⟨i, 0, none⟩)) :: E) w0 (A.mit i b clk #[] :: H)) : H1 P r N ds next ⟨some d, .range t x, ty, pos, af, g⟩ Q E w0 H := fun w hM => by
  refine W1.run (v := .pointer (some ⟨w.heap.size, 0, none⟩)) (w' := w.alloc (.mapIter (some b) clk #[] clk)) (fun a ha => ?_) rfl hd (h _ _ ?_)
  · simp only [execOp, ha.ev hx, Instr.range, Sem.run_bind, run_underlying ht.is, run_getMap (hb w hM), Result.andThen, Sem.run_pure, run_newObj_alloc]
  · refine (hM.more (Ext.alloc w _)).cons ⟨_, World.alloc_heap_new w _, rfl⟩ (by simp [A.mit, A.obj]) fun b' hb' => ?_
    have hb2 : b' = w.heap.size := by simpa [A.mit, A.obj] using hb'
    subst hb2
    refine ⟨fun hm => ?_, hM.ext.size, by simp⟩
    have := (hM.rng _ hm).2
    omega
theorem H1.mqnext {i b clk : Nat} {es : Array MapEntry} {seen : Array Nat} {H' : Array Nat → List Atom} (hx : Env.ev E x = some (.pointer (some ⟨i, 0, none⟩))) (hb : ∀ w, Mm w0 H w → w.heap[b]? = some (.map es clk)) (hborn : ∀ e ∈ es.toList, e.born < clk)
    (hr : ∀ s, Rpl (A.mit i b clk seen) (A.mit i b clk s) H (H' s)) (hd : Nat.blt d N = true)
    (h0 : (∀ e ∈ es.toList, e.born ∈ seen) → HN N ds next ((d, .tuple #[.bool false]) :: E) w0 H)
    (h1 : ∀ e ∈ es.toList, e.born ∉ seen → HN N ds next ((d, .tuple #[.bool true, e.key, e.val]) :: E) w0 (H' (seen.push e.born))) : H1 P r N ds next ⟨some d, .next x false, ty, pos, af, g⟩ Q E w0 H := fun w hM => by
  have hr0 : w.heap[i]? = some (.mapIter (some b) clk seen clk) := by
    obtain ⟨o, h1, rfl⟩ : ∃ o, w.heap[i]? = some o ∧ o = .mapIter (some b) clk seen clk := hM.all _ (hr #[]).mem
    exact h1
  have hlt := (Array.getElem?_eq_some_iff.1 hr0).1
  rcases run_next_at (P := P) w ty i b clk clk seen es clk hr0 (hb w hM) hborn (Nat.le_refl _) with ⟨hz, hrun⟩ | ⟨e, he, w1, hw1, hrun⟩
  · refine W1.run (v := .tuple #[.bool false]) (w' := w) (fun a ha => ?_) rfl hd (h0 (fun e he => ?_) w hM)
    · simp only [execOp, ha.ev hx, Sem.run_bind, hrun, Result.andThen, Sem.run_pure]
    · refine Classical.byContradiction fun hn => ?_
      have : leftOf es seen = #[] := Array.eq_empty_of_size_eq_zero hz
      unfold leftOf at this
      rw [Array.filter_eq_empty_iff] at this
      exact this e (by simpa using he) (by simp [hn])
  · have he2 : e ∈ es.toList ∧ e.born ∉ seen := by
      unfold leftOf at he
      simp at he
      exact ⟨by simpa using he.1, he.2⟩
    have hM1 : Mm w0 H w1 := by
      rcases hw1 with rfl | rfl
      · exact hM
      · exact hM.more (Ext.drew w)
    refine W1.run (v := .tuple #[.bool true, e.key, e.val]) (w' := ChangeMaps.setBlock w1 i (.mapIter (some b) clk (seen.push e.born) clk)) (fun a ha => ?_) rfl hd (h1 e he2.1 he2.2 _ ?_)
    · simp only [execOp, ha.ev hx, Sem.run_bind, hrun, Result.andThen, Sem.run_pure]
    · have hlt1 : i < w1.heap.size := by rcases hw1 with rfl | rfl <;> exact hlt
      refine hM1.turn (hr _) rfl rfl rfl (by simp [ChangeMaps.setBlock]) (fun k _ hk => ?_) ⟨_, by simp [ChangeMaps.setBlock, hlt1], rfl⟩ (by simp [A.mit, A.obj]) fun b' hb' => .inl hb'
      have hne : i ≠ k := fun e => hk (by simp [A.mit, A.obj, e])
      simp [ChangeMaps.setBlock, hne]
theorem H1.mqentry {i b clk : Nat} {es : Array MapEntry} {seen : Array Nat} {e : MapEntry} (hx : Env.ev E x = some (.pointer (some ⟨i, 0, none⟩))) (hb : ∀ w, Mm w0 H w → w.heap[b]? = some (.map es clk)) (he : e ∈ es.toList) (hn : (es.toList.map (·.born)).Nodup)
    (hm : A.mit i b clk (seen.push e.born) ∈ H) (hd : Nat.blt d N = true) (h : HN N ds next ((d, .tuple #[e.key, e.val]) :: E) w0 H) : H1 P r N ds next ⟨some d, .entry x, ty, pos, af, g⟩ Q E w0 H := fun w hM => by
  have hr0 : w.heap[i]? = some (.mapIter (some b) clk (seen.push e.born) clk) := by
    obtain ⟨o, h1, rfl⟩ : ∃ o, w.heap[i]? = some o ∧ o = .mapIter (some b) clk (seen.push e.born) clk := hM.all _ hm
    exact h1
  refine W1.run (v := .tuple #[e.key, e.val]) (w' := w) (fun a ha => ?_) rfl hd (h w hM)
  simp only [execOp, ha.ev hx, Sem.run_bind, run_entry_at w i b clk seen es clk e hr0 (hb w hM) he hn, Result.andThen, Sem.run_pure]
end
/-- How many entries are still to come. -/
def mleft (es : Array MapEntry) (seen : Array Nat) : Nat := (es.toList.filter fun e => decide (e.born ∉ seen)).length
theorem mleft_lt {es : Array MapEntry} {seen : Array Nat} {e : MapEntry} (he : e ∈ es.toList) (hn : e.born ∉ seen) : mleft es (seen.push e.born) < mleft es seen := by
  unfold mleft
  have h1 : (es.toList.filter fun x => decide (x.born ∉ seen.push e.born)) = (es.toList.filter fun x => decide (x.born ∉ seen)).filter fun x => decide (x.born ≠ e.born) := by
    rw [List.filter_filter]
    refine List.filter_congr fun x _ => ?_
    rw [Bool.eq_iff_iff, Bool.and_eq_true, decide_eq_true_eq, decide_eq_true_eq, decide_eq_true_eq, Array.mem_push, not_or]
    exact And.comm
  rw [h1]
  exact List.length_filter_lt_length_iff_exists.2 ⟨e, List.mem_filter.2 ⟨he, decide_eq_true hn⟩, by simp⟩
end Go.Sx
/-
  The layer with atoms: aggregates loaded first in open orders; several results; the head of a slice; slices of structs.
-/
namespace Go.Sx
open Go Go.RowKit
/-- The cells of a block from its beginning on. -/
def cellsA (b : Nat) (vs : List Value) : List (Addr × Value) := vs.zipIdx.map fun p => (⟨b, p.2, none⟩, p.1)
section
variable {P : Program} {N : Nat} {ds : List Deferred} {ol : List Oper} {Q : Post} {E : Env} {w0 : World} {H : List Atom} {fuel : Nat} {listed : Array Bool} {ty : TypeId} {pos : String} {af : Array Edge} {l : List (Addr × Value)}
/- several results -/
def ResAll (P : Program) (E : Env) (w : World) : List ResultVar → List Value → Prop
  | [], [] => True
  | .tmp t :: rs, v :: vs => Env.g E t = some v ∧ ResAll P E w rs vs
  | .cell p t :: rs, v :: vs => (∃ ad, Env.g E p = some (.pointer (some ad)) ∧ (loadVar t ad).run P w = .ok v w) ∧ ResAll P E w rs vs
  | _, _ => False
def resOne (tmps : Array Value) : ResultVar → Sem Value
  | .tmp t => pure (tmps.getD t undef)
  | .cell a t => do loadVar t (← asAddr (tmps.getD a undef))
end
end Go.Sx
/-
  The layer with atoms: in open orders, loads of cells that stay as they are may go first, under a guard too.
-/
namespace Go.Sx
open Go Go.RowKit
section
variable {P : Program} {ops : Array Oper} {Q : Post} {C : World → Prop}
theorem op_swap_g {j : Nat} {oi oj : Oper} {t : TypeId} {x : Operand} {v : Value} (ho : oi.op = .load t x) (hx : ∀ d, oi.dst = some d → x ≠ .tmp d) (hl' : ∀ d, oi.dst = some d → d ∉ oi.looksAt ops) (hj : ops[j]? = some oj) (hap : oi.apart ops oj = true) (hsj : ∀ cs b, oj.op ≠ .select cs b)
    (hQ : ∀ c a w, Q (.panic c) (a.put oi.dst v) w → Q (.panic c) a w) {K : Act → World → Prop} {a : Act} {w : World} (hu : a.eval x ≠ undef) (hw : Region.wanted oi (yielded ops a.tmps) = true) (h : wpOpIn (FW none) 0 P ops Q j K (a.put oi.dst v) w) :
    wpOpIn (FW none) 0 P ops Q j (fun a' w' => (a'.eval x = a.eval x ∧ Region.wanted oi (yielded ops a'.tmps) = true) ∧ K (a'.put oi.dst v) w') a w := by
  have hl : oi.looksAt ops = (⟨none, .move x, oi.type, oi.pos, #[], oi.guard⟩ : Oper).looksAt ops := by simp [Oper.looksAt, ho, Op.operands]
  obtain ⟨h0, h1⟩ := apart_parts hap
  have hev : ∀ a' : Act, (a'.put oi.dst v).eval x = a'.eval x := fun a' => Act.eval_put hx
  have hwp : ∀ a' : Act, Region.wanted oi (yielded ops (a'.put oi.dst v).tmps) = Region.wanted oi (yielded ops a'.tmps) := fun a' => wanted_put oi a' oi.dst v hl'
  have s1 := wpOpIn_put (F := FW none) (n := 0) (P := P) (ops := ops) (Q := Q) (oi := ⟨none, .move x, oi.type, oi.pos, #[], oi.guard⟩) (v := a.eval x) rfl hj (h0 _ rfl hl.symm) (fun _ _ e => by cases e) hsj (fun _ _ _ h => h) (a := a.put oi.dst v) (w := w) (K := K)
    ⟨.inl ⟨(hwp a).trans hw, fun w => by show Result.ok (Next.value ((a.put oi.dst v).eval x)) w = _; rw [hev]⟩, fun _ => rfl⟩ h
  have s2 := wpOpIn_put (F := FW none) (n := 0) (P := P) (ops := ops) (Q := Q) (oi := ⟨oi.dst, .move (.const v), oi.type, oi.pos, #[], none⟩) (v := v) rfl hj (h1 _ rfl (by simp [Oper.looksAt, Op.operands])) (fun _ _ e => by cases e) hsj hQ (a := a) (w := w)
    ⟨.inl ⟨rfl, fun w => rfl⟩, fun _ => rfl⟩ s1
  refine wpOpIn_mono (fun a' w' h3 => ⟨?_, h3.2.2⟩) s2
  rcases h3.2.1.1 with ⟨h4w, h4⟩ | ⟨-, h4⟩
  · have h5 := h4 w'
    have h6 : Result.ok (Next.value ((a'.put oi.dst v).eval x)) w' = Result.ok (Next.value (a.eval x)) w' := h5
    rw [hev] at h6
    injection h6 with h7
    injection h7 with h7
    exact ⟨h7, (hwp a').symm.trans h4w⟩
  · exact absurd h4 hu
theorem anyC_load_g {i : Nat} {oi : Oper} {t : TypeId} {x : Operand} {v : Value} {fuel : Nat} {listed : Array Bool} {a : Act} {w : World} (ho : oi.op = .load t x) (hx : ∀ d, oi.dst = some d → x ≠ .tmp d) (hl' : ∀ d, oi.dst = some d → d ∉ oi.looksAt ops) (hi : ops[i]? = some oi) (hs : Region.noSelect ops = true)
    (hf : Region.free .any ops listed i = true) (hr : (Region.ready .any ops listed).contains i = true) (hQ : ∀ c a w, Q (.panic c) (a.put oi.dst v) w → Q (.panic c) a w) (hu : a.eval x ≠ undef) (hw : Region.wanted oi (yielded ops a.tmps) = true)
    (hrun : ∀ a' : Act, a'.eval x = a.eval x → ∀ w, C w → (execOp a'.eval oi).run P w = .ok (.value v) w) (h : AnyC C P ops Q fuel (listed.setIfInBounds i true) (a.put oi.dst v) w) : AnyC C P ops Q (fuel + 1) listed a w := by
  refine anyC_first (fun a' => a'.eval x = a.eval x ∧ Region.wanted oi (yielded ops a'.tmps) = true) (fun {K a' w'} hy hC hk => ?_) (fun hj hap hy h => ?_) fuel listed a w (Region.free_spec hi hf) (by simpa using hr) ⟨rfl, hw⟩ h
  · unfold wpOpIn
    rw [hi]
    dsimp only
    rw [if_pos hy.2]
    refine ⟨fun _ _ => trivial, ?_⟩
    rw [semAt_of (by rw [ho]; rfl), hrun a' hy.1 w' hC]
    exact hk
  · refine wpOpIn_mono (fun a'' w'' h3 => ⟨⟨h3.1.1.trans hy.1, h3.1.2⟩, h3.2⟩) (op_swap_g ho hx hl' hj hap (fun cs b => Region.noSelect_spec hs _ _ cs b hj) hQ (by rw [hy.1]; exact hu) hy.2 h)
end
section
variable {P : Program} {N : Nat} {ds : List Deferred} {ol : List Oper} {Q : Post} {E : Env} {w0 : World} {H : List Atom} {fuel : Nat} {listed : Array Bool} {ty : TypeId} {pos : String} {af : Array Edge} {l : List (Addr × Value)}
theorem HB.ldg [hq : QPanic Q] {d : Nat} {t : TypeId} {x : Operand} {ad : Addr} {v : Value} {j : Nat} {want b : Bool} [hat : ATy P t false] (i : Nat) (ho : ol[i]? = some ⟨some d, .load t x, ty, pos, af, some (j, want)⟩) (hj : guardE ol E j = some b) (hx : Env.ev E x = some (.pointer (some ad))) (hc : (ad, v) ∈ l)
    (h : HB l P N ds ol fuel (listed.setIfInBounds i true) Q ((d, v) :: E) w0 H)
    (hb : b = want := by
      first | with_reducible rfl | assumption | (simp only [Bool.not_true, Bool.not_false]; done) | (simp only [decide_eq_true_eq, decide_eq_false_iff_not, Bool.not_true, Bool.not_false, not_true_eq_false, not_false_eq_true, reduceCtorEq]; first | done | assumption | omega))
    (hne : (match x with | .tmp t => !(Nat.beq t d) | _ => true) = true := by exact rfl)
    (hla : ((⟨some d, .load t x, ty, pos, af, some (j, want)⟩ : Oper).looksAt ol.toArray).contains d = false := by kernel_rfl)
    (hs : (Region.noSelect ol.toArray && Region.free .any ol.toArray listed i && (Region.ready .any ol.toArray listed).contains i) = true := by kernel_rfl)
    (hd : Nat.blt d N = true := by exact rfl) : HB l P N ds ol (fuel + 1) listed Q E w0 H := fun w hM a ha => by
  simp only [Bool.and_eq_true] at hs
  have ho' : ol.toArray[i]? = some ⟨some d, .load t x, ty, pos, af, some (j, want)⟩ := by simpa using ho
  have hy := guardE_spec hj ha
  refine anyC_load_g (t := t) (x := x) rfl (fun d' hd' e => ?_) (fun d' hd' hm => ?_) ho' hs.1.1 hs.1.2 hs.2 (fun c a w => hq.is c a _ _ w) (by rw [ha.ev hx]; intro h; cases h) (by simp only [Region.wanted, hy, hb, beq_self_eq_true]) (fun a' ha' w' hC => ?_) (h w hM _ (ha.put hd v))
  · cases hd'; subst e; simp at hne
  · cases hd'
    rw [List.contains_eq_mem, decide_eq_false_iff_not] at hla
    exact hla hm
  · have h1 : a'.eval x = .pointer (some ad) := ha'.trans (ha.ev hx)
    have h2 := hC _ hc
    simp only [execOp, h1, Instr.loadAt, Instr.sureAddr, loadVar, Sem.run_bind, Sem.run_pure]
    simp [run_isAgg, h2]
end
end Go.Sx
/- Plain: the numbers of chapter 17 as natural numbers. No program in sight. -/
namespace Go.Sx
def redL : List Nat := [0, 29, 58, 39, 116, 105, 78, 83, 232, 245, 210, 207, 156, 129, 166, 187]
def fewP (a b : Nat) : Nat → Nat
  | 0 => 0
  | i + 1 => if (b >>> i) &&& 1 = 1 then fewP a b i ^^^ (a <<< i) else fewP a b i
def fewN (a b : Nat) : Nat := (fewP a b 4 &&& 255) ^^^ redL.getD (fewP a b 4 >>> 8) 0
def sixteenN (a : Nat) : Nat := ((a <<< 4) &&& 255) ^^^ redL.getD (a >>> 4) 0
def mulN (a b : Nat) : Nat := fewN a (b &&& 15) ^^^ sixteenN (fewN a (b >>> 4))
def invP (a : Nat) : Nat → Nat × Nat
  | 0 => (1, a)
  | i + 1 => let q := mulN (invP a i).2 (invP a i).2; (mulN (invP a i).1 q, q)
def invN (a : Nat) : Nat := (invP a 7).1

theorem redL_lt : ∀ i, redL.getD i 0 < 256 := by
  intro i
  rcases Nat.lt_or_ge i 16 with h | h
  · have : ∀ j : Fin 16, redL.getD j.1 0 < 256 := by decide
    exact this ⟨i, h⟩
  · simp [redL, List.getD_eq_getElem?_getD, List.getElem?_eq_none (show [0, 29, 58, 39, 116, 105, 78, 83, 232, 245, 210, 207, 156, 129, 166, 187].length ≤ i from h)]
theorem shl_lt {a i k n : Nat} (h : a < 2 ^ k) (hk : k + i ≤ n) : a <<< i < 2 ^ n := by
  rw [Nat.shiftLeft_eq]
  calc a * 2 ^ i < 2 ^ k * 2 ^ i := Nat.mul_lt_mul_of_pos_right h (Nat.two_pow_pos i)
    _ = 2 ^ (k + i) := (Nat.pow_add 2 k i).symm
    _ ≤ 2 ^ n := Nat.pow_le_pow_right (by decide) hk
theorem fewN_lt {a b : Nat} : fewN a b < 256 :=
  Nat.xor_lt_two_pow (n := 8) (Nat.lt_of_le_of_lt Nat.and_le_right (by decide)) (redL_lt _)
theorem sixteenN_lt {a : Nat} : sixteenN a < 256 :=
  Nat.xor_lt_two_pow (n := 8) (Nat.lt_of_le_of_lt Nat.and_le_right (by decide)) (redL_lt _)
theorem mulN_lt {a b : Nat} : mulN a b < 256 := Nat.xor_lt_two_pow (n := 8) fewN_lt sixteenN_lt
end Go.Sx
namespace Go.Sx
/-- One step of a weight's denominator; of its numerator. -/
def belS (i acc h : Nat) : Nat := if h = i then acc else mulN acc (invN (i ^^^ h))
def outS (i x acc h : Nat) : Nat := if h = i then acc else mulN acc (x ^^^ h)
def bel (nums : List Nat) (i : Nat) : Nat := nums.foldl (belS i) 1
def belA (nums : List Nat) (j : Nat) : Nat := if j ∈ nums then bel nums j else 0
def wgt (nums : List Nat) (x i : Nat) : Nat := nums.foldl (outS i x) (bel nums i)
def wgtA (nums : List Nat) (x j : Nat) : Nat := if j ∈ nums then wgt nums x j else 0
/-- The k-th number. -/
def nu (nums : List Nat) (k : Nat) : Nat := nums.getD k 0
end Go.Sx
namespace Go.Sx
def fr (frs : List ByteArray) (i : Nat) : ByteArray := frs.getD i ByteArray.empty
def strs (l : List ByteArray) : List Value := l.map .string
def cmpF (frs : List ByteArray) (W : Nat → Nat) (at' acc i : Nat) : Nat := acc ^^^ mulN (W i) (sb (fr frs i) at')
def cmpS (frs : List ByteArray) (nums : List Nat) (W : Nat → Nat) (at' : Nat) : Nat := nums.foldl (cmpF frs W at') 0
def cmpStr (frs : List ByteArray) (nums : List Nat) (W : Nat → Nat) (m : Nat) : ByteArray := ⟨((List.range m).map fun q => UInt8.ofNat (cmpS frs nums W q)).toArray⟩
end Go.Sx
namespace Go.Sx
def mOf (l k : Nat) : Nat := (l + k - 1) / k
def zeros (n : Nat) : ByteArray := ⟨(List.replicate n (0 : UInt8)).toArray⟩
def padS (s : ByteArray) (k : Nat) : ByteArray := s ++ zeros (k * mOf s.size k - s.size)
def partOf (s : ByteArray) (k i : Nat) : ByteArray := (padS s k).extract (i * mOf s.size k) ((i + 1) * mOf s.size k)
def parts (s : ByteArray) (k : Nat) : List ByteArray := (List.range k).map (partOf s k)
/-- Fragment j of the string s. -/
def codeA (s : ByteArray) (k j : Nat) : ByteArray := if j < k then partOf s k j else cmpStr (parts s k) (List.range k) (wgtA (List.range k) j) (mOf s.size k)
def codeL (s : ByteArray) (k n : Nat) : List ByteArray := (List.range n).map (codeA s k)

end Go.Sx
namespace Go.Sx
def isC (k n : Int) : Prop := 1 ≤ k ∧ k ≤ n ∧ n ≤ 9
def tf (th : List Bool) (i : Nat) : Bool := th.getD i false
def bools (l : List Bool) : List Value := l.map .bool
def tnums (th : List Bool) (i k : Nat) : List Nat := ((List.range i).filter (tf th)).take k
def cN (th : List Bool) (k : Nat) : List Nat := tnums th th.length k
def cM (frs : List ByteArray) (th : List Bool) (k : Nat) : Nat := (fr frs (nu (cN th k) 0)).size
def cOut (frs : List ByteArray) (th : List Bool) (k j : Nat) : ByteArray := cmpStr frs (cN th k) (wgtA (cN th k) j) (cM frs th k)
def CompOK (frs : List ByteArray) (th : List Bool) (k : Int) : Prop :=
  isC k frs.length ∧ th.length = frs.length ∧ (cN th k.toNat).length = k.toNat ∧ (∀ i, i < frs.length → tf th i = true → (fr frs i).size = cM frs th k.toNat ∧ cM frs th k.toNat ≤ 4096) ∧
    ∀ i, i < frs.length → tf th i = true → cOut frs th k.toNat i = fr frs i
end Go.Sx
namespace Go.Sx
open Go
def catS (l : List ByteArray) : ByteArray := ⟨(l.map (·.data.toList)).flatten.toArray⟩
theorem join_empty (l : List ByteArray) : (⟨(Lib.join (l.map (·.data.toList)) (ByteArray.mk #[]).data.toList).toArray⟩ : ByteArray) = catS l := by
  unfold catS
  congr 1
  cases l with
  | nil => rfl
  | cons x r =>
    rw [List.map_cons, Lib.join_cons]
    simp only [Lib.joinTail, List.flatten_cons, List.map_map]
    rfl
def allOut (frs : List ByteArray) (th : List Bool) (k : Nat) : List ByteArray := (List.range frs.length).map (cOut frs th k)
def catO (frs : List ByteArray) (th : List Bool) (k : Nat) : ByteArray := catS ((List.range k).map (cOut frs th k))
def FragOK (frs : List ByteArray) (th : List Bool) (k which : Int) : Prop := CompOK frs th k ∧ 0 ≤ which ∧ which < frs.length
/-- The string may be got back. -/
def JoinOK (frs : List ByteArray) (th : List Bool) (k len : Int) : Prop :=
  CompOK frs th k ∧ 0 ≤ len ∧ len ≤ 4096 * k ∧ (cM frs th k.toNat : Int) = (len + k - 1) / k ∧ ∀ j, len.toNat ≤ j → j < (catO frs th k.toNat).size → sb (catO frs th k.toNat) j = 0
end Go.Sx
namespace Go.Sx
open Go
def exAb : ByteArray := ByteArray.mk #[97, 98]
def exL : List ByteArray := [ByteArray.mk #[97], ByteArray.mk #[98], ByteArray.mk #[103]]
end Go.Sx
/- Plain, chapter 24: nodes, and which are valid. -/
namespace Go.Sx
open Go Go.RowKit
structure Nd where
  id : Int
  kind : Int
  pack : Int
  src : List Int
instance : Inhabited Nd := ⟨⟨0, 0, 0, []⟩⟩
/-- The cells of a node whose sources stand in a slice. -/
def ndC (n : Nd) (v : Value) : List Value := [zv n.id, zv n.kind, zv n.pack, v]
def ndV (n : Nd) (v : Value) : Value := .agg #[zv n.id, zv n.kind, zv n.pack, v]
def ndAt (l : List Nd) (i : Nat) : Nd := l.getD i default
/-- A slice of nodes. -/
structure RdN (w : World) (v : Value) (l : List Nd) (U : Nat → Value) : Prop where
  shape : ∃ a c, v = .slice a l.length c ∧ l.length ≤ c ∧ (l = [] ∨ ∃ b off, a = some ⟨b, off, none⟩ ∧ ∀ i, i < l.length → ∀ (j : Nat) (u : Value), (ndC (ndAt l i) (U i))[j]? = some u → w.cell? ⟨b, off + i * 4 + j, none⟩ = some u)
  src : ∀ i, i < l.length → Rd w (U i) (ints (ndAt l i).src)
theorem ndAt_take {l : List Nd} {i : Nat} (h : i < l.length) : l.take (i + 1) = l.take i ++ [ndAt l i] := by
  rw [List.take_add_one, List.getElem?_eq_getElem h]
  simp [ndAt, h]
/-- Strictly ascending. -/
def AscI (l : List Int) : Prop := l.Pairwise (· < ·)
instance (l : List Int) : Decidable (AscI l) := by unfold AscI; infer_instance
def getI (l : List Int) (i : Nat) : Int := l.getD i 0
/-- Numbers of nodes and packages. -/
def idOk (n : Int) : Prop := 1 ≤ n ∧ n ≤ 1000000
instance (n : Int) : Decidable (idOk n) := by unfold idOk; infer_instance
/-- The package of the node with a number, the last one's. -/
def pkOf : List Nd → Int → Option Int
  | [], _ => none
  | n :: l, i => match pkOf l i with
    | some p => some p
    | none => if i = n.id then some n.pack else none
theorem pkOf_snoc (l : List Nd) (n : Nd) (i : Int) : pkOf (l ++ [n]) i = if i = n.id then some n.pack else pkOf l i := by
  induction l with
  | nil => show (match (none : Option Int) with | some p => some p | none => if i = n.id then some n.pack else none) = _; rfl
  | cons m l ih =>
    show (match pkOf (l ++ [n]) i with | some p => some p | none => if i = m.id then some m.pack else none) = if i = n.id then some n.pack else (match pkOf l i with | some p => some p | none => if i = m.id then some m.pack else none)
    rw [ih]
    by_cases h : i = n.id
    · rw [if_pos h, if_pos h]
    · rw [if_neg h, if_neg h]
/-- The sources that were looked at: are they there, and is one of the own package? -/
def srcsOk (l : List Nd) (s : List Int) : Prop := ∀ x ∈ s, (pkOf l x).isSome = true
instance (l : List Nd) (s : List Int) : Decidable (srcsOk l s) := by unfold srcsOk; infer_instance
def ownB (l : List Nd) (pack : Int) (s : List Int) : Bool := s.any fun x => pkOf l x == some pack
/-- Whether a node can stand behind nodes. -/
def hasN (l : List Nd) (n : Nd) : Bool := decide (idOk n.id) && decide (idOk n.pack) && decide (1 ≤ n.kind) && decide (n.kind ≤ 5) && decide (n.src.length ≤ 8) && (decide (n.kind = 1) == decide (n.src.length = 0)) && decide (srcsOk l n.src) && (decide (n.kind = 1) || ownB l n.pack n.src) && decide (AscI n.src)
def allN (l : List Nd) : Nat → Bool
  | 0 => true
  | i + 1 => allN l i && hasN (l.take i) (ndAt l i)
def validN (l : List Nd) : Bool := allN l l.length && decide (l.length ≤ 400) && decide (AscI (l.map Nd.id))
end Go.Sx
/-
  By program: the facts of this seat about functions and types, as instances of the layer's classes.
-/
namespace Go.Sx
open Go Go.Proofs
instance : FnIs Tryz.prog 4 Tryz.f4 := ⟨Tryz.func4⟩
instance : CallOk Tryz.prog 5 := ⟨Tryz.call5⟩
instance : FnIs Tryz.prog 5 Tryz.f5 := ⟨Tryz.func5⟩
instance : CallOk Tryz.prog 8 := ⟨Tryz.call8⟩
instance : FnIs Tryz.prog 8 Tryz.f8 := ⟨Tryz.func8⟩
instance : CallOk Tryz.prog 10 := ⟨Tryz.call10⟩
instance : FnIs Tryz.prog 10 Tryz.f10 := ⟨Tryz.func10⟩
instance : CallOk Tryz.prog 11 := ⟨Tryz.call11⟩
instance : FnIs Tryz.prog 11 Tryz.f11 := ⟨Tryz.func11⟩
instance : CallOk Tryz.prog 15 := ⟨Tryz.call15⟩
instance : FnIs Tryz.prog 15 Tryz.f15 := ⟨Tryz.func15⟩
instance : CallOk Tryz.prog 16 := ⟨Tryz.call16⟩
instance : FnIs Tryz.prog 16 Tryz.f16 := ⟨Tryz.func16⟩
instance : CallOk Tryz.prog 17 := ⟨Tryz.call17⟩
instance : FnIs Tryz.prog 17 Tryz.f17 := ⟨Tryz.func17⟩
instance : CallOk Tryz.prog 18 := ⟨Tryz.call18⟩
instance : FnIs Tryz.prog 18 Tryz.f18 := ⟨Tryz.func18⟩
instance : CallOk Tryz.prog 19 := ⟨Tryz.call19⟩
instance : FnIs Tryz.prog 19 Tryz.f19 := ⟨Tryz.func19⟩
instance : CallOk Tryz.prog 20 := ⟨Tryz.call20⟩
instance : FnIs Tryz.prog 20 Tryz.f20 := ⟨Tryz.func20⟩
instance : CallOk Tryz.prog 21 := ⟨Tryz.call21⟩
instance : FnIs Tryz.prog 21 Tryz.f21 := ⟨Tryz.func21⟩
instance : CallOk Tryz.prog 22 := ⟨Tryz.call22⟩
instance : FnIs Tryz.prog 22 Tryz.f22 := ⟨Tryz.func22⟩
instance : CallOk Tryz.prog 23 := ⟨Tryz.call23⟩
instance : FnIs Tryz.prog 23 Tryz.f23 := ⟨Tryz.func23⟩
instance : CallOk Tryz.prog 24 := ⟨Tryz.call24⟩
instance : FnIs Tryz.prog 24 Tryz.f24 := ⟨Tryz.func24⟩
instance : CallOk Tryz.prog 25 := ⟨Tryz.call25⟩
instance : FnIs Tryz.prog 25 Tryz.f25 := ⟨Tryz.func25⟩
instance : CallOk Tryz.prog 27 := ⟨Tryz.call27⟩
instance : FnIs Tryz.prog 27 Tryz.f27 := ⟨Tryz.func27⟩
instance : CallOk Tryz.prog 28 := ⟨Tryz.call28⟩
instance : FnIs Tryz.prog 28 Tryz.f28 := ⟨Tryz.func28⟩
instance : CallOk Tryz.prog 29 := ⟨Tryz.call29⟩
instance : FnIs Tryz.prog 29 Tryz.f29 := ⟨Tryz.func29⟩
instance : CallOk Tryz.prog 30 := ⟨Tryz.call30⟩
instance : FnIs Tryz.prog 30 Tryz.f30 := ⟨Tryz.func30⟩
instance : CallOk Tryz.prog 31 := ⟨Tryz.call31⟩
instance : FnIs Tryz.prog 31 Tryz.f31 := ⟨Tryz.func31⟩
instance : CallOk Tryz.prog 32 := ⟨Tryz.call32⟩
instance : FnIs Tryz.prog 32 Tryz.f32 := ⟨Tryz.func32⟩
instance : CallOk Tryz.prog 33 := ⟨Tryz.call33⟩
instance : CallOk Tryz.prog 34 := ⟨Tryz.call34⟩
instance : FnIs Tryz.prog 34 Tryz.f34 := ⟨Tryz.func34⟩
instance : CallOk Tryz.prog 35 := ⟨Tryz.call35⟩
instance : CallOk Tryz.prog 36 := ⟨Tryz.call36⟩
instance : FnIs Tryz.prog 36 Tryz.f36 := ⟨Tryz.func36⟩
instance : CallOk Tryz.prog 43 := ⟨Tryz.call43⟩
instance : FnIs Tryz.prog 43 Tryz.f43 := ⟨Tryz.func43⟩
instance : CallOk Tryz.prog 44 := ⟨Tryz.call44⟩
instance : FnIs Tryz.prog 44 Tryz.f44 := ⟨Tryz.func44⟩
instance : CallOk Tryz.prog 45 := ⟨Tryz.call45⟩
instance : FnIs Tryz.prog 45 Tryz.f45 := ⟨Tryz.func45⟩
instance : CallOk Tryz.prog 46 := ⟨Tryz.call46⟩
instance : FnIs Tryz.prog 46 Tryz.f46 := ⟨Tryz.func46⟩
instance : CallOk Tryz.prog 47 := ⟨Tryz.call47⟩
instance : FnIs Tryz.prog 47 Tryz.f47 := ⟨Tryz.func47⟩
instance : CallOk Tryz.prog 48 := ⟨Tryz.call48⟩
instance : FnIs Tryz.prog 48 Tryz.f48 := ⟨Tryz.func48⟩
instance : CallOk Tryz.prog 49 := ⟨Tryz.call49⟩
instance : FnIs Tryz.prog 49 Tryz.f49 := ⟨Tryz.func49⟩
instance : CallOk Tryz.prog 50 := ⟨Tryz.call50⟩
instance : FnIs Tryz.prog 50 Tryz.f50 := ⟨Tryz.func50⟩
instance : CallOk Tryz.prog 51 := ⟨Tryz.call51⟩
instance : FnIs Tryz.prog 51 Tryz.f51 := ⟨Tryz.func51⟩
instance : CallOk Tryz.prog 52 := ⟨Tryz.call52⟩
instance : FnIs Tryz.prog 52 Tryz.f52 := ⟨Tryz.func52⟩
instance : CallOk Tryz.prog 53 := ⟨Tryz.call53⟩
instance : FnIs Tryz.prog 53 Tryz.f53 := ⟨Tryz.func53⟩
instance : CallOk Tryz.prog 54 := ⟨Tryz.call54⟩
instance : FnIs Tryz.prog 54 Tryz.f54 := ⟨Tryz.func54⟩
instance : CallOk Tryz.prog 55 := ⟨Tryz.call55⟩
instance : FnIs Tryz.prog 55 Tryz.f55 := ⟨Tryz.func55⟩
instance : CallOk Tryz.prog 56 := ⟨Tryz.call56⟩
instance : FnIs Tryz.prog 56 Tryz.f56 := ⟨Tryz.func56⟩
instance : CallOk Tryz.prog 57 := ⟨Tryz.call57⟩
instance : FnIs Tryz.prog 57 Tryz.f57 := ⟨Tryz.func57⟩
instance : CallOk Tryz.prog 58 := ⟨Tryz.call58⟩
instance : FnIs Tryz.prog 58 Tryz.f58 := ⟨Tryz.func58⟩
instance : CallOk Tryz.prog 59 := ⟨Tryz.call59⟩
instance : FnIs Tryz.prog 59 Tryz.f59 := ⟨Tryz.func59⟩
instance : CallOk Tryz.prog 60 := ⟨Tryz.call60⟩
instance : FnIs Tryz.prog 60 Tryz.f60 := ⟨Tryz.func60⟩
instance : CallOk Tryz.prog 61 := ⟨Tryz.call61⟩
instance : FnIs Tryz.prog 61 Tryz.f61 := ⟨Tryz.func61⟩
instance : CallOk Tryz.prog 62 := ⟨Tryz.call62⟩
instance : FnIs Tryz.prog 62 Tryz.f62 := ⟨Tryz.func62⟩
instance : CallOk Tryz.prog 63 := ⟨Tryz.call63⟩
instance : FnIs Tryz.prog 63 Tryz.f63 := ⟨Tryz.func63⟩
instance : CallOk Tryz.prog 64 := ⟨Tryz.call64⟩
instance : FnIs Tryz.prog 64 Tryz.f64 := ⟨Tryz.func64⟩
instance : CallOk Tryz.prog 65 := ⟨Tryz.call65⟩
instance : FnIs Tryz.prog 65 Tryz.f65 := ⟨Tryz.func65⟩
instance : CallOk Tryz.prog 66 := ⟨Tryz.call66⟩
instance : FnIs Tryz.prog 66 Tryz.f66 := ⟨Tryz.func66⟩
instance : CallOk Tryz.prog 67 := ⟨Tryz.call67⟩
instance : FnIs Tryz.prog 67 Tryz.f67 := ⟨Tryz.func67⟩
instance : CallOk Tryz.prog 68 := ⟨Tryz.call68⟩
instance : FnIs Tryz.prog 68 Tryz.f68 := ⟨Tryz.func68⟩
instance : CallOk Tryz.prog 69 := ⟨Tryz.call69⟩
instance : CallOk Tryz.prog 70 := ⟨Tryz.call70⟩
instance : FnIs Tryz.prog 70 Tryz.f70 := ⟨Tryz.func70⟩
instance : CallOk Tryz.prog 71 := ⟨Tryz.call71⟩
instance : FnIs Tryz.prog 71 Tryz.f71 := ⟨Tryz.func71⟩
instance : CallOk Tryz.prog 72 := ⟨Tryz.call72⟩
instance : FnIs Tryz.prog 72 Tryz.f72 := ⟨Tryz.func72⟩
instance : CallOk Tryz.prog 73 := ⟨Tryz.call73⟩
instance : FnIs Tryz.prog 73 Tryz.f73 := ⟨Tryz.func73⟩
instance : CallOk Tryz.prog 74 := ⟨Tryz.call74⟩
instance : FnIs Tryz.prog 74 Tryz.f74 := ⟨Tryz.func74⟩
instance : CallOk Tryz.prog 75 := ⟨Tryz.call75⟩
instance : FnIs Tryz.prog 75 Tryz.f75 := ⟨Tryz.func75⟩
instance : CallOk Tryz.prog 76 := ⟨Tryz.call76⟩
instance : FnIs Tryz.prog 76 Tryz.f76 := ⟨Tryz.func76⟩
instance : CallOk Tryz.prog 77 := ⟨Tryz.call77⟩
instance : FnIs Tryz.prog 77 Tryz.f77 := ⟨Tryz.func77⟩
instance : CallOk Tryz.prog 78 := ⟨Tryz.call78⟩
instance : FnIs Tryz.prog 78 Tryz.f78 := ⟨Tryz.func78⟩
instance : CallOk Tryz.prog 79 := ⟨Tryz.call79⟩
instance : FnIs Tryz.prog 79 Tryz.f79 := ⟨Tryz.func79⟩
instance : CallOk Tryz.prog 90 := ⟨Tryz.call90⟩
instance : CallOk Tryz.prog 98 := ⟨Tryz.call98⟩
instance : FnIs Tryz.prog 98 Tryz.f98 := ⟨Tryz.func98⟩
instance : CallOk Tryz.prog 99 := ⟨Tryz.call99⟩
instance : FnIs Tryz.prog 99 Tryz.f99 := ⟨Tryz.func99⟩
instance : CallOk Tryz.prog 100 := ⟨Tryz.call100⟩
instance : FnIs Tryz.prog 100 Tryz.f100 := ⟨Tryz.func100⟩
instance : CallOk Tryz.prog 101 := ⟨Tryz.call101⟩
instance : FnIs Tryz.prog 101 Tryz.f101 := ⟨Tryz.func101⟩
instance : CallOk Tryz.prog 102 := ⟨Tryz.call102⟩
instance : FnIs Tryz.prog 102 Tryz.f102 := ⟨Tryz.func102⟩
instance : CallOk Tryz.prog 103 := ⟨Tryz.call103⟩
instance : FnIs Tryz.prog 103 Tryz.f103 := ⟨Tryz.func103⟩
instance : CallOk Tryz.prog 104 := ⟨Tryz.call104⟩
instance : FnIs Tryz.prog 104 Tryz.f104 := ⟨Tryz.func104⟩
instance : CallOk Tryz.prog 105 := ⟨Tryz.call105⟩
instance : FnIs Tryz.prog 105 Tryz.f105 := ⟨Tryz.func105⟩
instance : CallOk Tryz.prog 106 := ⟨Tryz.call106⟩
instance : FnIs Tryz.prog 106 Tryz.f106 := ⟨Tryz.func106⟩
instance : CallOk Tryz.prog 107 := ⟨Tryz.call107⟩
instance : FnIs Tryz.prog 107 Tryz.f107 := ⟨Tryz.func107⟩
instance : CallOk Tryz.prog 108 := ⟨Tryz.call108⟩
instance : FnIs Tryz.prog 108 Tryz.f108 := ⟨Tryz.func108⟩
instance : CallOk Tryz.prog 109 := ⟨Tryz.call109⟩
instance : FnIs Tryz.prog 109 Tryz.f109 := ⟨Tryz.func109⟩
instance : CallOk Tryz.prog 110 := ⟨Tryz.call110⟩
instance : FnIs Tryz.prog 110 Tryz.f110 := ⟨Tryz.func110⟩
instance : CallOk Tryz.prog 111 := ⟨Tryz.call111⟩
instance : FnIs Tryz.prog 111 Tryz.f111 := ⟨Tryz.func111⟩
instance : CallOk Tryz.prog 112 := ⟨Tryz.call112⟩
instance : FnIs Tryz.prog 112 Tryz.f112 := ⟨Tryz.func112⟩
instance : CallOk Tryz.prog 113 := ⟨Tryz.call113⟩
instance : CallOk Tryz.prog 114 := ⟨Tryz.call114⟩
instance : FnIs Tryz.prog 114 Tryz.f114 := ⟨Tryz.func114⟩
instance : CallOk Tryz.prog 115 := ⟨Tryz.call115⟩
instance : FnIs Tryz.prog 115 Tryz.f115 := ⟨Tryz.func115⟩
instance : CallOk Tryz.prog 116 := ⟨Tryz.call116⟩
instance : FnIs Tryz.prog 116 Tryz.f116 := ⟨Tryz.func116⟩
instance : CallOk Tryz.prog 117 := ⟨Tryz.call117⟩
instance : FnIs Tryz.prog 117 Tryz.f117 := ⟨Tryz.func117⟩
instance : CallOk Tryz.prog 118 := ⟨Tryz.call118⟩
instance : FnIs Tryz.prog 118 Tryz.f118 := ⟨Tryz.func118⟩
instance : CallOk Tryz.prog 119 := ⟨Tryz.call119⟩
instance : FnIs Tryz.prog 119 Tryz.f119 := ⟨Tryz.func119⟩
instance : CallOk Tryz.prog 120 := ⟨Tryz.call120⟩
instance : FnIs Tryz.prog 120 Tryz.f120 := ⟨Tryz.func120⟩
instance : CallOk Tryz.prog 121 := ⟨Tryz.call121⟩
instance : FnIs Tryz.prog 121 Tryz.f121 := ⟨Tryz.func121⟩
instance : CallOk Tryz.prog 128 := ⟨Tryz.call128⟩
instance : FnIs Tryz.prog 128 Tryz.f128 := ⟨Tryz.func128⟩
instance : CallOk Tryz.prog 131 := ⟨Tryz.call131⟩
instance : FnIs Tryz.prog 131 Tryz.f131 := ⟨Tryz.func131⟩
instance : CallOk Tryz.prog 132 := ⟨Tryz.call132⟩
instance : FnIs Tryz.prog 132 Tryz.f132 := ⟨Tryz.func132⟩
instance : CallOk Tryz.prog 133 := ⟨Tryz.call133⟩
instance : FnIs Tryz.prog 133 Tryz.f133 := ⟨Tryz.func133⟩
instance : CallOk Tryz.prog 134 := ⟨Tryz.call134⟩
instance : FnIs Tryz.prog 134 Tryz.f134 := ⟨Tryz.func134⟩
instance : CallOk Tryz.prog 135 := ⟨Tryz.call135⟩
instance : FnIs Tryz.prog 135 Tryz.f135 := ⟨Tryz.func135⟩
instance : CallOk Tryz.prog 136 := ⟨Tryz.call136⟩
instance : FnIs Tryz.prog 136 Tryz.f136 := ⟨Tryz.func136⟩
instance : CallOk Tryz.prog 137 := ⟨Tryz.call137⟩
instance : FnIs Tryz.prog 137 Tryz.f137 := ⟨Tryz.func137⟩
instance : CallOk Tryz.prog 138 := ⟨Tryz.call138⟩
instance : FnIs Tryz.prog 138 Tryz.f138 := ⟨Tryz.func138⟩
instance : CallOk Tryz.prog 139 := ⟨Tryz.call139⟩
instance : FnIs Tryz.prog 139 Tryz.f139 := ⟨Tryz.func139⟩
instance : CallOk Tryz.prog 140 := ⟨Tryz.call140⟩
instance : FnIs Tryz.prog 140 Tryz.f140 := ⟨Tryz.func140⟩
instance : CallOk Tryz.prog 148 := ⟨Tryz.call148⟩
instance : FnIs Tryz.prog 148 Tryz.f148 := ⟨Tryz.func148⟩
instance : CallOk Tryz.prog 149 := ⟨Tryz.call149⟩
instance : FnIs Tryz.prog 149 Tryz.f149 := ⟨Tryz.func149⟩
instance : CallOk Tryz.prog 150 := ⟨Tryz.call150⟩
instance : FnIs Tryz.prog 150 Tryz.f150 := ⟨Tryz.func150⟩
instance : CallOk Tryz.prog 151 := ⟨Tryz.call151⟩
instance : FnIs Tryz.prog 151 Tryz.f151 := ⟨Tryz.func151⟩
instance : CallOk Tryz.prog 152 := ⟨Tryz.call152⟩
instance : FnIs Tryz.prog 152 Tryz.f152 := ⟨Tryz.func152⟩
instance : CallOk Tryz.prog 153 := ⟨Tryz.call153⟩
instance : FnIs Tryz.prog 153 Tryz.f153 := ⟨Tryz.func153⟩
instance : CallOk Tryz.prog 174 := ⟨Tryz.call174⟩
instance : FnIs Tryz.prog 174 Tryz.f174 := ⟨Tryz.func174⟩
instance : CallOk Tryz.prog 175 := ⟨Tryz.call175⟩
instance : FnIs Tryz.prog 175 Tryz.f175 := ⟨Tryz.func175⟩
instance : CallOk Tryz.prog 176 := ⟨Tryz.call176⟩
instance : FnIs Tryz.prog 176 Tryz.f176 := ⟨Tryz.func176⟩
instance : CallOk Tryz.prog 178 := ⟨Tryz.call178⟩
instance : CallOk Tryz.prog 179 := ⟨Tryz.call179⟩
instance : FnIs Tryz.prog 179 Tryz.f179 := ⟨Tryz.func179⟩
instance : CallOk Tryz.prog 180 := ⟨Tryz.call180⟩
instance : FnIs Tryz.prog 180 Tryz.f180 := ⟨Tryz.func180⟩
instance : CallOk Tryz.prog 181 := ⟨Tryz.call181⟩
instance : FnIs Tryz.prog 181 Tryz.f181 := ⟨Tryz.func181⟩
instance : CallOk Tryz.prog 182 := ⟨Tryz.call182⟩
instance : FnIs Tryz.prog 182 Tryz.f182 := ⟨Tryz.func182⟩
instance : CallOk Tryz.prog 183 := ⟨Tryz.call183⟩
instance : FnIs Tryz.prog 183 Tryz.f183 := ⟨Tryz.func183⟩
instance : CallOk Tryz.prog 184 := ⟨Tryz.call184⟩
instance : FnIs Tryz.prog 184 Tryz.f184 := ⟨Tryz.func184⟩
instance : CallOk Tryz.prog 185 := ⟨Tryz.call185⟩
instance : FnIs Tryz.prog 185 Tryz.f185 := ⟨Tryz.func185⟩
instance : CallOk Tryz.prog 186 := ⟨Tryz.call186⟩
instance : FnIs Tryz.prog 186 Tryz.f186 := ⟨Tryz.func186⟩
instance : CallOk Tryz.prog 187 := ⟨Tryz.call187⟩
instance : CallOk Tryz.prog 188 := ⟨Tryz.call188⟩
instance : FnIs Tryz.prog 188 Tryz.f188 := ⟨Tryz.func188⟩
instance : CallOk Tryz.prog 189 := ⟨Tryz.call189⟩
instance : FnIs Tryz.prog 189 Tryz.f189 := ⟨Tryz.func189⟩
instance : CallOk Tryz.prog 190 := ⟨Tryz.call190⟩
instance : FnIs Tryz.prog 190 Tryz.f190 := ⟨Tryz.func190⟩
instance : CallOk Tryz.prog 194 := ⟨Tryz.call194⟩
instance : FnIs Tryz.prog 194 Tryz.f194 := ⟨Tryz.func194⟩
instance : CallOk Tryz.prog 195 := ⟨Tryz.call195⟩
instance : FnIs Tryz.prog 195 Tryz.f195 := ⟨Tryz.func195⟩
instance : CallOk Tryz.prog 196 := ⟨Tryz.call196⟩
instance : FnIs Tryz.prog 196 Tryz.f196 := ⟨Tryz.func196⟩
instance : CallOk Tryz.prog 204 := ⟨Tryz.call204⟩
instance : CallOk Tryz.prog 208 := ⟨Tryz.call208⟩
instance : FnIs Tryz.prog 208 Tryz.f208 := ⟨Tryz.func208⟩
instance : CallOk Tryz.prog 209 := ⟨Tryz.call209⟩
instance : CallOk Tryz.prog 213 := ⟨Tryz.call213⟩
instance : FnIs Tryz.prog 213 Tryz.f213 := ⟨Tryz.func213⟩
instance : CallOk Tryz.prog 214 := ⟨Tryz.call214⟩
instance : FnIs Tryz.prog 214 Tryz.f214 := ⟨Tryz.func214⟩
instance : CallOk Tryz.prog 215 := ⟨Tryz.call215⟩
instance : FnIs Tryz.prog 215 Tryz.f215 := ⟨Tryz.func215⟩
instance : CallOk Tryz.prog 216 := ⟨Tryz.call216⟩
instance : FnIs Tryz.prog 216 Tryz.f216 := ⟨Tryz.func216⟩
instance : CallOk Tryz.prog 217 := ⟨Tryz.call217⟩
instance : FnIs Tryz.prog 217 Tryz.f217 := ⟨Tryz.func217⟩
instance : CallOk Tryz.prog 218 := ⟨Tryz.call218⟩
instance : FnIs Tryz.prog 218 Tryz.f218 := ⟨Tryz.func218⟩
instance : CallOk Tryz.prog 219 := ⟨Tryz.call219⟩
instance : FnIs Tryz.prog 219 Tryz.f219 := ⟨Tryz.func219⟩
instance : CallOk Tryz.prog 220 := ⟨Tryz.call220⟩
instance : FnIs Tryz.prog 220 Tryz.f220 := ⟨Tryz.func220⟩
instance : CallOk Tryz.prog 221 := ⟨Tryz.call221⟩
instance : FnIs Tryz.prog 221 Tryz.f221 := ⟨Tryz.func221⟩
instance : CallOk Tryz.prog 222 := ⟨Tryz.call222⟩
instance : FnIs Tryz.prog 222 Tryz.f222 := ⟨Tryz.func222⟩
instance : CallOk Tryz.prog 223 := ⟨Tryz.call223⟩
instance : FnIs Tryz.prog 223 Tryz.f223 := ⟨Tryz.func223⟩
instance : CallOk Tryz.prog 224 := ⟨Tryz.call224⟩
instance : FnIs Tryz.prog 224 Tryz.f224 := ⟨Tryz.func224⟩
instance : CallOk Tryz.prog 225 := ⟨Tryz.call225⟩
instance : FnIs Tryz.prog 225 Tryz.f225 := ⟨Tryz.func225⟩
instance : CallOk Tryz.prog 226 := ⟨Tryz.call226⟩
instance : FnIs Tryz.prog 226 Tryz.f226 := ⟨Tryz.func226⟩
instance : CallOk Tryz.prog 227 := ⟨Tryz.call227⟩
instance : FnIs Tryz.prog 227 Tryz.f227 := ⟨Tryz.func227⟩
instance : CallOk Tryz.prog 228 := ⟨Tryz.call228⟩
instance : FnIs Tryz.prog 228 Tryz.f228 := ⟨Tryz.func228⟩
instance : CallOk Tryz.prog 244 := ⟨Tryz.call244⟩
instance : FnIs Tryz.prog 244 Tryz.f244 := ⟨Tryz.func244⟩
instance : CallOk Tryz.prog 246 := ⟨Tryz.call246⟩
instance : FnIs Tryz.prog 246 Tryz.f246 := ⟨Tryz.func246⟩
instance : CallOk Tryz.prog 247 := ⟨Tryz.call247⟩
instance : FnIs Tryz.prog 247 Tryz.f247 := ⟨Tryz.func247⟩
instance : CallOk Tryz.prog 248 := ⟨Tryz.call248⟩
instance : FnIs Tryz.prog 248 Tryz.f248 := ⟨Tryz.func248⟩
instance : CallOk Tryz.prog 249 := ⟨Tryz.call249⟩
instance : FnIs Tryz.prog 249 Tryz.f249 := ⟨Tryz.func249⟩
instance : CallOk Tryz.prog 251 := ⟨Tryz.call251⟩
instance : FnIs Tryz.prog 251 Tryz.f251 := ⟨Tryz.func251⟩
instance : CallOk Tryz.prog 252 := ⟨Tryz.call252⟩
instance : FnIs Tryz.prog 252 Tryz.f252 := ⟨Tryz.func252⟩
instance : CallOk Tryz.prog 265 := ⟨Tryz.call265⟩
instance : FnIs Tryz.prog 265 Tryz.f265 := ⟨Tryz.func265⟩
instance : CallOk Tryz.prog 270 := ⟨Tryz.call270⟩
instance : FnIs Tryz.prog 270 Tryz.f270 := ⟨Tryz.func270⟩
instance : UTy Tryz.prog 3 (.int .i64) := ⟨Tryz.underlying3⟩
instance : ITy Tryz.prog 3 (Go.Value.int Go.IntKind.i64 0) 1 8 := ⟨by kernel_rfl⟩
instance : ATy Tryz.prog 3 false := ⟨by kernel_rfl⟩
instance : ITy Tryz.prog 4 (Go.Value.bool Bool.false) 1 1 := ⟨by kernel_rfl⟩
instance : ATy Tryz.prog 4 false := ⟨by kernel_rfl⟩
instance : UTy Tryz.prog 5 (.int .u8) := ⟨Tryz.underlying5⟩
instance : ITy Tryz.prog 5 (Go.Value.int Go.IntKind.u8 0) 1 1 := ⟨by kernel_rfl⟩
instance : ATy Tryz.prog 5 false := ⟨by kernel_rfl⟩
instance : UTy Tryz.prog 9 .string := ⟨Tryz.underlying9⟩
instance : ITy Tryz.prog 9 (Go.Value.string (ByteArray.mk #[])) 1 16 := ⟨by kernel_rfl⟩
instance : ATy Tryz.prog 9 false := ⟨by kernel_rfl⟩
instance : UTy Tryz.prog 23 (.slice 82) := ⟨Tryz.underlying23⟩
instance : UTy Tryz.prog 24 (.array 3 3) := ⟨Tryz.underlying24⟩
instance : ITy Tryz.prog 24 (Go.Value.agg #[(Go.Value.int Go.IntKind.i64 0), (Go.Value.int Go.IntKind.i64 0), (Go.Value.int Go.IntKind.i64 0)]) 3 24 := ⟨by kernel_rfl⟩
instance : UTy Tryz.prog 25 (.slice 3) := ⟨Tryz.underlying25⟩
instance : ITy Tryz.prog 25 (Go.Value.slice none 0 0) 1 24 := ⟨by kernel_rfl⟩
instance : ATy Tryz.prog 25 false := ⟨by kernel_rfl⟩
instance : UTy Tryz.prog 27 (.slice 36) := ⟨Tryz.underlying27⟩
instance : ITy Tryz.prog 27 (Go.Value.slice none 0 0) 1 24 := ⟨by kernel_rfl⟩
instance : ATy Tryz.prog 27 false := ⟨by kernel_rfl⟩
instance : ITy Tryz.prog 36 (Go.Value.agg #[(Go.Value.int Go.IntKind.i64 0), (Go.Value.int Go.IntKind.i64 0), (Go.Value.int Go.IntKind.i64 0), (Go.Value.int Go.IntKind.i64 0), (Go.Value.bool Bool.false), (Go.Value.int Go.IntKind.i64 0), (Go.Value.int Go.IntKind.i64 0), (Go.Value.int Go.IntKind.i64 0), (Go.Value.int Go.IntKind.i64 0), (Go.Value.int Go.IntKind.i64 0), (Go.Value.int Go.IntKind.i64 0), (Go.Value.int Go.IntKind.i64 0), (Go.Value.bool Bool.false), (Go.Value.int Go.IntKind.i64 0), (Go.Value.string (ByteArray.mk #[]))]) 15 128 := ⟨by kernel_rfl⟩
instance : ATy Tryz.prog 36 true := ⟨by kernel_rfl⟩
instance : FTy Tryz.prog 36 0 0 3 := ⟨by kernel_rfl⟩
instance : FTy Tryz.prog 36 1 1 3 := ⟨by kernel_rfl⟩
instance : FTy Tryz.prog 36 2 2 3 := ⟨by kernel_rfl⟩
instance : FTy Tryz.prog 36 3 3 3 := ⟨by kernel_rfl⟩
instance : FTy Tryz.prog 36 4 4 4 := ⟨by kernel_rfl⟩
instance : FTy Tryz.prog 36 5 5 3 := ⟨by kernel_rfl⟩
instance : FTy Tryz.prog 36 6 6 3 := ⟨by kernel_rfl⟩
instance : FTy Tryz.prog 36 7 7 3 := ⟨by kernel_rfl⟩
instance : FTy Tryz.prog 36 8 8 3 := ⟨by kernel_rfl⟩
instance : FTy Tryz.prog 36 9 9 3 := ⟨by kernel_rfl⟩
instance : FTy Tryz.prog 36 10 10 3 := ⟨by kernel_rfl⟩
instance : FTy Tryz.prog 36 11 11 3 := ⟨by kernel_rfl⟩
instance : FTy Tryz.prog 36 12 12 4 := ⟨by kernel_rfl⟩
instance : FTy Tryz.prog 36 13 13 3 := ⟨by kernel_rfl⟩
instance : FTy Tryz.prog 36 14 14 9 := ⟨by kernel_rfl⟩
instance : ITy Tryz.prog 38 (Go.Value.agg #[(Go.Value.slice none 0 0), (Go.Value.slice none 0 0), (Go.Value.slice none 0 0), (Go.Value.slice none 0 0), (Go.Value.slice none 0 0), (Go.Value.slice none 0 0), (Go.Value.slice none 0 0), (Go.Value.slice none 0 0)]) 8 192 := ⟨by kernel_rfl⟩
instance : ATy Tryz.prog 38 true := ⟨by kernel_rfl⟩
instance : FTy Tryz.prog 38 0 0 27 := ⟨by kernel_rfl⟩
instance : FTy Tryz.prog 38 1 1 27 := ⟨by kernel_rfl⟩
instance : FTy Tryz.prog 38 2 2 27 := ⟨by kernel_rfl⟩
instance : FTy Tryz.prog 38 3 3 27 := ⟨by kernel_rfl⟩
instance : FTy Tryz.prog 38 4 4 27 := ⟨by kernel_rfl⟩
instance : FTy Tryz.prog 38 5 5 27 := ⟨by kernel_rfl⟩
instance : FTy Tryz.prog 38 6 6 27 := ⟨by kernel_rfl⟩
instance : FTy Tryz.prog 38 7 7 27 := ⟨by kernel_rfl⟩
instance : UTy Tryz.prog 46 (.slice 48) := ⟨Tryz.underlying46⟩
instance : ITy Tryz.prog 46 (Go.Value.slice none 0 0) 1 24 := ⟨by kernel_rfl⟩
instance : ATy Tryz.prog 46 false := ⟨by kernel_rfl⟩
instance : UTy Tryz.prog 47 (.slice 24) := ⟨Tryz.underlying47⟩
instance : ITy Tryz.prog 47 (Go.Value.slice none 0 0) 1 24 := ⟨by kernel_rfl⟩
instance : ATy Tryz.prog 47 false := ⟨by kernel_rfl⟩
instance : UTy Tryz.prog 48 (.array 2 3) := ⟨Tryz.underlying48⟩
instance : ITy Tryz.prog 48 (Go.Value.agg #[(Go.Value.int Go.IntKind.i64 0), (Go.Value.int Go.IntKind.i64 0)]) 2 16 := ⟨by kernel_rfl⟩
instance : ATy Tryz.prog 48 true := ⟨by kernel_rfl⟩
instance : ITy Tryz.prog 50 (Go.Value.agg #[(Go.Value.slice none 0 0), (Go.Value.slice none 0 0), (Go.Value.int Go.IntKind.i64 0), (Go.Value.int Go.IntKind.i64 0)]) 4 64 := ⟨by kernel_rfl⟩
instance : ATy Tryz.prog 50 true := ⟨by kernel_rfl⟩
instance : FTy Tryz.prog 50 0 0 46 := ⟨by kernel_rfl⟩
instance : FTy Tryz.prog 50 1 1 47 := ⟨by kernel_rfl⟩
instance : FTy Tryz.prog 50 2 2 48 := ⟨by kernel_rfl⟩
instance : UTy Tryz.prog 51 (.slice 66) := ⟨Tryz.underlying51⟩
instance : ITy Tryz.prog 51 (Go.Value.slice none 0 0) 1 24 := ⟨by kernel_rfl⟩
instance : ATy Tryz.prog 51 false := ⟨by kernel_rfl⟩
instance : UTy Tryz.prog 52 (.slice 72) := ⟨Tryz.underlying52⟩
instance : ITy Tryz.prog 52 (Go.Value.slice none 0 0) 1 24 := ⟨by kernel_rfl⟩
instance : ATy Tryz.prog 52 false := ⟨by kernel_rfl⟩
instance : ITy Tryz.prog 54 (Go.Value.agg #[(Go.Value.slice none 0 0), (Go.Value.slice none 0 0), (Go.Value.int Go.IntKind.i64 0), (Go.Value.string (ByteArray.mk #[]))]) 4 72 := ⟨by kernel_rfl⟩
instance : ATy Tryz.prog 54 true := ⟨by kernel_rfl⟩
instance : FTy Tryz.prog 54 0 0 51 := ⟨by kernel_rfl⟩
instance : FTy Tryz.prog 54 1 1 52 := ⟨by kernel_rfl⟩
instance : FTy Tryz.prog 54 2 2 3 := ⟨by kernel_rfl⟩
instance : FTy Tryz.prog 54 3 3 9 := ⟨by kernel_rfl⟩
instance : UTy Tryz.prog 56 (.slice 68) := ⟨Tryz.underlying56⟩
instance : ATy Tryz.prog 56 false := ⟨by kernel_rfl⟩
instance : ITy Tryz.prog 57 (Go.Value.int Go.IntKind.i64 0) 1 8 := ⟨by kernel_rfl⟩
instance : ATy Tryz.prog 57 false := ⟨by kernel_rfl⟩
instance : ITy Tryz.prog 66 (Go.Value.agg #[(Go.Value.string (ByteArray.mk #[])), (Go.Value.int Go.IntKind.i64 0)]) 2 24 := ⟨by kernel_rfl⟩
instance : ATy Tryz.prog 66 true := ⟨by kernel_rfl⟩
instance : FTy Tryz.prog 66 0 0 9 := ⟨by kernel_rfl⟩
instance : FTy Tryz.prog 66 1 1 3 := ⟨by kernel_rfl⟩
instance : ITy Tryz.prog 68 (Go.Value.agg #[(Go.Value.bool Bool.false), (Go.Value.string (ByteArray.mk #[])), (Go.Value.int Go.IntKind.i64 0), (Go.Value.string (ByteArray.mk #[])), (Go.Value.string (ByteArray.mk #[]))]) 5 64 := ⟨by kernel_rfl⟩
instance : ATy Tryz.prog 68 true := ⟨by kernel_rfl⟩
instance : FTy Tryz.prog 68 0 0 4 := ⟨by kernel_rfl⟩
instance : FTy Tryz.prog 68 1 1 66 := ⟨by kernel_rfl⟩
instance : FTy Tryz.prog 68 2 3 9 := ⟨by kernel_rfl⟩
instance : ITy Tryz.prog 72 (Go.Value.agg #[(Go.Value.int Go.IntKind.i64 0), (Go.Value.int Go.IntKind.i64 0), (Go.Value.bool Bool.false), (Go.Value.int Go.IntKind.i64 0), (Go.Value.int Go.IntKind.i64 0), (Go.Value.int Go.IntKind.i64 0)]) 6 48 := ⟨by kernel_rfl⟩
instance : ATy Tryz.prog 72 true := ⟨by kernel_rfl⟩
instance : FTy Tryz.prog 72 0 0 3 := ⟨by kernel_rfl⟩
instance : FTy Tryz.prog 72 1 1 3 := ⟨by kernel_rfl⟩
instance : FTy Tryz.prog 72 2 2 4 := ⟨by kernel_rfl⟩
instance : FTy Tryz.prog 72 3 3 3 := ⟨by kernel_rfl⟩
instance : FTy Tryz.prog 72 4 4 3 := ⟨by kernel_rfl⟩
instance : FTy Tryz.prog 72 5 5 3 := ⟨by kernel_rfl⟩
instance : ITy Tryz.prog 79 (Go.Value.agg #[(Go.Value.int Go.IntKind.i64 0), (Go.Value.int Go.IntKind.i64 0)]) 2 16 := ⟨by kernel_rfl⟩
instance : ATy Tryz.prog 79 true := ⟨by kernel_rfl⟩
instance : FTy Tryz.prog 79 0 0 3 := ⟨by kernel_rfl⟩
instance : FTy Tryz.prog 79 1 1 3 := ⟨by kernel_rfl⟩
instance : UTy Tryz.prog 80 (.slice 79) := ⟨Tryz.underlying80⟩
instance : UTy Tryz.prog 82 (.array 6 3) := ⟨Tryz.underlying82⟩
instance : ITy Tryz.prog 82 (Go.Value.agg #[(Go.Value.int Go.IntKind.i64 0), (Go.Value.int Go.IntKind.i64 0), (Go.Value.int Go.IntKind.i64 0), (Go.Value.int Go.IntKind.i64 0), (Go.Value.int Go.IntKind.i64 0), (Go.Value.int Go.IntKind.i64 0)]) 6 48 := ⟨by kernel_rfl⟩
instance : ATy Tryz.prog 82 true := ⟨by kernel_rfl⟩
instance : UTy Tryz.prog 87 (.map 9 36) := ⟨Tryz.underlying87⟩
instance : ITy Tryz.prog 89 (Go.Value.pointer none) 1 8 := ⟨by kernel_rfl⟩
instance : ATy Tryz.prog 89 false := ⟨by kernel_rfl⟩
instance : ATy Tryz.prog 93 false := ⟨by kernel_rfl⟩
instance : UTy Tryz.prog 109 (.slice 9) := ⟨Tryz.underlying109⟩
instance : ITy Tryz.prog 109 (Go.Value.slice none 0 0) 1 24 := ⟨by kernel_rfl⟩
instance : ATy Tryz.prog 109 false := ⟨by kernel_rfl⟩
instance : ATy Tryz.prog 114 false := ⟨by kernel_rfl⟩
instance : ITy Tryz.prog 115 (Go.Value.agg #[(Go.Value.bool Bool.false), (Go.Value.string (ByteArray.mk #[])), (Go.Value.int Go.IntKind.i64 0), (Go.Value.string (ByteArray.mk #[])), (Go.Value.string (ByteArray.mk #[]))]) 5 64 := ⟨by kernel_rfl⟩
instance : ATy Tryz.prog 115 true := ⟨by kernel_rfl⟩
instance : FTy Tryz.prog 115 0 0 4 := ⟨by kernel_rfl⟩
instance : FTy Tryz.prog 115 1 1 66 := ⟨by kernel_rfl⟩
instance : FTy Tryz.prog 115 2 3 9 := ⟨by kernel_rfl⟩
instance : FTy Tryz.prog 115 3 4 9 := ⟨by kernel_rfl⟩
instance : ATy Tryz.prog 116 false := ⟨by kernel_rfl⟩
instance : ITy Tryz.prog 126 Go.Value.nilFunc 1 8 := ⟨by kernel_rfl⟩
instance : ATy Tryz.prog 126 false := ⟨by kernel_rfl⟩
instance : ITy Tryz.prog 128 (Go.Value.agg #[(Go.Value.int Go.IntKind.i64 0), (Go.Value.int Go.IntKind.i64 0), (Go.Value.int Go.IntKind.i64 0)]) 3 24 := ⟨by kernel_rfl⟩
instance : ATy Tryz.prog 128 true := ⟨by kernel_rfl⟩
instance : FTy Tryz.prog 128 0 0 3 := ⟨by kernel_rfl⟩
instance : FTy Tryz.prog 128 1 1 3 := ⟨by kernel_rfl⟩
instance : FTy Tryz.prog 128 2 2 3 := ⟨by kernel_rfl⟩
instance : UTy Tryz.prog 129 (.map 3 4) := ⟨Tryz.underlying129⟩
instance : ATy Tryz.prog 135 false := ⟨by kernel_rfl⟩
instance : ATy Tryz.prog 138 false := ⟨by kernel_rfl⟩
instance : ITy Tryz.prog 140 (Go.Value.agg #[(Go.Value.slice none 0 0), (Go.Value.slice none 0 0), (Go.Value.int Go.IntKind.i64 0), (Go.Value.string (ByteArray.mk #[]))]) 4 72 := ⟨by kernel_rfl⟩
instance : ATy Tryz.prog 140 true := ⟨by kernel_rfl⟩
instance : FTy Tryz.prog 140 0 0 54 := ⟨by kernel_rfl⟩
instance : ITy Tryz.prog 142 Go.Value.nilFunc 1 8 := ⟨by kernel_rfl⟩
instance : UTy Tryz.prog 144 (.map 3 142) := ⟨Tryz.underlying144⟩
instance : UTy Tryz.prog 147 (.pointer 150) := ⟨Tryz.underlying147⟩
instance : ITy Tryz.prog 147 (Go.Value.pointer none) 1 8 := ⟨by kernel_rfl⟩
instance : ATy Tryz.prog 147 false := ⟨by kernel_rfl⟩
instance : UTy Tryz.prog 148 (.slice 5) := ⟨Tryz.underlying148⟩
instance : ITy Tryz.prog 148 (Go.Value.slice none 0 0) 1 24 := ⟨by kernel_rfl⟩
instance : ATy Tryz.prog 148 false := ⟨by kernel_rfl⟩
instance : ITy Tryz.prog 150 (Go.Value.agg #[(Go.Value.pointer none), (Go.Value.slice none 0 0)]) 2 32 := ⟨by kernel_rfl⟩
instance : FTy Tryz.prog 150 0 0 147 := ⟨by kernel_rfl⟩
instance : FTy Tryz.prog 150 1 1 148 := ⟨by kernel_rfl⟩
instance : FTy Tryz.prog 152 0 0 150 := ⟨by kernel_rfl⟩
instance : UTy Tryz.prog 158 (.slice 215) := ⟨Tryz.underlying158⟩
instance : ITy Tryz.prog 158 (Go.Value.slice none 0 0) 1 24 := ⟨by kernel_rfl⟩
instance : ATy Tryz.prog 158 false := ⟨by kernel_rfl⟩
instance : ITy Tryz.prog 160 (Go.Value.agg #[(Go.Value.bool Bool.false), (Go.Value.slice none 0 0), (Go.Value.int Go.IntKind.i64 0), (Go.Value.int Go.IntKind.i64 0), (Go.Value.string (ByteArray.mk #[]))]) 5 64 := ⟨by kernel_rfl⟩
instance : ATy Tryz.prog 160 true := ⟨by kernel_rfl⟩
instance : FTy Tryz.prog 160 0 0 4 := ⟨by kernel_rfl⟩
instance : FTy Tryz.prog 160 1 1 158 := ⟨by kernel_rfl⟩
instance : ITy Tryz.prog 162 Go.Value.nilFunc 1 8 := ⟨by kernel_rfl⟩
instance : ATy Tryz.prog 162 false := ⟨by kernel_rfl⟩
instance : ITy Tryz.prog 163 Go.Value.nilFunc 1 8 := ⟨by kernel_rfl⟩
instance : ATy Tryz.prog 163 false := ⟨by kernel_rfl⟩
instance : ITy Tryz.prog 165 (Go.Value.agg #[(Go.Value.slice none 0 0), Go.Value.nilFunc, Go.Value.nilFunc]) 3 40 := ⟨by kernel_rfl⟩
instance : FTy Tryz.prog 165 0 0 25 := ⟨by kernel_rfl⟩
instance : FTy Tryz.prog 165 1 1 162 := ⟨by kernel_rfl⟩
instance : FTy Tryz.prog 165 2 2 163 := ⟨by kernel_rfl⟩
instance : UTy Tryz.prog 166 (.array 7 165) := ⟨Tryz.underlying166⟩
instance : ITy Tryz.prog 166 (Go.Value.agg #[(Go.Value.slice none 0 0), Go.Value.nilFunc, Go.Value.nilFunc, (Go.Value.slice none 0 0), Go.Value.nilFunc, Go.Value.nilFunc, (Go.Value.slice none 0 0), Go.Value.nilFunc, Go.Value.nilFunc, (Go.Value.slice none 0 0), Go.Value.nilFunc, Go.Value.nilFunc, (Go.Value.slice none 0 0), Go.Value.nilFunc, Go.Value.nilFunc, (Go.Value.slice none 0 0), Go.Value.nilFunc, Go.Value.nilFunc, (Go.Value.slice none 0 0), Go.Value.nilFunc, Go.Value.nilFunc]) 21 280 := ⟨by kernel_rfl⟩
instance : ATy Tryz.prog 166 true := ⟨by kernel_rfl⟩
instance : UTy Tryz.prog 173 (.array 9 89) := ⟨Tryz.underlying173⟩
instance : UTy Tryz.prog 176 (.int .u64) := ⟨Tryz.underlying176⟩
instance : ATy Tryz.prog 190 false := ⟨by kernel_rfl⟩
instance : ATy Tryz.prog 193 false := ⟨by kernel_rfl⟩
instance : UTy Tryz.prog 208 (.pointer 5) := ⟨Tryz.underlying208⟩
instance : FTy Tryz.prog 213 0 0 9 := ⟨by kernel_rfl⟩
instance : FTy Tryz.prog 213 1 1 3 := ⟨by kernel_rfl⟩
instance : ITy Tryz.prog 215 (Go.Value.agg #[(Go.Value.string (ByteArray.mk #[])), (Go.Value.slice none 0 0)]) 2 40 := ⟨by kernel_rfl⟩
instance : ATy Tryz.prog 215 true := ⟨by kernel_rfl⟩
instance : FTy Tryz.prog 215 0 0 9 := ⟨by kernel_rfl⟩
instance : FTy Tryz.prog 215 1 1 25 := ⟨by kernel_rfl⟩
instance : ATy Tryz.prog 218 false := ⟨by kernel_rfl⟩
instance : UTy Tryz.prog 222 (.slice 225) := ⟨Tryz.underlying222⟩
instance : ITy Tryz.prog 222 (Go.Value.slice none 0 0) 1 24 := ⟨by kernel_rfl⟩
instance : ATy Tryz.prog 222 false := ⟨by kernel_rfl⟩
instance : ITy Tryz.prog 223 Go.Value.nilFunc 1 8 := ⟨by kernel_rfl⟩
instance : ATy Tryz.prog 223 false := ⟨by kernel_rfl⟩
instance : ITy Tryz.prog 225 (Go.Value.agg #[Go.Value.nilFunc, (Go.Value.int Go.IntKind.i64 0), (Go.Value.int Go.IntKind.i64 0)]) 3 24 := ⟨by kernel_rfl⟩
instance : ATy Tryz.prog 225 true := ⟨by kernel_rfl⟩
instance : FTy Tryz.prog 225 0 0 223 := ⟨by kernel_rfl⟩
instance : FTy Tryz.prog 225 1 1 3 := ⟨by kernel_rfl⟩
instance : FTy Tryz.prog 225 2 2 3 := ⟨by kernel_rfl⟩
instance : ITy Tryz.prog 227 (Go.Value.agg #[(Go.Value.slice none 0 0), Go.Value.nilFunc, (Go.Value.int Go.IntKind.i64 0), (Go.Value.int Go.IntKind.i64 0), Go.Value.nilFunc]) 5 56 := ⟨by kernel_rfl⟩
instance : ATy Tryz.prog 227 true := ⟨by kernel_rfl⟩
instance : FTy Tryz.prog 227 0 0 222 := ⟨by kernel_rfl⟩
instance : FTy Tryz.prog 227 1 1 225 := ⟨by kernel_rfl⟩
instance : FTy Tryz.prog 227 2 4 126 := ⟨by kernel_rfl⟩
instance : ITy Tryz.prog 232 (Go.Value.agg #[(Go.Value.pointer none), (Go.Value.slice none 0 0)]) 2 32 := ⟨by kernel_rfl⟩
instance : FTy Tryz.prog 232 0 0 150 := ⟨by kernel_rfl⟩
instance : UTy Tryz.prog 242 (.int .u32) := ⟨Tryz.underlying242⟩
instance : ITy Tryz.prog 242 (Go.Value.int Go.IntKind.u32 0) 1 4 := ⟨by kernel_rfl⟩
instance : ATy Tryz.prog 242 false := ⟨by kernel_rfl⟩
instance : UTy Tryz.prog 244 (.int .u64) := ⟨Tryz.underlying244⟩
instance : ITy Tryz.prog 244 (Go.Value.int Go.IntKind.u64 0) 1 8 := ⟨by kernel_rfl⟩
instance : ATy Tryz.prog 244 false := ⟨by kernel_rfl⟩
instance : UTy Tryz.prog 255 (.array 8 242) := ⟨Tryz.underlying255⟩
instance : ITy Tryz.prog 255 (Go.Value.agg #[(Go.Value.int Go.IntKind.u32 0), (Go.Value.int Go.IntKind.u32 0), (Go.Value.int Go.IntKind.u32 0), (Go.Value.int Go.IntKind.u32 0), (Go.Value.int Go.IntKind.u32 0), (Go.Value.int Go.IntKind.u32 0), (Go.Value.int Go.IntKind.u32 0), (Go.Value.int Go.IntKind.u32 0)]) 8 32 := ⟨by kernel_rfl⟩
instance : ATy Tryz.prog 255 true := ⟨by kernel_rfl⟩
instance : UTy Tryz.prog 308 (.array 64 242) := ⟨Tryz.underlying308⟩
instance : ITy Tryz.prog 308 (Go.Value.agg #[(Go.Value.int Go.IntKind.u32 0), (Go.Value.int Go.IntKind.u32 0), (Go.Value.int Go.IntKind.u32 0), (Go.Value.int Go.IntKind.u32 0), (Go.Value.int Go.IntKind.u32 0), (Go.Value.int Go.IntKind.u32 0), (Go.Value.int Go.IntKind.u32 0), (Go.Value.int Go.IntKind.u32 0), (Go.Value.int Go.IntKind.u32 0), (Go.Value.int Go.IntKind.u32 0), (Go.Value.int Go.IntKind.u32 0), (Go.Value.int Go.IntKind.u32 0), (Go.Value.int Go.IntKind.u32 0), (Go.Value.int Go.IntKind.u32 0), (Go.Value.int Go.IntKind.u32 0), (Go.Value.int Go.IntKind.u32 0), (Go.Value.int Go.IntKind.u32 0), (Go.Value.int Go.IntKind.u32 0), (Go.Value.int Go.IntKind.u32 0), (Go.Value.int Go.IntKind.u32 0), (Go.Value.int Go.IntKind.u32 0), (Go.Value.int Go.IntKind.u32 0), (Go.Value.int Go.IntKind.u32 0), (Go.Value.int Go.IntKind.u32 0), (Go.Value.int Go.IntKind.u32 0), (Go.Value.int Go.IntKind.u32 0), (Go.Value.int Go.IntKind.u32 0), (Go.Value.int Go.IntKind.u32 0), (Go.Value.int Go.IntKind.u32 0), (Go.Value.int Go.IntKind.u32 0), (Go.Value.int Go.IntKind.u32 0), (Go.Value.int Go.IntKind.u32 0), (Go.Value.int Go.IntKind.u32 0), (Go.Value.int Go.IntKind.u32 0), (Go.Value.int Go.IntKind.u32 0), (Go.Value.int Go.IntKind.u32 0), (Go.Value.int Go.IntKind.u32 0), (Go.Value.int Go.IntKind.u32 0), (Go.Value.int Go.IntKind.u32 0), (Go.Value.int Go.IntKind.u32 0), (Go.Value.int Go.IntKind.u32 0), (Go.Value.int Go.IntKind.u32 0), (Go.Value.int Go.IntKind.u32 0), (Go.Value.int Go.IntKind.u32 0), (Go.Value.int Go.IntKind.u32 0), (Go.Value.int Go.IntKind.u32 0), (Go.Value.int Go.IntKind.u32 0), (Go.Value.int Go.IntKind.u32 0), (Go.Value.int Go.IntKind.u32 0), (Go.Value.int Go.IntKind.u32 0), (Go.Value.int Go.IntKind.u32 0), (Go.Value.int Go.IntKind.u32 0), (Go.Value.int Go.IntKind.u32 0), (Go.Value.int Go.IntKind.u32 0), (Go.Value.int Go.IntKind.u32 0), (Go.Value.int Go.IntKind.u32 0), (Go.Value.int Go.IntKind.u32 0), (Go.Value.int Go.IntKind.u32 0), (Go.Value.int Go.IntKind.u32 0), (Go.Value.int Go.IntKind.u32 0), (Go.Value.int Go.IntKind.u32 0), (Go.Value.int Go.IntKind.u32 0), (Go.Value.int Go.IntKind.u32 0), (Go.Value.int Go.IntKind.u32 0)]) 64 256 := ⟨by kernel_rfl⟩
instance : ATy Tryz.prog 308 true := ⟨by kernel_rfl⟩
instance : UTy Tryz.prog 311 (.slice 242) := ⟨Tryz.underlying311⟩
instance : UTy Tryz.prog 312 (.array 32 5) := ⟨Tryz.underlying312⟩
instance : ITy Tryz.prog 312 (Go.Value.agg #[(Go.Value.int Go.IntKind.u8 0), (Go.Value.int Go.IntKind.u8 0), (Go.Value.int Go.IntKind.u8 0), (Go.Value.int Go.IntKind.u8 0), (Go.Value.int Go.IntKind.u8 0), (Go.Value.int Go.IntKind.u8 0), (Go.Value.int Go.IntKind.u8 0), (Go.Value.int Go.IntKind.u8 0), (Go.Value.int Go.IntKind.u8 0), (Go.Value.int Go.IntKind.u8 0), (Go.Value.int Go.IntKind.u8 0), (Go.Value.int Go.IntKind.u8 0), (Go.Value.int Go.IntKind.u8 0), (Go.Value.int Go.IntKind.u8 0), (Go.Value.int Go.IntKind.u8 0), (Go.Value.int Go.IntKind.u8 0), (Go.Value.int Go.IntKind.u8 0), (Go.Value.int Go.IntKind.u8 0), (Go.Value.int Go.IntKind.u8 0), (Go.Value.int Go.IntKind.u8 0), (Go.Value.int Go.IntKind.u8 0), (Go.Value.int Go.IntKind.u8 0), (Go.Value.int Go.IntKind.u8 0), (Go.Value.int Go.IntKind.u8 0), (Go.Value.int Go.IntKind.u8 0), (Go.Value.int Go.IntKind.u8 0), (Go.Value.int Go.IntKind.u8 0), (Go.Value.int Go.IntKind.u8 0), (Go.Value.int Go.IntKind.u8 0), (Go.Value.int Go.IntKind.u8 0), (Go.Value.int Go.IntKind.u8 0), (Go.Value.int Go.IntKind.u8 0)]) 32 32 := ⟨by kernel_rfl⟩
instance : UTy Tryz.prog 331 .unsafePointer := ⟨Tryz.underlying331⟩
end Go.Sx
/- By program: how the values of structs and arrays are laid out. -/
namespace Go.Sx
open Go Go.Proofs
instance : BTy Tryz.prog 36 [(0, 1), (1, 1), (2, 1), (3, 1), (4, 1), (5, 1), (6, 1), (7, 1), (8, 1), (9, 1), (10, 1), (11, 1), (12, 1), (13, 1), (14, 1)] [(Go.Value.int Go.IntKind.i64 0), (Go.Value.int Go.IntKind.i64 0), (Go.Value.int Go.IntKind.i64 0), (Go.Value.int Go.IntKind.i64 0), (Go.Value.bool Bool.false), (Go.Value.int Go.IntKind.i64 0), (Go.Value.int Go.IntKind.i64 0), (Go.Value.int Go.IntKind.i64 0), (Go.Value.int Go.IntKind.i64 0), (Go.Value.int Go.IntKind.i64 0), (Go.Value.int Go.IntKind.i64 0), (Go.Value.int Go.IntKind.i64 0), (Go.Value.bool Bool.false), (Go.Value.int Go.IntKind.i64 0), (Go.Value.string (ByteArray.mk #[]))] := ⟨by kernel_rfl⟩
instance : BTy Tryz.prog 54 [(0, 1), (1, 1), (2, 1), (3, 1)] [(Go.Value.slice none 0 0), (Go.Value.slice none 0 0), (Go.Value.int Go.IntKind.i64 0), (Go.Value.string (ByteArray.mk #[]))] := ⟨by kernel_rfl⟩
instance : BTy Tryz.prog 66 [(0, 1), (1, 1)] [(Go.Value.string (ByteArray.mk #[])), (Go.Value.int Go.IntKind.i64 0)] := ⟨by kernel_rfl⟩
instance : BTy Tryz.prog 68 [(0, 1), (1, 2), (3, 1), (4, 1)] [(Go.Value.bool Bool.false), (Go.Value.string (ByteArray.mk #[])), (Go.Value.int Go.IntKind.i64 0), (Go.Value.string (ByteArray.mk #[])), (Go.Value.string (ByteArray.mk #[]))] := ⟨by kernel_rfl⟩
instance : BTy Tryz.prog 72 [(0, 1), (1, 1), (2, 1), (3, 1), (4, 1), (5, 1)] [(Go.Value.int Go.IntKind.i64 0), (Go.Value.int Go.IntKind.i64 0), (Go.Value.bool Bool.false), (Go.Value.int Go.IntKind.i64 0), (Go.Value.int Go.IntKind.i64 0), (Go.Value.int Go.IntKind.i64 0)] := ⟨by kernel_rfl⟩
instance : BTy Tryz.prog 79 [(0, 1), (1, 1)] [(Go.Value.int Go.IntKind.i64 0), (Go.Value.int Go.IntKind.i64 0)] := ⟨by kernel_rfl⟩
instance : BTy Tryz.prog 115 [(0, 1), (1, 2), (3, 1), (4, 1)] [(Go.Value.bool Bool.false), (Go.Value.string (ByteArray.mk #[])), (Go.Value.int Go.IntKind.i64 0), (Go.Value.string (ByteArray.mk #[])), (Go.Value.string (ByteArray.mk #[]))] := ⟨by kernel_rfl⟩
instance : BTy Tryz.prog 128 [(0, 1), (1, 1), (2, 1)] [(Go.Value.int Go.IntKind.i64 0), (Go.Value.int Go.IntKind.i64 0), (Go.Value.int Go.IntKind.i64 0)] := ⟨by kernel_rfl⟩
instance : BTy Tryz.prog 140 [(0, 4)] [(Go.Value.slice none 0 0), (Go.Value.slice none 0 0), (Go.Value.int Go.IntKind.i64 0), (Go.Value.string (ByteArray.mk #[]))] := ⟨by kernel_rfl⟩
instance : BTy Tryz.prog 152 [(0, 2)] [(Go.Value.pointer none), (Go.Value.slice none 0 0)] := ⟨by kernel_rfl⟩
instance : BTy Tryz.prog 165 [(0, 1), (1, 1), (2, 1)] [(Go.Value.slice none 0 0), Go.Value.nilFunc, Go.Value.nilFunc] := ⟨by kernel_rfl⟩
instance : BTy Tryz.prog 166 [(0, 3), (3, 3), (6, 3), (9, 3), (12, 3), (15, 3), (18, 3)] [(Go.Value.slice none 0 0), Go.Value.nilFunc, Go.Value.nilFunc, (Go.Value.slice none 0 0), Go.Value.nilFunc, Go.Value.nilFunc, (Go.Value.slice none 0 0), Go.Value.nilFunc, Go.Value.nilFunc, (Go.Value.slice none 0 0), Go.Value.nilFunc, Go.Value.nilFunc, (Go.Value.slice none 0 0), Go.Value.nilFunc, Go.Value.nilFunc, (Go.Value.slice none 0 0), Go.Value.nilFunc, Go.Value.nilFunc, (Go.Value.slice none 0 0), Go.Value.nilFunc, Go.Value.nilFunc] := ⟨by kernel_rfl⟩
instance : BTy Tryz.prog 173 [(0, 1), (1, 1), (2, 1), (3, 1), (4, 1), (5, 1), (6, 1), (7, 1), (8, 1)] [(Go.Value.pointer none), (Go.Value.pointer none), (Go.Value.pointer none), (Go.Value.pointer none), (Go.Value.pointer none), (Go.Value.pointer none), (Go.Value.pointer none), (Go.Value.pointer none), (Go.Value.pointer none)] := ⟨by kernel_rfl⟩
instance : BTy Tryz.prog 213 [(0, 1), (1, 1)] [(Go.Value.string (ByteArray.mk #[])), (Go.Value.int Go.IntKind.i64 0)] := ⟨by kernel_rfl⟩
instance : BTy Tryz.prog 225 [(0, 1), (1, 1), (2, 1)] [Go.Value.nilFunc, (Go.Value.int Go.IntKind.i64 0), (Go.Value.int Go.IntKind.i64 0)] := ⟨by kernel_rfl⟩
instance : BTy Tryz.prog 227 [(0, 1), (1, 3), (4, 1)] [(Go.Value.slice none 0 0), Go.Value.nilFunc, (Go.Value.int Go.IntKind.i64 0), (Go.Value.int Go.IntKind.i64 0), Go.Value.nilFunc] := ⟨by kernel_rfl⟩
instance : BTy Tryz.prog 255 [(0, 1), (1, 1), (2, 1), (3, 1), (4, 1), (5, 1), (6, 1), (7, 1)] [(Go.Value.int Go.IntKind.u32 0), (Go.Value.int Go.IntKind.u32 0), (Go.Value.int Go.IntKind.u32 0), (Go.Value.int Go.IntKind.u32 0), (Go.Value.int Go.IntKind.u32 0), (Go.Value.int Go.IntKind.u32 0), (Go.Value.int Go.IntKind.u32 0), (Go.Value.int Go.IntKind.u32 0)] := ⟨by kernel_rfl⟩
end Go.Sx
/- The seat's own facts that many texts need. -/
namespace Go.Sx
open Go Go.Proofs
instance mixedI : Mixed Tryz.prog := ⟨by kernel_rfl⟩
end Go.Sx
/- Questions about things: what the walks of slices.IndexFunc and slices.ContainsFunc stand on. -/
namespace Go.Sx
open Go Go.Proofs Go.RowKit
/-- A function value that answers a question about things. -/
def PQ {α : Type} (w : World) (fv : Value) (V : α → Value) (ok : α → Prop) (p : α → Bool) : Prop :=
  ∃ (f : FuncId) (pre cap : List Value), fv = .func (.func f) pre.toArray cap.toArray ∧ CallOk Tryz.prog f ∧ ∀ w', Ext w w' → ∀ x, ok x → Fn Tryz.prog f (pre ++ [V x] ++ cap).toArray w' fun v w'' => v = .bool (p x) ∧ Ext w' w''
theorem PQ.ext {α : Type} {w w' : World} {fv : Value} {V : α → Value} {ok : α → Prop} {p : α → Bool} (h : PQ w fv V ok p) (k : Ext w w') : PQ w' fv V ok p := by
  obtain ⟨f, pre, cap, h1, h2, h3⟩ := h
  exact ⟨f, pre, cap, h1, h2, fun w'' hx => h3 w'' (k.trans hx)⟩
section
variable {r : Option Nat} {N : Nat} {ds : List Deferred} {Q : Post} {E : Env} {w0 w : World} {H : List Atom} {next : Act → World → Prop} {g : Option (Nat × Bool)}
variable {d : Nat} {t t' ty e : TypeId} {pos : String} {af : Array Edge} {y z : Operand}
theorem H1.callpq {α : Type} {V : α → Value} {ok : α → Prop} {p : α → Bool} {d : Option Nat} {fv : Value} {x : α} {args : List Operand} {ats : Array TypeId} (hp : ∀ w, Mm w0 H w → PQ w fv V ok p) (hl : ok x) (hd : dOk d N = true) (hx : Env.ev E z = some fv) (ha : Env.evs E args = some [V x])
    (h : HN N ds next (putE d (.bool (p x)) E) w0 H) : H1 Tryz.prog r N ds next ⟨d, .call ⟨.value z, args.toArray, ats⟩, ty, pos, af, g⟩ Q E w0 H := fun w hM => by
  obtain ⟨f, pre, cap, rfl, hf, hc⟩ := hp w hM
  exact W1.enter hd (fun a hr => by
    have hm : Array.map a.eval args.toArray = [V x].toArray := by simp [hr.evs ha]
    simp [execOp, resolve, hm, hr.ev hx, Deferred.ofValue, invoke, hf.run]) (hc w (Ext.refl w) x hl) (by
    rintro v w' ⟨rfl, hx'⟩; exact h _ (hM.more hx'))
end
/-- The first place, or -1. -/
def FirstN (n : Nat) (p : Nat → Bool) (k : Int) : Prop := (k = -1 ∧ ∀ i, i < n → p i = false) ∨ ∃ j : Nat, k = (j : Int) ∧ j < n ∧ (∀ i, i < j → p i = false) ∧ p j = true
def anyN (n : Nat) (p : Nat → Bool) : Bool := (List.range n).any p
theorem FirstN.any {n : Nat} {p : Nat → Bool} {k : Int} (h : FirstN n p k) : decide (0 ≤ k) = anyN n p := by
  rw [Bool.eq_iff_iff, decide_eq_true_eq]
  unfold anyN
  rw [List.any_eq_true]
  rcases h with ⟨rfl, h⟩ | ⟨j, rfl, hj, -, hp⟩
  · constructor
    · intro h0; exact absurd h0 (by decide)
    · rintro ⟨i, hi, hp⟩
      rw [h i (List.mem_range.1 hi)] at hp; cases hp
  · exact ⟨fun _ => ⟨j, List.mem_range.2 hj, hp⟩, fun _ => Int.natCast_nonneg j⟩
def getB (l : List ByteArray) (i : Nat) : ByteArray := l.getD i default
theorem strs_getB {l : List ByteArray} {i : Nat} (h : i < l.length) : (strs l)[i]? = some (.string (getB l i)) := by unfold strs getB; simp [h]
theorem rd_addr {w : World} {a : Option Addr} {n c j : Nat} {vs : List Value} (hR : Rd w (.slice a n c) vs) (h : j < n) : ∃ b off, a = some ⟨b, off, none⟩ := by
  obtain ⟨a', c', h1, h2, h3⟩ := hR
  cases h1
  rcases h3 with h3 | ⟨b, off, h4, -⟩
  · subst h3; exact absurd h (Nat.not_lt_zero _)
  · exact ⟨b, off, h4⟩
end Go.Sx
/- Slices whose elements take several cells: the walks of slices.IndexFunc and slices.ContainsFunc. -/
namespace Go.Sx
open Go Go.Proofs Go.RowKit
theorem hwF0 {G G2 : Prop} (x : G2) (hwq : Hold G2 → G := by
    intro hQq
    repeat' (first | apply HL.fold | apply HA.fold | apply HL.nil | apply HX.n_then | apply HC.seq | apply HC.region | refine HL.pa ?_ | refine HL.ga rfl ?_ | refine HL.na rfl ?_ | refine HL.nu rfl rfl ?_ | apply HC.block | apply HC.skip | apply HC.exit | apply HC.ret | apply HX.e_block | refine HX.e_other rfl ?_ | apply HX.e_then | apply HX.e_again | apply HX.n_block | apply HX.r_then | apply HX.r_block | apply HX.r_again | refine HC.cond_yes rfl ?_ | refine HC.cond_no rfl ?_ | refine HL.one (H1.ldb rfl memA rfl rfl ?_) | refine HC.cond rfl (fun hc => ?_) (fun hc => ?_) | refine HC.cond_b rfl (fun hc => ?_) (fun hc => ?_))
    exact hQq.get) : G := hwq ⟨x⟩
/-- A slice of elements of several cells. -/
def RdK (w : World) (v : Value) (n sz : Nat) (f : Nat → List Value) : Prop :=
  ∃ a c, v = .slice a n c ∧ n ≤ c ∧ (n = 0 ∨ ∃ b off, a = some ⟨b, off, none⟩ ∧ ∀ i, i < n → ∀ (j : Nat) (u : Value), (f i)[j]? = some u → w.cell? ⟨b, off + i * sz + j, none⟩ = some u)
theorem RdK.ext {w w' : World} {v : Value} {n sz : Nat} {f : Nat → List Value} (h : RdK w v n sz f) (k : Ext w w') : RdK w' v n sz f := by
  obtain ⟨a, c, h1, h2, h3⟩ := h
  refine ⟨a, c, h1, h2, ?_⟩
  rcases h3 with h3 | ⟨b, off, h4, h5⟩
  · exact .inl h3
  · exact .inr ⟨b, off, h4, fun i hi j u hu => cell_ext k (h5 i hi j u hu)⟩
theorem RdK.cell {w : World} {a : Option Addr} {c n m sz : Nat} {f : Nat → List Value} (h : RdK w (.slice a m c) n sz f) {j : Nat} (hj : j < n) : ∃ b off, a = some ⟨b, off, none⟩ ∧ ∀ i, i < n → ∀ (j : Nat) (u : Value), (f i)[j]? = some u → w.cell? ⟨b, off + i * sz + j, none⟩ = some u := by
  obtain ⟨a', c', h1, -, h3⟩ := h
  cases h1
  rcases h3 with h3 | h3
  · omega
  · exact h3
theorem RdK.of_blk {w : World} {b n sz : Nat} {e : TypeId} {cs : List Value} {f : Nat → List Value} (h : Blk w b cs e) (hc : ∀ i, i < n → ∀ (j : Nat) (u : Value), (f i)[j]? = some u → cs[i * sz + j]? = some u) : RdK w (.slice (some ⟨b, 0, none⟩) n n) n sz f :=
  ⟨_, _, rfl, Nat.le_refl _, .inr ⟨b, 0, rfl, fun i hi j u hu => by rw [Nat.zero_add]; exact h.cell (hc i hi j u hu)⟩⟩
theorem anyN_no {n : Nat} {p : Nat → Bool} (h : ∀ i, i < n → p i = false) : anyN n p = false := by
  unfold anyN
  rw [List.any_eq_false]
  intro i hi
  rw [h i (List.mem_range.1 hi)]; decide
attribute [local irreducible] WC WL WX POp Then Again Fn NX W1 WA WO QL RP RA Yld LoopAt HC HL HX HN H1 HA HO HQ HB HP A.blk A.grow A.rd A.obj A.mp AgainH CutH
set_option maxHeartbeats 1000000 in
theorem indexCl_fn {v : Value} {n : Nat} {f : Nat → List Value} {p : Nat → Bool} {fv : Value} (hn1 : n ≤ 1000000) (hf : ∀ i, (f i).length = 6) (w : World) (hR : RdK w v n 6 f) (hp : PQ w fv (fun i => .agg (f i).toArray) (fun i => i < n) p) :
    Fn Tryz.prog 64 #[v, fv] w fun u w' => ∃ k : Int, FirstN n p k ∧ u = zv k ∧ Ext w w' := by
  obtain ⟨a, c, rfl, hc, -⟩ := id hR
  refine enterH (l := [_, _]) rfl Tryz.ntmps64 rfl ?_
  refine hwF0 ?_
  refine HC.loop (α := Nat) (fun j => [(0, .slice a n c), (1, fv), (7, zv (n : Int)), (8, zv (j : Int))]) (fun _ => []) (fun j => j ≤ n ∧ ∀ i, i < j → p i = false) (fun j => n - j) 0 ⟨Nat.zero_le _, fun i hi => absurd hi (Nat.not_lt_zero _)⟩ esA (Hs.refl _) ?_
  rintro j ⟨hj, hI⟩
  by_cases hlt : j < n
  · have hn : ((j : Nat) : Int) < (n : Int) := by omega
    obtain ⟨b, off, rfl, hb⟩ := hR.cell hlt
    have hcl := hb j hlt
    refine hwF0 ?_
    refine HL.one (H1.ldAggw (b := b) (off := off + j * 6) (vs := f j) rfl (hf j) (fun w' hM i u hu => cell_ext hM.ext (hcl i u hu)) rfl ?_)
    refine hwF0 ?_
    refine HL.one (H1.callpq (x := j) (fun w' hM => hp.ext hM.ext) hlt rfl rfl rfl ?_)
    cases hpr : p j
    · refine hwF0 ?_
      exact HX.again (j + 1) ⟨hlt, fun i hi => by
        by_cases e : i = j
        · rw [e]; exact hpr
        · exact hI i (by omega)⟩ (by omega) esA (Hs.refl _)
    · refine hwF0 ?_
      exact HX.ret1 rfl rfl fun w' hM => ⟨j, .inr ⟨j, rfl, hlt, hI, hpr⟩, rfl, hM.ext⟩
  have hn : ¬ ((j : Nat) : Int) < (n : Int) := by omega
  obtain rfl : j = n := by omega
  refine hwF0 ?_
  exact HX.ret1 rfl rfl fun w' hM => ⟨-1, .inl ⟨rfl, hI⟩, rfl, hM.ext⟩
theorem contCl_fn {v : Value} {n : Nat} {f : Nat → List Value} {p : Nat → Bool} {fv : Value} (hn1 : n ≤ 1000000) (hf : ∀ i, (f i).length = 6) (w : World) (hR : RdK w v n 6 f) (hp : PQ w fv (fun i => .agg (f i).toArray) (fun i => i < n) p) :
    Fn Tryz.prog 179 #[v, fv] w fun u w' => u = .bool (anyN n p) ∧ Ext w w' := by
  refine enterH (l := [_, _]) rfl Tryz.ntmps179 rfl ?_
  refine hwF0 ?_
  refine HL.one (H1.callp (α := Int) (V := zv) (I := fun k => FirstN n p k) (vs := [v, fv]) rfl rfl (fun w' hM => indexCl_fn hn1 hf w' (hR.ext hM.ext) (hp.ext hM.ext)) ?_)
  intro k hk
  refine hwF0 ?_
  exact HX.ret1 rfl rfl fun w' hM => ⟨congrArg Value.bool hk.any, hM.ext⟩
set_option maxHeartbeats 1000000 in
theorem indexLn_fn {v : Value} {n : Nat} {f : Nat → List Value} {p : Nat → Bool} {fv : Value} (hn1 : n ≤ 1000000) (hf : ∀ i, (f i).length = 2) (w : World) (hR : RdK w v n 2 f) (hp : PQ w fv (fun i => .agg (f i).toArray) (fun i => i < n) p) :
    Fn Tryz.prog 244 #[v, fv] w fun u w' => ∃ k : Int, FirstN n p k ∧ u = zv k ∧ Ext w w' := by
  obtain ⟨a, c, rfl, hc, -⟩ := id hR
  refine enterH (l := [_, _]) rfl Tryz.ntmps244 rfl ?_
  refine hwF0 ?_
  refine HC.loop (α := Nat) (fun j => [(0, .slice a n c), (1, fv), (7, zv (n : Int)), (8, zv (j : Int))]) (fun _ => []) (fun j => j ≤ n ∧ ∀ i, i < j → p i = false) (fun j => n - j) 0 ⟨Nat.zero_le _, fun i hi => absurd hi (Nat.not_lt_zero _)⟩ esA (Hs.refl _) ?_
  rintro j ⟨hj, hI⟩
  by_cases hlt : j < n
  · have hn : ((j : Nat) : Int) < (n : Int) := by omega
    obtain ⟨b, off, rfl, hb⟩ := hR.cell hlt
    have hcl := hb j hlt
    refine hwF0 ?_
    refine HL.one (H1.ldAggw (b := b) (off := off + j * 2) (vs := f j) rfl (hf j) (fun w' hM i u hu => cell_ext hM.ext (hcl i u hu)) rfl ?_)
    refine hwF0 ?_
    refine HL.one (H1.callpq (x := j) (fun w' hM => hp.ext hM.ext) hlt rfl rfl rfl ?_)
    cases hpr : p j
    · refine hwF0 ?_
      exact HX.again (j + 1) ⟨hlt, fun i hi => by
        by_cases e : i = j
        · rw [e]; exact hpr
        · exact hI i (by omega)⟩ (by omega) esA (Hs.refl _)
    · refine hwF0 ?_
      exact HX.ret1 rfl rfl fun w' hM => ⟨j, .inr ⟨j, rfl, hlt, hI, hpr⟩, rfl, hM.ext⟩
  have hn : ¬ ((j : Nat) : Int) < (n : Int) := by omega
  obtain rfl : j = n := by omega
  refine hwF0 ?_
  exact HX.ret1 rfl rfl fun w' hM => ⟨-1, .inl ⟨rfl, hI⟩, rfl, hM.ext⟩
theorem contLn_fn {v : Value} {n : Nat} {f : Nat → List Value} {p : Nat → Bool} {fv : Value} (hn1 : n ≤ 1000000) (hf : ∀ i, (f i).length = 2) (w : World) (hR : RdK w v n 2 f) (hp : PQ w fv (fun i => .agg (f i).toArray) (fun i => i < n) p) :
    Fn Tryz.prog 175 #[v, fv] w fun u w' => u = .bool (anyN n p) ∧ Ext w w' := by
  refine enterH (l := [_, _]) rfl Tryz.ntmps175 rfl ?_
  refine hwF0 ?_
  refine HL.one (H1.callp (α := Int) (V := zv) (I := fun k => FirstN n p k) (vs := [v, fv]) rfl rfl (fun w' hM => indexLn_fn hn1 hf w' (hR.ext hM.ext) (hp.ext hM.ext)) ?_)
  intro k hk
  refine hwF0 ?_
  exact HX.ret1 rfl rfl fun w' hM => ⟨congrArg Value.bool hk.any, hM.ext⟩
set_option maxHeartbeats 1000000 in
theorem indexSt_fn {v : Value} {n : Nat} {f : Nat → List Value} {p : Nat → Bool} {fv : Value} (hn1 : n ≤ 1000000) (hf : ∀ i, (f i).length = 2) (w : World) (hR : RdK w v n 2 f) (hp : PQ w fv (fun i => .agg (f i).toArray) (fun i => i < n) p) :
    Fn Tryz.prog 194 #[v, fv] w fun u w' => ∃ k : Int, FirstN n p k ∧ u = zv k ∧ Ext w w' := by
  obtain ⟨a, c, rfl, hc, -⟩ := id hR
  refine enterH (l := [_, _]) rfl Tryz.ntmps194 rfl ?_
  refine hwF0 ?_
  refine HC.loop (α := Nat) (fun j => [(0, .slice a n c), (1, fv), (7, zv (n : Int)), (8, zv (j : Int))]) (fun _ => []) (fun j => j ≤ n ∧ ∀ i, i < j → p i = false) (fun j => n - j) 0 ⟨Nat.zero_le _, fun i hi => absurd hi (Nat.not_lt_zero _)⟩ esA (Hs.refl _) ?_
  rintro j ⟨hj, hI⟩
  by_cases hlt : j < n
  · have hn : ((j : Nat) : Int) < (n : Int) := by omega
    obtain ⟨b, off, rfl, hb⟩ := hR.cell hlt
    have hcl := hb j hlt
    refine hwF0 ?_
    refine HL.one (H1.ldAggw (b := b) (off := off + j * 2) (vs := f j) rfl (hf j) (fun w' hM i u hu => cell_ext hM.ext (hcl i u hu)) rfl ?_)
    refine hwF0 ?_
    refine HL.one (H1.callpq (x := j) (fun w' hM => hp.ext hM.ext) hlt rfl rfl rfl ?_)
    cases hpr : p j
    · refine hwF0 ?_
      exact HX.again (j + 1) ⟨hlt, fun i hi => by
        by_cases e : i = j
        · rw [e]; exact hpr
        · exact hI i (by omega)⟩ (by omega) esA (Hs.refl _)
    · refine hwF0 ?_
      exact HX.ret1 rfl rfl fun w' hM => ⟨j, .inr ⟨j, rfl, hlt, hI, hpr⟩, rfl, hM.ext⟩
  have hn : ¬ ((j : Nat) : Int) < (n : Int) := by omega
  obtain rfl : j = n := by omega
  refine hwF0 ?_
  exact HX.ret1 rfl rfl fun w' hM => ⟨-1, .inl ⟨rfl, hI⟩, rfl, hM.ext⟩
theorem contSt_fn {v : Value} {n : Nat} {f : Nat → List Value} {p : Nat → Bool} {fv : Value} (hn1 : n ≤ 1000000) (hf : ∀ i, (f i).length = 2) (w : World) (hR : RdK w v n 2 f) (hp : PQ w fv (fun i => .agg (f i).toArray) (fun i => i < n) p) :
    Fn Tryz.prog 132 #[v, fv] w fun u w' => u = .bool (anyN n p) ∧ Ext w w' := by
  refine enterH (l := [_, _]) rfl Tryz.ntmps132 rfl ?_
  refine hwF0 ?_
  refine HL.one (H1.callp (α := Int) (V := zv) (I := fun k => FirstN n p k) (vs := [v, fv]) rfl rfl (fun w' hM => indexSt_fn hn1 hf w' (hR.ext hM.ext) (hp.ext hM.ext)) ?_)
  intro k hk
  refine hwF0 ?_
  exact HX.ret1 rfl rfl fun w' hM => ⟨congrArg Value.bool hk.any, hM.ext⟩
end Go.Sx
/- A slice of the call's own that is fresh, as an atom. -/
namespace Go.Sx
open Go Go.RowKit
theorem own_shape {w : World} {base : Nat} {e : TypeId} {sz n : Nat} {v : Value} {xs : List Value} (h : w.ownsRow base e sz v n xs) : ∃ a c, v = .slice a n c ∧ (n = 0 ∨ ∃ b, a = some ⟨b, 0, none⟩) := by
  rcases h.2 with ⟨rfl, rfl⟩ | ⟨g, cap, cur, rfl, -⟩
  · exact ⟨none, 0, rfl, .inl rfl⟩
  · exact ⟨_, cap, rfl, .inr ⟨g, rfl⟩⟩
end Go.Sx
/-
  DERIVED: THE SHELF's CONTRACTS AT THIS DUMP, IN PLAIN WORDS (tools/lay-plain.mjs out of 'TryzShelf4.lean', which tools/lay-shelf.mjs wrote): THE SAME DECLARATIONS UNDER THE SAME NAMES: 'import', 'namespace', 'open', 'def', 'theorem' AND NOTHING ELSE: no command of the shelf's: FOR A HAND-IN. Each laying: the table of numbers ('.._ren') and one theorem, a field a fact of the dump's own or the kernel's comparison; each contract: ONE APPLICATION.
-/
namespace Go.Proofs
open Go.Shelf
def Tryz.idxP_ren : Go.Shelf.Ren := ⟨fun | 15 => 178 | 20 => 245 | n => n, fun | 9 => 9 | 23 => 252 | 3 => 3 | 4 => 4 | 0 => 0 | 21 => 21 | n => n, fun | n => n⟩
theorem Tryz.idxP : Go.Proofs.LaysGw.n15 Tryz.prog Tryz.idxP_ren := {
  mixed := by kernel_rfl
  f15 := Tryz.func178.trans (congrArg some (by kernel_rfl))
  f20 := Tryz.func245.trans (congrArg some (by kernel_rfl))
  t0 := Tryz.underlying0
  a0 := Tryz.isAgg0
  z0 := Tryz.sizeOf0
  v0 := Tryz.zeroValue0
  i0 := by kernel_rfl
  t3 := Tryz.underlying3
  a3 := Tryz.isAgg3
  z3 := Tryz.sizeOf3
  v3 := Tryz.zeroValue3
  i3 := by kernel_rfl
  t4 := Tryz.underlying4
  a4 := Tryz.isAgg4
  z4 := Tryz.sizeOf4
  v4 := Tryz.zeroValue4
  i4 := by kernel_rfl
  t9 := Tryz.underlying9
  a9 := Tryz.isAgg9
  z9 := Tryz.sizeOf9
  v9 := Tryz.zeroValue9
  i9 := by kernel_rfl
  t21 := Tryz.underlying21
  a21 := Tryz.isAgg21
  z21 := Tryz.sizeOf21
  v21 := Tryz.zeroValue21
  i21 := by kernel_rfl
  t23 := Tryz.underlying252
  a23 := Tryz.isAgg252
  z23 := Tryz.sizeOf252
  v23 := Tryz.zeroValue252
  i23 := by kernel_rfl }
def Tryz.conP_ren : Go.Shelf.Ren := ⟨fun | 17 => 204 | 15 => 178 | 20 => 245 | n => n, fun | 9 => 9 | 23 => 252 | 4 => 4 | 3 => 3 | 0 => 0 | 21 => 21 | n => n, fun | n => n⟩
theorem Tryz.conP : Go.Proofs.LaysGw.n17 Tryz.prog Tryz.conP_ren := {
  mixed := by kernel_rfl
  f15 := Tryz.func178.trans (congrArg some (by kernel_rfl))
  f17 := Tryz.func204.trans (congrArg some (by kernel_rfl))
  f20 := Tryz.func245.trans (congrArg some (by kernel_rfl))
  t0 := Tryz.underlying0
  a0 := Tryz.isAgg0
  z0 := Tryz.sizeOf0
  v0 := Tryz.zeroValue0
  i0 := by kernel_rfl
  t3 := Tryz.underlying3
  a3 := Tryz.isAgg3
  z3 := Tryz.sizeOf3
  v3 := Tryz.zeroValue3
  i3 := by kernel_rfl
  t4 := Tryz.underlying4
  a4 := Tryz.isAgg4
  z4 := Tryz.sizeOf4
  v4 := Tryz.zeroValue4
  i4 := by kernel_rfl
  t9 := Tryz.underlying9
  a9 := Tryz.isAgg9
  z9 := Tryz.sizeOf9
  v9 := Tryz.zeroValue9
  i9 := by kernel_rfl
  t21 := Tryz.underlying21
  a21 := Tryz.isAgg21
  z21 := Tryz.sizeOf21
  v21 := Tryz.zeroValue21
  i21 := by kernel_rfl
  t23 := Tryz.underlying252
  a23 := Tryz.isAgg252
  z23 := Tryz.sizeOf252
  v23 := Tryz.zeroValue252
  i23 := by kernel_rfl }
end Go.Proofs
/- content: lines, cells, documents without a raster are valid: the walks. -/
namespace Go.Sx
open Go Go.Proofs Go.RowKit
theorem hwF1 {G G2 : Prop} (x : G2) (hwq : Hold G2 → G := by
    intro hQq
    repeat' (first | refine HL.pa ?_ (POp.nilCheck rfl) | apply HL.fold | apply HA.fold | apply HL.nil | apply HX.n_then | apply HC.seq | apply HC.region | refine HL.pa ?_ | refine HL.ga rfl ?_ | refine HL.na rfl ?_ | refine HL.nu rfl rfl ?_ | apply HC.block | apply HC.skip | apply HC.exit | apply HC.ret | apply HX.e_block | refine HX.e_other rfl ?_ | apply HX.e_then | apply HX.e_again | apply HX.n_block | apply HX.r_then | apply HX.r_block | apply HX.r_again | refine HC.cond_yes rfl ?_ | refine HC.cond_no rfl ?_ | refine HL.one (H1.ldb rfl memA rfl rfl ?_) | refine HC.cond rfl (fun hc => ?_) (fun hc => ?_) | refine HC.cond_b rfl (fun hc => ?_) (fun hc => ?_))
    exact hQq.get) : G := hwq ⟨x⟩
theorem hnF1 {G G2 : Prop} (x : G2) (hwq : Hold G2 → G := by
    intro hQq
    repeat' (first | refine HL.pa ?_ (POp.nilCheck rfl) | apply HL.fold | apply HA.fold | apply HL.nil | apply HX.n_then | apply HC.seq | apply HC.region | refine HL.pa ?_ | refine HL.ga rfl ?_ | refine HL.na rfl ?_ | refine HL.nu rfl rfl ?_ | apply HC.block | apply HC.skip | apply HC.exit | apply HC.ret | apply HX.e_block | refine HX.e_other rfl ?_ | apply HX.e_then | apply HX.e_again | apply HX.n_block | apply HX.r_then | apply HX.r_block | apply HX.r_again | refine HC.cond_yes rfl ?_ | refine HC.cond_no rfl ?_ | refine HL.one (H1.ldb rfl memA rfl rfl ?_))
    exact hQq.get) : G := hwq ⟨x⟩
/-- Cells of a block that stay as they are. -/
def cellsO (b off : Nat) (vs : List Value) : List (Addr × Value) := vs.zipIdx.map fun p => (⟨b, off + p.2, none⟩, p.1)
theorem cellsO_mem {b off : Nat} {vs : List Value} {i : Nat} {v : Value} (h : vs[i]? = some v) : ((⟨b, off + i, none⟩ : Addr), v) ∈ cellsO b off vs := List.mem_map.2 ⟨(v, i), List.mk_mem_zipIdx_iff_getElem?.2 h, rfl⟩
theorem Keep.baseO {l : List (Addr × Value)} {w0 : World} {H : List Atom} {b off : Nat} {vs : List Value} (h0 : ∀ (i : Nat) (v : Value), vs[i]? = some v → w0.cell? ⟨b, off + i, none⟩ = some v) (h : Keep l w0 H) : Keep (cellsO b off vs ++ l) w0 H := fun w hM p hp => by
  rcases List.mem_append.1 hp with hp | hp
  · obtain ⟨⟨v, i⟩, h1, rfl⟩ := List.mem_map.1 hp
    exact cell_ext hM.ext (h0 _ _ (List.mk_mem_zipIdx_iff_getElem?.1 h1))
  · exact h w hM p hp
theorem cellsOL {b off : Nat} {vs : List Value} {l : List (Addr × Value)} {p : Addr × Value} (h : p ∈ cellsO b off vs) : p ∈ cellsO b off vs ++ l := List.mem_append_left _ h
theorem cellsOR {b off : Nat} {vs : List Value} {l : List (Addr × Value)} {p : Addr × Value} (h : p ∈ l) : p ∈ cellsO b off vs ++ l := List.mem_append_right _ h
section
variable {P : Program} {N : Nat} {ds : List Deferred} {ol : List Oper} {Q : Post} {E : Env} {w0 : World} {H : List Atom} {fuel : Nat} {listed : Array Bool} {ty : TypeId} {pos : String} {af : Array Edge} {l : List (Addr × Value)}
theorem HB.ldO [hq : QPanic Q] {d : Nat} {t : TypeId} {x : Operand} {b off : Nat} {vs : List Value} {z : Value} {n bb : Nat} [hat : ATy P t true] [hit : ITy P t z n bb] (i : Nat) (ho : ol[i]? = some ⟨some d, .load t x, ty, pos, af, none⟩) (hx : Env.ev E x = some (.pointer (some ⟨b, off, none⟩))) (hn : vs.length = n)
    (hc : ∀ i v, vs[i]? = some v → ((⟨b, off + i, none⟩ : Addr), v) ∈ l)
    (h : HB l P N ds ol fuel (listed.setIfInBounds i true) Q ((d, .agg vs.toArray) :: E) w0 H)
    (hne : (match x with | .tmp t => !(Nat.beq t d) | _ => true) = true := by exact rfl)
    (hs : (Region.noSelect ol.toArray && Region.free .any ol.toArray listed i && (Region.ready .any ol.toArray listed).contains i) = true := by kernel_rfl)
    (hd : Nat.blt d N = true := by exact rfl) : HB l P N ds ol (fuel + 1) listed Q E w0 H := fun w hM a ha => by
  simp only [Bool.and_eq_true] at hs
  have ho' : ol.toArray[i]? = some ⟨some d, .load t x, ty, pos, af, none⟩ := by simpa using ho
  refine anyC_load (t := t) (x := x) rfl rfl (fun d' hd' e => ?_) ho' hs.1.1 hs.1.2 hs.2 (fun c a w => hq.is c a _ _ w) (fun a' ha' w' hC => ?_) (h w hM _ (ha.put hd (.agg vs.toArray)))
  · cases hd'; subst e; simp at hne
  · have h1 : a'.eval x = .pointer (some ⟨b, off, none⟩) := ha'.trans (ha.ev hx)
    have h2 : ∀ i v, vs[i]? = some v → w'.cell? ⟨b, off + i, none⟩ = some v := fun i v hv => hC _ (hc i v hv)
    simp only [execOp, h1, Instr.loadAt, Instr.sureAddr, loadVar, Sem.run_bind, Sem.run_pure]
    simp [run_isAgg, run_sizeOf, loadCells, run_loadCellsFrom P w' b off vs h2 n 0 #[] (by omega), Result.andThen, Sem.run_bind]
end
theorem Fn.shapedF {P : Program} {f : FuncId} {args : Array Value} {w : World} {n : Nat} {e : TypeId} {xs : List Value} (h : Fn P f args w fun u w' => ∃ z : Option Addr × Nat, True ∧ u = .slice z.1 n z.2 ∧ Mm w [A.grow e 1 z.1 z.2 n xs] w') :
    Fn P f args w fun u w' => ∃ z : Option Addr × Nat, (n = 0 ∨ ∃ b, z.1 = some ⟨b, 0, none⟩) ∧ u = .slice z.1 n z.2 ∧ Mm w [A.grow e 1 z.1 z.2 n xs] w' := h.mono fun u w' hh => by
  obtain ⟨z, -, h2, h3⟩ := hh
  obtain ⟨a, c, e1, e2⟩ := own_shape (h3.own (.head _))
  cases e1
  exact ⟨z, e2, h2, h3⟩
/-- A cell of a table. -/
structure Cl where
  row : Int
  col : Int
  sum : Bool
  val : Int
  top : Int
  left : Int
def clC (c : Cl) : List Value := [zv c.row, zv c.col, .bool c.sum, zv c.val, zv c.top, zv c.left]
def lnC (l : ByteArray × Int) : List Value := [.string l.1, zv l.2]
theorem clC_one (c : Cl) : ∀ v ∈ clC c, v.oneCell' = true := by
  intro v hv
  simp only [clC, List.mem_cons, List.not_mem_nil, or_false] at hv
  rcases hv with rfl | rfl | rfl | rfl | rfl | rfl <;> rfl
structure ClOk (c : Cl) : Prop where
  row : 0 ≤ c.row ∧ c.row ≤ 31
  col : 0 ≤ c.col ∧ c.col ≤ 31
  sum : c.sum = true → c.val = 0 ∧ (0 ≤ c.top ∧ c.top ≤ c.row) ∧ (0 ≤ c.left ∧ c.left ≤ c.col)
  con : c.sum = false → (-1000000 ≤ c.val ∧ c.val ≤ 1000000) ∧ c.top = 0 ∧ c.left = 0
def notText (r : Nat) : Bool := decide ((r : Int) < 32) || decide ((r : Int) > 126)
structure LnOk (l : ByteArray × Int) : Prop where
  len : l.1.size ≤ 80
  text : Lib.idxFunc notText true l.1 = -1
  mark : 0 ≤ l.2 ∧ l.2 ≤ 7
attribute [local irreducible] WC WL WX POp Then Again Fn NX W1 WA WO QL RP RA Yld LoopAt HC HL HX HN H1 HA HO HQ HB HP A.blk A.grow A.rd A.obj A.mp AgainH CutH
attribute [local irreducible] A.mq A.mit
theorem cwithin_fn (n lo hi : Int) (w : World) : Fn Tryz.prog 118 #[zv n, zv lo, zv hi] w fun u w' => u = .bool (decide (lo ≤ n) && decide (n ≤ hi)) ∧ Ext w w' := by
  refine enterH (l := [_, _, _]) rfl Tryz.ntmps118 rfl ?_
  by_cases h1 : n ≥ lo
  · have h1' : lo ≤ n := h1
    refine hwF1 ?_
    exact HX.ret1 rfl rfl fun w' hM => ⟨by rw [decide_eq_true h1']; rfl, hM.ext⟩
  · have h1' : ¬ lo ≤ n := h1
    refine hwF1 ?_
    exact HX.ret1 rfl rfl fun w' hM => ⟨by rw [decide_eq_false h1']; rfl, hM.ext⟩
theorem cwithin_yes {n lo hi : Int} (h1 : lo ≤ n) (h2 : n ≤ hi) (w : World) : Fn Tryz.prog 118 #[zv n, zv lo, zv hi] w fun u w' => u = .bool true ∧ Ext w w' := (cwithin_fn n lo hi w).mono fun u w' h => ⟨by rw [h.1, decide_eq_true h1, decide_eq_true h2]; rfl, h.2⟩
theorem isOther_at (w : World) : PredAt Tryz.prog 177 #[] Go.Proofs.encR notText w := fun W r _ => by
  unfold FnGives
  by_cases h1 : (r : Int) < 32 <;> by_cases h2 : (r : Int) > 126
  all_goals
    go_enter Tryz.func177, Tryz.ntmps177
    go_wp2
    all_goals first | (exfalso; omega) | (go_ret; exact ⟨by simp [notText, h1, h2], 0, rfl⟩)
theorem sIndex_fn (s : ByteArray) (w : World) : Fn Tryz.prog 178 #[.string s, .func (.func 177) #[] #[]] w fun u w' => u = zv (Lib.idxFunc notText true s) ∧ Ext w w' := by
  have h : Calls Tryz.prog 178 #[.string s, .func (.func 177) #[] #[]] w _ := Any.strings_IndexFunc Tryz.idxP 177 #[] (enters_of Tryz.func177 (by kernel_rfl) rfl) notText s w (isOther_at w)
  unfold Fn
  refine Calls.mono h ?_
  rintro e w' ⟨h1, h2⟩
  exact ⟨_, h1, rfl, h2⟩
theorem isLine_fn (l : ByteArray × Int) (h : LnOk l) (w : World) : Fn Tryz.prog 101 #[.agg (lnC l).toArray] w fun u w' => u = .bool true ∧ Ext w w' := by
  obtain ⟨s, m⟩ := l
  have h1 := h.len
  have h2 := h.text
  have h3 := h.mark
  dsimp only at h1 h2 h3
  have h1' : ((s.size : Nat) : Int) ≤ 80 := by omega
  refine enterH (l := [_]) rfl Tryz.ntmps101 rfl ?_
  unfold lnC
  refine hwF1 ?_
  refine HL.one (H1.boxAgg (cs := [.string s, zv m]) rfl rfl (fun b1 => ?_))
  refine hwF1 ?_
  refine HL.one (H1.callx (vs := [_, _]) rfl rfl (fun w' _ => sIndex_fn s w') ?_)
  rw [h2]
  refine hwF1 ?_
  refine HL.one (H1.callx (vs := [_, _, _]) rfl rfl (fun w' _ => cwithin_yes h3.1 h3.2 w') ?_)
  refine hwF1 ?_
  exact HX.ret1 rfl rfl fun w' hM => ⟨rfl, hM.ext⟩
theorem isCell_fn (c : Cl) (h : ClOk c) (w : World) : Fn Tryz.prog 103 #[.agg (clC c).toArray] w fun u w' => u = .bool true ∧ Ext w w' := by
  obtain ⟨r, cc, sm, v, tp, lf⟩ := c
  have h1 := h.row
  have h2 := h.col
  have h3 := h.sum
  have h4 := h.con
  dsimp only at h1 h2 h3 h4
  refine enterH (l := [_]) rfl Tryz.ntmps103 rfl ?_
  unfold clC
  refine hwF1 ?_
  refine HL.one (H1.boxAgg (cs := [zv r, zv cc, .bool sm, zv v, zv tp, zv lf]) rfl rfl (fun b1 => ?_))
  refine hwF1 ?_
  refine HL.one (H1.callx (vs := [_, _, _]) rfl rfl (fun w' _ => cwithin_yes h1.1 h1.2 w') ?_)
  refine hwF1 ?_
  refine HL.one (H1.callx (vs := [_, _, _]) rfl rfl (fun w' _ => cwithin_yes h2.1 h2.2 w') ?_)
  cases sm with
  | true =>
    obtain ⟨e1, e2, e3⟩ := h3 rfl
    refine hwF1 ?_
    refine HL.one (H1.callx (vs := [_, _, _]) rfl rfl (fun w' _ => cwithin_yes e2.1 e2.2 w') ?_)
    refine hwF1 ?_
    refine HL.one (H1.callx (vs := [_, _, _]) rfl rfl (fun w' _ => cwithin_yes e3.1 e3.2 w') ?_)
    refine hwF1 ?_
    exact HX.ret1 rfl rfl fun w' hM => ⟨rfl, hM.ext⟩
  | false =>
    obtain ⟨e1, e2, e3⟩ := h4 rfl
    refine hwF1 ?_
    refine HL.one (H1.callx (vs := [_, _, _]) rfl rfl (fun w' _ => cwithin_yes e1.1 e1.2 w') ?_)
    refine hwF1 ?_
    exact HX.ret1 rfl rfl fun w' hM => ⟨by rw [decide_eq_true e3], hM.ext⟩
/- all: a predicate that holds everywhere -/
theorem allLn_fn {v : Value} {n : Nat} {L : Nat → ByteArray × Int} (hn1 : n ≤ 1000000) (hok : ∀ i, i < n → LnOk (L i)) (w : World) (hR : RdK w v n 2 fun i => lnC (L i)) :
    Fn Tryz.prog 100 #[v, .func (.func 101) #[] #[]] w fun u w' => u = .bool true ∧ Ext w w' := by
  refine enterH (l := [_, _]) rfl Tryz.ntmps100 rfl ?_
  refine hwF1 ?_
  refine HL.one (H1.box rfl rfl rfl (fun b3 => ?_))
  refine hwF1 ?_
  refine HL.one (H1.callx (u := .bool false) (vs := [v, .func (.func 176) #[] #[.pointer (some ⟨b3, 0, none⟩)]]) rfl rfl (fun w' hM => (contLn_fn (p := fun _ => false) hn1 (fun _ => rfl) w' (hR.ext hM.ext) ⟨_, [], [.pointer (some ⟨b3, 0, none⟩)], rfl, inferInstance, fun w2 hx i hi => ?_⟩).mono fun u w'' h => ⟨h.1.trans (by rw [anyN_no fun _ _ => rfl]), h.2⟩) ?_)
  · have hc : w2.cell? ⟨b3, 0, none⟩ = some (.func (.func 101) #[] #[]) := cell_ext hx ((hM.blk (b := b3) memA).cell rfl)
    have hl := hok i hi
    refine enterH (l := [_, _]) rfl Tryz.ntmps176 rfl ?_
    dsimp only
    generalize L i = l at hl ⊢
    unfold lnC
    refine hwF1 ?_
    refine HL.one (H1.boxAgg (cs := [.string l.1, zv l.2]) rfl rfl (fun b2 => ?_))
    refine hwF1 ?_
    refine HL.one (H1.ld0 rfl hc rfl ?_)
    refine hwF1 ?_
    refine HL.one (H1.ldAgg (vs := [.string l.1, zv l.2]) rfl memA rfl (fun i v hv => by rw [Nat.zero_add]; exact hv) rfl ?_)
    refine hwF1 ?_
    refine HL.one (H1.callv0 (u := .bool true) (cap := []) (vs := [.agg (lnC l).toArray]) rfl rfl rfl (fun w' _ => isLine_fn l hl w') ?_)
    refine hwF1 ?_
    exact HX.ret1 rfl rfl fun w' hM => ⟨rfl, hM.ext⟩
  refine hwF1 ?_
  exact HX.ret1 rfl rfl fun w' hM => ⟨rfl, hM.ext⟩
theorem allCl_fn {v : Value} {n : Nat} {L : Nat → Cl} (hn1 : n ≤ 1000000) (hok : ∀ i, i < n → ClOk (L i)) (w : World) (hR : RdK w v n 6 fun i => clC (L i)) :
    Fn Tryz.prog 102 #[v, .func (.func 103) #[] #[]] w fun u w' => u = .bool true ∧ Ext w w' := by
  refine enterH (l := [_, _]) rfl Tryz.ntmps102 rfl ?_
  refine hwF1 ?_
  refine HL.one (H1.box rfl rfl rfl (fun b3 => ?_))
  refine hwF1 ?_
  refine HL.one (H1.callx (u := .bool false) (vs := [v, .func (.func 180) #[] #[.pointer (some ⟨b3, 0, none⟩)]]) rfl rfl (fun w' hM => (contCl_fn (p := fun _ => false) hn1 (fun _ => rfl) w' (hR.ext hM.ext) ⟨_, [], [.pointer (some ⟨b3, 0, none⟩)], rfl, inferInstance, fun w2 hx i hi => ?_⟩).mono fun u w'' h => ⟨h.1.trans (by rw [anyN_no fun _ _ => rfl]), h.2⟩) ?_)
  · have hc : w2.cell? ⟨b3, 0, none⟩ = some (.func (.func 103) #[] #[]) := cell_ext hx ((hM.blk (b := b3) memA).cell rfl)
    have hl := hok i hi
    refine enterH (l := [_, _]) rfl Tryz.ntmps180 rfl ?_
    dsimp only
    generalize L i = l at hl ⊢
    unfold clC
    refine hwF1 ?_
    refine HL.one (H1.boxAgg (cs := [zv l.row, zv l.col, .bool l.sum, zv l.val, zv l.top, zv l.left]) rfl rfl (fun b2 => ?_))
    refine hwF1 ?_
    refine HL.one (H1.ld0 rfl hc rfl ?_)
    refine hwF1 ?_
    refine HL.one (H1.ldAgg (vs := [zv l.row, zv l.col, .bool l.sum, zv l.val, zv l.top, zv l.left]) rfl memA rfl (fun i v hv => by rw [Nat.zero_add]; exact hv) rfl ?_)
    refine hwF1 ?_
    refine HL.one (H1.callv0 (u := .bool true) (cap := []) (vs := [.agg (clC l).toArray]) rfl rfl rfl (fun w' _ => isCell_fn l hl w') ?_)
    refine hwF1 ?_
    exact HX.ret1 rfl rfl fun w' hM => ⟨rfl, hM.ext⟩
  refine hwF1 ?_
  exact HX.ret1 rfl rfl fun w' hM => ⟨rfl, hM.ext⟩
theorem trimE_fn (w : World) : Fn Tryz.prog 136 #[.string ⟨#[]⟩, .string ⟨#[48, 49]⟩] w fun u w' => u = .string ⟨#[]⟩ ∧ Ext w w' := by
  refine enterH (l := [_, _]) rfl Tryz.ntmps136 rfl ?_
  refine hwF1 ?_
  exact HX.ret1 rfl rfl fun w' hM => ⟨rfl, hM.ext⟩
theorem isRaster0_fn (vl vc : Value) (h1 : vl.oneCell' = true) (h2 : vc.oneCell' = true) (w : World) : Fn Tryz.prog 104 #[.agg #[vl, vc, zv 0, .string ⟨#[]⟩]] w fun u w' => u = .bool true ∧ Ext w w' := by
  refine enterH (l := [_]) rfl Tryz.ntmps104 rfl ?_
  refine hwF1 ?_
  refine HL.one (H1.boxAgg (cs := [vl, vc, zv 0, .string ⟨#[]⟩]) rfl rfl (fun b1 => ?_))
  refine hwF1 ?_
  refine HL.one (H1.callx (vs := [_, _, _]) rfl rfl (fun w' _ => cwithin_yes (by decide) (by decide) w') ?_)
  refine hwF1 ?_
  refine HL.one (H1.callx (vs := [_, _]) rfl rfl (fun w' _ => trimE_fn w') ?_)
  refine hwF1 ?_
  refine HC.quietS [(some 15, [1], []), (some 16, [15], [0]), (some 17, [16], [1]), (some 18, [17], [2]), (some 19, [18], [3]), (some 20, [1, 19], [4]), (some 21, [20, 19], [5, 4]), (some 22, [21, 19], [6, 4]), (some 23, [22, 19], [7, 4]), (some 24, [19, 23], [4, 8]), (some 25, [24], [9, 4]), (some 26, [1, 25], [10]), (some 27, [26, 25], [11, 10]), (some 28, [27, 25], [12, 10]), (some 29, [28, 25], [13, 10]), (some 30, [29, 25], [14, 10, 10]), (some 31, [1, 30], [15]), (some 32, [31, 30], [16, 15]), (some 33, [32, 30], [17, 15]), (some 34, [33, 30], [18, 15]), (some 35, [1, 30], [15]), (some 36, [35, 30], [20, 15]), (some 37, [36, 30], [21, 15]), (some 38, [1, 30], [15]), (some 39, [38, 30], [23, 15, 15]), (some 40, [37, 39, 30], [22, 24, 15]), (some 41, [34, 40, 30], [19, 25, 15]), (some 42, [30, 41, 25], [15, 26, 10]), (some 43, [42, 25], [27, 24, 10]), (some 44, [1, 43], [28]), (some 45, [44, 43], [29, 28, 28]), (some 46, [45, 43], [30, 30, 28]), (some 47, [43, 46, 25], [28, 31, 10]), (some 48, [25, 47], [10, 32]), (some 2, [48], [33, 31, 0, 1, 2, 3, 4, 5, 6, 7, 8, 9, 10, 11, 12, 13, 14, 15, 16, 17, 18, 19, 20, 21, 22, 23, 24, 25, 26, 27, 28, 29, 30, 31, 32, 33])] (by kernel_rfl) (by kernel_rfl) (by kernel_rfl) ?_
  repeat' (first | refine HQ.pa ?_ | refine HQ.ga rfl ?_ | refine HQ.na rfl ?_ | refine HQ.nu rfl ?_ | refine HQ.ldb rfl memA rfl rfl ?_)
  refine HQ.nil ?_
  refine hwF1 ?_
  exact HX.ret1 rfl rfl fun w' hM => ⟨rfl, hM.ext⟩
/-- The cells of a table stand in order. -/
def ClAsc (C : Nat → Cl) (n : Nat) : Prop := ∀ i, i + 1 < n → (C i).row < (C (i + 1)).row ∨ (C i).row = (C (i + 1)).row ∧ (C i).col < (C (i + 1)).col
set_option maxHeartbeats 4000000 in
theorem cvalidR_fn {vl vc : Value} {wd : Int} {bits : ByteArray} (hras : ∀ v1 v2 : Value, v1.oneCell' = true → v2.oneCell' = true → ∀ w : World, Fn Tryz.prog 104 #[.agg #[v1, v2, zv wd, .string bits]] w fun u w' => u = .bool true ∧ Ext w w') {nl nc : Nat} {L : Nat → ByteArray × Int} {C : Nat → Cl} (hnl : nl ≤ 64) (hnc : nc ≤ 64) (hL : ∀ i, i < nl → LnOk (L i)) (hC : ∀ i, i < nc → ClOk (C i)) (hA : ClAsc C nc) (w : World) (hRl : RdK w vl nl 2 fun i => lnC (L i)) (hRc : RdK w vc nc 6 fun i => clC (C i)) :
    Fn Tryz.prog 44 #[.agg #[vl, vc, zv wd, .string bits]] w fun u w' => u = .bool true ∧ Ext w w' := by
  obtain ⟨al, cl, rfl, -, -⟩ := id hRl
  obtain ⟨ac, cc, rfl, -, -⟩ := id hRc
  refine enterH (l := [_]) rfl Tryz.ntmps44 rfl ?_
  refine hwF1 ?_
  refine HL.one (H1.boxAgg (cs := [.slice al nl cl, .slice ac nc cc, zv wd, .string bits]) rfl rfl (fun b1 => ?_))
  refine hwF1 ?_
  refine HC.loop (α := Nat) (fun k => [(1, .pointer (some ⟨b1, 0, none⟩)), (3, .bool true), (4, zv ((k + 1 : Nat) : Int))]) (fun _ => [A.blk b1 [.slice al nl cl, .slice ac nc cc, zv wd, .string bits] 54]) (fun k => k = 0 ∨ k + 1 ≤ nc) (fun k => nc - k) 0 (.inl rfl) esA (by repeat (first | exact Hs.nil _ | (refine Hs.cons pickA ?_))) ?_
  intro k hk
  by_cases hlt : k + 1 < nc
  · have hn : ((k + 1 : Nat) : Int) < (nc : Int) := by omega
    obtain ⟨bc, offc, rfl, hb⟩ := hRc.cell (show k < nc by omega)
    have hx := hb k (by omega)
    have hy := hb (k + 1) (by omega)
    have hak := hA k hlt
    clear hb
    generalize C k = x at hx hak
    generalize C (k + 1) = y at hy hak
    have hn1 : ((k + 1 : Nat) : Int) - 1 < (nc : Int) := by omega
    refine hnF1 ?_
    refine HC.cut (α := Nat × Nat) (fun q => [(1, .pointer (some ⟨b1, 0, none⟩)), (3, .bool true), (4, zv ((k + 1 : Nat) : Int)), (5, .pointer (some ⟨q.1, 0, none⟩)), (6, .pointer (some ⟨q.2, 0, none⟩))]) (fun q => [A.blk b1 [.slice al nl cl, .slice (some ⟨bc, offc, none⟩) nc cc, zv wd, .string bits] 54, A.blk q.1 (clC x) 72, A.blk q.2 (clC y) 72]) (fun _ => True) ?_ ?_
    · refine HC.anyC ((⟨b1, 1, none⟩, .slice (some ⟨bc, offc, none⟩) nc cc) :: (cellsO bc (offc + k * 6) (clC x) ++ (cellsO bc (offc + (k + 1) * 6) (clC y) ++ []))) rfl ?_
      refine HB.pa 0 rfl ?_
      refine HB.ld 1 rfl rfl memD ?_
      refine HB.pa 2 rfl ?_
      refine HB.pa 3 rfl ?_ ((POp.sub rfl rfl (by omega) (by omega)).of (congrArg zv (show ((k + 1 : Nat) : Int) - 1 = ((k : Nat) : Int) by omega)))
      refine HB.pa 4 rfl ?_
      refine HB.ldO (b := bc) (off := offc + k * 6) (vs := clC x) 5 rfl rfl rfl (fun i v hv => .tail _ (cellsOL (cellsO_mem hv))) ?_
      refine HB.pa 6 rfl ?_
      refine HB.ld 7 rfl rfl memD ?_
      refine HB.pa 8 rfl ?_
      refine HB.pa 9 rfl ?_
      refine HB.ldO (b := bc) (off := offc + (k + 1) * 6) (vs := clC y) 10 rfl rfl rfl (fun i v hv => .tail _ (cellsOR (cellsOL (cellsO_mem hv)))) ?_
      refine HB.all (by (exact Keep.blk (b := b1) memD rfl (Keep.baseO hx (Keep.baseO hy Keep.nil)))) [11, 12] (by kernel_rfl) rfl ⟨⟨_, rfl, ?_⟩, ⟨_, rfl, ?_⟩, trivial⟩
      · refine HP.one ?_
        refine H1.alloc (cs := [zv 0, zv 0, .bool false, zv 0, zv 0, zv 0]) rfl rfl (fun b5 => ?_)
        apply HB.fold
        refine HB.all (by (exact Keep.blk (b := b1) memD rfl (Keep.baseO hx (Keep.baseO hy Keep.nil)))) [12] (by kernel_rfl) rfl ⟨⟨_, rfl, ?_⟩, trivial⟩
        refine HP.one ?_
        refine H1.alloc (cs := [zv 0, zv 0, .bool false, zv 0, zv 0, zv 0]) rfl rfl (fun b6 => ?_)
        apply HB.fold
        refine HB.all (by (exact Keep.blk (b := b1) memD rfl (Keep.baseO hx (Keep.baseO hy Keep.nil)))) [13] (by kernel_rfl) rfl ⟨⟨_, rfl, ?_⟩, trivial⟩
        refine HP.one ?_
        refine H1.stAgg (b := b5) (cs := [zv 0, zv 0, .bool false, zv 0, zv 0, zv 0]) (vs := clC x) rfl rfl rfl (clC_one x) rplA rfl ?_
        apply HB.fold
        refine HB.all (by (exact Keep.blk (b := b1) memD rfl (Keep.baseO hx (Keep.baseO hy Keep.nil)))) [14] (by kernel_rfl) rfl ⟨⟨_, rfl, ?_⟩, trivial⟩
        refine HP.one ?_
        refine H1.stAgg (b := b6) (cs := [zv 0, zv 0, .bool false, zv 0, zv 0, zv 0]) (vs := clC y) rfl rfl rfl (clC_one y) rplA rfl ?_
        apply HB.fold
        refine HB.done (by (exact Keep.blk (b := b1) memD rfl (Keep.baseO hx (Keep.baseO hy Keep.nil)))) (by kernel_rfl) ?_
        exact HX.cut (b5, b6) trivial esA (by repeat (first | exact Hs.nil _ | (refine Hs.cons pickA ?_)))
      · refine HP.one ?_
        refine H1.alloc (cs := [zv 0, zv 0, .bool false, zv 0, zv 0, zv 0]) rfl rfl (fun b6 => ?_)
        apply HB.fold
        refine HB.all (by (exact Keep.blk (b := b1) memD rfl (Keep.baseO hx (Keep.baseO hy Keep.nil)))) [11] (by kernel_rfl) rfl ⟨⟨_, rfl, ?_⟩, trivial⟩
        refine HP.one ?_
        refine H1.alloc (cs := [zv 0, zv 0, .bool false, zv 0, zv 0, zv 0]) rfl rfl (fun b5 => ?_)
        apply HB.fold
        refine HB.all (by (exact Keep.blk (b := b1) memD rfl (Keep.baseO hx (Keep.baseO hy Keep.nil)))) [13] (by kernel_rfl) rfl ⟨⟨_, rfl, ?_⟩, trivial⟩
        refine HP.one ?_
        refine H1.stAgg (b := b5) (cs := [zv 0, zv 0, .bool false, zv 0, zv 0, zv 0]) (vs := clC x) rfl rfl rfl (clC_one x) rplA rfl ?_
        apply HB.fold
        refine HB.all (by (exact Keep.blk (b := b1) memD rfl (Keep.baseO hx (Keep.baseO hy Keep.nil)))) [14] (by kernel_rfl) rfl ⟨⟨_, rfl, ?_⟩, trivial⟩
        refine HP.one ?_
        refine H1.stAgg (b := b6) (cs := [zv 0, zv 0, .bool false, zv 0, zv 0, zv 0]) (vs := clC y) rfl rfl rfl (clC_one y) rplA rfl ?_
        apply HB.fold
        refine HB.done (by (exact Keep.blk (b := b1) memD rfl (Keep.baseO hx (Keep.baseO hy Keep.nil)))) (by kernel_rfl) ?_
        exact HX.cut (b5, b6) trivial esA (by repeat (first | exact Hs.nil _ | (refine Hs.cons pickA ?_)))
    rintro ⟨b5, b6⟩ -
    dsimp only
    unfold clC
    rcases hak with h1 | ⟨h1, h2⟩
    · refine hwF1 ?_
      exact HX.again (k + 1) (.inr (by omega)) (by show nc - (k + 1) < nc - k; omega) esA (by repeat (first | exact Hs.nil _ | (refine Hs.cons pickA ?_)))
    · have h1' : ¬ x.row < y.row := by omega
      refine hwF1 ?_
      exact HX.again (k + 1) (.inr (by omega)) (by show nc - (k + 1) < nc - k; omega) (by refine ⟨rfl, ?_, rfl, trivial⟩; show some (Value.bool (decide (x.col < y.col))) = _; rw [decide_eq_true h2]) (by repeat (first | exact Hs.nil _ | (refine Hs.cons pickA ?_)))
  have hn : ¬ ((k + 1 : Nat) : Int) < (nc : Int) := by omega
  have p1 : ((nl : Nat) : Int) ≤ 64 := by omega
  have p2 : ((nc : Nat) : Int) ≤ 64 := by omega
  refine hwF1 ?_
  refine HL.one (H1.callx (vs := [_, _]) rfl rfl (fun w' hM => allLn_fn (by omega) hL w' (hRl.ext hM.ext)) ?_)
  refine hwF1 ?_
  refine HL.one (H1.callx (vs := [_, _]) rfl rfl (fun w' hM => allCl_fn (by omega) hC w' (hRc.ext hM.ext)) ?_)
  refine hwF1 ?_
  refine HL.one (H1.ldAgg (b := b1) (vs := [.slice al nl cl, .slice ac nc cc, zv wd, .string bits]) rfl memA rfl (fun i v hv => by rw [Nat.zero_add]; exact hv) rfl ?_)
  refine hwF1 ?_
  refine HL.build (cs := [.slice al nl cl, .slice ac nc cc, zv wd, .string bits]) rfl rfl rfl ?_
  refine hwF1 ?_
  refine HL.one (H1.callx (vs := [_]) rfl rfl (fun w' _ => hras (.slice al nl cl) (.slice ac nc cc) rfl rfl w') ?_)
  refine hwF1 ?_
  exact HX.ret1 rfl rfl fun w' hM => ⟨rfl, hM.ext⟩
theorem cvalid_fn {vl vc : Value} {nl nc : Nat} {L : Nat → ByteArray × Int} {C : Nat → Cl} (hnl : nl ≤ 64) (hnc : nc ≤ 64) (hL : ∀ i, i < nl → LnOk (L i)) (hC : ∀ i, i < nc → ClOk (C i)) (hA : ClAsc C nc) (w : World) (hRl : RdK w vl nl 2 fun i => lnC (L i)) (hRc : RdK w vc nc 6 fun i => clC (C i)) :
    Fn Tryz.prog 44 #[.agg #[vl, vc, zv 0, .string ⟨#[]⟩]] w fun u w' => u = .bool true ∧ Ext w w' :=
  cvalidR_fn (fun v1 v2 h1 h2 w => isRaster0_fn v1 v2 h1 h2 w) hnl hnc hL hC hA w hRl hRc
end Go.Sx
