/-
  A result that is a variable's own cells, and how a function is entered with atoms at hand.
-/
import Derived.Test.YtionfblneloaiaaGreatDoorHx
import Derived.Laws.ResultCell
import Derived.MapKept
namespace Go.Sx
open Go Go.RowKit
theorem run_loadVarAgg {P : Program} {w : World} {t : TypeId} {b off : Nat} {vs : List Value} {z : Value} {n bb : Nat} [ha : ATy P t true] [hi : ITy P t z n bb] (hn : vs.length = n)
    (hc : ∀ i v, vs[i]? = some v → w.cell? ⟨b, off + i, none⟩ = some v) : (loadVar t ⟨b, off, none⟩).run P w = .ok (.agg vs.toArray) w := by
  simp only [loadVar, Sem.run_bind]
  simp [run_isAgg, run_sizeOf, loadCells, run_loadCellsFrom P w b off vs hc n 0 #[] (by omega), Result.andThen, Sem.run_bind]
section
variable {P : Program} {N : Nat} {E : Env} {w0 : World} {H : List Atom}
theorem HX.retc2 {fn : Func} {p u b bb n : Nat} {ty e : TypeId} {z v : Value} {cs : List Value} {R : Value → World → Prop} [ha : ATy P ty true] [hi : ITy P ty z n bb] (hr : fn.results = #[.cell p ty, .tmp u]) (hp : Env.g E p = some (.pointer (some ⟨b, 0, none⟩)))
    (hv : Env.g E u = some v) (hm : A.blk b cs e ∈ H) (hn : cs.length = n) (h : ∀ w, Mm w0 H w → R (.tuple #[.agg cs.toArray, v]) w) : HX N [] .ret (bodyPost P fn (RetP R)) E w0 H := fun w hM a ha => by
  refine ⟨ha.defers, .tuple #[.agg cs.toArray, v], ?_, ⟨_, rfl, h w hM⟩⟩
  have e1 : a.tmps.getD p undef = .pointer (some ⟨b, 0, none⟩) := by rw [Array.getD_eq_getD_getElem?, ha.get _ _ hp]; rfl
  have e2 : a.tmps.getD u undef = v := by rw [Array.getD_eq_getD_getElem?, ha.get _ _ hv]; rfl
  rw [results_cell_tmp hr, e1, e2]
  have := run_loadVarAgg (P := P) (w := w) (t := ty) (b := b) (off := 0) hn (fun i v hv => by rw [Nat.zero_add]; exact (hM.blk hm).cell hv)
  simp [asAddr, Result.andThen, this]
theorem HX.retc1 {fn : Func} {p b bb n : Nat} {ty e : TypeId} {z : Value} {cs : List Value} {R : Value → World → Prop} [ha : ATy P ty true] [hi : ITy P ty z n bb] (hr : fn.results = #[.cell p ty]) (hp : Env.g E p = some (.pointer (some ⟨b, 0, none⟩)))
    (hm : A.blk b cs e ∈ H) (hn : cs.length = n) (h : ∀ w, Mm w0 H w → R (.agg cs.toArray) w) : HX N [] .ret (bodyPost P fn (RetP R)) E w0 H := fun w hM a ha => by
  refine ⟨ha.defers, .agg cs.toArray, ?_, ⟨_, rfl, h w hM⟩⟩
  have e1 : a.tmps.getD p undef = .pointer (some ⟨b, 0, none⟩) := by rw [Array.getD_eq_getD_getElem?, ha.get _ _ hp]; rfl
  have e1' : a.tmps[p]?.getD undef = .pointer (some ⟨b, 0, none⟩) := by simpa using e1
  have := run_loadVarAgg (P := P) (w := w) (t := ty) (b := b) (off := 0) hn (fun i v hv => by rw [Nat.zero_add]; exact (hM.blk hm).cell hv)
  simp [results, hr, e1', asAddr, this]
/-- A function, entered with atoms at hand. -/
theorem enterK {f : FuncId} {fn : Func} {c : Code} {l : List Value} {R : Value → World → Prop} {w : World} [hf : FnIs P f fn] (hM : Mm w0 H w) (hb : fn.body = some c) (hN : fn.ntmps = N) (hl : Nat.ble l.length N = true)
    (h : HC P none N [] c (bodyPost P fn (RetP R)) (Env.of 0 l) w0 H) : Fn P f l.toArray w R := enter hb hN hl (h w hM)
end
end Go.Sx
/-
  The layer with atoms: bytes and strings.
-/
namespace Go.Sx
open Go Go.RowKit
/-- The string with bytes f. -/
def mkS (n : Nat) (f : Nat → Nat) : ByteArray := ⟨((List.range n).map fun q => UInt8.ofNat (f q)).toArray⟩
theorem mkS_size (n : Nat) (f : Nat → Nat) : (mkS n f).size = n := by simp [mkS, ByteArray.size]
theorem mkS_sb {n : Nat} {f : Nat → Nat} {q : Nat} (h : q < n) (hf : f q < 256) : sb (mkS n f) q = f q := by
  simp [sb, mkS, h]
  omega
def u8v (n : Nat) : Value := .int .u8 (n : Int)
section
variable {P : Program} {r : Option Nat} {N : Nat} {ds : List Deferred} {ol rest : List Oper} {Q : Post} {E : Env} {w0 : World} {H : List Atom} {next : Act → World → Prop} {g : Option (Nat × Bool)} {fuel : Nat} {listed : Array Bool}
variable {d : Nat} {t t' ty : TypeId} {pos : String} {af : Array Edge} {x y : Operand} {m n : Int} {a b : Nat}
theorem HQ.ldb {v : Value} {b i : Nat} {cs : List Value} {e : TypeId} [ha : ATy P t false] (hx : Env.ev E x = some (.pointer (some ⟨b, i, none⟩))) (hm : A.blk b cs e ∈ H) (hi : cs[i]? = some v) (hd : Nat.blt d N = true)
    (h : HQ P r N ds ol rest Q ((d, v) :: E) w0 H) : HQ P r N ds ol (⟨some d, .load t x, ty, pos, af, none⟩ :: rest) Q E w0 H := HQ.ld hx (fun _ hM => (hM.blk hm).cell hi) hd h
theorem HQ.call0 {v : Value} {d : Option Nat} {f : FuncId} {args : List Operand} {ats : Array TypeId} {vs : List Value}
    [hf : CallOk P f] (ha : Env.evs E args = some vs) (hd : dOk d N = true) (hc : ∀ w, Mm w0 H w → Fn P f vs.toArray w fun u w' => u = v ∧ w = w')
    (h : HQ P r N ds ol rest Q (putE d v E) w0 H) : HQ P r N ds ol (⟨d, .call ⟨.value (.func f), args.toArray, ats⟩, ty, pos, af, none⟩ :: rest) Q E w0 H :=
  HQ.call ha hd (fun w hM => (hc w hM).mono fun _ _ ⟨h1, h2⟩ => ⟨h1, h2 ▸ Ext.refl _⟩) h
theorem op_mono2 {F : Fence} {n' : Nat} {o : Oper} {a : Act} {w : World} {K K' : Act → World → Prop} {Q Q' : Post} (h : ∀ a w, K a w → K' a w) (hq : ∀ e a w, e ≠ .normal → Q e a w → Q' e a w)
    (hh : o.wpIn F n' P a w K Q) : o.wpIn F n' P a w K' Q' := by
  unfold Oper.wpIn at *
  refine ⟨hh.1, ?_⟩
  have hh := hh.2
  generalize (o.semAt F.round a.eval).run P w = r at *
  cases r with
  | ok x w' =>
    cases x <;> simp only [Oper.uponIn] at hh ⊢ <;>
      first
        | exact h _ _ hh
        | exact ⟨hh.1, CallsIn.mono hh.2 (fun e w'' he => by cases e <;> first | exact h _ _ he | exact hq _ _ _ (by simp) he | (obtain ⟨a1, w1, h1⟩ := he; exact ⟨a1, w1, hq _ _ _ (by simp) h1⟩))⟩
        | exact ⟨hh.1, RowsIn.mono hh.2 (fun _ _ he => h _ _ he)⟩
        | exact ⟨hh.1, RoundIn.mono hh.2 (fun e w'' he => by cases e <;> first | exact h _ _ he | exact hq _ _ _ (by simp) he | (obtain ⟨a1, w1, h1⟩ := he; exact ⟨a1, w1, hq _ _ _ (by simp) h1⟩))⟩
  | halt x w' => cases x <;> simp only [Oper.uponIn] at hh ⊢ <;> first | exact hh | exact hq _ _ _ (by simp) hh
theorem list_mono2 {F : Fence} {n' : Nat} {ops : Array Oper} {Q Q' : Post} (hn : ∀ a w, Q .normal a w → Q' .normal a w) (hq : ∀ e a w, e ≠ .normal → Q e a w → Q' e a w) :
    ∀ (l : List Oper) (a : Act) (w : World), wpListIn F n' P ops Q l a w → wpListIn F n' P ops Q' l a w
  | [], a, w, h => hn a w h
  | o :: l, a, w, h => by
    simp only [wpListIn] at h ⊢
    split
    · rename_i hw; rw [if_pos hw] at h; exact op_mono2 (fun a w h => list_mono2 hn hq l a w h) hq h
    · rename_i hw; rw [if_neg hw] at h; exact ⟨h.1, list_mono2 hn hq l _ w h.2⟩
/-- A cut inside a statement that is being walked. -/
theorem HL.cut {α : Type} {l : List Oper} {y : Code} (Ex : α → Env) (Hx : α → List Atom) (I : α → Prop) (h : HL P r N ds ol l (Again (CutH N ds Ex Hx I w0) Q) E w0 H)
    (h2 : ∀ z, I z → HC P r N ds y Q (Ex z) w0 (Hx z)) : HL P r N ds ol l (Then P r y Q) E w0 H := fun w hM a ha => by
  refine list_mono2 (fun a w hc => ?_) (fun e a w he hc => ?_) l a w (h w hM a ha)
  · obtain ⟨z, ⟨h3, h4⟩, h5⟩ := hc
    exact h2 z h3 w h4 a h5
  · cases e with
    | normal => exact absurd rfl he
    | _ => exact hc
theorem Rd.cell0 {w : World} {b n c : Nat} {vs : List Value} (h : Rd w (.slice (some ⟨b, 0, none⟩) n c) vs) {i : Nat} {u : Value} (hu : vs[i]? = some u) : w.cell? ⟨b, i, none⟩ = some u := by
  have := h.cell hu; rwa [Nat.zero_add] at this
/-- string(b), off a row of bytes. -/
theorem H1.bstr {dst e : TypeId} {b n c : Nat} {f : Nat → Nat} [h : UTy P t (.slice e)] [he : UTy P e (.int .u8)] [hs : UTy P dst .string] (hx : Env.ev E x = some (.slice (some ⟨b, 0, none⟩) n c)) (hm : A.blk b (row n fun q => u8v (f q)) e ∈ H)
    (hf : ∀ q, q < n → f q < 256) (hd : Nat.blt d N = true) (hn : HN N ds next ((d, .string (mkS n f)) :: E) w0 H) :
    H1 P r N ds next ⟨some d, .convert t dst x, ty, pos, af, g⟩ Q E w0 H := fun w hM =>
  W1.bytes_string (l := (List.range n).map fun q => UInt8.ofNat (f q)) hx (by simp) (fun q hq => by
    have hq' : q < n := by simpa using hq
    have := hf q hq'
    rw [add_lit, Nat.zero_add]
    refine (hM.blk hm).cell ?_
    rw [row_get _ hq']
    simp [u8v]
    omega) hd (hn w hM)
end
theorem row_step {n i : Nat} {f g : Nat → Value} {v : Value} (h1 : g i = v) (h2 : ∀ q, q ≠ i → f q = g q) : (row n f).set i v = row n g := by
  rw [row_set]
  apply row_congr
  intro q _
  by_cases e : q = i
  · subst e; simp [h1]
  · simp [e, h2 q e]
theorem Hs.blk {b : Nat} {cs cs' : List Value} {e : TypeId} {H1 H' : List Atom} (h : cs = cs') (hs : Hs H1 H') : Hs (A.blk b cs e :: H1) (A.blk b cs' e :: H') := by
  subst h; exact Hs.cons Pick.here hs
theorem Pick.blk {b : Nat} {cs cs' : List Value} {e : TypeId} {H : List Atom} (h : cs = cs') : Pick (A.blk b cs' e) (A.blk b cs e :: H) H := by
  subst h; exact Pick.here
/-- A slice in a fresh block that reads as vs, as an atom. -/
theorem Mm.rdFresh {w w' : World} {b off n c : Nat} {vs : List Value} (hx : Ext w w') (hb : w.heap.size ≤ b) (hR : Rd w' (.slice (some ⟨b, off, none⟩) n c) vs) : Mm w [A.rd (.slice (some ⟨b, off, none⟩) n c) vs] w' := by
  have h0 := Mm.nil hx
  by_cases he : vs = []
  · refine h0.cons hR (by simp [A.rd, he]) (by simp [A.rd, he])
  · obtain ⟨b', off', c', h1, h2, h3, -⟩ := hR.at he
    cases h1
    have he' : vs.isEmpty = false := by cases vs <;> simp_all
    refine h0.cons hR (by simp [A.rd, he', Value.ownBlock]) fun q hq => ?_
    have : q = b := by simpa [A.rd, he', Value.ownBlock] using hq
    subst this
    exact ⟨by simp [fps], hb, h3⟩
end Go.Sx
/-
  Slices of numbers: as lists; the library's small functions on them; range loops.
-/
namespace Go.Sx
open Go Go.RowKit
abbrev zv (x : Int) : Value := .int .i64 x
def ints (l : List Int) : List Value := l.map zv
def at' (l : List Int) (i : Nat) : Int := l.getD i 0
theorem ints_len (l : List Int) : (ints l).length = l.length := by simp [ints]
theorem ints_get {l : List Int} {i : Nat} (h : i < l.length) : (ints l)[i]? = some (zv (at' l i)) := by simp [ints, at', h]
theorem ints_app (l m : List Int) : ints (l ++ m) = ints l ++ ints m := by simp [ints]
theorem ints_set (l : List Int) (i : Nat) (x : Int) : (ints l).set i (zv x) = ints (l.set i x) := by simp [ints, List.map_set]
theorem ints_one : ∀ (l : List Int), ∀ u ∈ ints l, u.oneCell' = true := fun l u hu => by
  obtain ⟨x, -, rfl⟩ := List.mem_map.1 hu; rfl
theorem at_mem {l : List Int} {i : Nat} (h : i < l.length) : at' l i ∈ l := by
  unfold at'; rw [List.getD_eq_getElem?_getD, List.getElem?_eq_getElem h]; exact List.getElem_mem h
theorem at_take {l : List Int} {i n : Nat} (h : i < n) : at' (l.take n) i = at' l i := by
  unfold at'; simp [List.getD_eq_getElem?_getD, h]
theorem take_at {l : List Int} {i : Nat} (h : i < l.length) : l.take (i + 1) = l.take i ++ [at' l i] := by
  rw [List.take_succ_eq_append_getElem h]; simp [at', h]
/-- A slice of numbers that reads as l: its parts. -/
theorem Rd.isInts {w : World} {v : Value} {l : List Int} (h : Rd w v (ints l)) : ∃ a c, v = .slice a l.length c ∧ l.length ≤ c := by
  obtain ⟨a, c, h1, h2, -⟩ := h
  rw [ints_len] at h1 h2
  exact ⟨a, c, h1, h2⟩
/-- Where element i lies. -/
theorem Rd.iat {w : World} {a : Option Addr} {n c : Nat} {l : List Int} (h : Rd w (.slice a n c) (ints l)) (hne : l ≠ []) : ∃ b off, a = some ⟨b, off, none⟩ ∧ b < w.heap.size := by
  obtain ⟨b, off, c', h1, -, h3, -⟩ := h.at (by intro e; apply hne; have := congrArg List.length e; simpa [ints] using this)
  cases h1
  exact ⟨b, off, rfl, h3⟩
end Go.Sx
/-
  Statements whose order is open: the lexical order is enough: checked on a skeleton.
-/
namespace Go.Sx
open Go Go.RowKit
abbrev Sk := Option Nat × List Nat × List Nat
def memB (x : Nat) : List Nat → Bool
  | [] => false
  | y :: l => Nat.beq x y || memB x l
theorem memB_iff {x : Nat} : ∀ {l : List Nat}, memB x l = true ↔ x ∈ l
  | [] => by simp [memB]
  | y :: l => by
    simp only [memB, Bool.or_eq_true, memB_iff, List.mem_cons]
    constructor
    · rintro (h | h)
      · exact .inl (Nat.eq_of_beq_eq_true h)
      · exact .inr h
    · rintro (rfl | h)
      · exact .inl (Nat.beq_refl _)
      · exact .inr h
def apartS (x y : Sk) : Bool :=
  (match x.1 with
   | some d => !(memB d y.2.1) && (match y.1 with | some e => !(Nat.beq e d) | none => true)
   | none => true) &&
  (match y.1 with
   | some d => !(memB d x.2.1)
   | none => true)
def skOf (ops : Array Oper) (o : Oper) : Sk := (o.dst, o.looksAt ops, (o.after.toList.filter (Region.binds .any)).map (·.on))
def pairB (k : Nat) (x : Sk) : List Sk → Bool
  | [] => true
  | y :: l => (memB k y.2.2 || apartS x y) && pairB k x l
def allLt (k : Nat) : List Nat → Bool
  | [] => true
  | x :: l => Nat.blt x k && allLt k l
def skB (k : Nat) : List Sk → Bool
  | [] => true
  | x :: l => allLt k x.2.2 && pairB k x l && skB (k + 1) l
theorem allLt_iff {k : Nat} : ∀ {l : List Nat}, allLt k l = true → ∀ x ∈ l, x < k
  | [], _, _, hx => by cases hx
  | y :: l, h, x, hx => by
    simp only [allLt, Bool.and_eq_true] at h
    rcases List.mem_cons.1 hx with rfl | hx
    · simpa [Nat.blt_eq] using h.1
    · exact allLt_iff h.2 x hx
theorem pairB_at {k : Nat} {x : Sk} : ∀ {l : List Sk}, pairB k x l = true → ∀ y ∈ l, k ∈ y.2.2 ∨ apartS x y = true
  | [], _, _, hy => by cases hy
  | z :: l, h, y, hy => by
    simp only [pairB, Bool.and_eq_true, Bool.or_eq_true] at h
    rcases List.mem_cons.1 hy with rfl | hy
    · exact h.1.imp (fun h => memB_iff.1 h) id
    · exact pairB_at h.2 y hy
theorem skB_at : ∀ {l : List Sk} {k : Nat}, skB k l = true → ∀ i x, l[i]? = some x → (∀ d ∈ x.2.2, d < k + i) ∧ ∀ j y, i < j → l[j]? = some y → (k + i) ∈ y.2.2 ∨ apartS x y = true
  | [], _, _, i, x, hx => by simp at hx
  | z :: l, k, h, i, x, hx => by
    simp only [skB, Bool.and_eq_true] at h
    cases i with
    | zero =>
      simp only [List.getElem?_cons_zero, Option.some.injEq] at hx
      subst hx
      refine ⟨allLt_iff h.1.1, fun j y hj hy => ?_⟩
      cases j with
      | zero => cases hj
      | succ j =>
        rw [List.getElem?_cons_succ] at hy
        exact pairB_at h.1.2 y (List.mem_of_getElem? hy)
    | succ i =>
      rw [List.getElem?_cons_succ] at hx
      obtain ⟨h1, h2⟩ := skB_at h.2 i x hx
      have e : k + 1 + i = k + (i + 1) := by omega
      rw [e] at h1 h2
      refine ⟨h1, fun j y hj hy => ?_⟩
      cases j with
      | zero => cases hj
      | succ j =>
        rw [List.getElem?_cons_succ] at hy
        exact h2 j y (by omega) hy
theorem contains_memB (d : Nat) (l : List Nat) : l.contains d = memB d l := by
  cases h : memB d l with
  | true => exact List.contains_iff_mem.2 (memB_iff.1 h)
  | false =>
    cases hc : l.contains d with
    | false => rfl
    | true => rw [memB_iff.2 (List.contains_iff_mem.1 hc)] at h; cases h
theorem apart_sk (ops : Array Oper) (x y : Oper) : x.apart ops y = apartS (skOf ops x) (skOf ops y) := by
  unfold Oper.apart apartS skOf
  simp only
  congr 1
  · cases x.dst with
    | none => rfl
    | some d =>
      simp only
      rw [contains_memB]
      congr 1
      cases y.dst with
      | none => rfl
      | some e =>
        simp only
        by_cases h : e = d
        · subst h; simp
        · have h1 : Nat.beq e d = false := beq_ne h
          rw [h1]; simp [h]
  · cases y.dst with
    | none => rfl
    | some d => simp only; rw [contains_memB]
theorem lexB_sk {l : List Oper} (sk : List Sk) (h1 : l.map (skOf l.toArray) = sk) (h2 : skB 0 sk = true) (h3 : Region.noSelect l.toArray = true) : Region.lexB .any l.toArray = true := by
  unfold Region.lexB
  rw [h3, Bool.true_and]
  have key : ∀ (fuel k : Nat) (listed : Array Bool), fuel + k = l.length → listed.size = l.length → (∀ i, i < l.length → listed[i]? = some (decide (i < k))) → Region.lexFrom .any l.toArray fuel k listed = true := by
    intro fuel
    induction fuel with
    | zero =>
      intro k listed hk hs hl
      unfold Region.lexFrom Region.ready
      rw [List.isEmpty_iff, List.filter_eq_nil_iff]
      intro i hi
      have hi' : i < l.length := by simpa using hi
      have e : listed.getD i true = true := by
        rw [Array.getD_eq_getD_getElem?, hl i hi']
        simp; omega
      simp [e]
    | succ fuel ih =>
      intro k listed hk hs hl
      have hkl : k < l.length := by omega
      obtain ⟨o, ho⟩ : ∃ o, l[k]? = some o := ⟨l[k], by simp [hkl]⟩
      have hsk : sk[k]? = some (skOf l.toArray o) := by rw [← h1, List.getElem?_map, ho]; rfl
      obtain ⟨g1, g2⟩ := skB_at h2 k _ hsk
      rw [Nat.zero_add] at g1 g2
      unfold Region.lexFrom
      rw [Bool.and_eq_true, Bool.and_eq_true]
      refine ⟨⟨?_, ?_⟩, ?_⟩
      · rw [List.contains_iff_mem]
        unfold Region.ready
        rw [List.mem_filter]
        refine ⟨by simpa using hkl, ?_⟩
        have e : listed.getD k true = false := by
          rw [Array.getD_eq_getD_getElem?, hl k hkl]; simp
        have e2 : (l.toArray)[k]? = some o := by simpa using ho
        rw [e, e2]
        simp only [Bool.not_false, Option.map_some, Option.getD_some, Bool.true_and]
        rw [Array.all_eq_true_iff_forall_mem]
        intro ed hed
        by_cases hb : Region.binds .any ed = true
        · have hlt : ed.on < k := g1 ed.on (by
            simp only [skOf, List.mem_map, List.mem_filter]
            exact ⟨ed, ⟨by simpa using hed, hb⟩, rfl⟩)
          have : listed.getD ed.on false = true := by
            rw [Array.getD_eq_getD_getElem?, hl ed.on (by omega)]; simp [hlt]
          rw [this]; simp
        · simp [hb]
      · unfold Region.free
        have e2 : (l.toArray)[k]? = some o := by simpa using ho
        rw [e2]
        simp only
        rw [List.all_eq_true]
        intro j hj
        have hj' : j < l.length := by simpa using hj
        by_cases hjk : j = k
        · simp [hjk]
        · by_cases hlt : j < k
          · have : listed.getD j true = true := by rw [Array.getD_eq_getD_getElem?, hl j hj']; simp [hlt]
            simp [this]
          · obtain ⟨oj, hoj⟩ : ∃ o, l[j]? = some o := ⟨l[j], by simp [hj']⟩
            have hskj : sk[j]? = some (skOf l.toArray oj) := by rw [← h1, List.getElem?_map, hoj]; rfl
            have e3 : (l.toArray)[j]? = some oj := by simpa using hoj
            rw [e3]
            simp only [Bool.or_eq_true]
            right
            rcases g2 j _ (by omega) hskj with h | h
            · left
              rw [Array.any_eq_true']
              simp only [skOf, List.mem_map, List.mem_filter] at h
              obtain ⟨ed, ⟨h4, h5⟩, h6⟩ := h
              exact ⟨ed, by simpa using h4, by simp [h5, h6]⟩
            · right
              rw [apart_sk]; exact h
      · refine ih (k + 1) _ (by omega) (by simp [hs]) fun i hi => ?_
        rw [Array.getElem?_setIfInBounds]
        by_cases e : k = i
        · subst e; simp [hs, hkl]
        · rw [if_neg e, hl i hi]
          congr 1
          rw [decide_eq_decide]
          omega
  have := key l.length 0 (Array.replicate l.length false) (by omega) (by simp) (fun i hi => by simp [hi])
  simpa using this
section
variable {P : Program} {r : Option Nat} {N : Nat} {ds : List Deferred} {Q : Post} {E : Env} {w0 : World} {H : List Atom}
theorem HC.quietS [hm : Mixed P] {id : Nat} {l : List Oper} (sk : List Sk) (h1 : l.map (skOf l.toArray) = sk) (h2 : skB 0 sk = true) (h3 : Region.noSelect l.toArray = true) (h : HQ P r N ds l l Q E w0 H) : HC P r N ds (.region id l.toArray true) Q E w0 H := HC.quiet (lexB_sk sk h1 h2 h3) h
end
end Go.Sx
/-
  The layer with atoms: maps whose keys are numbers.
-/
namespace Go.Sx
open Go Go.RowKit
/-- A map of the call's own: what it holds, in the order in which it came. -/
def mpP (q : IntKind) (l : List (Int × Value)) (o : Obj) : Prop := ∃ es clk, o = .map es clk ∧ es.toList.map (fun e => (e.key, e.val)) = l.map fun p => (Value.int q p.1, p.2)
def A.mp (b : Nat) (q : IntKind) (l : List (Int × Value)) : Atom := A.obj b (mpP q l)
def mset : List (Int × Value) → Int → Value → List (Int × Value)
  | [], x, v => [(x, v)]
  | (y, u) :: l, x, v => if x = y then (x, v) :: l else (y, u) :: mset l x v
def mget : List (Int × Value) → Int → Option Value
  | [], _ => none
  | (y, u) :: l, x => if x = y then some u else mget l x
def midx : List (Int × Value) → Int → Option (Nat × Value)
  | [], _ => none
  | (y, u) :: l, x => if x = y then some (0, u) else (midx l x).map fun p => (p.1 + 1, p.2)
theorem findNow_int (q : IntKind) (x : Int) : ∀ (es : List MapEntry) (l : List (Int × Value)) (i : Nat), es.map (fun e => (e.key, e.val)) = l.map (fun p => (Value.int q p.1, p.2)) →
    Instr.findNow (.int q) (.int q x) es i = some ((midx l x).map fun p => (p.1 + i, p.2))
  | [], [], i, _ => rfl
  | [], _ :: _, _, h => by simp at h
  | _ :: _, [], _, h => by simp at h
  | e :: es, (y, u) :: l, i, h => by
    simp only [List.map_cons, List.cons.injEq, Prod.mk.injEq] at h
    obtain ⟨⟨h1, h2⟩, h3⟩ := h
    unfold Instr.findNow
    rw [h1]
    simp only [Instr.sameNow, if_true, midx]
    by_cases hxy : x = y
    · subst hxy
      simp [h2]
    · have : (x == y) = false := by simp [hxy]
      rw [this, if_neg hxy]
      simp only
      rw [findNow_int q x es l (i + 1) h3]
      cases midx l x with
      | none => rfl
      | some p => simp; omega
theorem midx_none {l : List (Int × Value)} {x : Int} (v : Value) (h : midx l x = none) : mset l x v = l ++ [(x, v)] := by
  induction l with
  | nil => rfl
  | cons p l ih =>
    obtain ⟨y, u⟩ := p
    simp only [midx] at h
    by_cases hxy : x = y
    · rw [if_pos hxy] at h; cases h
    · rw [if_neg hxy] at h
      simp only [mset, if_neg hxy, List.cons_append]
      rw [ih (by simpa using h)]
theorem midx_some {l : List (Int × Value)} {x : Int} (v : Value) {i : Nat} {u : Value} (h : midx l x = some (i, u)) : mset l x v = l.set i (x, v) ∧ i < l.length ∧ l[i]? = some (x, u) := by
  induction l generalizing i u with
  | nil => cases h
  | cons p l ih =>
    obtain ⟨y, u'⟩ := p
    simp only [midx] at h
    by_cases hxy : x = y
    · rw [if_pos hxy] at h
      cases h
      simp [mset, hxy]
    · rw [if_neg hxy] at h
      rw [Option.map_eq_some_iff] at h
      obtain ⟨⟨j, u2⟩, h1, h2⟩ := h
      cases h2
      obtain ⟨h3, h4, h5⟩ := ih h1
      simp only [mset, if_neg hxy, h3]
      exact ⟨by simp, by simpa using h4, by simpa using h5⟩
theorem run_checkKey_int {P : Program} {w : World} {k : TypeId} {q : IntKind} (hk : P.underlying k = some (.int q)) (e : Bool) (n : Nat) (x : Int) : (Instr.checkKey e (n + 1) k (.int q x)).run P w = .ok () w := by
  unfold Instr.checkKey
  simp only [Sem.run_bind, run_underlying hk, Result.andThen]
  rfl
theorem run_keyStays {P : Program} {w : World} (q : IntKind) (x : Int) : (Instr.keyThatStays (.int q x) (.int q x)).run P w = .ok (.int q x) w := by
  have : Instr.sameBits 10000 (.int q x) (.int q x) = true := by unfold Instr.sameBits; simp
  unfold Instr.keyThatStays
  rw [this]; rfl
theorem run_getMap {P : Program} {w : World} {b : Nat} {es : Array MapEntry} {clk : Nat} (hb : w.heap[b]? = some (.map es clk)) : (getObj b).run P w = .ok (.map es clk) w := by
  simp [getObj, Sem.run, hb]
theorem run_setMap {P : Program} {w : World} {b : Nat} {es : Array MapEntry} {clk : Nat} (o : Obj) (hb : w.heap[b]? = some (.map es clk)) : (setObj b o).run P w = .ok () (w.putObj b o) := by
  simp [setObj, Sem.run, hb, World.putObj]
theorem run_findKey_int {P : Program} {w : World} {k : TypeId} {q : IntKind} (hk : P.underlying k = some (.int q)) (x : Int) (es : List MapEntry) (l : List (Int × Value)) (hes : es.map (fun e => (e.key, e.val)) = l.map (fun p => (Value.int q p.1, p.2))) :
    (Instr.findKey k (.int q x) es).run P w = .ok (midx l x) w := by
  unfold Instr.findKey
  simp only [Sem.run_bind, run_underlying hk, Result.andThen, findNow_int q x es l 0 hes, Sem.run_pure]
  cases midx l x <;> rfl
theorem run_mapUpdate_int {P : Program} {t k e : TypeId} {q : IntKind} (ht : P.underlying t = some (.map k e)) (hk : P.underlying k = some (.int q)) {w : World} {b : Nat} {l : List (Int × Value)} {o : Obj} (hb : w.heap[b]? = some o) (ho : mpP q l o) (x : Int) (v : Value) :
    ∃ o', (Instr.mapUpdate t (.map (some b)) (.int q x) v).run P w = .ok () (w.putObj b o') ∧ mpP q (mset l x v) o' := by
  obtain ⟨es, clk, rfl, hes⟩ := ho
  have hf := run_findKey_int (P := P) (w := w) hk x es.toList l hes
  have hlen : es.size = l.length := by have := congrArg List.length hes; simpa using this
  cases hm : midx l x with
  | none =>
    refine ⟨.map (es.push { key := .int q x, val := v, born := clk }) (clk + 1), ?_, ?_⟩
    · rw [hm] at hf
      unfold Instr.mapUpdate
      simp only [Sem.run_bind, run_underlying ht, Result.andThen, run_getMap hb, run_checkKey_int hk _ 9999 x, hf, run_setMap _ hb]
    · refine ⟨_, _, rfl, ?_⟩
      rw [midx_none v hm]
      simp [hes]
  | some p =>
    obtain ⟨i, u⟩ := p
    obtain ⟨h1, h2, h3⟩ := midx_some v hm
    have hi : i < es.size := by omega
    have hkey : es[i].key = .int q x := by
      have := congrArg (fun l => l[i]?) hes
      simp [h3, hi] at this
      exact this.1
    refine ⟨.map (es.modify i fun e => { e with key := .int q x, val := v }) clk, ?_, ?_⟩
    · rw [hm] at hf
      have hk2 : ((es[i]?).map (·.key)).getD (.int q x) = .int q x := by simp [hi, hkey]
      unfold Instr.mapUpdate
      simp only [Sem.run_bind, run_underlying ht, Result.andThen, run_getMap hb, run_checkKey_int hk _ 9999 x, hf, hk2, run_keyStays, run_setMap _ hb]
    · refine ⟨_, _, rfl, ?_⟩
      rw [h1]
      apply List.ext_getElem?
      intro j
      have hj := congrArg (fun l => l[j]?) hes
      simp only [List.getElem?_map, Array.getElem?_toList] at hj ⊢
      rw [Array.getElem?_modify, List.getElem?_set]
      by_cases e : i = j
      · subst e
        simp [hi, h2]
      · simp only [if_neg e]
        exact hj
section
variable {P : Program} {r : Option Nat} {N : Nat} {ds : List Deferred} {ol rest : List Oper} {Q : Post} {E : Env} {w0 : World} {H : List Atom} {next : Act → World → Prop} {g : Option (Nat × Bool)}
variable {d : Nat} {t ty : TypeId} {pos : String} {af : Array Edge} {x y z : Operand}
theorem Mm.mp {w : World} {b : Nat} {q : IntKind} {l : List (Int × Value)} (h : Mm w0 H w) (hm : A.mp b q l ∈ H) : ∃ o, w.heap[b]? = some o ∧ mpP q l o := h.obj hm
theorem H1.mkmap (q : IntKind) (hd : Nat.blt d N = true) (h : ∀ b, HN N ds next ((d, .map (some b)) :: E) w0 (A.mp b q [] :: H)) : H1 P r N ds next ⟨some d, .makeMap t none, ty, pos, af, g⟩ Q E w0 H := fun w hM =>
  W1.run (v := .map (some w.heap.size)) (w' := w.alloc (.map #[] 0)) (fun _ _ => rfl) rfl hd (h _ _ (by
    refine (hM.more (Ext.alloc w _)).cons ⟨_, World.alloc_heap_new w _, _, _, rfl, rfl⟩ (by simp [A.mp, A.obj]) fun b hb => ?_
    have hb' : b = w.heap.size := by simpa [A.mp, A.obj] using hb
    subst hb'
    refine ⟨fun hm => ?_, hM.ext.size, by simp⟩
    have := (hM.rng _ hm).2
    omega))
theorem H1.mapset {b : Nat} {k e : TypeId} {q : IntKind} {l : List (Int × Value)} {n : Int} {v : Value} {H' : List Atom} [ht : UTy P t (.map k e)] [hk : UTy P k (.int q)] (hx : Env.ev E x = some (.map (some b))) (hy : Env.ev E y = some (.int q n)) (hz : Env.ev E z = some v)
    (hr : Rpl (A.mp b q l) (A.mp b q (mset l n v)) H H') (h : HN N ds next E w0 H') : H1 P r N ds next ⟨none, .mapUpdate t x y z, ty, pos, af, g⟩ Q E w0 H := fun w hM => by
  obtain ⟨o, hb, ho⟩ := hM.mp hr.mem
  obtain ⟨o', hrun, ho'⟩ := run_mapUpdate_int (P := P) ht.is hk.is hb ho n v
  have hlt := (Array.getElem?_eq_some_iff.1 hb).1
  refine W1.skip (w' := w.putObj b o') (fun a ha => ?_) rfl rfl (h _ (hM.turn hr rfl rfl rfl (by simp) (fun k _ hk' => ?_) ⟨o', World.putObj_heap_same hlt, ho'⟩ (by simp [A.mp, A.obj]) fun b' hb' => .inl hb'))
  · simp only [execOp, ha.ev hx, ha.ev hy, ha.ev hz, Sem.run_bind, hrun, Result.andThen, Sem.run_pure]
  · exact World.putObj_heap_other (by simpa [A.mp, A.obj] using hk')
theorem H1.maplen {b : Nat} {k e : TypeId} {q : IntKind} {l : List (Int × Value)} [ht : UTy P t (.map k e)] (hx : Env.ev E x = some (.map (some b))) (hm : A.mp b q l ∈ H) (hd : Nat.blt d N = true)
    (h : HN N ds next ((d, .int .i64 (l.length : Int)) :: E) w0 H) : H1 P r N ds next ⟨some d, .call ⟨.builtin .len, #[x], #[t]⟩, ty, pos, af, g⟩ Q E w0 H := fun w hM => by
  obtain ⟨o, hb, es, clk, rfl, hes⟩ := hM.mp hm
  have hlen : es.size = l.length := by have := congrArg List.length hes; simpa using this
  refine W1.run (v := .int .i64 (l.length : Int)) (w' := w) (fun a ha => ?_) rfl hd (h w hM)
  simp [execOp, ha.ev hx, resolve, invoke, Go.builtin, Builtin.len_, run_underlying ht.is, run_getMap hb, goInt, Sem.run_bind, Result.andThen, hlen]
end
end Go.Sx

