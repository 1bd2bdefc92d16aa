/-
  A result that is a variable's own cells, and how a function is entered with atoms at hand.
-/
import Derived.Test.YtlihcenahjgnmaaGreatDoorHx
import Derived.Laws.ResultCell
namespace Go.Sx
open Go Go.RowKit
theorem run_loadVarAgg {P : Program} {w : World} {t : TypeId} {b off : Nat} {vs : List Value} {z : Value} {n bb : Nat} [ha : ATy P t true] [hi : ITy P t z n bb] (hn : vs.length = n)
    (hc : ∀ i v, vs[i]? = some v → w.cell? ⟨b, off + i, none⟩ = some v) : (loadVar t ⟨b, off, none⟩).run P w = .ok (.agg vs.toArray) w := by
  simp only [loadVar, Sem.run_bind]
  simp [run_isAgg, run_sizeOf, loadCells, run_loadCellsFrom P w b off vs hc n 0 #[] (by omega), Result.andThen, Sem.run_bind]
section
variable {P : Program} {N : Nat} {E : Env} {w0 : World} {H : List Atom}
theorem HX.retc2 {fn : Func} {p u b bb n : Nat} {ty e : TypeId} {z v : Value} {cs : List Value} {R : Value → World → Prop} [ha : ATy P ty true] [hi : ITy P ty z n bb] (hr : fn.results = #[.cell p ty, .tmp u]) (hp : Env.g E p = some (.pointer (some ⟨b, 0, none⟩)))
    (hv : Env.g E u = some v) (hm : A.blk b cs e ∈ H) (hn : cs.length = n) (h : ∀ w, Mm w0 H w → R (.tuple #[.agg cs.toArray, v]) w) : HX N [] .ret (bodyPost P fn (RetP R)) E w0 H := fun w hM a ha => by
  refine ⟨ha.defers, .tuple #[.agg cs.toArray, v], ?_, ⟨_, rfl, h w hM⟩⟩
  have e1 : a.tmps.getD p undef = .pointer (some ⟨b, 0, none⟩) := by rw [Array.getD_eq_getD_getElem?, ha.get _ _ hp]; rfl
  have e2 : a.tmps.getD u undef = v := by rw [Array.getD_eq_getD_getElem?, ha.get _ _ hv]; rfl
  rw [results_cell_tmp hr, e1, e2]
  have := run_loadVarAgg (P := P) (w := w) (t := ty) (b := b) (off := 0) hn (fun i v hv => by rw [Nat.zero_add]; exact (hM.blk hm).cell hv)
  simp [asAddr, Result.andThen, this]
theorem HX.retc1 {fn : Func} {p b bb n : Nat} {ty e : TypeId} {z : Value} {cs : List Value} {R : Value → World → Prop} [ha : ATy P ty true] [hi : ITy P ty z n bb] (hr : fn.results = #[.cell p ty]) (hp : Env.g E p = some (.pointer (some ⟨b, 0, none⟩)))
    (hm : A.blk b cs e ∈ H) (hn : cs.length = n) (h : ∀ w, Mm w0 H w → R (.agg cs.toArray) w) : HX N [] .ret (bodyPost P fn (RetP R)) E w0 H := fun w hM a ha => by
  refine ⟨ha.defers, .agg cs.toArray, ?_, ⟨_, rfl, h w hM⟩⟩
  have e1 : a.tmps.getD p undef = .pointer (some ⟨b, 0, none⟩) := by rw [Array.getD_eq_getD_getElem?, ha.get _ _ hp]; rfl
  have e1' : a.tmps[p]?.getD undef = .pointer (some ⟨b, 0, none⟩) := by simpa using e1
  have := run_loadVarAgg (P := P) (w := w) (t := ty) (b := b) (off := 0) hn (fun i v hv => by rw [Nat.zero_add]; exact (hM.blk hm).cell hv)
  simp [results, hr, e1', asAddr, this]
/-- A function, entered with atoms at hand. -/
theorem enterK {f : FuncId} {fn : Func} {c : Code} {l : List Value} {R : Value → World → Prop} {w : World} [hf : FnIs P f fn] (hM : Mm w0 H w) (hb : fn.body = some c) (hN : fn.ntmps = N) (hl : Nat.ble l.length N = true)
    (h : HC P none N [] c (bodyPost P fn (RetP R)) (Env.of 0 l) w0 H) : Fn P f l.toArray w R := enter hb hN hl (h w hM)
end
end Go.Sx
/-
  The layer with atoms: bytes and strings.
-/
namespace Go.Sx
open Go Go.RowKit
/-- The string with bytes f. -/
def mkS (n : Nat) (f : Nat → Nat) : ByteArray := ⟨((List.range n).map fun q => UInt8.ofNat (f q)).toArray⟩
theorem mkS_size (n : Nat) (f : Nat → Nat) : (mkS n f).size = n := by simp [mkS, ByteArray.size]
theorem mkS_sb {n : Nat} {f : Nat → Nat} {q : Nat} (h : q < n) (hf : f q < 256) : sb (mkS n f) q = f q := by
  simp [sb, mkS, h]
  omega
def u8v (n : Nat) : Value := .int .u8 (n : Int)
section
variable {P : Program} {r : Option Nat} {N : Nat} {ds : List Deferred} {ol rest : List Oper} {Q : Post} {E : Env} {w0 : World} {H : List Atom} {next : Act → World → Prop} {g : Option (Nat × Bool)} {fuel : Nat} {listed : Array Bool}
variable {d : Nat} {t t' ty : TypeId} {pos : String} {af : Array Edge} {x y : Operand} {m n : Int} {a b : Nat}
theorem HQ.ldb {v : Value} {b i : Nat} {cs : List Value} {e : TypeId} [ha : ATy P t false] (hx : Env.ev E x = some (.pointer (some ⟨b, i, none⟩))) (hm : A.blk b cs e ∈ H) (hi : cs[i]? = some v) (hd : Nat.blt d N = true)
    (h : HQ P r N ds ol rest Q ((d, v) :: E) w0 H) : HQ P r N ds ol (⟨some d, .load t x, ty, pos, af, none⟩ :: rest) Q E w0 H := HQ.ld hx (fun _ hM => (hM.blk hm).cell hi) hd h
theorem HQ.call0 {v : Value} {d : Option Nat} {f : FuncId} {args : List Operand} {ats : Array TypeId} {vs : List Value}
    [hf : CallOk P f] (ha : Env.evs E args = some vs) (hd : dOk d N = true) (hc : ∀ w, Mm w0 H w → Fn P f vs.toArray w fun u w' => u = v ∧ w = w')
    (h : HQ P r N ds ol rest Q (putE d v E) w0 H) : HQ P r N ds ol (⟨d, .call ⟨.value (.func f), args.toArray, ats⟩, ty, pos, af, none⟩ :: rest) Q E w0 H :=
  HQ.call ha hd (fun w hM => (hc w hM).mono fun _ _ ⟨h1, h2⟩ => ⟨h1, h2 ▸ Ext.refl _⟩) h
theorem op_mono2 {F : Fence} {n' : Nat} {o : Oper} {a : Act} {w : World} {K K' : Act → World → Prop} {Q Q' : Post} (h : ∀ a w, K a w → K' a w) (hq : ∀ e a w, e ≠ .normal → Q e a w → Q' e a w)
    (hh : o.wpIn F n' P a w K Q) : o.wpIn F n' P a w K' Q' := by
  unfold Oper.wpIn at *
  refine ⟨hh.1, ?_⟩
  have hh := hh.2
  generalize (o.semAt F.round a.eval).run P w = r at *
  cases r with
  | ok x w' =>
    cases x <;> simp only [Oper.uponIn] at hh ⊢ <;>
      first
        | exact h _ _ hh
        | exact ⟨hh.1, CallsIn.mono hh.2 (fun e w'' he => by cases e <;> first | exact h _ _ he | exact hq _ _ _ (by simp) he | (obtain ⟨a1, w1, h1⟩ := he; exact ⟨a1, w1, hq _ _ _ (by simp) h1⟩))⟩
        | exact ⟨hh.1, RowsIn.mono hh.2 (fun _ _ he => h _ _ he)⟩
        | exact ⟨hh.1, RoundIn.mono hh.2 (fun e w'' he => by cases e <;> first | exact h _ _ he | exact hq _ _ _ (by simp) he | (obtain ⟨a1, w1, h1⟩ := he; exact ⟨a1, w1, hq _ _ _ (by simp) h1⟩))⟩
  | halt x w' => cases x <;> simp only [Oper.uponIn] at hh ⊢ <;> first | exact hh | exact hq _ _ _ (by simp) hh
theorem list_mono2 {F : Fence} {n' : Nat} {ops : Array Oper} {Q Q' : Post} (hn : ∀ a w, Q .normal a w → Q' .normal a w) (hq : ∀ e a w, e ≠ .normal → Q e a w → Q' e a w) :
    ∀ (l : List Oper) (a : Act) (w : World), wpListIn F n' P ops Q l a w → wpListIn F n' P ops Q' l a w
  | [], a, w, h => hn a w h
  | o :: l, a, w, h => by
    simp only [wpListIn] at h ⊢
    split
    · rename_i hw; rw [if_pos hw] at h; exact op_mono2 (fun a w h => list_mono2 hn hq l a w h) hq h
    · rename_i hw; rw [if_neg hw] at h; exact ⟨h.1, list_mono2 hn hq l _ w h.2⟩
/-- A cut inside a statement that is being walked. -/
theorem HL.cut {α : Type} {l : List Oper} {y : Code} (Ex : α → Env) (Hx : α → List Atom) (I : α → Prop) (h : HL P r N ds ol l (Again (CutH N ds Ex Hx I w0) Q) E w0 H)
    (h2 : ∀ z, I z → HC P r N ds y Q (Ex z) w0 (Hx z)) : HL P r N ds ol l (Then P r y Q) E w0 H := fun w hM a ha => by
  refine list_mono2 (fun a w hc => ?_) (fun e a w he hc => ?_) l a w (h w hM a ha)
  · obtain ⟨z, ⟨h3, h4⟩, h5⟩ := hc
    exact h2 z h3 w h4 a h5
  · cases e with
    | normal => exact absurd rfl he
    | _ => exact hc
theorem Rd.cell0 {w : World} {b n c : Nat} {vs : List Value} (h : Rd w (.slice (some ⟨b, 0, none⟩) n c) vs) {i : Nat} {u : Value} (hu : vs[i]? = some u) : w.cell? ⟨b, i, none⟩ = some u := by
  have := h.cell hu; rwa [Nat.zero_add] at this
/-- string(b), off a row of bytes. -/
theorem H1.bstr {dst e : TypeId} {b n c : Nat} {f : Nat → Nat} [h : UTy P t (.slice e)] [he : UTy P e (.int .u8)] [hs : UTy P dst .string] (hx : Env.ev E x = some (.slice (some ⟨b, 0, none⟩) n c)) (hm : A.blk b (row n fun q => u8v (f q)) e ∈ H)
    (hf : ∀ q, q < n → f q < 256) (hd : Nat.blt d N = true) (hn : HN N ds next ((d, .string (mkS n f)) :: E) w0 H) :
    H1 P r N ds next ⟨some d, .convert t dst x, ty, pos, af, g⟩ Q E w0 H := fun w hM =>
  W1.bytes_string (l := (List.range n).map fun q => UInt8.ofNat (f q)) hx (by simp) (fun q hq => by
    have hq' : q < n := by simpa using hq
    have := hf q hq'
    rw [add_lit, Nat.zero_add]
    refine (hM.blk hm).cell ?_
    rw [row_get _ hq']
    simp [u8v]
    omega) hd (hn w hM)
end
theorem row_step {n i : Nat} {f g : Nat → Value} {v : Value} (h1 : g i = v) (h2 : ∀ q, q ≠ i → f q = g q) : (row n f).set i v = row n g := by
  rw [row_set]
  apply row_congr
  intro q _
  by_cases e : q = i
  · subst e; simp [h1]
  · simp [e, h2 q e]
theorem Hs.blk {b : Nat} {cs cs' : List Value} {e : TypeId} {H1 H' : List Atom} (h : cs = cs') (hs : Hs H1 H') : Hs (A.blk b cs e :: H1) (A.blk b cs' e :: H') := by
  subst h; exact Hs.cons Pick.here hs
theorem Pick.blk {b : Nat} {cs cs' : List Value} {e : TypeId} {H : List Atom} (h : cs = cs') : Pick (A.blk b cs' e) (A.blk b cs e :: H) H := by
  subst h; exact Pick.here
/-- A slice in a fresh block that reads as vs, as an atom. -/
theorem Mm.rdFresh {w w' : World} {b off n c : Nat} {vs : List Value} (hx : Ext w w') (hb : w.heap.size ≤ b) (hR : Rd w' (.slice (some ⟨b, off, none⟩) n c) vs) : Mm w [A.rd (.slice (some ⟨b, off, none⟩) n c) vs] w' := by
  have h0 := Mm.nil hx
  by_cases he : vs = []
  · refine h0.cons hR (by simp [A.rd, he]) (by simp [A.rd, he])
  · obtain ⟨b', off', c', h1, h2, h3, -⟩ := hR.at he
    cases h1
    have he' : vs.isEmpty = false := by cases vs <;> simp_all
    refine h0.cons hR (by simp [A.rd, he', Value.ownBlock]) fun q hq => ?_
    have : q = b := by simpa [A.rd, he', Value.ownBlock] using hq
    subst this
    exact ⟨by simp [fps], hb, h3⟩
end Go.Sx
/-
  Slices of numbers: as lists; the library's small functions on them; range loops.
-/
namespace Go.Sx
open Go Go.RowKit
abbrev zv (x : Int) : Value := .int .i64 x
def ints (l : List Int) : List Value := l.map zv
def at' (l : List Int) (i : Nat) : Int := l.getD i 0
theorem ints_len (l : List Int) : (ints l).length = l.length := by simp [ints]
theorem ints_get {l : List Int} {i : Nat} (h : i < l.length) : (ints l)[i]? = some (zv (at' l i)) := by simp [ints, at', h]
theorem ints_app (l m : List Int) : ints (l ++ m) = ints l ++ ints m := by simp [ints]
theorem ints_set (l : List Int) (i : Nat) (x : Int) : (ints l).set i (zv x) = ints (l.set i x) := by simp [ints, List.map_set]
theorem ints_one : ∀ (l : List Int), ∀ u ∈ ints l, u.oneCell' = true := fun l u hu => by
  obtain ⟨x, -, rfl⟩ := List.mem_map.1 hu; rfl
theorem at_mem {l : List Int} {i : Nat} (h : i < l.length) : at' l i ∈ l := by
  unfold at'; rw [List.getD_eq_getElem?_getD, List.getElem?_eq_getElem h]; exact List.getElem_mem h
theorem at_take {l : List Int} {i n : Nat} (h : i < n) : at' (l.take n) i = at' l i := by
  unfold at'; simp [List.getD_eq_getElem?_getD, h]
theorem take_at {l : List Int} {i : Nat} (h : i < l.length) : l.take (i + 1) = l.take i ++ [at' l i] := by
  rw [List.take_succ_eq_append_getElem h]; simp [at', h]
/-- A slice of numbers that reads as l: its parts. -/
theorem Rd.isInts {w : World} {v : Value} {l : List Int} (h : Rd w v (ints l)) : ∃ a c, v = .slice a l.length c ∧ l.length ≤ c := by
  obtain ⟨a, c, h1, h2, -⟩ := h
  rw [ints_len] at h1 h2
  exact ⟨a, c, h1, h2⟩
/-- Where element i lies. -/
theorem Rd.iat {w : World} {a : Option Addr} {n c : Nat} {l : List Int} (h : Rd w (.slice a n c) (ints l)) (hne : l ≠ []) : ∃ b off, a = some ⟨b, off, none⟩ ∧ b < w.heap.size := by
  obtain ⟨b, off, c', h1, -, h3, -⟩ := h.at (by intro e; apply hne; have := congrArg List.length e; simpa [ints] using this)
  cases h1
  exact ⟨b, off, rfl, h3⟩
end Go.Sx

