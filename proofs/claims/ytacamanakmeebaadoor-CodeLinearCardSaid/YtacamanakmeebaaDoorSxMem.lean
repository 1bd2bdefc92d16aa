/-
  The layer's laws for operations on memory.
-/
import Derived.Test.YtacamanakmeebaaDoorSxOps
namespace Go.Sx
open Go Go.RowKit

/-- Whatever lay there lies as it lay; there may be more. -/
abbrev Ext (w w' : World) : Prop := Below w.heap.size w w'
theorem Ext.refl (w : World) : Ext w w := Below.refl _ w
theorem Ext.trans {a b c : World} (h : Ext a b) (k : Ext b c) : Ext a c := Below.trans h (k.mono h.size)
theorem Ext.drew (w : World) : Ext w w.drew := (Below.refl _ w).drew
theorem Ext.alloc (w : World) (o : Obj) : Ext w (w.alloc o) := (Below.refl _ w).alloc (Nat.le_refl _) o

/-- A block of cells that nothing shares bytes with. -/
def Blk (w : World) (b : Nat) (cs : List Value) (e : TypeId) : Prop := w.heap[b]? = some (.cells cs.toArray e (0, 0))
theorem Blk.lt {w : World} {b : Nat} {cs : List Value} {e : TypeId} (h : Blk w b cs e) : b < w.heap.size := (Array.getElem?_eq_some_iff.1 h).1
theorem Blk.ext {w w' : World} {b : Nat} {cs : List Value} {e : TypeId} (h : Blk w b cs e) (k : Ext w w') : Blk w' b cs e := (k.block b h.lt).trans h
theorem Blk.below {w w' : World} {b n : Nat} {cs : List Value} {e : TypeId} (h : Blk w b cs e) (k : Below n w w') (hb : b < n) : Blk w' b cs e := (k.block b hb).trans h
theorem Blk.cell {w : World} {b : Nat} {cs : List Value} {e : TypeId} (h : Blk w b cs e) {i : Nat} {v : Value} (hi : cs[i]? = some v) : w.cell? ⟨b, i, none⟩ = some v := by
  unfold Blk at h
  simp [World.cell?, h, hi]
theorem Blk.free {w : World} {b : Nat} {cs : List Value} {e : TypeId} (h : Blk w b cs e) (i : Nat) : w.frozen? ⟨b, i, none⟩ = false := by
  unfold Blk at h
  simp [World.frozen?, h]
theorem Blk.new (w : World) (cs : List Value) (e : TypeId) : Blk (w.alloc (.cells cs.toArray e)) w.heap.size cs e := by
  show (w.heap.push (.cells cs.toArray e))[w.heap.size]? = _
  simp
theorem Blk.set {w : World} {b : Nat} {cs : List Value} {e : TypeId} (h : Blk w b cs e) (i : Nat) (v : Value) : Blk (w.setCell ⟨b, i, none⟩ v) b (cs.set i v) e := by
  unfold Blk at *
  simp only [World.setCell, Array.getElem?_modify, if_true, h, Option.map_some]
  simp
theorem Blk.other {w : World} {b b' : Nat} {cs : List Value} {e : TypeId} (h : Blk w b cs e) (hne : b ≠ b') (i : Nat) (v : Value) : Blk (w.setCell ⟨b', i, none⟩ v) b cs e := by
  unfold Blk at *
  rw [Below.heap_setCell _ _ _ _ hne]; exact h
theorem Blk.alloc {w : World} {b : Nat} {cs : List Value} {e : TypeId} (h : Blk w b cs e) (o : Obj) : Blk (w.alloc o) b cs e := h.ext (Ext.alloc w o)
theorem Blk.drew {w : World} {b : Nat} {cs : List Value} {e : TypeId} (h : Blk w b cs e) : Blk w.drew b cs e := h

theorem cell_ext {w w' : World} (k : Ext w w') {a : Addr} {v : Value} (h : w.cell? a = some v) : w'.cell? a = some v := by
  have hb : a.block < w.heap.size := by
    unfold World.cell? at h
    split at h
    · rename_i hc; exact (Array.getElem?_eq_some_iff.1 hc).1
    · cases h
  rw [k.cell hb]; exact h

section
variable {P : Program} {r : Option Nat} {N : Nat} {ds : List Deferred} {ol rest : List Oper} {Q : Post} {E : Env} {w : World} {next : Act → World → Prop} {g : Option (Nat × Bool)}
variable {d : Nat} {t t' ty : TypeId} {pos : String} {af : Array Edge} {x y : Operand} {k : IntKind} {m n : Int}

theorem run_isAgg {b : Bool} [h : ATy P t b] : (isAgg t).run P w = .ok b w := by
  have h1 := h.is
  simp only [Prod.mk.injEq] at h1
  obtain ⟨h1, h2⟩ := h1
  obtain ⟨d, hd⟩ := Option.isSome_iff_exists.1 h1
  simp only [isAgg, Sem.run_bind, run_underlying hd]
  simp only [isAggB, hd] at h2
  cases d <;> simp_all <;> rfl
theorem run_sizeOf {z : Value} {n b : Nat} [h : ITy P t z n b] : (sizeOf t).run P w = .ok n w := by
  obtain ⟨i, hi, h1, h2, h3⟩ := h.parts
  simp [sizeOf, typeInfo, hi, h2]
theorem run_zeroValue {z : Value} {n b : Nat} [h : ITy P t z n b] : (zeroValue t).run P w = .ok z w := by
  obtain ⟨i, hi, h1, h2, h3⟩ := h.parts
  simp [zeroValue, typeInfo, hi, h1]
theorem run_bytes {z : Value} {n b : Nat} [h : ITy P t z n b] {α : Type} {f : Nat → Sem α} : (do let i ← typeInfo t; f i.bytes).run P w = (f b).run P w := by
  obtain ⟨i, hi, h1, h2, h3⟩ := h.parts
  simp [typeInfo, hi, h3, Sem.run_bind]

/- loads -/
theorem W1.load {a : Addr} {v : Value} [ha : ATy P t false] (hx : Env.ev E x = some (.pointer (some a))) (hc : w.cell? a = some v) (hd : Nat.blt d N = true)
    (h : NX N ds next ((d, v) :: E) w) : W1 P r N ds next ⟨some d, .load t x, ty, pos, af, g⟩ Q E w :=
  W1.run (fun b hb => by
    simp only [execOp, hb.ev hx, Instr.loadAt, Instr.sureAddr, loadVar, Sem.run_bind, Sem.run_pure]
    simp [run_isAgg, hc]) rfl hd h

theorem run_loadCellsFrom (P : Program) (w : World) (b off : Nat) (vs : List Value) (hc : ∀ i v, vs[i]? = some v → w.cell? ⟨b, off + i, none⟩ = some v) :
    ∀ (n i : Nat) (acc : Array Value), i + n = vs.length → (loadCellsFrom ⟨b, off, none⟩ i n acc).run P w = .ok (acc ++ (vs.drop i).toArray) w
  | 0, i, acc, h => by
    have : vs.drop i = [] := List.drop_eq_nil_of_le (by omega)
    simp [loadCellsFrom, this]
  | n + 1, i, acc, h => by
    have hi : i < vs.length := by omega
    have hv := hc i vs[i] (by simp [hi])
    have ha : Addr.add ⟨b, off, none⟩ i = ⟨b, off + i, none⟩ := by
      unfold Addr.add; split
      · rename_i h0; subst h0; rfl
      · rfl
    simp only [loadCellsFrom, Sem.run_bind]
    have : (load (Addr.add ⟨b, off, none⟩ i)).run P w = .ok vs[i] w := by simp [load, Sem.run, ha, hv]
    rw [this]
    simp only [Result.andThen]
    rw [run_loadCellsFrom P w b off vs hc n (i + 1) (acc.push vs[i]) (by omega)]
    rw [List.drop_eq_getElem_cons hi]
    simp
/-- A struct or an array, whole. -/
theorem W1.loadAgg {b off : Nat} {vs : List Value} {z : Value} {n bb : Nat} [ha : ATy P t true] [hi : ITy P t z n bb] (hx : Env.ev E x = some (.pointer (some ⟨b, off, none⟩)))
    (hn : vs.length = n) (hc : ∀ i v, vs[i]? = some v → w.cell? ⟨b, off + i, none⟩ = some v) (hd : Nat.blt d N = true)
    (h : NX N ds next ((d, .agg vs.toArray) :: E) w) : W1 P r N ds next ⟨some d, .load t x, ty, pos, af, g⟩ Q E w :=
  W1.run (fun b' hb => by
    simp only [execOp, hb.ev hx, Instr.loadAt, Instr.sureAddr, loadVar, Sem.run_bind, Sem.run_pure]
    simp [run_isAgg, run_sizeOf, loadCells, run_loadCellsFrom P w b off vs hc n 0 #[] (by omega), Result.andThen, Sem.run_bind]) rfl hd h

theorem WL.load {a : Addr} {v : Value} [ha : ATy P t false] (hx : Env.ev E x = some (.pointer (some a))) (hc : w.cell? a = some v) (hd : Nat.blt d N = true)
    (h : WL P r N ds ol rest Q ((d, v) :: E) w) : WL P r N ds ol (⟨some d, .load t x, ty, pos, af, none⟩ :: rest) Q E w := WL.one (W1.load hx hc hd h)
/- stores -/
theorem W1.store {a : Addr} {u v : Value} {z : Value} {bb : Nat} [hi : ITy P t z 1 bb] (hx : Env.ev E x = some (.pointer (some a))) (hy : Env.ev E y = some v)
    (ha' : ∀ vs, v ≠ .agg vs) (ht : ∀ vs, v ≠ .tuple vs) (hc : w.cell? a = some u) (hf : w.frozen? a = false) 
    (h : NX N ds next E (w.setCell a v)) : W1 P r N ds next ⟨none, .store t x y, ty, pos, af, g⟩ Q E w :=
  W1.skip (fun b hb => by
    have hst : (Go.store a v).run P w = .ok () (w.setCell a v) := by
      cases v with
      | agg cs => exact absurd rfl (ha' cs)
      | tuple vs => exact absurd rfl (ht vs)
      | _ => simp [Go.store, Sem.run, hc, hf]
    have ha : Addr.add a 0 = a := by simp [Addr.add]
    have hv : v.cells = #[v] := by cases v <;> first | rfl | exact absurd rfl (ha' _)
    simp only [execOp, hb.ev hx, hb.ev hy, Instr.storeAt, Instr.sureAddr, storeVar, Sem.run_bind, Sem.run_pure, Result.andThen]
    simp [run_sizeOf, hv, storeCells, ha, hst]) rfl rfl h

/- new blocks -/
theorem W1.alloc {z : Value} {n bb : Nat} [hi : ITy P t z n bb] (hd : Nat.blt d N = true)
    (h : NX N ds next ((d, .pointer (some ⟨w.heap.size, 0, none⟩)) :: E) (w.alloc (.cells z.cells t))) : W1 P r N ds next ⟨some d, .alloc t, ty, pos, af, g⟩ Q E w :=
  W1.run (fun b hb => by
    simp [execOp, Instr.alloc, Sem.run_bind, run_zeroValue, newVar, newRow]) rfl hd h
theorem W1.box {v : Value} (hx : Env.ev E x = some v) (hd : Nat.blt d N = true)
    (h : NX N ds next ((d, .pointer (some ⟨w.heap.size, 0, none⟩)) :: E) (w.alloc (.cells v.cells t))) : W1 P r N ds next ⟨some d, .box t x, ty, pos, af, g⟩ Q E w :=
  W1.run (fun b hb => by
    simp [execOp, Instr.box, hb.ev hx, newVar, newRow]) rfl hd h

/- places -/
theorem add_lit (b off n : Nat) : Addr.add ⟨b, off, none⟩ n = ⟨b, off + n, none⟩ := by
  unfold Addr.add; split
  · rename_i h0; subst h0; rfl
  · rfl
theorem POp.index_slice {e : TypeId} {b off l c : Nat} {z : Value} {sz bb : Nat} [h : UTy P t (.slice e)] [hi : ITy P e z sz bb] (hx : Env.ev E x = some (.slice (some ⟨b, off, none⟩) l c)) (hy : Env.ev E y = some (.int k n))
    (h0 : 0 ≤ n) (h1 : n < l) {o : Nat} (ho : off + n.toNat * sz = o) : POp P N ds E (.indexAddr t x y) ty (.pointer (some ⟨b, o, none⟩)) := fun a ha d pos af g w => by
  subst ho
  have h2 : 0 ≤ n ∧ n < (l : Int) := ⟨h0, h1⟩
  simp [execOp, ha.ev hx, ha.ev hy, Instr.indexAt, asIntOf, run_underlying h.is, Sem.run_bind, h2, run_sizeOf, add_lit]
theorem POp.index_array {e : TypeId} {len b off : Nat} {z : Value} {sz bb : Nat} [h : UTy P t (.array len e)] [hi : ITy P e z sz bb] (hx : Env.ev E x = some (.pointer (some ⟨b, off, none⟩))) (hy : Env.ev E y = some (.int k n))
    (h0 : 0 ≤ n) (h1 : n < len) {o : Nat} (ho : off + n.toNat * sz = o) : POp P N ds E (.indexAddr t x y) ty (.pointer (some ⟨b, o, none⟩)) := fun a ha d pos af g w => by
  subst ho
  have h2 : 0 ≤ n ∧ n < (len : Int) := ⟨h0, h1⟩
  simp [execOp, ha.ev hx, ha.ev hy, Instr.indexAt, Instr.sureAddr, asIntOf, run_underlying h.is, Sem.run_bind, h2, run_sizeOf, add_lit]
end
end Go.Sx

