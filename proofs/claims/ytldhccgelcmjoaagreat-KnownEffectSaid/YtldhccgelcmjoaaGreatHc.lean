/-
  A result that is a variable's own cells, and how a function is entered with atoms at hand.
-/
import Derived.Test.YtldhccgelcmjoaaGreatHx
import Derived.Laws.ResultCell
namespace Go.Sx
open Go Go.RowKit
theorem run_loadVarAgg {P : Program} {w : World} {t : TypeId} {b off : Nat} {vs : List Value} {z : Value} {n bb : Nat} [ha : ATy P t true] [hi : ITy P t z n bb] (hn : vs.length = n)
    (hc : ∀ i v, vs[i]? = some v → w.cell? ⟨b, off + i, none⟩ = some v) : (loadVar t ⟨b, off, none⟩).run P w = .ok (.agg vs.toArray) w := by
  simp only [loadVar, Sem.run_bind]
  simp [run_isAgg, run_sizeOf, loadCells, run_loadCellsFrom P w b off vs hc n 0 #[] (by omega), Result.andThen, Sem.run_bind]
section
variable {P : Program} {N : Nat} {E : Env} {w0 : World} {H : List Atom}
theorem HX.retc2 {fn : Func} {p u b bb n : Nat} {ty e : TypeId} {z v : Value} {cs : List Value} {R : Value → World → Prop} [ha : ATy P ty true] [hi : ITy P ty z n bb] (hr : fn.results = #[.cell p ty, .tmp u]) (hp : Env.g E p = some (.pointer (some ⟨b, 0, none⟩)))
    (hv : Env.g E u = some v) (hm : A.blk b cs e ∈ H) (hn : cs.length = n) (h : ∀ w, Mm w0 H w → R (.tuple #[.agg cs.toArray, v]) w) : HX N [] .ret (bodyPost P fn (RetP R)) E w0 H := fun w hM a ha => by
  refine ⟨ha.defers, .tuple #[.agg cs.toArray, v], ?_, ⟨_, rfl, h w hM⟩⟩
  have e1 : a.tmps.getD p undef = .pointer (some ⟨b, 0, none⟩) := by rw [Array.getD_eq_getD_getElem?, ha.get _ _ hp]; rfl
  have e2 : a.tmps.getD u undef = v := by rw [Array.getD_eq_getD_getElem?, ha.get _ _ hv]; rfl
  rw [results_cell_tmp hr, e1, e2]
  have := run_loadVarAgg (P := P) (w := w) (t := ty) (b := b) (off := 0) hn (fun i v hv => by rw [Nat.zero_add]; exact (hM.blk hm).cell hv)
  simp [asAddr, Result.andThen, this]
theorem HX.retc1 {fn : Func} {p b bb n : Nat} {ty e : TypeId} {z : Value} {cs : List Value} {R : Value → World → Prop} [ha : ATy P ty true] [hi : ITy P ty z n bb] (hr : fn.results = #[.cell p ty]) (hp : Env.g E p = some (.pointer (some ⟨b, 0, none⟩)))
    (hm : A.blk b cs e ∈ H) (hn : cs.length = n) (h : ∀ w, Mm w0 H w → R (.agg cs.toArray) w) : HX N [] .ret (bodyPost P fn (RetP R)) E w0 H := fun w hM a ha => by
  refine ⟨ha.defers, .agg cs.toArray, ?_, ⟨_, rfl, h w hM⟩⟩
  have e1 : a.tmps.getD p undef = .pointer (some ⟨b, 0, none⟩) := by rw [Array.getD_eq_getD_getElem?, ha.get _ _ hp]; rfl
  have e1' : a.tmps[p]?.getD undef = .pointer (some ⟨b, 0, none⟩) := by simpa using e1
  have := run_loadVarAgg (P := P) (w := w) (t := ty) (b := b) (off := 0) hn (fun i v hv => by rw [Nat.zero_add]; exact (hM.blk hm).cell hv)
  simp [results, hr, e1', asAddr, this]
/-- A function, entered with atoms at hand. -/
theorem enterK {f : FuncId} {fn : Func} {c : Code} {l : List Value} {R : Value → World → Prop} {w : World} [hf : FnIs P f fn] (hM : Mm w0 H w) (hb : fn.body = some c) (hN : fn.ntmps = N) (hl : Nat.ble l.length N = true)
    (h : HC P none N [] c (bodyPost P fn (RetP R)) (Env.of 0 l) w0 H) : Fn P f l.toArray w R := enter hb hN hl (h w hM)
end
end Go.Sx

