/- From a function's contract to a row's statement: an array of five numbers. -/
import Derived.Test.YtnpnoobknolahaaPS
namespace Go.Sx
open Go Go.Proofs Go.ChangeShapes Go.WideShapes Go.ChangeAt Go.RowKit
set_option maxRecDepth 100000 in
theorem open_di {H : Type} {enc : TypeId × Value → H} {W : World} {r : Reach} {b0 b : Nat} {sp : Nat → Bool} {hd : Bool} {v : Value} {d : DataW H} {p : List MemPlace} (hv : Value.okWide Try.prog W r b0 27 v) (h : DataW.Trod enc Try.prog W b sp hd 27 v d p) : ∃ y : Di, v = .agg y.cells.toArray ∧ y.b.i64 ∧ i64R y.liars := by
  obtain ⟨l, rfl, hl, hc⟩ := agg_cells (okWide_arr Try.underlying27 hv) (show Try.prog.cellsOf 27 = 5 by kernel_rfl)
  obtain ⟨fuel, hf⟩ := h
  rw [hc] at hf
  obtain ⟨zs, rfl, h1, h2⟩ := intRow (n := 3) (by kernel_rfl) hf
  have h4 : zs.length = 5 := by rw [h1]; kernel_rfl
  exact ⟨diOf zs, by rw [diOf_cells h4], diOf_i64 h4 h2⟩
end Go.Sx

