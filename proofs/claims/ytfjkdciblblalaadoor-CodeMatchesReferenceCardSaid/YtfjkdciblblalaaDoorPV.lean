/- From a function's contract to a row's statement: the laid variables of chapter 17. -/
import Derived.Test.YtfjkdciblblalaaDoorC1
import Derived.Test.YtfjkdciblblalaaDoorTie
import Derived.ProofKit
import Derived.OpenShut
import Derived.LaidMore
import Derived.Lay
import Derived.SevenTiedAt
import Derived.Stop.Joined
import Derived.Deep.Onto
namespace Go.Sx
open Go Go.Proofs Go.ChangeShapes Go.WideShapes Go.ChangeAt Go.RowKit

/-- What the rows of this seat say of the variables. -/
def laid3 : List (String × DataW Unit) := [("unicode/utf8.acceptRanges", YtfjkdciblblalaaDoor.Rows.laid_unicode_utf8_acceptRanges), ("evergreen/code.reduced", YtfjkdciblblalaaDoor.Rows.laid_evergreen_code_reduced), ("unicode/utf8.first", YtfjkdciblblalaaDoor.Rows.laid_unicode_utf8_first)]
theorem red_data : (YtfjkdciblblalaaDoor.Rows.laid_evergreen_code_reduced : DataW Unit) = .agg (redL.map fun n : Nat => .lit (.int .i64 (n : Int))) := by rfl
theorem red_of_laid {W : World} (h : laidMetH Tryd.prog laid3 W) : Red W := by
  rw [MakeChecks.laidMetH_plain _ _ _ (by kernel_rfl)] at h
  obtain ⟨ps, ⟨_, _, _, _, _, _, _, _, _, _, ⟨g, t, cs, fuel, p, q, hg, ht, hv, hd, _, _⟩, _⟩, _, _⟩ := h
  obtain rfl := Option.some.inj ((show Tryd.prog.globalNamed "evergreen/code.reduced" = some 0 by kernel_rfl).symm.trans hg)
  obtain rfl := Option.some.inj ((show (Tryd.prog.globals[0]?).map (·.type) = some 81 by kernel_rfl).symm.trans ht)
  obtain ⟨xs, m, _, ex, _, hl, hel⟩ := DataW.trod_array Tryd.underlying81 hd
  have c1 : Tryd.prog.cellsOf 3 = 1 := by kernel_rfl
  rw [red_data] at ex
  intro r hr
  have hE := hel r hr
  rw [c1, Nat.mul_one, List.getElem?_eq_getElem (by omega)] at hE
  obtain ⟨z, e1, e2, _⟩ := DataW.trod_int Tryd.underlying3 hE
  have hlen : redL.length = 16 := by decide
  have e3 : (xs.map (·.1)) = redL.map fun n : Nat => .lit (.int .i64 (n : Int)) := (DataW.agg.inj (Prod.mk.inj ex).1).symm
  have e4 : (xs.map (·.1))[r]? = (redL.map fun n : Nat => (DataW.lit (.int .i64 (n : Int)) : DataW Unit))[r]? := by rw [e3]
  rw [List.getElem?_map, List.getElem?_map, List.getElem?_eq_getElem (by omega : r < xs.length), List.getElem?_eq_getElem (by omega : r < redL.length), e2] at e4
  have hz : z = ((redL.getD r 0 : Nat) : Int) := by
    simp only [Option.map_some, Option.some.injEq, DataW.lit.injEq, Lit.int.injEq, true_and] at e4
    rw [e4, List.getD, List.getElem?_eq_getElem (by omega : r < redL.length)]; rfl
  rw [World.var?_cell hg hv r, ← hz]
  have : cs.toList[r]? = some (.int .i64 z) := by
    have h0 : ((cs.toList.drop r).take 1)[0]? = some (.int .i64 z) := by rw [e1]; rfl
    simpa using h0
  simpa using this
end Go.Sx

