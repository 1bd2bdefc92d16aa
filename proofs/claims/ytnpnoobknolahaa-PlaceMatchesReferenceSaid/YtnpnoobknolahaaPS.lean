/- From a function's contract to a row's statement: chapter 18's arguments. -/
import Derived.Test.YtnpnoobknolahaaPR
import Derived.Test.YtnpnoobknolahaaTD
namespace Go.Sx
open Go Go.Proofs Go.ChangeShapes Go.WideShapes Go.ChangeAt Go.RowKit
def stOf (r : List Int) : St := ⟨at' r 0, at' r 1, at' r 2, at' r 3⟩
theorem stOf_sc {r : List Int} (h : r.length = 4) : ints r = sc (stOf r) := by
  match r, h with
  | [_, _, _, _], _ => rfl
theorem stOf_i64 {r : List Int} (h : r.length = 4) (hz : ∀ z ∈ r, i64W z) : (stOf r).i64 := by
  match r, h with
  | [a, b, c, d], _ => exact ⟨hz a (by simp), hz b (by simp), hz c (by simp), hz d (by simp)⟩
def diOf (r : List Int) : Di := ⟨⟨at' r 0, at' r 1, at' r 2, at' r 3⟩, at' r 4⟩
theorem diOf_cells {r : List Int} (h : r.length = 5) : ints r = (diOf r).cells := by
  match r, h with
  | [_, _, _, _, _], _ => rfl
theorem diOf_i64 {r : List Int} (h : r.length = 5) (hz : ∀ z ∈ r, i64W z) : (diOf r).b.i64 ∧ i64R (diOf r).liars := by
  match r, h with
  | [a, b, c, d, e], _ => exact ⟨⟨hz a (by simp), hz b (by simp), hz c (by simp), hz d (by simp)⟩, hz e (by simp)⟩
section
variable {H : Type} {enc : TypeId × Value → H} {W : World} {r : Reach} {b0 b : Nat} {sp : Nat → Bool} {hd : Bool} {v : Value} {d : DataW H} {p : List MemPlace}
theorem sites_of {P : Program} {t e n fuel : Nat} {x : DataW H × List MemPlace} (ht : P.underlying t = some (.slice e)) (he : intCellsB P n e = true) (hce : P.cellsOf e = 4) (hf : DataW.trod enc P W b sp hd fuel t [v] = some x) :
    ∃ X : List St, RdS W v X ∧ (∀ s ∈ X, s.i64) ∧ X.length ≤ 9223372036854775807 := by
  obtain ⟨rows, ⟨a, c, h1, h2, h3⟩, h4, h5⟩ := sl_rows ht he hce (by decide) hf
  have e1 : rows.map ints = (rows.map stOf).map sc := by
    rw [List.map_map]
    exact List.map_congr_left fun r hr => stOf_sc (h4 r hr).1
  refine ⟨rows.map stOf, ⟨a, c, by rw [List.length_map, List.length_map]; exact h1, by rw [List.length_map, List.length_map]; exact h2, ?_⟩, fun s hs => ?_, by rw [List.length_map]; simp only [maxLen] at h5; omega⟩
  · rcases h3 with h3 | ⟨b, off, h6, h7, h8⟩
    · left; rw [h3]; rfl
    · exact .inr ⟨b, off, h6, h7, fun i row j u hi hu => h8 i row j u (by rw [e1]; exact hi) hu⟩
  · obtain ⟨r, hr, rfl⟩ := List.mem_map.1 hs
    exact stOf_i64 (h4 r hr).1 (h4 r hr).2
theorem agg_cells {t : TypeId} {P : Program} {n : Nat} (ha : ∃ cs, v = .agg cs ∧ cs.size = P.cellsOf t) (hn : P.cellsOf t = n) : ∃ l : List Value, v = .agg l.toArray ∧ l.length = n ∧ v.cells.toList = l := by
  obtain ⟨cs, rfl, h⟩ := ha
  exact ⟨cs.toList, by simp, by simp [h, hn], rfl⟩
theorem okWide_struct {P : Program} {t : TypeId} {fs : Array Field} (ht : P.underlying t = some (.struct fs)) (h : Value.okWide P W r b0 t v) : ∃ cs, v = .agg cs ∧ cs.size = P.cellsOf t := by
  simp only [Value.okWide, ht] at h
  obtain ⟨cs, h1, h2, _⟩ := h
  exact ⟨cs, h1, h2⟩
set_option maxRecDepth 100000 in
/-- An array of four numbers. -/
theorem open_st (hv : Value.okWide Try.prog W r b0 44 v) (h : DataW.Trod enc Try.prog W b sp hd 44 v d p) : ∃ g : St, v = .agg (sc g).toArray ∧ g.i64 := by
  obtain ⟨l, rfl, hl, hc⟩ := agg_cells (okWide_arr Try.underlying44 hv) (show Try.prog.cellsOf 44 = 4 by kernel_rfl)
  obtain ⟨fuel, hf⟩ := h
  rw [hc] at hf
  obtain ⟨zs, rfl, h1, h2⟩ := intRow (n := 3) (by kernel_rfl) hf
  have h4 : zs.length = 4 := by rw [h1]; kernel_rfl
  exact ⟨stOf zs, by rw [stOf_sc h4], stOf_i64 h4 h2⟩
theorem open_intK {t : TypeId} {P : Program} (ht : P.underlying t = some (.int .i64)) (hv : Value.okWide P W r b0 t v) (h : DataW.Trod enc P W b sp hd t v d p) : ∃ x : Int, v = zv x ∧ i64R x := by
  obtain ⟨z, rfl⟩ := okWide_int ht hv
  obtain ⟨fuel, hf⟩ := h
  have hf' : DataW.trod enc P W b sp hd fuel t [.int .i64 z] = some (d, p) := hf
  obtain ⟨z', e, -, hw⟩ := DataW.trod_int ht hf'
  cases e
  exact ⟨z, rfl, i64_of hw⟩
set_option maxRecDepth 100000 in
/-- A case. -/
theorem open_case (hv : Value.okWide Try.prog W r b0 29 v) (h : DataW.Trod enc Try.prog W b sp hd 29 v d p) :
    ∃ (u : Value) (X : List St) (y : Di) (set k : Int), v = .agg (caseC u y set k).toArray ∧ RdS W u X ∧ X.length ≤ 9223372036854775807 ∧ (∀ s ∈ X, s.i64) ∧ (y.b.i64 ∧ i64R y.liars) ∧ i64R set ∧ i64R k := by
  obtain ⟨l, rfl, hl, hc⟩ := agg_cells (okWide_struct Try.underlying29 hv) (show Try.prog.cellsOf 29 = 8 by kernel_rfl)
  obtain ⟨fuel, hf⟩ := h
  rw [hc] at hf
  obtain ⟨xs, k, -, -, -, hxl, hfd⟩ := DataW.trod_struct Try.underlying29 hf
  match l, hl with
  | [c0, c1, c2, c3, c4, c5, c6, c7], _ =>
    have hx4 : xs.length = 4 := hxl
    have f0 := hfd 0 _ rfl
    have f1 := hfd 1 _ rfl
    have f2 := hfd 2 _ rfl
    have f3 := hfd 3 _ rfl
    rw [List.getElem?_eq_getElem (by omega)] at f0 f1 f2 f3
    have g0 : DataW.trod enc Try.prog W b sp hd k 26 [c0] = some xs[0] := f0
    have g1 : DataW.trod enc Try.prog W b sp hd k 27 [c1, c2, c3, c4, c5] = some xs[1] := f1
    have g2 : DataW.trod enc Try.prog W b sp hd k 3 [c6] = some xs[2] := f2
    have g3 : DataW.trod enc Try.prog W b sp hd k 3 [c7] = some xs[3] := f3
    obtain ⟨X, hX, hX1, hX2⟩ := sites_of (n := 3) Try.underlying26 (by kernel_rfl) (by kernel_rfl) g0
    obtain ⟨zs, e1, h1, h2⟩ := intRow (n := 3) (by kernel_rfl) g1
    have h5 : zs.length = 5 := by rw [h1]; kernel_rfl
    obtain ⟨z2, e2, -, w2⟩ := DataW.trod_int Try.underlying3 g2
    obtain ⟨z3, e3, -, w3⟩ := DataW.trod_int Try.underlying3 g3
    cases e2; cases e3
    refine ⟨c0, X, diOf zs, z2, z3, ?_, hX, hX2, hX1, diOf_i64 h5 h2, i64_of w2, i64_of w3⟩
    have e4 : [c1, c2, c3, c4, c5] = (diOf zs).cells := by rw [e1, diOf_cells h5]
    have : [c0, c1, c2, c3, c4, c5, zv z2, zv z3] = caseC c0 (diOf zs) z2 z3 := by
      unfold caseC
      rw [← e4]; rfl
    exact congrArg (fun l : List Value => Value.agg l.toArray) this
end
end Go.Sx

