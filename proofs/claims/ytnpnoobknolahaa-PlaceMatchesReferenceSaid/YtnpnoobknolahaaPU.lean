/- From a function's contract to a row's statement: slices of slices of numbers; a bound. -/
import Derived.Test.YtnpnoobknolahaaPS
import Derived.Test.YtnpnoobknolahaaTR
namespace Go.Sx
open Go Go.Proofs Go.ChangeShapes Go.WideShapes Go.ChangeAt Go.RowKit
section
variable {H : Type} {enc : TypeId × Value → H} {P : Program} {W : World} {r : Reach} {b0 b : Nat} {sp : Nat → Bool} {hd : Bool} {v : Value} {d : DataW H} {p : List MemPlace}
theorem sl_trodL {t e fuel : Nat} {x : DataW H × List MemPlace} (ht : P.underlying t = some (.slice e)) (he : P.underlying e = some (.int .i64)) (hce : P.cellsOf e = 1) (hf : DataW.trod enc P W b sp hd fuel t [v] = some x) :
    ∃ l : List Int, Rd W v (ints l) ∧ (∀ x ∈ l, i64W x) ∧ l.length ≤ 9223372036854775807 := by
  rcases DataW.trod_slice ht hf with ⟨h0, -⟩ | ⟨a', n, c, elems, rest, m, -, hcs, -, hb, hlc, hm, hlen, hel, -, -⟩
  · cases h0
    exact ⟨[], ⟨_, _, rfl, Nat.le_refl _, .inl rfl⟩, by simp, by simp⟩
  · cases hcs
    have hnm : n ≤ 9223372036854775807 := by simp only [maxLen] at hm; omega
    have key : ∀ q, q < n → ∃ z, W.cell? (a'.add q) = some (.int .i64 z) ∧ (Lit.int .i64 z).wf = true := fun q hq => by
      have h1 := hel q hq
      rw [hce, Nat.mul_one, List.getElem?_eq_getElem (by omega)] at h1
      cases hcs : W.cells? b (a'.add q) 1 with
      | none => rw [hcs] at h1; cases h1
      | some cs =>
        rw [hcs] at h1
        simp only [Option.bind_some] at h1
        obtain ⟨z, e1, -, wz⟩ := DataW.trod_int he h1
        have h3 := (World.cells?_some hcs).2.2 0 (by decide)
        refine ⟨z, ?_, wz⟩
        rw [show (a'.add q).add 0 = a'.add q by simp [Addr.add]] at h3
        rw [h3, e1]; rfl
    by_cases hn0 : n = 0
    · subst hn0
      exact ⟨[], ⟨_, _, rfl, Nat.zero_le _, .inl rfl⟩, by simp, by simp⟩
    · obtain ⟨z0, hz0, -⟩ := key 0 (by omega)
      rw [show a'.add 0 = a' by simp [Addr.add]] at hz0
      obtain ⟨ha, hblk⟩ := spot_none hz0
      have hadd : ∀ q, a'.add q = ⟨a'.block, a'.off + q, none⟩ := fun q => by rw [ha, add_lit]
      have hk : ∀ q, q < n → W.cell? ⟨a'.block, a'.off + q, none⟩ = some (zv (cellInt W ⟨a'.block, a'.off + q, none⟩)) ∧ i64W (cellInt W ⟨a'.block, a'.off + q, none⟩) := fun q hq => by
        obtain ⟨z, hz, wz⟩ := key q hq
        rw [hadd] at hz
        have : cellInt W ⟨a'.block, a'.off + q, none⟩ = z := by unfold cellInt; rw [hz]
        rw [this]
        exact ⟨hz, i64_of wz⟩
      refine ⟨(List.range n).map fun q => cellInt W ⟨a'.block, a'.off + q, none⟩, ⟨some a', c, by rw [ints_len]; simp, by rw [ints_len]; simpa using hlc, .inr ⟨a'.block, a'.off, congrArg some ha, hblk, fun i u hu => ?_⟩⟩, fun x hx => ?_, by simpa using hnm⟩
      · rw [ints_rowK] at hu
        have hi : i < n := by
          have := (List.getElem?_eq_some_iff.1 hu).1
          rwa [row_len] at this
        rw [row_get _ hi] at hu
        cases hu
        exact (hk i hi).1
      · obtain ⟨q, hq, rfl⟩ := List.mem_map.1 hx
        exact (hk q (List.mem_range.1 hq)).2
/-- A slice of slices of numbers. -/
theorem open_sls {t s e : Nat} (ht : P.underlying t = some (.slice s)) (hs : P.underlying s = some (.slice e)) (he : P.underlying e = some (.int .i64)) (hcs : P.cellsOf s = 1) (hce : P.cellsOf e = 1) (hv : Value.okWide P W r b0 t v) (h : DataW.Trod enc P W b sp hd t v d p) :
    ∃ (GG : List (List Int)) (hV : Nat → Value), RdG W v GG hV ∧ ∀ i (hi : i < GG.length), GG[i].length ≤ 9223372036854775807 := by
  obtain ⟨fuel, hf⟩ := h
  obtain ⟨a, n, c, rfl⟩ := okWide_slice ht hv
  have hcells : (Value.slice a n c).cells.toList = [Value.slice a n c] := rfl
  rw [hcells] at hf
  rcases DataW.trod_slice ht hf with ⟨h0, -⟩ | ⟨a', len, cap, elems, rest, m, -, hcs', -, hb, hlc, hm, hlen, hel, -, -⟩
  · cases h0
    exact ⟨[], fun _ => undef, ⟨none, 0, rfl, Nat.le_refl _, .inl rfl, fun i hi => by cases hi⟩, fun i hi => by cases hi⟩
  · cases hcs'
    have key : ∀ q, q < n → ∃ (l : List Int) (u : Value), W.cell? (a'.add q) = some u ∧ Rd W u (ints l) ∧ l.length ≤ 9223372036854775807 := fun q hq => by
      have h1 := hel q hq
      rw [hcs, Nat.mul_one, List.getElem?_eq_getElem (by omega)] at h1
      cases hcl : W.cells? b (a'.add q) 1 with
      | none => rw [hcl] at h1; cases h1
      | some cs =>
        rw [hcl] at h1
        simp only [Option.bind_some] at h1
        obtain ⟨-, h5, h6⟩ := World.cells?_some hcl
        match cs, h5 with
        | [u], _ =>
          obtain ⟨l, hl, -, hb2⟩ := sl_trodL hs he hce h1
          have h3 := h6 0 (by decide)
          rw [show (a'.add q).add 0 = a'.add q by simp [Addr.add]] at h3
          exact ⟨l, u, h3, hl, hb2⟩
    by_cases hn0 : n = 0
    · subst hn0
      exact ⟨[], fun _ => undef, ⟨some a', c, rfl, Nat.zero_le _, .inl rfl, fun i hi => by cases hi⟩, fun i hi => by cases hi⟩
    · have hch : ∃ (L : Nat → List Int) (U : Nat → Value), ∀ q, q < n → W.cell? (a'.add q) = some (U q) ∧ Rd W (U q) (ints (L q)) ∧ (L q).length ≤ 9223372036854775807 := by
        refine ⟨fun q => if h : q < n then Classical.choose (key q h) else [], fun q => if h : q < n then Classical.choose (Classical.choose_spec (key q h)) else undef, fun q hq => ?_⟩
        simp only [dif_pos hq]
        exact Classical.choose_spec (Classical.choose_spec (key q hq))
      obtain ⟨L, U, hk⟩ := hch
      have hz0 := (hk 0 (by omega)).1
      rw [show a'.add 0 = a' by simp [Addr.add]] at hz0
      obtain ⟨ha, hblk⟩ := spot_none hz0
      have hadd : ∀ q, a'.add q = ⟨a'.block, a'.off + q, none⟩ := fun q => by rw [ha, add_lit]
      have hl : ((List.range n).map L).length = n := by simp
      refine ⟨(List.range n).map L, U, ⟨some a', c, by rw [hl], by rw [hl]; exact hlc, .inr ⟨a'.block, a'.off, congrArg some ha, fun i hi => ?_⟩, fun i hi => ?_⟩, fun i hi => ?_⟩
      · rw [hl] at hi
        rw [← hadd]; exact (hk i hi).1
      · have hi' : i < n := by rwa [hl] at hi
        simp only [List.getElem_map, List.getElem_range]
        exact (hk i hi').2.1
      · have hi' : i < n := by rwa [hl] at hi
        simp only [List.getElem_map, List.getElem_range]
        exact (hk i hi').2.2
theorem open_sites {t e n : Nat} (ht : P.underlying t = some (.slice e)) (he : intCellsB P n e = true) (hce : P.cellsOf e = 4) (hv : Value.okWide P W r b0 t v) (h : DataW.Trod enc P W b sp hd t v d p) :
    ∃ X : List St, RdS W v X ∧ (∀ s ∈ X, s.i64) ∧ X.length ≤ 9223372036854775807 := by
  obtain ⟨fuel, hf⟩ := h
  obtain ⟨a, n, c, rfl⟩ := okWide_slice ht hv
  have hcells : (Value.slice a n c).cells.toList = [Value.slice a n c] := rfl
  rw [hcells] at hf
  exact sites_of ht he hce hf
end
section
variable {H : Type} {enc : TypeId × Value → H} {W : World} {r : Reach} {b0 b : Nat} {sp : Nat → Bool} {hd : Bool} {v : Value} {d : DataW H} {p : List MemPlace}
set_option maxRecDepth 100000 in
/-- A bound. -/
theorem open_bound (hv : Value.okWide Try.prog W r b0 24 v) (h : DataW.Trod enc Try.prog W b sp hd 24 v d p) : ∃ y : Di, v = .agg y.cells.toArray := by
  obtain ⟨l, rfl, hl, hc⟩ := agg_cells (okWide_struct Try.underlying24 hv) (show Try.prog.cellsOf 24 = 5 by kernel_rfl)
  obtain ⟨fuel, hf⟩ := h
  rw [hc] at hf
  obtain ⟨zs, rfl, h1, h2⟩ := intRow (n := 3) (by kernel_rfl) hf
  have h4 : zs.length = 5 := by rw [h1]; kernel_rfl
  exact ⟨diOf zs, by rw [diOf_cells h4]⟩
end
end Go.Sx

