/- From a function's contract to a row's statement: slices of transfers. -/
import Derived.Test.YtcnjfccbfdoacaaPE
namespace Go.Sx
open Go Go.Proofs Go.ChangeShapes Go.WideShapes Go.ChangeAt Go.RowKit
section
variable {H : Type} {enc : TypeId × Value → H} {P : Program} {W : World} {r : Reach} {b0 b : Nat} {sp : Nat → Bool} {hd : Bool} {v : Value} {d : DataW H} {p : List MemPlace}
/-- An array of three numbers. -/
theorem open_arr3 {t e : Nat} (ht : P.underlying t = some (.array 3 e)) (he : P.underlying e = some (.int .i64)) (hce : P.cellsOf e = 1) (hct : P.cellsOf t = 3) (hv : Value.okWide P W r b0 t v) (h : DataW.Trod enc P W b sp hd t v d p) :
    ∃ x0 x1 x2 : Int, v = .agg #[.int .i64 x0, .int .i64 x1, .int .i64 x2] ∧ i64B x0 ∧ i64B x1 ∧ i64B x2 := by
  obtain ⟨cs, rfl, hsz⟩ := okWide_arr ht hv
  rw [hct] at hsz
  obtain ⟨c0, c1, c2, rfl⟩ : ∃ c0 c1 c2, cs = #[c0, c1, c2] := by
    cases cs with
    | mk l =>
      match l, hsz with
      | [c0, c1, c2], _ => exact ⟨c0, c1, c2, rfl⟩
  obtain ⟨fuel, hf⟩ := h
  obtain ⟨y0, y1, y2, n, -, h0, h1, h2⟩ := trod_array3 ht hce hf
  obtain ⟨x0, e0, -, w0⟩ := DataW.trod_int he h0
  obtain ⟨x1, e1, -, w1⟩ := DataW.trod_int he h1
  obtain ⟨x2, e2, -, w2⟩ := DataW.trod_int he h2
  cases e0; cases e1; cases e2
  exact ⟨x0, x1, x2, rfl, i64_of w0, i64_of w1, i64_of w2⟩
/-- One cell that is a slice of numbers. -/
theorem sl_trod {t e fuel : Nat} {x : DataW H × List MemPlace} (ht : P.underlying t = some (.slice e)) (he : P.underlying e = some (.int .i64)) (hce : P.cellsOf e = 1) (hf : DataW.trod enc P W b sp hd fuel t [v] = some x) :
    ∃ l : List Int, Rd W v (ints l) := by
  rcases DataW.trod_slice ht hf with ⟨h0, -⟩ | ⟨a', n, c, elems, rest, m, -, hcs, -, hb, hlc, hm, hlen, hel, -, -⟩
  · cases h0
    exact ⟨[], ⟨_, _, rfl, Nat.le_refl _, .inl rfl⟩⟩
  · cases hcs
    have key : ∀ q, q < n → ∃ z, W.cell? (a'.add q) = some (.int .i64 z) := fun q hq => by
      have h1 := hel q hq
      rw [hce, Nat.mul_one, List.getElem?_eq_getElem (by omega)] at h1
      cases hcs : W.cells? b (a'.add q) 1 with
      | none => rw [hcs] at h1; cases h1
      | some cs =>
        rw [hcs] at h1
        simp only [Option.bind_some] at h1
        obtain ⟨z, e1, -, -⟩ := DataW.trod_int he h1
        have h3 := (World.cells?_some hcs).2.2 0 (by decide)
        refine ⟨z, ?_⟩
        rw [show (a'.add q).add 0 = a'.add q by simp [Addr.add]] at h3
        rw [h3, e1]; rfl
    by_cases hn0 : n = 0
    · subst hn0
      exact ⟨[], ⟨_, _, rfl, Nat.zero_le _, .inl rfl⟩⟩
    · obtain ⟨z0, hz0⟩ := key 0 (by omega)
      rw [show a'.add 0 = a' by simp [Addr.add]] at hz0
      obtain ⟨ha, hblk⟩ := spot_none hz0
      have hadd : ∀ q, a'.add q = ⟨a'.block, a'.off + q, none⟩ := fun q => by rw [ha, add_lit]
      have hk : ∀ q, q < n → W.cell? ⟨a'.block, a'.off + q, none⟩ = some (zv (cellInt W ⟨a'.block, a'.off + q, none⟩)) := fun q hq => by
        obtain ⟨z, hz⟩ := key q hq
        rw [hadd] at hz
        have : cellInt W ⟨a'.block, a'.off + q, none⟩ = z := by unfold cellInt; rw [hz]
        rw [this]
        exact hz
      refine ⟨(List.range n).map fun q => cellInt W ⟨a'.block, a'.off + q, none⟩, ⟨some a', c, by rw [ints_len]; simp, by rw [ints_len]; simpa using hlc, .inr ⟨a'.block, a'.off, congrArg some ha, hblk, fun i u hu => ?_⟩⟩⟩
      rw [ints_row] at hu
      have hi : i < n := by
        have := (List.getElem?_eq_some_iff.1 hu).1
        rwa [row_len] at this
      rw [row_get _ hi] at hu
      cases hu
      exact hk i hi
end
section
variable {H : Type} {enc : TypeId × Value → H} {W : World} {r : Reach} {b0 b : Nat} {sp : Nat → Bool} {hd : Bool} {v : Value} {d : DataW H} {p : List MemPlace}
set_option maxRecDepth 100000 in
/-- A slice of transfers. -/
theorem open_trs (hv : Value.okWide Try.prog W r b0 24 v) (h : DataW.Trod enc Try.prog W b sp hd 24 v d p) :
    ∃ l : List Tr, RdT W v l ∧ ∀ t ∈ l, i64B t.stop := by
  obtain ⟨fuel, hf⟩ := h
  obtain ⟨a, n, c, rfl⟩ := okWide_slice Try.underlying24 hv
  have hcells : (Value.slice a n c).cells.toList = [Value.slice a n c] := rfl
  rw [hcells] at hf
  have hce : Try.prog.cellsOf 52 = 5 := by kernel_rfl
  have hci : Try.prog.cellsOf 3 = 1 := by kernel_rfl
  have hcs : Try.prog.cellsOf 22 = 1 := by kernel_rfl
  rcases DataW.trod_slice Try.underlying24 hf with ⟨h0, -⟩ | ⟨a', len, cap, elems, rest, m, -, hcs', -, hb, hlc, hm, hlen, hel, -, -⟩
  · cases h0
    exact ⟨[], ⟨none, 0, fun _ => undef, rfl, Nat.le_refl _, .inl rfl, fun i hi => by cases hi⟩, fun t ht => absurd ht List.not_mem_nil⟩
  · cases hcs'
    have key : ∀ q, q < n → ∃ (t : Tr) (hv : Value), (∀ j u, (tcell t hv)[j]? = some u → W.cell? ((a'.add (q * 5)).add j) = some u) ∧ Rd W hv (ints t.src) ∧ i64B t.stop := fun q hq => by
      have h1 := hel q hq
      rw [hce, List.getElem?_eq_getElem (by omega)] at h1
      cases hcl : W.cells? b (a'.add (q * 5)) 5 with
      | none => rw [hcl] at h1; cases h1
      | some cs =>
        rw [hcl] at h1
        simp only [Option.bind_some] at h1
        obtain ⟨-, h5, h6⟩ := World.cells?_some hcl
        obtain ⟨xs, k, -, -, -, hxl, hfd⟩ := DataW.trod_struct Try.underlying52 h1
        match cs, h5 with
        | [c0, c1, c2, c3, c4], _ =>
          have f0 : DataW.trod enc Try.prog W b sp hd k 3 (([c0, c1, c2, c3, c4].drop 0).take (Try.prog.cellsOf 3)) = xs[0]? := hfd 0 _ rfl
          have f1 : DataW.trod enc Try.prog W b sp hd k 3 (([c0, c1, c2, c3, c4].drop 1).take (Try.prog.cellsOf 3)) = xs[1]? := hfd 1 _ rfl
          have f2 : DataW.trod enc Try.prog W b sp hd k 22 (([c0, c1, c2, c3, c4].drop 2).take (Try.prog.cellsOf 22)) = xs[2]? := hfd 2 _ rfl
          have f3 : DataW.trod enc Try.prog W b sp hd k 3 (([c0, c1, c2, c3, c4].drop 3).take (Try.prog.cellsOf 3)) = xs[3]? := hfd 3 _ rfl
          have f4 : DataW.trod enc Try.prog W b sp hd k 3 (([c0, c1, c2, c3, c4].drop 4).take (Try.prog.cellsOf 3)) = xs[4]? := hfd 4 _ rfl
          have hxl5 : xs.length = 5 := hxl
          rw [hci] at f0 f1 f3 f4
          rw [hcs] at f2
          simp only [List.drop_zero, List.drop_succ_cons, List.take_succ_cons, List.take_zero] at f0 f1 f2 f3 f4
          rw [List.getElem?_eq_getElem (by omega)] at f0 f1 f2 f3 f4
          obtain ⟨z0, e0, -, w0⟩ := DataW.trod_int Try.underlying3 f0
          obtain ⟨z1, e1, -, w1⟩ := DataW.trod_int Try.underlying3 f1
          obtain ⟨z3, e3, -, w3⟩ := DataW.trod_int Try.underlying3 f3
          obtain ⟨z4, e4, -, w4⟩ := DataW.trod_int Try.underlying3 f4
          obtain ⟨src, hsrc⟩ := sl_trod Try.underlying22 Try.underlying3 hci f2
          cases e0; cases e1; cases e3; cases e4
          refine ⟨⟨z0, z1, src, z3, z4⟩, c2, fun j u hu => ?_, hsrc, i64_of w4⟩
          have hj : j < 5 := by
            have := (List.getElem?_eq_some_iff.1 hu).1
            simpa [tcell] using this
          rw [h6 j hj]
          exact hu
    by_cases hn0 : n = 0
    · subst hn0
      exact ⟨[], ⟨some a', c, fun _ => undef, rfl, Nat.zero_le _, .inl rfl, fun i hi => by cases hi⟩, fun t ht => absurd ht List.not_mem_nil⟩
    · have hch : ∃ (T : Nat → Tr) (hV : Nat → Value), ∀ q, q < n → (∀ j u, (tcell (T q) (hV q))[j]? = some u → W.cell? ((a'.add (q * 5)).add j) = some u) ∧ Rd W (hV q) (ints (T q).src) ∧ i64B (T q).stop := by
        refine ⟨fun q => if h : q < n then Classical.choose (key q h) else trz, fun q => if h : q < n then Classical.choose (Classical.choose_spec (key q h)) else undef, fun q hq => ?_⟩
        simp only [dif_pos hq]
        exact Classical.choose_spec (Classical.choose_spec (key q hq))
      obtain ⟨T, hV, hk⟩ := hch
      have hz0 := (hk 0 (by omega)).1 0 _ rfl
      rw [Nat.zero_mul, show (a'.add 0).add 0 = a' by simp [Addr.add]] at hz0
      obtain ⟨ha, hblk⟩ := spot_none hz0
      have hadd : ∀ q j, (a'.add (q * 5)).add j = ⟨a'.block, a'.off + q * 5 + j, none⟩ := fun q j => by rw [ha, add_lit, add_lit]
      have hl : ((List.range n).map T).length = n := by simp
      have hT : ∀ i, i < n → tr ((List.range n).map T) i = T i := fun i hi => by simp [tr, hi]
      refine ⟨(List.range n).map T, ⟨some a', c, hV, by rw [hl], by rw [hl]; exact hlc, .inr ⟨a'.block, a'.off, congrArg some ha, hblk, fun i j u hi hu => ?_⟩, fun i hi => ?_⟩, fun t ht => ?_⟩
      · rw [hl] at hi
        rw [hT i hi] at hu
        have := (hk i hi).1 j u hu
        rwa [hadd] at this
      · rw [hl] at hi
        rw [hT i hi]
        exact (hk i hi).2.1
      · obtain ⟨q, hq, rfl⟩ := List.mem_map.1 ht
        exact (hk q (List.mem_range.1 hq)).2.2
end
end Go.Sx

