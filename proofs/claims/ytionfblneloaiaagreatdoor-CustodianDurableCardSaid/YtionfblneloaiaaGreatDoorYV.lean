/- From a function's contract to a row's statement: slices of deeds. -/
import Derived.Test.YtionfblneloaiaaGreatDoorYT
import Derived.Test.YtionfblneloaiaaGreatDoorYP
namespace Go.Sx
open Go Go.Proofs Go.ChangeShapes Go.WideShapes Go.ChangeAt Go.RowKit
section
variable {H : Type} {enc : TypeId × Value → H} {P : Program} {W : World} {r : Reach} {b0 b : Nat} {sp : Nat → Bool} {hd : Bool} {v : Value} {d : DataW H} {p : List MemPlace}
/-- One cell that is a slice of numbers. -/
theorem sl_trodI {t e fuel : Nat} {x : DataW H × List MemPlace} (ht : P.underlying t = some (.slice e)) (he : P.underlying e = some (.int .i64)) (hce : P.cellsOf e = 1) (hf : DataW.trod enc P W b sp hd fuel t [v] = some x) :
    ∃ l : List Int, Rd W v (ints l) ∧ l.length ≤ 9223372036854775807 := by
  rcases DataW.trod_slice ht hf with ⟨h0, -⟩ | ⟨a', n, c, elems, rest, m, -, hcs, -, hb, hlc, hm, hlen, hel, -, -⟩
  · cases h0
    exact ⟨[], ⟨_, _, rfl, Nat.le_refl _, .inl rfl⟩, by simp⟩
  · cases hcs
    have hnm : n ≤ 9223372036854775807 := by simp only [maxLen] at hm; omega
    have key : ∀ q, q < n → ∃ z, W.cell? (a'.add q) = some (.int .i64 z) := fun q hq => by
      have h1 := hel q hq
      rw [hce, Nat.mul_one, List.getElem?_eq_getElem (by omega)] at h1
      cases hcs : W.cells? b (a'.add q) 1 with
      | none => rw [hcs] at h1; cases h1
      | some cs =>
        rw [hcs] at h1
        simp only [Option.bind_some] at h1
        obtain ⟨z, e1, -, -⟩ := DataW.trod_int he h1
        have h3 := (World.cells?_some hcs).2.2 0 (by decide)
        refine ⟨z, ?_⟩
        rw [show (a'.add q).add 0 = a'.add q by simp [Addr.add]] at h3
        rw [h3, e1]; rfl
    by_cases hn0 : n = 0
    · subst hn0
      exact ⟨[], ⟨_, _, rfl, Nat.zero_le _, .inl rfl⟩, by simp⟩
    · obtain ⟨z0, hz0⟩ := key 0 (by omega)
      rw [show a'.add 0 = a' by simp [Addr.add]] at hz0
      obtain ⟨ha, hblk⟩ := spot_none hz0
      have hadd : ∀ q, a'.add q = ⟨a'.block, a'.off + q, none⟩ := fun q => by rw [ha, add_lit]
      have hk : ∀ q, q < n → W.cell? ⟨a'.block, a'.off + q, none⟩ = some (zv (cellInt W ⟨a'.block, a'.off + q, none⟩)) := fun q hq => by
        obtain ⟨z, hz⟩ := key q hq
        rw [hadd] at hz
        have : cellInt W ⟨a'.block, a'.off + q, none⟩ = z := by unfold cellInt; rw [hz]
        rw [this]
        exact hz
      refine ⟨(List.range n).map fun q => cellInt W ⟨a'.block, a'.off + q, none⟩, ⟨some a', c, by rw [ints_len]; simp, by rw [ints_len]; simpa using hlc, .inr ⟨a'.block, a'.off, congrArg some ha, hblk, fun i u hu => ?_⟩⟩, by simpa using hnm⟩
      rw [ints_rowK] at hu
      have hi : i < n := by
        have := (List.getElem?_eq_some_iff.1 hu).1
        rwa [row_len] at this
      rw [row_get _ hi] at hu
      cases hu
      exact hk i hi
end
section
variable {H : Type} {enc : TypeId × Value → H} {W : World} {r : Reach} {b0 b : Nat} {sp : Nat → Bool} {hd : Bool} {v : Value} {d : DataW H} {p : List MemPlace}
set_option maxRecDepth 100000 in
/-- A slice of deeds. -/
theorem open_deeds (hv : Value.okWide Tryz.prog W r b0 35 v) (h : DataW.Trod enc Tryz.prog W b sp hd 35 v d p) :
    ∃ (l : List DeedV) (a : Option Addr) (c : Nat), v = .slice a l.length c ∧ RdDeeds W a c l ∧ l.length ≤ 9223372036854775807 := by
  obtain ⟨fuel, hf⟩ := h
  obtain ⟨a, n, c, rfl⟩ := okWide_slice Tryz.underlying35 hv
  have hcells : (Value.slice a n c).cells.toList = [Value.slice a n c] := rfl
  rw [hcells] at hf
  have hce : Tryz.prog.cellsOf 40 = 5 := by kernel_rfl
  have hci : Tryz.prog.cellsOf 3 = 1 := by kernel_rfl
  have hcn : Tryz.prog.cellsOf 38 = 1 := by kernel_rfl
  have hcg : Tryz.prog.cellsOf 9 = 1 := by kernel_rfl
  rcases DataW.trod_slice Tryz.underlying35 hf with ⟨h0, -⟩ | ⟨a', len, cap, elems, rest, m, -, hcs', -, hb, hlc, hm, hlen, hel, -, -⟩
  · cases h0
    exact ⟨[], none, 0, rfl, ⟨Nat.le_refl _, .inl rfl, (fun i hi => by cases hi), (fun i hi => by cases hi), (fun i hi => by cases hi), (fun i hi => by cases hi), (fun i hi => by cases hi)⟩, by simp⟩
  · cases hcs'
    have hnm : n ≤ 9223372036854775807 := by simp only [maxLen] at hm; omega
    have key : ∀ q, q < n → ∃ o : DeedV, (∀ (j : Nat) (u : Value), (deedC o)[j]? = some u → W.cell? ((a'.add (q * 5)).add j) = some u) ∧ i64W o.kind ∧ i64W o.object ∧ i64W o.fragment ∧ o.s.size ≤ 9223372036854775807 ∧ Rd W o.vk (ints o.keep) ∧ o.keep.length ≤ 9223372036854775807 := fun q hq => by
      have h1 := hel q hq
      rw [hce, List.getElem?_eq_getElem (by omega)] at h1
      cases hcl : W.cells? b (a'.add (q * 5)) 5 with
      | none => rw [hcl] at h1; cases h1
      | some cs =>
        rw [hcl] at h1
        simp only [Option.bind_some] at h1
        obtain ⟨-, h5, h6⟩ := World.cells?_some hcl
        obtain ⟨xs, k, -, -, -, hxl, hfd⟩ := DataW.trod_struct Tryz.underlying40 h1
        match cs, h5 with
        | [c0, c1, c2, c3, c4], _ =>
          have f0 : DataW.trod enc Tryz.prog W b sp hd k 3 (([c0, c1, c2, c3, c4].drop 0).take (Tryz.prog.cellsOf 3)) = xs[0]? := hfd 0 _ rfl
          have f1 : DataW.trod enc Tryz.prog W b sp hd k 3 (([c0, c1, c2, c3, c4].drop 1).take (Tryz.prog.cellsOf 3)) = xs[1]? := hfd 1 _ rfl
          have f2 : DataW.trod enc Tryz.prog W b sp hd k 3 (([c0, c1, c2, c3, c4].drop 2).take (Tryz.prog.cellsOf 3)) = xs[2]? := hfd 2 _ rfl
          have f3 : DataW.trod enc Tryz.prog W b sp hd k 9 (([c0, c1, c2, c3, c4].drop 3).take (Tryz.prog.cellsOf 9)) = xs[3]? := hfd 3 _ rfl
          have f4 : DataW.trod enc Tryz.prog W b sp hd k 38 (([c0, c1, c2, c3, c4].drop 4).take (Tryz.prog.cellsOf 38)) = xs[4]? := hfd 4 _ rfl
          have hxl5 : xs.length = 5 := hxl
          rw [hci] at f0 f1 f2
          rw [hcg] at f3
          rw [hcn] at f4
          simp only [List.drop_zero, List.drop_succ_cons, List.take_succ_cons, List.take_zero] at f0 f1 f2 f3 f4
          rw [List.getElem?_eq_getElem (by omega)] at f0 f1 f2 f3 f4
          obtain ⟨z0, e0, -, w0⟩ := DataW.trod_int Tryz.underlying3 f0
          obtain ⟨z1, e1, -, w1⟩ := DataW.trod_int Tryz.underlying3 f1
          obtain ⟨z2, e2, -, w2⟩ := DataW.trod_int Tryz.underlying3 f2
          obtain ⟨z3, e3, -, w3⟩ := DataW.trod_string Tryz.underlying9 f3
          obtain ⟨l4, hl4, hb4⟩ := sl_trodI Tryz.underlying38 Tryz.underlying3 hci f4
          cases e0; cases e1; cases e2; cases e3
          refine ⟨⟨z0, z1, z2, z3, l4, c4⟩, fun j u hu => ?_, i64_of w0, i64_of w1, i64_of w2, by simp only [maxLen] at w3; omega, hl4, hb4⟩
          have hj : j < 5 := by
            have := (List.getElem?_eq_some_iff.1 hu).1
            simpa [deedC] using this
          rw [h6 j hj]
          exact hu
    by_cases hn0 : n = 0
    · subst hn0
      exact ⟨[], some a', c, rfl, ⟨Nat.zero_le _, .inl rfl, (fun i hi => by cases hi), (fun i hi => by cases hi), (fun i hi => by cases hi), (fun i hi => by cases hi), (fun i hi => by cases hi)⟩, by simp⟩
    · have hch : ∃ T : Nat → DeedV, ∀ q, q < n → (∀ (j : Nat) (u : Value), (deedC (T q))[j]? = some u → W.cell? ((a'.add (q * 5)).add j) = some u) ∧ i64W (T q).kind ∧ i64W (T q).object ∧ i64W (T q).fragment ∧ (T q).s.size ≤ 9223372036854775807 ∧ Rd W (T q).vk (ints (T q).keep) ∧ (T q).keep.length ≤ 9223372036854775807 := by
        refine ⟨fun q => if h : q < n then Classical.choose (key q h) else default, fun q hq => ?_⟩
        simp only [dif_pos hq]
        exact Classical.choose_spec (key q hq)
      obtain ⟨T, hk⟩ := hch
      have hz0 := (hk 0 (by omega)).1 0 _ rfl
      rw [Nat.zero_mul, show (a'.add 0).add 0 = a' by simp [Addr.add]] at hz0
      obtain ⟨ha, hblk⟩ := spot_none hz0
      have hadd : ∀ q j, (a'.add (q * 5)).add j = ⟨a'.block, a'.off + q * 5 + j, none⟩ := fun q j => by rw [ha, add_lit, add_lit]
      have hl : ((List.range n).map T).length = n := by simp
      have hT : ∀ i, i < ((List.range n).map T).length → deedAt ((List.range n).map T) i = T i := fun i hi => by
        rw [hl] at hi
        simp [deedAt, hi]
      refine ⟨(List.range n).map T, some a', c, by rw [hl], ⟨by rw [hl]; exact hlc, .inr ⟨a'.block, a'.off, congrArg some ha, hblk, fun i hi j u hu => ?_⟩, fun i hi => ?_, fun i hi => ?_, fun i hi => ?_, fun i hi => ?_, fun i hi => ?_⟩, by rw [hl]; exact hnm⟩
      · rw [hT i hi] at hu
        have := (hk i (by rwa [hl] at hi)).1 j u hu
        rwa [hadd] at this
      · rw [hT i hi]; exact (hk i (by rwa [hl] at hi)).2.1
      · rw [hT i hi]; exact (hk i (by rwa [hl] at hi)).2.2.1
      · rw [hT i hi]; exact (hk i (by rwa [hl] at hi)).2.2.2.1
      · rw [hT i hi]; exact (hk i (by rwa [hl] at hi)).2.2.2.2.1
      · rw [hT i hi]; exact (hk i (by rwa [hl] at hi)).2.2.2.2.2
end
end Go.Sx

