/- From a function's contract to a row's statement: slices of slices of strings; a byte. -/
import Derived.Test.YtlihcenahjgnmaaGreatDoorJB
import Derived.Test.YtlihcenahjgnmaaGreatDoorJU
namespace Go.Sx
open Go Go.Proofs Go.ChangeShapes Go.WideShapes Go.ChangeAt Go.RowKit
section
variable {H : Type} {enc : TypeId × Value → H} {P : Program} {W : World} {r : Reach} {b0 b : Nat} {sp : Nat → Bool} {hd : Bool} {v : Value} {d : DataW H} {p : List MemPlace}
theorem sl_trodS {t e fuel : Nat} {x : DataW H × List MemPlace} (ht : P.underlying t = some (.slice e)) (he : P.underlying e = some .string) (hce : P.cellsOf e = 1) (hf : DataW.trod enc P W b sp hd fuel t [v] = some x) :
    ∃ l : List ByteArray, Rd W v (strs l) ∧ (∀ x ∈ l, x.size ≤ 9223372036854775807) ∧ l.length ≤ 9223372036854775807 := by
  rcases DataW.trod_slice ht hf with ⟨h0, -⟩ | ⟨a', n, c, elems, rest, m, -, hcs, -, hb, hlc, hm, hlen, hel, -, -⟩
  · cases h0
    exact ⟨[], ⟨_, _, rfl, Nat.le_refl _, .inl rfl⟩, by simp, by simp⟩
  · cases hcs
    have hnm : n ≤ 9223372036854775807 := by simp only [maxLen] at hm; omega
    have key : ∀ q, q < n → ∃ z : ByteArray, W.cell? (a'.add q) = some (.string z) ∧ z.size ≤ 9223372036854775807 := fun q hq => by
      have h1 := hel q hq
      rw [hce, Nat.mul_one, List.getElem?_eq_getElem (by omega)] at h1
      cases hcs : W.cells? b (a'.add q) 1 with
      | none => rw [hcs] at h1; cases h1
      | some cs =>
        rw [hcs] at h1
        simp only [Option.bind_some] at h1
        obtain ⟨z, e1, -, wz⟩ := DataW.trod_string he h1
        have h3 := (World.cells?_some hcs).2.2 0 (by decide)
        refine ⟨z, ?_, by simp only [maxLen] at wz; omega⟩
        rw [show (a'.add q).add 0 = a'.add q by simp [Addr.add]] at h3
        rw [h3, e1]; rfl
    by_cases hn0 : n = 0
    · subst hn0
      exact ⟨[], ⟨_, _, rfl, Nat.zero_le _, .inl rfl⟩, by simp, by simp⟩
    · obtain ⟨z0, hz0, -⟩ := key 0 (by omega)
      rw [show a'.add 0 = a' by simp [Addr.add]] at hz0
      obtain ⟨ha, hblk⟩ := spot_none hz0
      have hadd : ∀ q, a'.add q = ⟨a'.block, a'.off + q, none⟩ := fun q => by rw [ha, add_lit]
      have hk : ∀ q, q < n → W.cell? ⟨a'.block, a'.off + q, none⟩ = some (.string (cellStr W ⟨a'.block, a'.off + q, none⟩)) ∧ (cellStr W ⟨a'.block, a'.off + q, none⟩).size ≤ 9223372036854775807 := fun q hq => by
        obtain ⟨z, hz, wz⟩ := key q hq
        rw [hadd] at hz
        have : cellStr W ⟨a'.block, a'.off + q, none⟩ = z := by unfold cellStr; rw [hz]
        rw [this]
        exact ⟨hz, wz⟩
      have hsl : (strs ((List.range n).map fun q => cellStr W ⟨a'.block, a'.off + q, none⟩)).length = n := by simp [strs]
      refine ⟨(List.range n).map fun q => cellStr W ⟨a'.block, a'.off + q, none⟩, ⟨some a', c, by rw [hsl], by rw [hsl]; exact hlc, .inr ⟨a'.block, a'.off, congrArg some ha, hblk, fun i u hu => ?_⟩⟩, fun x hx => ?_, by simpa using hnm⟩
      · rw [strs_row] at hu
        have hi : i < n := by
          have := (List.getElem?_eq_some_iff.1 hu).1
          rwa [row_len] at this
        rw [row_get _ hi] at hu
        cases hu
        exact (hk i hi).1
      · obtain ⟨q, hq, rfl⟩ := List.mem_map.1 hx
        exact (hk q (List.mem_range.1 hq)).2
/-- A slice of slices of strings. -/
theorem open_gs {t s e : Nat} (ht : P.underlying t = some (.slice s)) (hs : P.underlying s = some (.slice e)) (he : P.underlying e = some .string) (hcs : P.cellsOf s = 1) (hce : P.cellsOf e = 1) (hv : Value.okWide P W r b0 t v) (h : DataW.Trod enc P W b sp hd t v d p) :
    ∃ (GG : List (List ByteArray)) (hV : Nat → Value), RdGS W v GG hV ∧ (∀ i (hi : i < GG.length), (∀ s ∈ GG[i], s.size ≤ 9223372036854775807) ∧ GG[i].length ≤ 9223372036854775807) ∧ GG.length ≤ 9223372036854775807 := by
  obtain ⟨fuel, hf⟩ := h
  obtain ⟨a, n, c, rfl⟩ := okWide_slice ht hv
  have hcells : (Value.slice a n c).cells.toList = [Value.slice a n c] := rfl
  rw [hcells] at hf
  rcases DataW.trod_slice ht hf with ⟨h0, -⟩ | ⟨a', len, cap, elems, rest, m, -, hcs', -, hb, hlc, hm, hlen, hel, -, -⟩
  · cases h0
    exact ⟨[], fun _ => undef, ⟨⟨none, 0, rfl, Nat.le_refl _, .inl rfl⟩, fun i hi => by cases hi⟩, (fun i hi => by cases hi), by simp⟩
  · cases hcs'
    have hnm : n ≤ 9223372036854775807 := by simp only [maxLen] at hm; omega
    have key : ∀ q, q < n → ∃ (l : List ByteArray) (u : Value), W.cell? (a'.add q) = some u ∧ Rd W u (strs l) ∧ (∀ s ∈ l, s.size ≤ 9223372036854775807) ∧ l.length ≤ 9223372036854775807 := fun q hq => by
      have h1 := hel q hq
      rw [hcs, Nat.mul_one, List.getElem?_eq_getElem (by omega)] at h1
      cases hcl : W.cells? b (a'.add q) 1 with
      | none => rw [hcl] at h1; cases h1
      | some cs =>
        rw [hcl] at h1
        simp only [Option.bind_some] at h1
        obtain ⟨-, h5, h6⟩ := World.cells?_some hcl
        match cs, h5 with
        | [u], _ =>
          obtain ⟨l, hl, hb1, hb2⟩ := sl_trodS hs he hce h1
          have h3 := h6 0 (by decide)
          rw [show (a'.add q).add 0 = a'.add q by simp [Addr.add]] at h3
          exact ⟨l, u, h3, hl, hb1, hb2⟩
    by_cases hn0 : n = 0
    · subst hn0
      exact ⟨[], fun _ => undef, ⟨⟨some a', c, rfl, Nat.zero_le _, .inl rfl⟩, fun i hi => by cases hi⟩, (fun i hi => by cases hi), by simp⟩
    · have hch : ∃ (L : Nat → List ByteArray) (U : Nat → Value), ∀ q, q < n → W.cell? (a'.add q) = some (U q) ∧ Rd W (U q) (strs (L q)) ∧ (∀ s ∈ L q, s.size ≤ 9223372036854775807) ∧ (L q).length ≤ 9223372036854775807 := by
        refine ⟨fun q => if h : q < n then Classical.choose (key q h) else [], fun q => if h : q < n then Classical.choose (Classical.choose_spec (key q h)) else undef, fun q hq => ?_⟩
        simp only [dif_pos hq]
        exact Classical.choose_spec (Classical.choose_spec (key q hq))
      obtain ⟨L, U, hk⟩ := hch
      have hz0 := (hk 0 (by omega)).1
      rw [show a'.add 0 = a' by simp [Addr.add]] at hz0
      obtain ⟨ha, hblk⟩ := spot_none hz0
      have hadd : ∀ q, a'.add q = ⟨a'.block, a'.off + q, none⟩ := fun q => by rw [ha, add_lit]
      have hl : ((List.range n).map L).length = n := by simp
      have hl2 : ((List.range ((List.range n).map L).length).map U).length = n := by simp
      refine ⟨(List.range n).map L, U, ⟨⟨some a', c, by rw [hl2], by rw [hl2]; exact hlc, .inr ⟨a'.block, a'.off, congrArg some ha, hblk, fun i u hu => ?_⟩⟩, fun i hi => ?_⟩, fun i hi => ?_, by rw [hl]; exact hnm⟩
      · rw [hl] at hu
        have hi : i < n := by
          have := (List.getElem?_eq_some_iff.1 hu).1
          simpa using this
        rw [List.getElem?_map, List.getElem?_range hi] at hu
        cases hu
        rw [← hadd]; exact (hk i hi).1
      · have hi' : i < n := by rwa [hl] at hi
        simp only [List.getElem_map, List.getElem_range]
        exact (hk i hi').2.1
      · have hi' : i < n := by rwa [hl] at hi
        simp only [List.getElem_map, List.getElem_range]
        exact (hk i hi').2.2
end
theorem open_b8 {H : Type} {enc : TypeId × Value → H} {P : Program} {W : World} {r : Reach} {b0 b : Nat} {sp : Nat → Bool} {hd : Bool} {v : Value} {d : DataW H} {p : List MemPlace} {t : TypeId} (ht : P.underlying t = some (.int .u8)) (hv : Value.okWide P W r b0 t v) (h : DataW.Trod enc P W b sp hd t v d p) : ∃ c : UInt8, v = b8 c := by
  obtain ⟨x, rfl, -, -, hw⟩ := open_int ht hv h
  simp only [Lit.wf, Bool.and_eq_true, decide_eq_true_eq] at hw
  have e1 : IntKind.u8.min = 0 := rfl
  have e2 : IntKind.u8.max = 255 := rfl
  rw [e1, e2] at hw
  refine ⟨UInt8.ofNat x.toNat, ?_⟩
  show Value.int .u8 x = .int .u8 _
  congr 1
  rw [UInt8.toNat_ofNat']
  omega
end Go.Sx
/- Slices of calls. -/
namespace Go.Sx
open Go Go.Proofs Go.ChangeShapes Go.WideShapes Go.ChangeAt Go.RowKit
section
variable {H : Type} {enc : TypeId × Value → H} {P : Program} {W : World} {r : Reach} {b0 b : Nat} {sp : Nat → Bool} {hd : Bool} {v : Value} {d : DataW H} {p : List MemPlace}
/-- One cell that is a slice of numbers. -/
theorem sl_trodI {t e fuel : Nat} {x : DataW H × List MemPlace} (ht : P.underlying t = some (.slice e)) (he : P.underlying e = some (.int .i64)) (hce : P.cellsOf e = 1) (hf : DataW.trod enc P W b sp hd fuel t [v] = some x) :
    ∃ l : List Int, Rd W v (ints l) ∧ l.length ≤ 9223372036854775807 := by
  rcases DataW.trod_slice ht hf with ⟨h0, -⟩ | ⟨a', n, c, elems, rest, m, -, hcs, -, hb, hlc, hm, hlen, hel, -, -⟩
  · cases h0
    exact ⟨[], ⟨_, _, rfl, Nat.le_refl _, .inl rfl⟩, by simp⟩
  · cases hcs
    have hnm : n ≤ 9223372036854775807 := by simp only [maxLen] at hm; omega
    have key : ∀ q, q < n → ∃ z, W.cell? (a'.add q) = some (.int .i64 z) := fun q hq => by
      have h1 := hel q hq
      rw [hce, Nat.mul_one, List.getElem?_eq_getElem (by omega)] at h1
      cases hcs : W.cells? b (a'.add q) 1 with
      | none => rw [hcs] at h1; cases h1
      | some cs =>
        rw [hcs] at h1
        simp only [Option.bind_some] at h1
        obtain ⟨z, e1, -, -⟩ := DataW.trod_int he h1
        have h3 := (World.cells?_some hcs).2.2 0 (by decide)
        refine ⟨z, ?_⟩
        rw [show (a'.add q).add 0 = a'.add q by simp [Addr.add]] at h3
        rw [h3, e1]; rfl
    by_cases hn0 : n = 0
    · subst hn0
      exact ⟨[], ⟨_, _, rfl, Nat.zero_le _, .inl rfl⟩, by simp⟩
    · obtain ⟨z0, hz0⟩ := key 0 (by omega)
      rw [show a'.add 0 = a' by simp [Addr.add]] at hz0
      obtain ⟨ha, hblk⟩ := spot_none hz0
      have hadd : ∀ q, a'.add q = ⟨a'.block, a'.off + q, none⟩ := fun q => by rw [ha, add_lit]
      have hk : ∀ q, q < n → W.cell? ⟨a'.block, a'.off + q, none⟩ = some (zv (cellInt W ⟨a'.block, a'.off + q, none⟩)) := fun q hq => by
        obtain ⟨z, hz⟩ := key q hq
        rw [hadd] at hz
        have : cellInt W ⟨a'.block, a'.off + q, none⟩ = z := by unfold cellInt; rw [hz]
        rw [this]
        exact hz
      refine ⟨(List.range n).map fun q => cellInt W ⟨a'.block, a'.off + q, none⟩, ⟨some a', c, by rw [ints_len]; simp, by rw [ints_len]; simpa using hlc, .inr ⟨a'.block, a'.off, congrArg some ha, hblk, fun i u hu => ?_⟩⟩, by simpa using hnm⟩
      rw [ints_rowK] at hu
      have hi : i < n := by
        have := (List.getElem?_eq_some_iff.1 hu).1
        rwa [row_len] at this
      rw [row_get _ hi] at hu
      cases hu
      exact hk i hi
end
section
variable {H : Type} {enc : TypeId × Value → H} {W : World} {r : Reach} {b0 b : Nat} {sp : Nat → Bool} {hd : Bool} {v : Value} {d : DataW H} {p : List MemPlace}
set_option maxRecDepth 100000 in
/-- A slice of calls. -/
theorem open_ops (hv : Value.okWide Tryz.prog W r b0 60 v) (h : DataW.Trod enc Tryz.prog W b sp hd 60 v d p) :
    ∃ (l : List OpV) (a : Option Addr) (c : Nat), v = .slice a l.length c ∧ RdOps W a c l ∧ l.length ≤ 9223372036854775807 := by
  obtain ⟨fuel, hf⟩ := h
  obtain ⟨a, n, c, rfl⟩ := okWide_slice Tryz.underlying60 hv
  have hcells : (Value.slice a n c).cells.toList = [Value.slice a n c] := rfl
  rw [hcells] at hf
  have hce : Tryz.prog.cellsOf 62 = 4 := by kernel_rfl
  have hci : Tryz.prog.cellsOf 3 = 1 := by kernel_rfl
  have hcn : Tryz.prog.cellsOf 56 = 1 := by kernel_rfl
  have hcs : Tryz.prog.cellsOf 22 = 1 := by kernel_rfl
  have hcg : Tryz.prog.cellsOf 9 = 1 := by kernel_rfl
  rcases DataW.trod_slice Tryz.underlying60 hf with ⟨h0, -⟩ | ⟨a', len, cap, elems, rest, m, -, hcs', -, hb, hlc, hm, hlen, hel, -, -⟩
  · cases h0
    exact ⟨[], none, 0, rfl, ⟨Nat.le_refl _, .inl rfl, (fun i hi => by cases hi), (fun i hi => by cases hi), (fun i hi => by cases hi), (fun i hi => by cases hi)⟩, by simp⟩
  · cases hcs'
    have hnm : n ≤ 9223372036854775807 := by simp only [maxLen] at hm; omega
    have key : ∀ q, q < n → ∃ o : OpV, (∀ (j : Nat) (u : Value), (opC o)[j]? = some u → W.cell? ((a'.add (q * 4)).add j) = some u) ∧ i64W o.kind ∧ i64W o.n ∧ (Rd W o.vl (strs o.l) ∧ (∀ s ∈ o.l, s.size ≤ 9223372036854775807) ∧ o.l.length ≤ 9223372036854775807) ∧ Rd W o.vk (ints o.keep) ∧ o.keep.length ≤ 9223372036854775807 := fun q hq => by
      have h1 := hel q hq
      rw [hce, List.getElem?_eq_getElem (by omega)] at h1
      cases hcl : W.cells? b (a'.add (q * 4)) 4 with
      | none => rw [hcl] at h1; cases h1
      | some cs =>
        rw [hcl] at h1
        simp only [Option.bind_some] at h1
        obtain ⟨-, h5, h6⟩ := World.cells?_some hcl
        obtain ⟨xs, k, -, -, -, hxl, hfd⟩ := DataW.trod_struct Tryz.underlying62 h1
        match cs, h5 with
        | [c0, c1, c2, c3], _ =>
          have f0 : DataW.trod enc Tryz.prog W b sp hd k 3 (([c0, c1, c2, c3].drop 0).take (Tryz.prog.cellsOf 3)) = xs[0]? := hfd 0 _ rfl
          have f1 : DataW.trod enc Tryz.prog W b sp hd k 22 (([c0, c1, c2, c3].drop 1).take (Tryz.prog.cellsOf 22)) = xs[1]? := hfd 1 _ rfl
          have f2 : DataW.trod enc Tryz.prog W b sp hd k 3 (([c0, c1, c2, c3].drop 2).take (Tryz.prog.cellsOf 3)) = xs[2]? := hfd 2 _ rfl
          have f3 : DataW.trod enc Tryz.prog W b sp hd k 56 (([c0, c1, c2, c3].drop 3).take (Tryz.prog.cellsOf 56)) = xs[3]? := hfd 3 _ rfl
          have hxl5 : xs.length = 4 := hxl
          rw [hci] at f0 f2
          rw [hcs] at f1
          rw [hcn] at f3
          simp only [List.drop_zero, List.drop_succ_cons, List.take_succ_cons, List.take_zero] at f0 f1 f2 f3
          rw [List.getElem?_eq_getElem (by omega)] at f0 f1 f2 f3
          obtain ⟨z0, e0, -, w0⟩ := DataW.trod_int Tryz.underlying3 f0
          obtain ⟨z2, e2, -, w2⟩ := DataW.trod_int Tryz.underlying3 f2
          obtain ⟨l1, hl1, hb1, hb2⟩ := sl_trodS Tryz.underlying22 Tryz.underlying9 hcg f1
          obtain ⟨l3, hl3, hb3⟩ := sl_trodI Tryz.underlying56 Tryz.underlying3 hci f3
          cases e0; cases e2
          refine ⟨⟨z0, l1, z2, l3, c1, c3⟩, fun j u hu => ?_, i64_of w0, i64_of w2, ⟨hl1, hb1, hb2⟩, hl3, hb3⟩
          have hj : j < 4 := by
            have := (List.getElem?_eq_some_iff.1 hu).1
            simpa [opC] using this
          rw [h6 j hj]
          exact hu
    by_cases hn0 : n = 0
    · subst hn0
      exact ⟨[], some a', c, rfl, ⟨Nat.zero_le _, .inl rfl, (fun i hi => by cases hi), (fun i hi => by cases hi), (fun i hi => by cases hi), (fun i hi => by cases hi)⟩, by simp⟩
    · have hch : ∃ T : Nat → OpV, ∀ q, q < n → (∀ (j : Nat) (u : Value), (opC (T q))[j]? = some u → W.cell? ((a'.add (q * 4)).add j) = some u) ∧ i64W (T q).kind ∧ i64W (T q).n ∧ (Rd W (T q).vl (strs (T q).l) ∧ (∀ s ∈ (T q).l, s.size ≤ 9223372036854775807) ∧ (T q).l.length ≤ 9223372036854775807) ∧ Rd W (T q).vk (ints (T q).keep) ∧ (T q).keep.length ≤ 9223372036854775807 := by
        refine ⟨fun q => if h : q < n then Classical.choose (key q h) else default, fun q hq => ?_⟩
        simp only [dif_pos hq]
        exact Classical.choose_spec (key q hq)
      obtain ⟨T, hk⟩ := hch
      have hz0 := (hk 0 (by omega)).1 0 _ rfl
      rw [Nat.zero_mul, show (a'.add 0).add 0 = a' by simp [Addr.add]] at hz0
      obtain ⟨ha, hblk⟩ := spot_none hz0
      have hadd : ∀ q j, (a'.add (q * 4)).add j = ⟨a'.block, a'.off + q * 4 + j, none⟩ := fun q j => by rw [ha, add_lit, add_lit]
      have hl : ((List.range n).map T).length = n := by simp
      have hT : ∀ i, i < ((List.range n).map T).length → opAt ((List.range n).map T) i = T i := fun i hi => by
        rw [hl] at hi
        simp [opAt, hi]
      refine ⟨(List.range n).map T, some a', c, by rw [hl], ⟨by rw [hl]; exact hlc, .inr ⟨a'.block, a'.off, congrArg some ha, hblk, fun i hi j u hu => ?_⟩, fun i hi => ?_, fun i hi => ?_, fun i hi => ?_, fun i hi => ?_⟩, by rw [hl]; exact hnm⟩
      · rw [hT i hi] at hu
        have := (hk i (by rwa [hl] at hi)).1 j u hu
        rwa [hadd] at this
      · rw [hT i hi]; exact (hk i (by rwa [hl] at hi)).2.1
      · rw [hT i hi]; exact (hk i (by rwa [hl] at hi)).2.2.1
      · rw [hT i hi]; exact (hk i (by rwa [hl] at hi)).2.2.2.1
      · rw [hT i hi]; exact (hk i (by rwa [hl] at hi)).2.2.2.2
end
end Go.Sx

