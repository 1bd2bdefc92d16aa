/- Rows: cases of chapter 17's laws; slices of arrays of numbers. -/
import Derived.Test.YtfjkdciblblalaaDoorPB
import Derived.Test.YtfjkdciblblalaaDoorPC
import Derived.Test.YtfjkdciblblalaaDoorGN
import Derived.Lib.SmallJoins
namespace Go.Sx
open Go Go.Proofs Go.ChangeShapes Go.WideShapes Go.ChangeAt Go.RowKit
set_option maxRecDepth 100000 in
theorem open_case {H : Type} {enc : TypeId × Value → H} {W : World} {r : Reach} {b0 b : Nat} {sp : Nat → Bool} {hd : Bool} {v : Value} {d : DataW H} {p : List MemPlace} (hv : Value.okWide Tryd.prog W r b0 23 v) (h : DataW.Trod enc Tryd.prog W b sp hd 23 v d p) :
    ∃ (s : ByteArray) (K N T : Int), v = .agg #[.string s, .int .i64 K, .int .i64 N, .int .i64 T] ∧ (Lit.int .i64 K).wf = true ∧ (Lit.int .i64 N).wf = true ∧ (Lit.int .i64 T).wf = true := by
  obtain ⟨v0, v1, v2, v3, y0, y1, y2, y3, n, rfl, -, -, h0, h1, h2, h3⟩ := Joins.open_agg4 Tryd.underlying23 (by kernel_rfl) (by kernel_rfl) hv h
  obtain ⟨s, e0, -, -⟩ := DataW.trod_string Tryd.underlying9 h0
  obtain ⟨K, e1, -, w1⟩ := DataW.trod_int Tryd.underlying3 h1
  obtain ⟨N, e2, -, w2⟩ := DataW.trod_int Tryd.underlying3 h2
  obtain ⟨T, e3, -, w3⟩ := DataW.trod_int Tryd.underlying3 h3
  cases e0; cases e1; cases e2; cases e3
  exact ⟨s, K, N, T, rfl, w1, w2, w3⟩
theorem str_len {s : ByteArray} (h : s.size ≤ maxLen) : s.size ≤ 9223372036854775807 := by simp only [maxLen] at h; omega
section
variable {H : Type} {enc : TypeId × Value → H} {P : Program} {W : World} {r : Reach} {b0 b : Nat} {sp : Nat → Bool} {hd : Bool} {v : Value} {d : DataW H} {p : List MemPlace}
theorem spot_none {W : World} {a : Addr} {v : Value} (h : W.cell? a = some v) : a = ⟨a.block, a.off, none⟩ ∧ a.block < W.heap.size := by
  unfold World.cell? at h
  split at h
  · rename_i c e f hc
    split at h
    · cases h
    · rename_i hs
      refine ⟨?_, (Array.getElem?_eq_some_iff.1 hc).1⟩
      cases a with
      | mk b o s => cases s <;> simp_all
  · cases h
def cellInt (W : World) (a : Addr) : Int := match W.cell? a with | some (.int _ z) => z | _ => 0
theorem open_arrs {t e i k : Nat} (hk0 : 0 < k) (ht : P.underlying t = some (.slice e)) (he : P.underlying e = some (.array k i)) (hi : P.underlying i = some (.int .i64)) (hce : P.cellsOf e = k) (hci : P.cellsOf i = 1) (hv : Value.okWide P W r b0 t v) (h : DataW.Trod enc P W b sp hd t v d p) :
    ∃ n x, RdK k W v n x ∧ (∀ i j, (Lit.int .i64 (x i j)).wf = true) ∧ n ≤ 9223372036854775807 := by
  obtain ⟨fuel, hf⟩ := h
  obtain ⟨a, n, c, rfl⟩ := okWide_slice ht hv
  have hcells : (Value.slice a n c).cells.toList = [Value.slice a n c] := rfl
  rw [hcells] at hf
  rcases DataW.trod_slice ht hf with ⟨h0, -⟩ | ⟨a', len, cap, elems, rest, m, -, hcs, -, hb, hlc, hm, hlen, hel, -, -⟩
  · cases h0
    exact ⟨0, fun _ _ => 0, ⟨_, _, rfl, Nat.le_refl _, .inl rfl⟩, fun _ _ => (by decide : (Lit.int .i64 0).wf = true), by omega⟩
  · cases hcs
    have hnm : n ≤ 9223372036854775807 := by simp only [maxLen] at hm; omega
    have key : ∀ q j, q < n → j < k → ∃ z, W.cell? ((a'.add (q * k)).add j) = some (.int .i64 z) ∧ (Lit.int .i64 z).wf = true := fun q j hq hj => by
      have h1 := hel q hq
      rw [hce, List.getElem?_eq_getElem (by omega)] at h1
      cases hcs : W.cells? b (a'.add (q * k)) k with
      | none => rw [hcs] at h1; cases h1
      | some cs =>
        rw [hcs] at h1
        simp only [Option.bind_some] at h1
        obtain ⟨xs, m', -, -, hcl, hxl, hx⟩ := DataW.trod_array he h1
        have h2 := hx j hj
        rw [hci, Nat.mul_one, List.getElem?_eq_getElem (by omega)] at h2
        obtain ⟨z, e1, -, wz⟩ := DataW.trod_int hi h2
        have h3 := (World.cells?_some hcs).2.2 j hj
        refine ⟨z, ?_, wz⟩
        rw [h3]
        have h0 : ((cs.drop j).take 1)[0]? = some (.int .i64 z) := by rw [e1]; rfl
        simpa using h0
    by_cases hn0 : n = 0
    · exact ⟨n, fun _ _ => 0, ⟨_, _, rfl, hlc, .inl hn0⟩, fun _ _ => (by decide : (Lit.int .i64 0).wf = true), hnm⟩
    · have hn1 : 0 < n := by omega
      obtain ⟨z0, hz0, -⟩ := key 0 0 hn1 hk0
      rw [Nat.zero_mul, show (a'.add 0).add 0 = a' by simp [Addr.add]] at hz0
      obtain ⟨ha, hblk⟩ := spot_none hz0
      have hadd : ∀ q j, (a'.add (q * k)).add j = ⟨a'.block, a'.off + q * k + j, none⟩ := fun q j => by rw [ha, add_lit, add_lit]
      refine ⟨n, fun i j => if i < n ∧ j < k then cellInt W ⟨a'.block, a'.off + i * k + j, none⟩ else 0, ⟨_, _, rfl, hlc, .inr ⟨a'.block, a'.off, congrArg some ha, hblk, fun i j h1 h2 => ?_⟩⟩, fun i j => ?_, hnm⟩
      · obtain ⟨z, hz, -⟩ := key i j h1 h2
        rw [hadd] at hz
        rw [hz]
        simp [cellInt, hz, h1, h2]
      · by_cases h : i < n ∧ j < k
        · obtain ⟨z, hz, wz⟩ := key i j h.1 h.2
          rw [hadd] at hz
          simp [cellInt, hz, wz, h]
        · simp only [h, if_false]
          exact (by decide : (Lit.int .i64 0).wf = true)
end
end Go.Sx

