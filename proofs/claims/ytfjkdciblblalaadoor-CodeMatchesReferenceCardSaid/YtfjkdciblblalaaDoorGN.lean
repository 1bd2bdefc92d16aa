/- Plain: changed fragments are noticed; slices of small arrays. -/
import Derived.Test.YtfjkdciblblalaaDoorM3
import Derived.Test.YtfjkdciblblalaaDoorGE
namespace Go.Sx
open Go
theorem cnt_upd_false (f : Nat → Bool) (w : Nat) : ∀ n, cnt n f ≤ cnt n (upd f w false) + 1
  | 0 => by simp [cnt]
  | n + 1 => by
    rw [cnt_succ, cnt_succ]
    by_cases e : w = n
    · subst e
      have h1 : cnt w (upd f w false) = cnt w f := cnt_congr fun j hj => by
        have : ¬ j = w := by omega
        simp [upd, this]
      rw [h1]
      split <;> omega
    · have h1 := cnt_upd_false f w n
      have : upd f w false n = f n := by
        have : ¬ n = w := fun e' => e e'.symm
        simp [upd, this]
      rw [this]
      omega
theorem cnt_full {f : Nat → Bool} {n q : Nat} (h : n ≤ cnt n f) (hq : q < n) : f q = true := by
  cases hb : f q with
  | true => rfl
  | false =>
    have h1 := cnt_upd hb n hq
    have h2 := cnt_le n (upd f q true)
    omega
/-- Fragments of which k are those of a string, and one is not, do not belong together. -/
theorem noticed {G : List ByteArray} {th : List Bool} {S : ByteArray} {k n : Nat} (hl : G.length = n) (f : Nat → Bool) (hf : ∀ q, q < n → f q = true → tf th q = true ∧ fr G q = codeA S k q) (hk : k ≤ cnt n f) {w : Nat} (hw : w < n) (htw : tf th w = true)
    (hne : fr G w ≠ codeA S k w) : ¬ CompOK G th k := fun hc =>
  hne (comp_same hc ((List.range n).filter f) hk (List.nodup_range.sublist List.filter_sublist) (fun a ha => by
    rw [List.mem_filter, List.mem_range] at ha
    exact ⟨by omega, hf a ha.1 ha.2⟩) (by omega) htw)
theorem strs_set (l : List ByteArray) (i : Nat) (x : ByteArray) : (strs l).set i (.string x) = strs (l.set i x) := by simp [strs, List.map_set]
theorem fr_set {l : List ByteArray} {i q : Nat} {x : ByteArray} (h : i < l.length) : fr (l.set i x) q = if q = i then x else fr l q := by
  unfold fr
  rw [List.getD_eq_getElem?_getD, List.getD_eq_getElem?_getD, List.getElem?_set]
  by_cases e : i = q
  · subst e; simp [h]
  · have : ¬ q = i := fun e' => e e'.symm
    simp [e, this]
/-- A slice of arrays of k numbers. -/
def RdK (k : Nat) (w : World) (v : Value) (n : Nat) (x : Nat → Nat → Int) : Prop :=
  ∃ a c, v = .slice a n c ∧ n ≤ c ∧ (n = 0 ∨ ∃ b off, a = some ⟨b, off, none⟩ ∧ b < w.heap.size ∧ ∀ i j, i < n → j < k → w.cell? ⟨b, off + i * k + j, none⟩ = some (.int .i64 (x i j)))
theorem RdK.ext {k : Nat} {w w' : World} {v : Value} {n : Nat} {x : Nat → Nat → Int} (h : RdK k w v n x) (hx : Ext w w') : RdK k w' v n x := by
  obtain ⟨a, c, h1, h2, h3⟩ := h
  refine ⟨a, c, h1, h2, ?_⟩
  rcases h3 with h3 | ⟨b, off, h3, h4, h5⟩
  · exact .inl h3
  · exact .inr ⟨b, off, h3, Nat.lt_of_lt_of_le h4 hx.size, fun i j hi hj => cell_ext hx (h5 i j hi hj)⟩
theorem least_of {p : Nat → Bool} : ∀ m, p m = true → ∃ d, p d = true ∧ ∀ t, t < d → p t = false := by
  intro m
  induction m using Nat.strongRecOn with
  | _ m ih =>
    intro h
    by_cases hx : ∃ t, t < m ∧ p t = true
    · obtain ⟨t, ht, hp⟩ := hx
      exact ih t ht hp
    · refine ⟨m, h, fun t ht => ?_⟩
      cases hp : p t with
      | false => rfl
      | true => exact absurd ⟨t, ht, hp⟩ hx
/-- The first step from w on at which something is there. -/
theorem first_there {f : Nat → Bool} {n w q : Nat} (hw : w < n) (hq : q < n) (hf : f q = true) : ∃ d, f ((w + d) % n) = true ∧ ∀ t, t < d → f ((w + t) % n) = false := by
  have hex : ∃ d, f ((w + d) % n) = true := by
    by_cases h : w ≤ q
    · exact ⟨q - w, by rw [show w + (q - w) = q by omega, Nat.mod_eq_of_lt hq]; exact hf⟩
    · exact ⟨n + q - w, by rw [show w + (n + q - w) = q + n by omega, Nat.add_mod_right, Nat.mod_eq_of_lt hq]; exact hf⟩
  obtain ⟨m, hm⟩ := hex
  exact least_of (p := fun d => f ((w + d) % n)) m hm
end Go.Sx

