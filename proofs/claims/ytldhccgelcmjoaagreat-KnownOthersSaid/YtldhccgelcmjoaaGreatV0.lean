/- Chapter 21: slices of arrays of numbers; fields of records that are set. Plain. -/
import Derived.Test.YtldhccgelcmjoaaGreatXO
namespace Go.Sx
open Go
/-- A slice of arrays of numbers. -/
def RdA (sz : Nat) (w : World) (v : Value) (rows : List (List Int)) : Prop :=
  ∃ (a : Option Addr) (c : Nat), v = .slice a rows.length c ∧ rows.length ≤ c ∧ (rows = [] ∨ ∃ b off, a = some ⟨b, off, none⟩ ∧ b < w.heap.size ∧ ∀ i rw j u, (rows.map ints)[i]? = some rw → rw[j]? = some u → w.cell? ⟨b, off + i * sz + j, none⟩ = some u)
theorem RdA.ext {sz : Nat} {w w' : World} {v : Value} {rows : List (List Int)} (h : RdA sz w v rows) (k : Ext w w') : RdA sz w' v rows := by
  obtain ⟨a, c, h1, h2, h3⟩ := h
  refine ⟨a, c, h1, h2, ?_⟩
  rcases h3 with h3 | ⟨b, off, h3, h5, h6⟩
  · exact .inl h3
  · exact .inr ⟨b, off, h3, Nat.lt_of_lt_of_le h5 k.size, fun i row j u hi hu => cell_ext k (h6 i row j u hi hu)⟩
theorem RdA.shape {sz : Nat} {w : World} {v : Value} {rows : List (List Int)} (h : RdA sz w v rows) : ∃ a c, v = .slice a rows.length c ∧ rows.length ≤ c := by
  obtain ⟨a, c, h1, h2, -⟩ := h
  exact ⟨a, c, h1, h2⟩
theorem RdA.at {sz : Nat} {w : World} {a : Option Addr} {n c : Nat} {rows : List (List Int)} (h : RdA sz w (.slice a n c) rows) (hne : rows ≠ []) :
    ∃ b off, a = some ⟨b, off, none⟩ ∧ b < w.heap.size ∧ ∀ i y, rows[i]? = some y → ∀ j u, (ints y)[j]? = some u → w.cell? ⟨b, off + i * sz + j, none⟩ = some u := by
  obtain ⟨a', c', h1, h2, h3⟩ := h
  cases h1
  rcases h3 with h3 | ⟨b, off, h4, h5, h6⟩
  · exact absurd h3 hne
  · exact ⟨b, off, h4, h5, fun i y hy j u hu => h6 i (ints y) j u (by rw [List.getElem?_map, hy]; rfl) hu⟩
/-- A record with another value of a field. -/
def Rc.setF (r : Rc) (i : Nat) (n : Int) : Rc :=
  match i with
  | 0 => { r with id := n }
  | 1 => { r with start := n }
  | 2 => { r with stop := n }
  | 3 => { r with pack := n }
  | 4 => { r with person := n }
  | 5 => { r with role := n }
  | 6 => { r with purpose := n }
  | 7 => { r with clause := n }
  | 8 => { r with adm := decide (n = 1) }
  | 9 => { r with party := n }
  | _ => r
theorem setF_get (r : Rc) {i j : Nat} (hi : i < 10) (hj : j < 10) (n : Int) (h8 : i = 8 → n = 0 ∨ n = 1) : (r.setF i n).get j = if i = j then n else r.get j := by
  rcases ten hi with rfl | rfl | rfl | rfl | rfl | rfl | rfl | rfl | rfl | rfl <;> rcases ten hj with rfl | rfl | rfl | rfl | rfl | rfl | rfl | rfl | rfl | rfl <;> first | rfl | (rcases h8 rfl with rfl | rfl <;> rfl)
theorem setF_same (r : Rc) (i : Nat) (n : Int) : (r.setF i n).kind = r.kind ∧ (r.setF i n).version = r.version ∧ (r.setF i n).day = r.day ∧ (r.setF i n).gone = r.gone ∧ (r.setF i n).text = r.text := by
  unfold Rc.setF
  split <;> exact ⟨rfl, rfl, rfl, rfl, rfl⟩
/-- A record of which some fields are set. -/
structure SomeI (L : List (Nat × Int × Int)) (r : Rc) : Prop where
  kind : 1 ≤ r.kind ∧ r.kind ≤ 8
  ver : 1 ≤ r.version ∧ r.version ≤ 3
  day : 0 ≤ r.day ∧ r.day ≤ 29
  text : r.text = ByteArray.mk #[]
  lim : ∀ p ∈ L, p.2.1 ≤ r.get p.1 ∧ r.get p.1 ≤ p.2.2
  zero : ∀ i, i < 10 → i ∉ L.map Prod.fst → r.get i = 0
  start : 0 ≤ r.start ∧ r.start ≤ 39
  span : 2 ∈ L.map Prod.fst → r.start ≤ r.stop
theorem SomeI.step {L : List (Nat × Int × Int)} {r : Rc} (h : SomeI L r) {p : Nat × Int × Int} (hp : p.1 < 10) (hno : p.1 ∉ L.map Prod.fst) {n : Int} (hn : p.2.1 ≤ n ∧ n ≤ p.2.2) (h8 : p.1 = 8 → n = 0 ∨ n = 1) (h1 : p.1 = 1 → (0 ≤ n ∧ n ≤ 39) ∧ 2 ∉ L.map Prod.fst) (h2 : p.1 = 2 → r.start ≤ n)
    (hl10 : ∀ q ∈ L, q.1 < 10) : SomeI (L ++ [p]) (r.setF p.1 n) := by
  obtain ⟨e1, e2, e3, e4, e5⟩ := setF_same r p.1 n
  have hg : ∀ j, j < 10 → (r.setF p.1 n).get j = if p.1 = j then n else r.get j := fun j hj => setF_get r hp hj n h8
  have hst : (r.setF p.1 n).start = if p.1 = 1 then n else r.start := hg 1 (by decide)
  have hsp : (r.setF p.1 n).stop = if p.1 = 2 then n else r.stop := hg 2 (by decide)
  refine ⟨by rw [e1]; exact h.kind, by rw [e2]; exact h.ver, by rw [e3]; exact h.day, by rw [e5]; exact h.text, fun q hq => ?_, fun i hi hm => ?_, ?_, fun hm => ?_⟩
  · rcases List.mem_append.1 hq with hq | hq
    · rw [hg q.1 (hl10 q hq), if_neg (fun e : p.1 = q.1 => hno (List.mem_map.2 ⟨q, hq, e.symm⟩))]
      exact h.lim q hq
    · obtain rfl := List.mem_singleton.1 hq
      rw [hg q.1 hp, if_pos rfl]; exact hn
  · rw [List.map_append, List.mem_append, not_or] at hm
    rw [hg i hi, if_neg (fun e => hm.2 (by simp [e]))]
    exact h.zero i hi hm.1
  · rw [hst]
    split
    · rename_i e; exact (h1 e).1
    · exact h.start
  · rw [hst, hsp]
    rw [List.map_append, List.mem_append] at hm
    by_cases e2' : p.1 = 2
    · have e1' : p.1 ≠ 1 := by omega
      rw [if_neg e1', if_pos e2']; exact h2 e2'
    · have hm2 : 2 ∈ L.map Prod.fst := hm.resolve_right fun hx => e2' ((List.mem_singleton.1 hx).symm)
      by_cases e1' : p.1 = 1
      · exact absurd hm2 (h1 e1').2
      · rw [if_neg e1', if_neg e2']; exact h.span hm2
/-- What Some makes. -/
structure SomeOk (r : Rc) : Prop where
  valid : ValidR r
  ver : r.version ≤ 3
  day : r.day ≤ 29
  text : r.text = ByteArray.mk #[]
theorem spec_two {k : Int} (h : 1 ≤ k ∧ k ≤ 8) (h6 : k ≠ 6) (h8 : k ≠ 8) : 2 ∈ (specF k).map Prod.fst := by
  rcases (show k = 1 ∨ k = 2 ∨ k = 3 ∨ k = 4 ∨ k = 5 ∨ k = 7 by omega) with rfl | rfl | rfl | rfl | rfl | rfl <;> decide
theorem SomeI.done {r : Rc} (h : SomeI (specF r.kind) r) (hc : r.kind = 2 → r.clause ≠ r.party) : SomeOk r :=
  ⟨⟨h.kind, ⟨h.ver.1, by have := h.ver.2; omega⟩, ⟨h.day.1, by have := h.day.2; omega⟩, by rw [h.text]; decide, ⟨fun h6 h8 => h.span (spec_two h.kind h6 h8), hc⟩, h.lim, h.zero⟩, h.ver.2, h.day.2, h.text⟩
theorem SomeI.done2 {r : Rc} (h : SomeI (specF r.kind) r) (hk : r.kind = 2) : SomeOk (r.setF 9 0) := by
  have hsp : specF r.kind = [(7, 1, 1000000), (1, 0, 100000), (2, 0, 100000), (3, 0, 1000000), (5, 0, 1000000), (6, 0, 1000000), (8, 0, 1), (9, 0, 1000000)] := by rw [hk]; rfl
  have hg : ∀ j, j < 10 → (r.setF 9 0).get j = if 9 = j then 0 else r.get j := fun j hj => setF_get r (by decide) hj 0 (by omega)
  have hcl := h.lim (7, 1, 1000000) (by rw [hsp]; decide)
  have h' : SomeI (specF (r.setF 9 0).kind) (r.setF 9 0) := by
    refine ⟨h.kind, h.ver, h.day, h.text, fun p hp => ?_, fun i hi hm => ?_, h.start, h.span⟩
    · have hp' : p ∈ specF r.kind := hp
      have hl := h.lim p hp'
      rw [hg p.1 (spec_lo hp').2]
      split
      · rename_i e
        rw [hsp] at hp'
        simp only [List.mem_cons, List.not_mem_nil, or_false] at hp'
        rcases hp' with rfl | rfl | rfl | rfl | rfl | rfl | rfl | rfl <;> first | exact absurd e (by decide) | exact ⟨Int.le_refl _, of_decide_eq_true rfl⟩
      · exact hl
    · rw [hg i hi]
      split
      · rfl
      · exact h.zero i hi hm
  refine h'.done fun _ => ?_
  show r.clause ≠ 0
  have : 1 ≤ r.clause := hcl.1
  omega
end Go.Sx

