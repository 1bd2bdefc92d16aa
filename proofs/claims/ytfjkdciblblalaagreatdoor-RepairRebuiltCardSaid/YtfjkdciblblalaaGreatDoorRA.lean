/- Plain: repairs: transfers; lists of numbers. No program in sight. -/
import Derived.Test.YtfjkdciblblalaaGreatDoorHB
namespace Go.Sx
open Go
def pickI (c n : Int) : Int := if c < 0 then (-(c + 1)) % n else c % n
theorem pickI_lt (c : Int) {n : Int} (hn : 0 < n) : 0 ≤ pickI c n ∧ pickI c n < n := by
  unfold pickI
  split
  · exact ⟨Int.emod_nonneg _ (by omega), Int.emod_lt_of_pos _ hn⟩
  · exact ⟨Int.emod_nonneg _ (by omega), Int.emod_lt_of_pos _ hn⟩
structure Tr where
  frag : Int
  tos : Int
  src : List Int
  start : Int
  stop : Int
  deriving DecidableEq
def trz : Tr := ⟨0, 0, [], 0, 0⟩
def tr (l : List Tr) (i : Nat) : Tr := l.getD i trz
theorem tr_mem {l : List Tr} {i : Nat} (h : i < l.length) : tr l i ∈ l := by
  unfold tr; rw [List.getD_eq_getElem?_getD, List.getElem?_eq_getElem h]; exact List.getElem_mem h
theorem tr_take {l : List Tr} {i : Nat} (h : i < l.length) : l.take (i + 1) = l.take i ++ [tr l i] := by
  rw [List.take_succ_eq_append_getElem h]; simp [tr, h]
def i64B (x : Int) : Prop := -9223372036854775808 ≤ x ∧ x ≤ 9223372036854775807
def Tr.ok (t : Tr) : Prop := i64B t.frag ∧ i64B t.tos ∧ (∀ x ∈ t.src, i64B x) ∧ i64B t.start ∧ i64B t.stop
/-- The cells of a transfer; h: where the list of its sources lies. -/
def tcell (t : Tr) (h : Value) : List Value := [zv t.frag, zv t.tos, h, zv t.start, zv t.stop]
/-- A slice that reads as transfers. -/
def RdT (w : World) (v : Value) (l : List Tr) : Prop :=
  ∃ (a : Option Addr) (c : Nat) (h : Nat → Value), v = .slice a l.length c ∧ l.length ≤ c ∧ (l = [] ∨ ∃ b off, a = some ⟨b, off, none⟩ ∧ b < w.heap.size ∧ ∀ i j u, i < l.length → (tcell (tr l i) (h i))[j]? = some u → w.cell? ⟨b, off + i * 5 + j, none⟩ = some u) ∧
    ∀ i, i < l.length → Rd w (h i) (ints (tr l i).src)
theorem RdT.ext {w w' : World} {v : Value} {l : List Tr} (h : RdT w v l) (k : Ext w w') : RdT w' v l := by
  obtain ⟨a, c, f, h1, h2, h3, h4⟩ := h
  refine ⟨a, c, f, h1, h2, ?_, fun i hi => (h4 i hi).ext k⟩
  rcases h3 with h3 | ⟨b, off, h3, h5, h6⟩
  · exact .inl h3
  · exact .inr ⟨b, off, h3, Nat.lt_of_lt_of_le h5 k.size, fun i j u hi hu => cell_ext k (h6 i j u hi hu)⟩
theorem RdT.shape {w : World} {v : Value} {l : List Tr} (h : RdT w v l) : ∃ a c, v = .slice a l.length c := by
  obtain ⟨a, c, f, h1, -⟩ := h
  exact ⟨a, c, h1⟩
/-- Element i: where it lies, what its cells hold. -/
theorem RdT.el {w : World} {a : Option Addr} {n c : Nat} {l : List Tr} (h : RdT w (.slice a n c) l) {i : Nat} (hi : i < l.length) :
    ∃ b off h, a = some ⟨b, off, none⟩ ∧ (∀ j u, (tcell (tr l i) h)[j]? = some u → w.cell? ⟨b, off + i * 5 + j, none⟩ = some u) ∧ Rd w h (ints (tr l i).src) := by
  obtain ⟨a', c', f, h1, h2, h3, h4⟩ := h
  cases h1
  rcases h3 with h3 | ⟨b, off, h3, h5, h6⟩
  · subst h3; cases hi
  · exact ⟨b, off, f i, h3, fun j u hu => h6 i j u hi hu, h4 i hi⟩
/-- Where all elements lie. -/
theorem RdT.at {w : World} {a : Option Addr} {n c : Nat} {l : List Tr} (h : RdT w (.slice a n c) l) (hne : l ≠ []) :
    ∃ b off, a = some ⟨b, off, none⟩ ∧ ∀ i, i < l.length → ∃ h, (∀ j u, (tcell (tr l i) h)[j]? = some u → w.cell? ⟨b, off + i * 5 + j, none⟩ = some u) ∧ Rd w h (ints (tr l i).src) := by
  obtain ⟨a', c', f, h1, h2, h3, h4⟩ := h
  cases h1
  rcases h3 with h3 | ⟨b, off, h3, h5, h6⟩
  · exact absurd h3 hne
  · exact ⟨b, off, h3, fun i hi => ⟨f i, fun j u hu => h6 i j u hi hu, h4 i hi⟩⟩
/-- The greatest end. -/
def lastD (l : List Tr) : Int := l.foldl (fun n t => max n t.stop) 0
theorem foldl_take {α β : Type} (f : β → α → β) (b : β) (l : List α) {i : Nat} (h : i < l.length) : (l.take (i + 1)).foldl f b = f ((l.take i).foldl f b) l[i] := by
  rw [List.take_succ_eq_append_getElem h, List.foldl_append]; rfl
/-- Numbers are custodians, all different. -/
def custs (l : List Int) : Prop := l.Nodup ∧ ∀ c ∈ l, 0 ≤ c ∧ c ≤ 8
instance (l : List Int) : Decidable (custs l) := by unfold custs; infer_instance
theorem custs_snoc (l : List Int) (x : Int) : custs (l ++ [x]) ↔ custs l ∧ (0 ≤ x ∧ x ≤ 8) ∧ x ∉ l := by
  unfold custs
  rw [List.nodup_append]
  constructor
  · rintro ⟨⟨h1, -, h2⟩, h3⟩
    refine ⟨⟨h1, fun c hc => h3 c (by simp [hc])⟩, h3 x (by simp), fun hx => ?_⟩
    exact h2 x hx x (by simp) rfl
  · rintro ⟨⟨h1, h2⟩, h3, h4⟩
    refine ⟨⟨h1, by simp, fun a ha b hb e => ?_⟩, fun c hc => ?_⟩
    · rw [List.mem_singleton] at hb
      subst hb; subst e; exact h4 ha
    · rcases List.mem_append.1 hc with hc | hc
      · exact h2 c hc
      · rw [List.mem_singleton] at hc; subst hc; exact h3
theorem custs_take {l : List Int} (h : custs l) (i : Nat) : custs (l.take i) := ⟨h.1.sublist (List.take_sublist _ _), fun c hc => h.2 c (List.mem_of_mem_take hc)⟩
/-- Who has a fragment on a day, in ascending order. -/
def hasP (surv : List Int) (l : List Tr) (day : Int) (c : Nat) : Bool := decide ((c : Int) ∈ surv) || l.any fun t => decide (t.tos = c ∧ t.stop ≤ day)
def hasR (surv : List Int) (l : List Tr) (day : Int) : List Int := ((List.range 9).filter (hasP surv l day)).map Int.ofNat
/-- Who holds what is not lost. -/
def survS (holders lost : List Int) : List Int := ((List.range holders.length).filter fun i : Nat => decide ((i : Int) ∉ lost)).map (at' holders)
/-- Ascending numbers of fragments. -/
def ascTo (n : Int) (lost : List Int) (i : Nat) : Prop := ∀ j, j < i → (0 ≤ at' lost j ∧ at' lost j ≤ n - 1) ∧ (0 < j → at' lost (j - 1) < at' lost j)
structure Right (holders lost : List Int) (width k deadline : Int) : Prop where
  cu : custs holders
  pos : 0 < holders.length
  n9 : holders.length ≤ 9
  w : 1 ≤ width ∧ width ≤ 9
  k : 1 ≤ k ∧ k ≤ holders.length
  d : 0 ≤ deadline ∧ deadline ≤ 1000
  asc : ascTo holders.length lost lost.length
end Go.Sx

