/- Chapter 18, plain: sites, bounds, placements; slices of structs. -/
import Derived.Test.YtnpnoobknolahaaT2
import Derived.Test.YtnpnoobknolahaaR2
namespace Go.Sx
open Go Go.RowKit
structure St where
  p : Int
  r : Int
  v : Int
  l : Int
deriving DecidableEq, Inhabited
def St.at (s : St) : Nat → Int
  | 0 => s.p
  | 1 => s.r
  | 2 => s.v
  | _ => s.l
def sc (s : St) : List Value := [zv s.p, zv s.r, zv s.v, zv s.l]
def stAt (S : List St) (i : Nat) : St := S.getD i ⟨0, 0, 0, 0⟩
def gS (S : List St) (i q : Nat) : Int := (stAt S i).at q
theorem stAt_mem {S : List St} {i : Nat} (h : i < S.length) : stAt S i ∈ S := by
  unfold stAt; rw [List.getD_eq_getElem?_getD, List.getElem?_eq_getElem h]; exact List.getElem_mem h
theorem mem_stAt {S : List St} {s : St} (h : s ∈ S) : ∃ i, i < S.length ∧ stAt S i = s := by
  obtain ⟨i, hi, rfl⟩ := List.getElem_of_mem h
  exact ⟨i, hi, by unfold stAt; simp [hi]⟩
/-- A bound: four numbers of groups, and how many lie. -/
structure Di where
  b : St
  liars : Int
deriving DecidableEq, Inhabited
def Di.cells (d : Di) : List Value := [zv d.b.p, zv d.b.r, zv d.b.v, zv d.b.l, zv d.liars]
def Di.left (d : Di) : Nat → Nat := fun q => (d.b.at q).toNat
def Di.m (d : Di) : Nat := d.liars.toNat
def St.within (s : St) (hi : Int) : Bool := decide ((0 ≤ s.p ∧ s.p ≤ hi) ∧ (0 ≤ s.r ∧ s.r ≤ hi) ∧ (0 ≤ s.v ∧ s.v ≤ hi) ∧ (0 ≤ s.l ∧ s.l ≤ hi))
theorem St.within_at {s : St} {hi : Int} (h : s.within hi = true) (q : Nat) : 0 ≤ s.at q ∧ s.at q ≤ hi := by
  unfold St.within at h
  rw [decide_eq_true_eq] at h
  obtain ⟨h0, h1, h2, h3⟩ := h
  match q with
  | 0 => exact h0
  | 1 => exact h1
  | 2 => exact h2
  | _ + 3 => exact h3
def pvalid (S : List St) (d : Di) : Bool := decide (1 ≤ S.length ∧ S.length ≤ 9) && S.all (fun s => s.within 5) && d.b.within 3 && decide (0 ≤ d.liars ∧ d.liars ≤ 4)
structure PValid (S : List St) (d : Di) : Prop where
  n1 : 1 ≤ S.length
  n9 : S.length ≤ 9
  site : ∀ i, i < S.length → ∀ q, 0 ≤ gS S i q ∧ gS S i q ≤ 5
  bound : ∀ q, 0 ≤ d.b.at q ∧ d.b.at q ≤ 3
  l0 : 0 ≤ d.liars
  l4 : d.liars ≤ 4
theorem pvalid_ok {S : List St} {d : Di} (h : pvalid S d = true) : PValid S d := by
  unfold pvalid at h
  rw [Bool.and_eq_true, Bool.and_eq_true, Bool.and_eq_true, decide_eq_true_eq, decide_eq_true_eq, List.all_eq_true] at h
  obtain ⟨⟨⟨h1, h2⟩, h3⟩, h4⟩ := h
  exact ⟨h1.1, h1.2, fun i hi q => St.within_at (h2 _ (stAt_mem hi)) q, fun q => St.within_at h3 q, h4.1, h4.2⟩
/-- A slice of structs that reads as their cells. -/
def RdC (sz : Nat) (w : World) (v : Value) (cs : List (List Value)) : Prop :=
  ∃ (a : Option Addr) (c : Nat), v = .slice a cs.length c ∧ cs.length ≤ c ∧ (cs = [] ∨ ∃ b off, a = some ⟨b, off, none⟩ ∧ b < w.heap.size ∧ ∀ i row j u, cs[i]? = some row → row[j]? = some u → w.cell? ⟨b, off + i * sz + j, none⟩ = some u)
theorem RdC.ext {sz : Nat} {w w' : World} {v : Value} {cs : List (List Value)} (h : RdC sz w v cs) (k : Ext w w') : RdC sz w' v cs := by
  obtain ⟨a, c, h1, h2, h3⟩ := h
  refine ⟨a, c, h1, h2, ?_⟩
  rcases h3 with h3 | ⟨b, off, h3, h5, h6⟩
  · exact .inl h3
  · exact .inr ⟨b, off, h3, Nat.lt_of_lt_of_le h5 k.size, fun i row j u hi hu => cell_ext k (h6 i row j u hi hu)⟩
theorem RdC.shape {sz : Nat} {w : World} {v : Value} {cs : List (List Value)} (h : RdC sz w v cs) : ∃ a c, v = .slice a cs.length c ∧ cs.length ≤ c := by
  obtain ⟨a, c, h1, h2, -⟩ := h
  exact ⟨a, c, h1, h2⟩
theorem RdC.at {sz : Nat} {w : World} {a : Option Addr} {n c : Nat} {cs : List (List Value)} (h : RdC sz w (.slice a n c) cs) (hne : cs ≠ []) :
    ∃ b off, a = some ⟨b, off, none⟩ ∧ b < w.heap.size ∧ ∀ i row j u, cs[i]? = some row → row[j]? = some u → w.cell? ⟨b, off + i * sz + j, none⟩ = some u := by
  obtain ⟨a', c', h1, h2, h3⟩ := h
  cases h1
  rcases h3 with h3 | h3
  · exact absurd h3 hne
  · exact h3
/-- Sites. -/
def RdS (w : World) (v : Value) (S : List St) : Prop := RdC 4 w v (S.map sc)
theorem RdS.ext {w w' : World} {v : Value} {S : List St} (h : RdS w v S) (k : Ext w w') : RdS w' v S := RdC.ext h k
theorem RdS.shape {w : World} {v : Value} {S : List St} (h : RdS w v S) : ∃ a c, v = .slice a S.length c ∧ S.length ≤ c := by
  obtain ⟨a, c, h1, h2⟩ := RdC.shape h
  rw [List.length_map] at h1 h2
  exact ⟨a, c, h1, h2⟩
theorem RdS.at {w : World} {a : Option Addr} {n c : Nat} {S : List St} (h : RdS w (.slice a n c) S) (hne : S ≠ []) :
    ∃ b off, a = some ⟨b, off, none⟩ ∧ b < w.heap.size ∧ ∀ i, i < S.length → ∀ j u, (sc (stAt S i))[j]? = some u → w.cell? ⟨b, off + i * 4 + j, none⟩ = some u := by
  obtain ⟨b, off, h1, h2, h3⟩ := RdC.at h (by intro e; exact hne (List.map_eq_nil_iff.1 e))
  refine ⟨b, off, h1, h2, fun i hi j u hu => h3 i _ j u ?_ hu⟩
  unfold stAt; simp [hi]
/- a placement -/
/-- The custodians, in order. -/
def hold (H : List Int) : List Nat := (srt H).map Int.toNat
def goodP (S : List St) (d : Di) (H : List Int) (k : Int) : Prop := pvalid S d = true ∧ (1 ≤ k ∧ k ≤ H.length) ∧ (∀ x ∈ H, 0 ≤ x ∧ x < S.length) ∧ H.Nodup
def lostP (S : List St) (d : Di) (l : List Nat) (n : Nat) : Option (List Nat) := (combs l n).find? fun T => hitB (gS S) T d.left d.m
open Classical in
/-- What Check answers. -/
noncomputable def chk (S : List St) (d : Di) (H : List Int) (k : Int) : List Nat × Bool :=
  if goodP S d H k then match lostP S d (hold H) (H.length - k.toNat + 1) with
    | some T => (T, false)
    | none => ([], true)
  else ([], false)
theorem chk_bad {S : List St} {d : Di} {H : List Int} {k : Int} (h : ¬ goodP S d H k) : chk S d H k = ([], false) := by unfold chk; rw [if_neg h]
theorem chk_some {S : List St} {d : Di} {H : List Int} {k : Int} (h : goodP S d H k) {T : List Nat} (hT : lostP S d (hold H) (H.length - k.toNat + 1) = some T) : chk S d H k = (T, false) := by unfold chk; rw [if_pos h, hT]
theorem chk_none {S : List St} {d : Di} {H : List Int} {k : Int} (h : goodP S d H k) (hT : lostP S d (hold H) (H.length - k.toNat + 1) = none) : chk S d H k = ([], true) := by unfold chk; rw [if_pos h, hT]
theorem chk_safe {S : List St} {d : Di} {H : List Int} {k : Int} : (chk S d H k).2 = true ↔ goodP S d H k ∧ lostP S d (hold H) (H.length - k.toNat + 1) = none := by
  by_cases h : goodP S d H k
  · cases hT : lostP S d (hold H) (H.length - k.toNat + 1) with
    | some T => rw [chk_some h hT]; simp
    | none => rw [chk_none h hT]; simp [h]
  · rw [chk_bad h]; simp [h]
/-- The first k fragments that are too few to be left. -/
def natI (l : List Nat) : List Int := l.map Int.ofNat
theorem natI_len (l : List Nat) : (natI l).length = l.length := by simp [natI]
theorem natI_at {l : List Nat} {i : Nat} (h : i < l.length) : at' (natI l) i = (l[i] : Int) := by simp [natI, at', h]
theorem natI_app (l m : List Nat) : natI (l ++ m) = natI l ++ natI m := by simp [natI]
theorem natI_inj {l m : List Nat} (h : natI l = natI m) : l = m := List.map_inj_right (fun _ _ h => Int.ofNat.inj h) |>.1 h
/-- What Best answers: the first placement, by size and in order, that is safe. -/
noncomputable def bestP (S : List St) (d : Di) (k : Int) (n : Nat) : Option (List Nat) := (combs (List.range S.length) n).find? fun T => (chk S d (natI T) k).2
noncomputable def bestFrom (S : List St) (d : Di) (k : Int) : Nat → Nat → Option (List Nat)
  | 0, _ => none
  | f + 1, n => match bestP S d k n with
    | some T => some T
    | none => bestFrom S d k f (n + 1)
noncomputable def best (S : List St) (d : Di) (k : Int) : Option (List Nat) := if pvalid S d = true ∧ 1 ≤ k ∧ k ≤ 9 then bestFrom S d k (S.length + 1 - k.toNat) k.toNat else none
end Go.Sx

