/- Chapter 18, plain: what a disaster hits. -/
import Derived.Test.YtnpnoobknolahaaHB
namespace Go.Sx
/-- Custodian i is in none of the groups. -/
def freeB (g : Nat → Nat → Int) (G : Nat → List Int) (i : Nat) : Bool := (List.range 4).all fun q => decide (g i q ∉ G q)
theorem freeB_iff {g : Nat → Nat → Int} {G : Nat → List Int} {i : Nat} : freeB g G i = true ↔ ∀ q, q < 4 → g i q ∉ G q := by
  unfold freeB
  simp only [List.all_eq_true, List.mem_range, decide_eq_true_eq]
/-- g i q: the group of kind q that custodian i belongs to. Lists of groups, at most left q of kind q, and at most m of T in none of them. -/
def Hit (g : Nat → Nat → Int) (T : List Nat) (left : Nat → Nat) (m : Nat) : Prop :=
  ∃ G : Nat → List Int, (∀ q, q < 4 → (G q).length ≤ left q) ∧ (T.filter (freeB g G)).length ≤ m
section
variable {g : Nat → Nat → Int} {T T' : List Nat} {left left' : Nat → Nat} {m m' : Nat}
theorem Hit.mono (h : Hit g T left m) (h1 : ∀ q, q < 4 → left q ≤ left' q) (h2 : m ≤ m') : Hit g T left' m' := by
  obtain ⟨G, h3, h4⟩ := h
  exact ⟨G, fun q hq => Nat.le_trans (h3 q hq) (h1 q hq), Nat.le_trans h4 h2⟩
theorem Hit.sub (h : Hit g T left m) (hs : T'.Sublist T) : Hit g T' left m := by
  obtain ⟨G, h3, h4⟩ := h
  exact ⟨G, h3, Nat.le_trans (hs.filter _).length_le h4⟩
theorem Hit.few (h : T.length ≤ m) : Hit g T left m := ⟨fun _ => [], fun _ _ => Nat.zero_le _, Nat.le_trans (List.length_filter_le _ _) h⟩
/-- One more group is struck. -/
theorem Hit.cons {q : Nat} {x : Int} (hq : q < 4) (h0 : 0 < left q) (h : Hit g (T.filter fun i => decide (g i q ≠ x)) (fun p => if p = q then left p - 1 else left p) m) : Hit g T left m := by
  obtain ⟨G, h3, h4⟩ := h
  refine ⟨fun p => if p = q then x :: G p else G p, fun p hp => ?_, ?_⟩
  · have := h3 p hp
    dsimp only at this ⊢
    by_cases e : p = q
    · subst e
      rw [if_pos rfl] at this ⊢
      simp only [List.length_cons]; omega
    · rw [if_neg e] at this ⊢
      exact this
  · refine Nat.le_trans (Nat.le_of_eq ?_) h4
    rw [List.filter_filter]
    congr 1
    refine List.filter_congr fun i _ => ?_
    rw [Bool.eq_iff_iff]
    rw [Bool.and_eq_true, freeB_iff, freeB_iff, decide_eq_true_eq]
    constructor
    · intro h
      have hx := h q hq
      rw [if_pos rfl] at hx
      refine ⟨fun p hp => ?_, fun e => hx (by rw [e]; exact List.Mem.head _)⟩
      have hy := h p hp
      by_cases e : p = q
      · subst e; rw [if_pos rfl] at hy; exact fun hm => hy (List.Mem.tail _ hm)
      · rw [if_neg e] at hy; exact hy
    · rintro ⟨h1, h2⟩ p hp
      by_cases e : p = q
      · subst e
        rw [if_pos rfl]
        intro hm
        rcases List.mem_cons.1 hm with hm | hm
        · exact h2 hm
        · exact h1 p hp hm
      · rw [if_neg e]; exact h1 p hp
/-- Either few are left, or a group that hits one of T is struck first. -/
theorem Hit.step (h : Hit g T left m) : T.length ≤ m ∨ ∃ q, q < 4 ∧ 0 < left q ∧ ∃ i ∈ T, Hit g (T.filter fun j => decide (g j q ≠ g i q)) (fun p => if p = q then left p - 1 else left p) m := by
  obtain ⟨G, h3, h4⟩ := h
  by_cases hm : T.length ≤ m
  · exact .inl hm
  right
  have hex : ∃ i ∈ T, freeB g G i = false := Classical.byContradiction fun hn => by
    have : T.filter (freeB g G) = T := List.filter_eq_self.2 fun i hi => by
      cases e : freeB g G i with
      | true => rfl
      | false => exact absurd ⟨i, hi, e⟩ hn
    rw [this] at h4; exact hm h4
  obtain ⟨i, hi, hf⟩ := hex
  obtain ⟨q, hq, hg⟩ : ∃ q, q < 4 ∧ g i q ∈ G q := Classical.byContradiction fun hn => by
    have := freeB_iff.2 (fun q hq hm => hn ⟨q, hq, hm⟩ : ∀ q, q < 4 → g i q ∉ G q)
    rw [this] at hf; cases hf
  have hpos : 0 < (G q).length := List.length_pos_of_mem hg
  refine ⟨q, hq, by have := h3 q hq; omega, i, hi, fun p => if p = q then (G p).erase (g i q) else G p, fun p hp => ?_, ?_⟩
  · have := h3 p hp
    dsimp only
    by_cases e : p = q
    · subst e
      rw [if_pos rfl, if_pos rfl, List.length_erase_of_mem hg]; omega
    · rw [if_neg e, if_neg e]; exact this
  · refine Nat.le_trans (Nat.le_of_eq ?_) h4
    rw [List.filter_filter]
    congr 1
    refine List.filter_congr fun j _ => ?_
    rw [Bool.eq_iff_iff, Bool.and_eq_true, freeB_iff, freeB_iff, decide_eq_true_eq]
    constructor
    · rintro ⟨h1, h2⟩ p hp hm2
      have hy := h1 p hp
      by_cases e : p = q
      · subst e
        rw [if_pos rfl] at hy
        exact hy ((List.mem_erase_of_ne h2).2 hm2)
      · rw [if_neg e] at hy; exact hy hm2
    · intro h1
      refine ⟨fun p hp => ?_, fun e => h1 q hq (by rw [e]; exact hg)⟩
      by_cases e : p = q
      · subst e
        rw [if_pos rfl]
        exact fun hm2 => h1 p hp (List.mem_of_mem_erase hm2)
      · rw [if_neg e]; exact h1 p hp
theorem hit_iff : Hit g T left m ↔ (T.length ≤ m ∨ ∃ q, q < 4 ∧ 0 < left q ∧ ∃ i ∈ T, Hit g (T.filter fun j => decide (g j q ≠ g i q)) (fun p => if p = q then left p - 1 else left p) m) :=
  ⟨Hit.step, fun h => by
    rcases h with h | ⟨q, hq, h0, i, -, h⟩
    · exact Hit.few h
    · exact Hit.cons hq h0 h⟩
/-- Those of T that groups strike or that lie: if fewer than k are left, some of them, as many as one wants, are hit. -/
theorem hit_some {G : Nat → List Int} {lie : Nat → Bool} (hG : ∀ q, q < 4 → (G q).length ≤ left q) (hm : (T.filter lie).length ≤ m) {n : Nat} (hn : n ≤ (T.filter fun i => !freeB g G i || lie i).length) :
    ∃ T', T'.Sublist T ∧ T'.length = n ∧ Hit g T' left m := by
  refine ⟨(T.filter fun i => !freeB g G i || lie i).take n, (List.take_sublist _ _).trans List.filter_sublist, by rw [List.length_take]; omega, G, hG, ?_⟩
  refine Nat.le_trans (((List.take_sublist n _).filter _).length_le) (Nat.le_trans (Nat.le_of_eq ?_) (Nat.le_trans ((List.filter_sublist (p := freeB g G) (l := T.filter lie)).length_le) hm))
  rw [List.filter_filter, List.filter_filter]
  congr 1
  refine List.filter_congr fun i _ => ?_
  cases freeB g G i <;> simp
theorem filter_one {i : Nat} (hT : T.Nodup) (hi : i ∈ T) : (T.filter fun j => decide (j ≠ i)).length = T.length - 1 := by
  rw [← List.length_erase_of_mem hi, hT.erase_eq_filter]
  congr 1
  refine List.filter_congr fun j _ => ?_
  rw [Bool.eq_iff_iff]; simp [bne]
/-- No two custodians have a group in common. -/
theorem hit_spread (hg : ∀ q, q < 4 → ∀ i j, g i q = g j q → i = j) : ∀ (s : Nat) (left : Nat → Nat) (T : List Nat), T.Nodup → left 0 + left 1 + left 2 + left 3 = s → (Hit g T left m ↔ T.length ≤ s + m) := by
  intro s
  induction s with
  | zero =>
    intro left T hT hs
    rw [hit_iff]
    constructor
    · rintro (h | ⟨q, hq, h0, -⟩)
      · omega
      · exfalso
        rcases (show q = 0 ∨ q = 1 ∨ q = 2 ∨ q = 3 by omega) with rfl | rfl | rfl | rfl <;> omega
    · intro h; exact .inl (by omega)
  | succ s ih =>
    intro left T hT hs
    have key : ∀ q, q < 4 → 0 < left q → ∀ i ∈ T, (Hit g (T.filter fun j => decide (g j q ≠ g i q)) (fun p => if p = q then left p - 1 else left p) m ↔ T.length - 1 ≤ s + m) := by
      intro q hq h0 i hi
      have e : (T.filter fun j => decide (g j q ≠ g i q)) = T.filter fun j => decide (j ≠ i) := List.filter_congr fun j _ => by
        rw [Bool.eq_iff_iff, decide_eq_true_eq, decide_eq_true_eq]
        exact ⟨fun h e => h (by rw [e]), fun h e => h (hg q hq j i e)⟩
      rw [e, ih (fun p => if p = q then left p - 1 else left p) _ (hT.filter _) (by
        rcases (show q = 0 ∨ q = 1 ∨ q = 2 ∨ q = 3 by omega) with rfl | rfl | rfl | rfl <;> simp <;> omega), filter_one hT hi]
    rw [hit_iff]
    constructor
    · rintro (h | ⟨q, hq, h0, i, hi, h⟩)
      · omega
      · have := (key q hq h0 i hi).1 h; omega
    · intro h
      by_cases hm : T.length ≤ m
      · exact .inl hm
      · right
        obtain ⟨q, hq, h0⟩ : ∃ q, q < 4 ∧ 0 < left q := by
          by_cases h0 : 0 < left 0
          · exact ⟨0, by omega, h0⟩
          by_cases h1 : 0 < left 1
          · exact ⟨1, by omega, h1⟩
          by_cases h2 : 0 < left 2
          · exact ⟨2, by omega, h2⟩
          · exact ⟨3, by omega, by omega⟩
        obtain ⟨i, hi⟩ := List.exists_mem_of_length_pos (show 0 < T.length by omega)
        exact ⟨q, hq, h0, i, hi, (key q hq h0 i hi).2 (by omega)⟩
end
end Go.Sx

