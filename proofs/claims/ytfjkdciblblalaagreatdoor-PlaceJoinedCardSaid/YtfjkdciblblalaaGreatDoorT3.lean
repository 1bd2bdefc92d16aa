/- Chapter 18, plain: what a disaster hits. -/
import Derived.Test.YtfjkdciblblalaaGreatDoorHB
import Derived.Test.YtfjkdciblblalaaGreatDoorR2
namespace Go.Sx
/-- Custodian i is in none of the groups. -/
def freeB (g : Nat → Nat → Int) (G : Nat → List Int) (i : Nat) : Bool := (List.range 4).all fun q => decide (g i q ∉ G q)
theorem freeB_iff {g : Nat → Nat → Int} {G : Nat → List Int} {i : Nat} : freeB g G i = true ↔ ∀ q, q < 4 → g i q ∉ G q := by
  unfold freeB
  simp only [List.all_eq_true, List.mem_range, decide_eq_true_eq]
/-- g i q: the group of kind q that custodian i belongs to. Lists of groups, at most left q of kind q, and at most m of T in none of them. -/
def Hit (g : Nat → Nat → Int) (T : List Nat) (left : Nat → Nat) (m : Nat) : Prop :=
  ∃ G : Nat → List Int, (∀ q, q < 4 → (G q).length ≤ left q) ∧ (T.filter (freeB g G)).length ≤ m
section
variable {g : Nat → Nat → Int} {T T' : List Nat} {left left' : Nat → Nat} {m m' : Nat}
theorem Hit.mono (h : Hit g T left m) (h1 : ∀ q, q < 4 → left q ≤ left' q) (h2 : m ≤ m') : Hit g T left' m' := by
  obtain ⟨G, h3, h4⟩ := h
  exact ⟨G, fun q hq => Nat.le_trans (h3 q hq) (h1 q hq), Nat.le_trans h4 h2⟩
theorem Hit.sub (h : Hit g T left m) (hs : T'.Sublist T) : Hit g T' left m := by
  obtain ⟨G, h3, h4⟩ := h
  exact ⟨G, h3, Nat.le_trans (hs.filter _).length_le h4⟩
theorem Hit.few (h : T.length ≤ m) : Hit g T left m := ⟨fun _ => [], fun _ _ => Nat.zero_le _, Nat.le_trans (List.length_filter_le _ _) h⟩
/-- One more group is struck. -/
theorem Hit.cons {q : Nat} {x : Int} (hq : q < 4) (h0 : 0 < left q) (h : Hit g (T.filter fun i => decide (g i q ≠ x)) (fun p => if p = q then left p - 1 else left p) m) : Hit g T left m := by
  obtain ⟨G, h3, h4⟩ := h
  refine ⟨fun p => if p = q then x :: G p else G p, fun p hp => ?_, ?_⟩
  · have := h3 p hp
    dsimp only at this ⊢
    by_cases e : p = q
    · subst e
      rw [if_pos rfl] at this ⊢
      simp only [List.length_cons]; omega
    · rw [if_neg e] at this ⊢
      exact this
  · refine Nat.le_trans (Nat.le_of_eq ?_) h4
    rw [List.filter_filter]
    congr 1
    refine List.filter_congr fun i _ => ?_
    rw [Bool.eq_iff_iff]
    rw [Bool.and_eq_true, freeB_iff, freeB_iff, decide_eq_true_eq]
    constructor
    · intro h
      have hx := h q hq
      rw [if_pos rfl] at hx
      refine ⟨fun p hp => ?_, fun e => hx (by rw [e]; exact List.Mem.head _)⟩
      have hy := h p hp
      by_cases e : p = q
      · subst e; rw [if_pos rfl] at hy; exact fun hm => hy (List.Mem.tail _ hm)
      · rw [if_neg e] at hy; exact hy
    · rintro ⟨h1, h2⟩ p hp
      by_cases e : p = q
      · subst e
        rw [if_pos rfl]
        intro hm
        rcases List.mem_cons.1 hm with hm | hm
        · exact h2 hm
        · exact h1 p hp hm
      · rw [if_neg e]; exact h1 p hp
/-- Either few are left, or a group that hits one of T is struck first. -/
theorem Hit.step (h : Hit g T left m) : T.length ≤ m ∨ ∃ q, q < 4 ∧ 0 < left q ∧ ∃ i ∈ T, Hit g (T.filter fun j => decide (g j q ≠ g i q)) (fun p => if p = q then left p - 1 else left p) m := by
  obtain ⟨G, h3, h4⟩ := h
  by_cases hm : T.length ≤ m
  · exact .inl hm
  right
  have hex : ∃ i ∈ T, freeB g G i = false := Classical.byContradiction fun hn => by
    have : T.filter (freeB g G) = T := List.filter_eq_self.2 fun i hi => by
      cases e : freeB g G i with
      | true => rfl
      | false => exact absurd ⟨i, hi, e⟩ hn
    rw [this] at h4; exact hm h4
  obtain ⟨i, hi, hf⟩ := hex
  obtain ⟨q, hq, hg⟩ : ∃ q, q < 4 ∧ g i q ∈ G q := Classical.byContradiction fun hn => by
    have := freeB_iff.2 (fun q hq hm => hn ⟨q, hq, hm⟩ : ∀ q, q < 4 → g i q ∉ G q)
    rw [this] at hf; cases hf
  have hpos : 0 < (G q).length := List.length_pos_of_mem hg
  refine ⟨q, hq, by have := h3 q hq; omega, i, hi, fun p => if p = q then (G p).erase (g i q) else G p, fun p hp => ?_, ?_⟩
  · have := h3 p hp
    dsimp only
    by_cases e : p = q
    · subst e
      rw [if_pos rfl, if_pos rfl, List.length_erase_of_mem hg]; omega
    · rw [if_neg e, if_neg e]; exact this
  · refine Nat.le_trans (Nat.le_of_eq ?_) h4
    rw [List.filter_filter]
    congr 1
    refine List.filter_congr fun j _ => ?_
    rw [Bool.eq_iff_iff, Bool.and_eq_true, freeB_iff, freeB_iff, decide_eq_true_eq]
    constructor
    · rintro ⟨h1, h2⟩ p hp hm2
      have hy := h1 p hp
      by_cases e : p = q
      · subst e
        rw [if_pos rfl] at hy
        exact hy ((List.mem_erase_of_ne h2).2 hm2)
      · rw [if_neg e] at hy; exact hy hm2
    · intro h1
      refine ⟨fun p hp => ?_, fun e => h1 q hq (by rw [e]; exact hg)⟩
      by_cases e : p = q
      · subst e
        rw [if_pos rfl]
        exact fun hm2 => h1 p hp (List.mem_of_mem_erase hm2)
      · rw [if_neg e]; exact h1 p hp
theorem hit_iff : Hit g T left m ↔ (T.length ≤ m ∨ ∃ q, q < 4 ∧ 0 < left q ∧ ∃ i ∈ T, Hit g (T.filter fun j => decide (g j q ≠ g i q)) (fun p => if p = q then left p - 1 else left p) m) :=
  ⟨Hit.step, fun h => by
    rcases h with h | ⟨q, hq, h0, i, -, h⟩
    · exact Hit.few h
    · exact Hit.cons hq h0 h⟩
/-- Those of T that groups strike or that lie: if fewer than k are left, some of them, as many as one wants, are hit. -/
theorem hit_some {G : Nat → List Int} {lie : Nat → Bool} (hG : ∀ q, q < 4 → (G q).length ≤ left q) (hm : (T.filter lie).length ≤ m) {n : Nat} (hn : n ≤ (T.filter fun i => !freeB g G i || lie i).length) :
    ∃ T', T'.Sublist T ∧ T'.length = n ∧ Hit g T' left m := by
  refine ⟨(T.filter fun i => !freeB g G i || lie i).take n, (List.take_sublist _ _).trans List.filter_sublist, by rw [List.length_take]; omega, G, hG, ?_⟩
  refine Nat.le_trans (((List.take_sublist n _).filter _).length_le) (Nat.le_trans (Nat.le_of_eq ?_) (Nat.le_trans ((List.filter_sublist (p := freeB g G) (l := T.filter lie)).length_le) hm))
  rw [List.filter_filter, List.filter_filter]
  congr 1
  refine List.filter_congr fun i _ => ?_
  cases freeB g G i <;> simp
theorem filter_one {i : Nat} (hT : T.Nodup) (hi : i ∈ T) : (T.filter fun j => decide (j ≠ i)).length = T.length - 1 := by
  rw [← List.length_erase_of_mem hi, hT.erase_eq_filter]
  congr 1
  refine List.filter_congr fun j _ => ?_
  rw [Bool.eq_iff_iff]; simp [bne]
/-- No two custodians have a group in common. -/
theorem hit_spread (hg : ∀ q, q < 4 → ∀ i j, g i q = g j q → i = j) : ∀ (s : Nat) (left : Nat → Nat) (T : List Nat), T.Nodup → left 0 + left 1 + left 2 + left 3 = s → (Hit g T left m ↔ T.length ≤ s + m) := by
  intro s
  induction s with
  | zero =>
    intro left T hT hs
    rw [hit_iff]
    constructor
    · rintro (h | ⟨q, hq, h0, -⟩)
      · omega
      · exfalso
        rcases (show q = 0 ∨ q = 1 ∨ q = 2 ∨ q = 3 by omega) with rfl | rfl | rfl | rfl <;> omega
    · intro h; exact .inl (by omega)
  | succ s ih =>
    intro left T hT hs
    have key : ∀ q, q < 4 → 0 < left q → ∀ i ∈ T, (Hit g (T.filter fun j => decide (g j q ≠ g i q)) (fun p => if p = q then left p - 1 else left p) m ↔ T.length - 1 ≤ s + m) := by
      intro q hq h0 i hi
      have e : (T.filter fun j => decide (g j q ≠ g i q)) = T.filter fun j => decide (j ≠ i) := List.filter_congr fun j _ => by
        rw [Bool.eq_iff_iff, decide_eq_true_eq, decide_eq_true_eq]
        exact ⟨fun h e => h (by rw [e]), fun h e => h (hg q hq j i e)⟩
      rw [e, ih (fun p => if p = q then left p - 1 else left p) _ (hT.filter _) (by
        rcases (show q = 0 ∨ q = 1 ∨ q = 2 ∨ q = 3 by omega) with rfl | rfl | rfl | rfl <;> simp <;> omega), filter_one hT hi]
    rw [hit_iff]
    constructor
    · rintro (h | ⟨q, hq, h0, i, hi, h⟩)
      · omega
      · have := (key q hq h0 i hi).1 h; omega
    · intro h
      by_cases hm : T.length ≤ m
      · exact .inl hm
      · right
        obtain ⟨q, hq, h0⟩ : ∃ q, q < 4 ∧ 0 < left q := by
          by_cases h0 : 0 < left 0
          · exact ⟨0, by omega, h0⟩
          by_cases h1 : 0 < left 1
          · exact ⟨1, by omega, h1⟩
          by_cases h2 : 0 < left 2
          · exact ⟨2, by omega, h2⟩
          · exact ⟨3, by omega, by omega⟩
        obtain ⟨i, hi⟩ := List.exists_mem_of_length_pos (show 0 < T.length by omega)
        exact ⟨q, hq, h0, i, hi, (key q hq h0 i hi).2 (by omega)⟩
end
end Go.Sx
/- Chapter 18, plain: the reference's way to see what is hit; subsets in order; sets as bits. -/
namespace Go.Sx
/-- One more group of kind q is struck. -/
def decL (left : Nat → Nat) (q : Nat) : Nat → Nat := fun p => if p = q then left p - 1 else left p
/-- Those of T that do not belong to i's group of kind q. -/
def othersL (g : Nat → Nat → Int) (T : List Nat) (i q : Nat) : List Nat := T.filter fun j => decide (g j q ≠ g i q)
def exB (g : Nat → Nat → Int) : Nat → List Nat → (Nat → Nat) → Nat → Bool
  | 0, _, _, _ => true
  | f + 1, T, left, m => match T with
    | [] => true
    | i :: T' => (decide (0 < m) && exB g f T' left (m - 1)) || (List.range 4).any fun q => decide (0 < left q) && exB g f (othersL g (i :: T') i q) (decL left q) m
section
variable {g : Nat → Nat → Int} {T T' : List Nat} {left left' : Nat → Nat} {m m' : Nat}
theorem Hit.struck {G : Nat → List Int} {i q : Nat} (h3 : ∀ q, q < 4 → (G q).length ≤ left q) (h4 : (T.filter (freeB g G)).length ≤ m) (hq : q < 4) (hg : g i q ∈ G q) : 0 < left q ∧ Hit g (othersL g T i q) (decL left q) m := by
  have hpos : 0 < (G q).length := List.length_pos_of_mem hg
  refine ⟨by have := h3 q hq; omega, fun p => if p = q then (G p).erase (g i q) else G p, fun p hp => ?_, ?_⟩
  · have := h3 p hp
    unfold decL
    dsimp only
    by_cases e : p = q
    · subst e
      rw [if_pos rfl, if_pos rfl, List.length_erase_of_mem hg]; omega
    · rw [if_neg e, if_neg e]; exact this
  · refine Nat.le_trans (Nat.le_of_eq ?_) h4
    unfold othersL
    rw [List.filter_filter]
    congr 1
    refine List.filter_congr fun j _ => ?_
    rw [Bool.eq_iff_iff, Bool.and_eq_true, freeB_iff, freeB_iff, decide_eq_true_eq]
    constructor
    · rintro ⟨h1, h2⟩ p hp hm2
      have hy := h1 p hp
      by_cases e : p = q
      · subst e
        rw [if_pos rfl] at hy
        exact hy ((List.mem_erase_of_ne h2).2 hm2)
      · rw [if_neg e] at hy; exact hy hm2
    · intro h1
      refine ⟨fun p hp => ?_, fun e => h1 q hq (by rw [e]; exact hg)⟩
      by_cases e : p = q
      · subst e
        rw [if_pos rfl]
        exact fun hm2 => h1 p hp (List.mem_of_mem_erase hm2)
      · rw [if_neg e]; exact h1 p hp
theorem hit_nil : Hit g [] left m := Hit.few (Nat.zero_le _)
theorem hit_head {i : Nat} : Hit g (i :: T) left m ↔ (0 < m ∧ Hit g T left (m - 1)) ∨ ∃ q, q < 4 ∧ 0 < left q ∧ Hit g (othersL g (i :: T) i q) (decL left q) m := by
  constructor
  · rintro ⟨G, h3, h4⟩
    cases hf : freeB g G i with
    | true =>
      left
      rw [List.filter_cons, hf, if_pos rfl, List.length_cons] at h4
      exact ⟨by omega, G, h3, by omega⟩
    | false =>
      right
      obtain ⟨q, hq, hg⟩ : ∃ q, q < 4 ∧ g i q ∈ G q := Classical.byContradiction fun hn => by
        have := freeB_iff.2 (fun q hq hm => hn ⟨q, hq, hm⟩ : ∀ q, q < 4 → g i q ∉ G q)
        rw [this] at hf; cases hf
      obtain ⟨h5, h6⟩ := Hit.struck h3 h4 hq hg
      exact ⟨q, hq, h5, h6⟩
  · rintro (⟨h0, G, h3, h4⟩ | ⟨q, hq, h0, h⟩)
    · refine ⟨G, h3, ?_⟩
      rw [List.filter_cons]
      split
      · rw [List.length_cons]; omega
      · omega
    · exact Hit.cons hq h0 h
theorem others_len {i q : Nat} : (othersL g (i :: T) i q).length ≤ T.length := by
  unfold othersL
  rw [List.filter_cons, if_neg (by simp)]
  exact List.length_filter_le _ _
theorem ex_hit : ∀ (f : Nat) (T : List Nat) (left : Nat → Nat) (m : Nat), T.length ≤ f → (exB g f T left m = true ↔ Hit g T left m)
  | 0, T, left, m, h => by
    have : T = [] := List.eq_nil_of_length_eq_zero (by omega)
    subst this
    simp only [exB, true_iff]; exact hit_nil
  | f + 1, [], left, m, _ => by simp only [exB, true_iff]; exact hit_nil
  | f + 1, i :: T, left, m, h => by
    rw [List.length_cons] at h
    rw [hit_head]
    simp only [exB, Bool.or_eq_true, Bool.and_eq_true, decide_eq_true_eq, List.any_eq_true, List.mem_range]
    rw [ex_hit f T left (m - 1) (by omega)]
    refine or_congr Iff.rfl (exists_congr fun q => ?_)
    rw [ex_hit f _ _ m (Nat.le_trans others_len (by omega))]
/-- What the code asks. -/
def hitB (g : Nat → Nat → Int) (T : List Nat) (left : Nat → Nat) (m : Nat) : Bool := exB g T.length T left m
theorem hitB_iff : hitB g T left m = true ↔ Hit g T left m := ex_hit _ _ _ _ (Nat.le_refl _)
theorem hitB_no : hitB g T left m = false ↔ ¬ Hit g T left m := by rw [← hitB_iff]; simp
end
/-- The lists of n elements of a list, in order. -/
def combs : List Nat → Nat → List (List Nat)
  | _, 0 => [[]]
  | [], _ + 1 => []
  | x :: l, n + 1 => (combs l n).map (x :: ·) ++ combs l (n + 1)
theorem combs_zero (l : List Nat) : combs l 0 = [[]] := by cases l <;> rfl
theorem mem_combs : ∀ {l : List Nat} {n : Nat} {T : List Nat}, T ∈ combs l n ↔ T.Sublist l ∧ T.length = n
  | l, 0, T => by
    rw [combs_zero, List.mem_singleton]
    constructor
    · rintro rfl; exact ⟨List.nil_sublist _, rfl⟩
    · rintro ⟨-, h⟩; exact List.eq_nil_of_length_eq_zero h
  | [], n + 1, T => by
    simp only [combs, List.not_mem_nil, false_iff]
    rintro ⟨h1, h2⟩
    rw [List.sublist_nil.1 h1] at h2; cases h2
  | x :: l, n + 1, T => by
    simp only [combs, List.mem_append, List.mem_map]
    constructor
    · rintro (⟨T', h1, rfl⟩ | h1)
      · obtain ⟨h2, h3⟩ := mem_combs.1 h1
        exact ⟨h2.cons_cons x, by rw [List.length_cons, h3]⟩
      · obtain ⟨h2, h3⟩ := mem_combs.1 h1
        exact ⟨h2.cons x, h3⟩
    · rintro ⟨h1, h2⟩
      cases h1 with
      | cons _ h => exact .inr (mem_combs.2 ⟨h, h2⟩)
      | cons_cons _ h => exact .inl ⟨_, mem_combs.2 ⟨h, by simpa using h2⟩, rfl⟩
theorem combs_short {l : List Nat} {n : Nat} (h : l.length < n) : combs l n = [] := List.eq_nil_iff_forall_not_mem.2 fun T hT => by
  obtain ⟨h1, h2⟩ := mem_combs.1 hT
  have := h1.length_le
  omega
theorem combs_drop {l : List Nat} {i : Nat} (h : i < l.length) (n : Nat) : combs (l.drop i) (n + 1) = (combs (l.drop (i + 1)) n).map (l[i] :: ·) ++ combs (l.drop (i + 1)) (n + 1) := by
  rw [List.drop_eq_getElem_cons h]; rfl
theorem combs_self (l : List Nat) : combs l l.length = [l] := by
  induction l with
  | nil => rfl
  | cons x l ih =>
    rw [List.length_cons, combs, ih, combs_short (Nat.lt_succ_self _)]; rfl
/-- a comes ahead of b: at the first place where they differ it has the smaller element. -/
def lexB : List Nat → List Nat → Bool
  | x :: a, y :: b => decide (x < y) || (decide (x = y) && lexB a b)
  | _, _ => false
theorem combs_head {l : List Nat} {n : Nat} {T : List Nat} (h : T ∈ combs l (n + 1)) : ∃ x T', T = x :: T' ∧ x ∈ l := by
  obtain ⟨h1, h2⟩ := mem_combs.1 h
  cases T with
  | nil => cases h2
  | cons x T' => exact ⟨x, T', rfl, h1.subset (List.Mem.head _)⟩
/-- They come in order. -/
theorem combs_lex : ∀ (l : List Nat) (n : Nat), l.Pairwise (· < ·) → (combs l n).Pairwise fun a b => lexB a b = true
  | l, 0, _ => by rw [combs_zero]; exact List.pairwise_singleton _ _
  | [], n + 1, _ => List.Pairwise.nil
  | x :: l, n + 1, h => by
    rw [List.pairwise_cons] at h
    rw [combs, List.pairwise_append]
    refine ⟨?_, combs_lex l (n + 1) h.2, fun a ha b hb => ?_⟩
    · rw [List.pairwise_map]
      refine (combs_lex l n h.2).imp fun {a b} hab => ?_
      simp only [lexB, hab, decide_true, Bool.and_true, Bool.or_true]
    · obtain ⟨T', -, rfl⟩ := List.mem_map.1 ha
      obtain ⟨y, T2, rfl, hy⟩ := combs_head hb
      have := h.1 y hy
      simp only [lexB, decide_eq_true this, Bool.true_or]
theorem find_lex {L : List (List Nat)} {p : List Nat → Bool} {a b : List Nat} (hL : L.Pairwise fun a b => lexB a b = true) (ha : L.find? p = some a) (hb : b ∈ L) (hp : p b = true) : a = b ∨ lexB a b = true := by
  induction L with
  | nil => cases hb
  | cons x L ih =>
    rw [List.pairwise_cons] at hL
    rw [List.find?_cons] at ha
    cases hx : p x with
    | true =>
      rw [hx] at ha
      simp only [Option.some.injEq] at ha
      subst ha
      rcases List.mem_cons.1 hb with rfl | hb
      · exact .inl rfl
      · exact .inr (hL.1 b hb)
    | false =>
      rw [hx] at ha
      simp only at ha
      rcases List.mem_cons.1 hb with rfl | hb
      · rw [hx] at hp; cases hp
      · exact ih hL.2 ha hb
/- sets as bits -/
def maskOf : List Nat → Nat
  | [] => 0
  | x :: c => maskOf c ||| 1 <<< x
theorem mask_bit (c : List Nat) (j : Nat) : (maskOf c).testBit j = decide (j ∈ c) := by
  induction c with
  | nil => simp [maskOf]
  | cons x c ih =>
    rw [maskOf, Nat.testBit_or, ih, Nat.one_shiftLeft, Nat.testBit_two_pow]
    rw [Bool.eq_iff_iff]
    simp only [Bool.or_eq_true, decide_eq_true_eq, List.mem_cons]
    constructor
    · rintro (h | rfl)
      · exact .inr h
      · exact .inl rfl
    · rintro (rfl | h)
      · exact .inr rfl
      · exact .inl h
theorem mask_lt {c : List Nat} {n : Nat} (h : ∀ x ∈ c, x < n) : maskOf c < 2 ^ n := by
  induction c with
  | nil => exact Nat.two_pow_pos n
  | cons x c ih =>
    rw [maskOf]
    refine Nat.or_lt_two_pow (ih fun y hy => h y (List.Mem.tail _ hy)) ?_
    rw [Nat.one_shiftLeft]
    exact Nat.pow_lt_pow_right (by decide) (h x (List.Mem.head _))
theorem mask_ext {a b : Nat} (h : ∀ j, a.testBit j = b.testBit j) : a = b := Nat.eq_of_testBit_eq h
theorem mask_congr {c d : List Nat} (h : ∀ x, x ∈ c ↔ x ∈ d) : maskOf c = maskOf d := mask_ext fun j => by rw [mask_bit, mask_bit]; simp [h]
/-- The elements of a set below 9. -/
def bl (m : Nat) : List Nat := (List.range 9).filter m.testBit
theorem mem_bl {m i : Nat} : i ∈ bl m ↔ i < 9 ∧ m.testBit i = true := by unfold bl; simp
theorem bl_asc (m : Nat) : (bl m).Pairwise (· < ·) := (List.pairwise_lt_range).filter _
theorem asc_ext {a b : List Nat} (ha : a.Pairwise (· < ·)) (hb : b.Pairwise (· < ·)) (h : ∀ x, x ∈ a ↔ x ∈ b) : a = b :=
  List.Perm.eq_of_pairwise (le := (· < ·)) (fun _ _ _ _ h1 h2 => absurd h1 (Nat.lt_asymm h2)) ha hb
    ((List.perm_ext_iff_of_nodup (ha.imp fun h => Nat.ne_of_lt h) (hb.imp fun h => Nat.ne_of_lt h)).2 h)
theorem bl_mask {c : List Nat} (hc : c.Pairwise (· < ·)) (h9 : ∀ x ∈ c, x < 9) : bl (maskOf c) = c := asc_ext (bl_asc _) hc fun x => by
  rw [mem_bl, mask_bit, decide_eq_true_eq]
  exact ⟨fun h => h.2, fun h => ⟨h9 x h, h⟩⟩
theorem bl_step : ∀ m, m < 512 → 0 < m → (bl (m &&& (m - 1))).length + 1 = (bl m).length := by decide +kernel
theorem bl_zero : bl 0 = [] := by decide
theorem has_bit (x n : Nat) : decide (((x >>> n) &&& 1 : Nat) = 1) = x.testBit n := by
  rw [Nat.testBit_eq_decide_div_mod_eq, Nat.and_one_is_mod, Nat.shiftRight_eq_div_pow]
theorem mask_cut {T S : List Nat} : (maskOf T).bitwise (fun a b => a && !b) (maskOf S) = maskOf (T.filter fun j => decide (j ∉ S)) := mask_ext fun j => by
  rw [Nat.testBit_bitwise rfl, mask_bit, mask_bit, mask_bit, Bool.eq_iff_iff]
  simp only [Bool.and_eq_true, decide_eq_true_eq, List.mem_filter, Bool.not_eq_true', decide_eq_false_iff_not]
theorem mask_meet {T S : List Nat} : 0 < maskOf T &&& maskOf S ↔ ∃ i ∈ T, i ∈ S := by
  constructor
  · intro h
    refine Classical.byContradiction fun hn => ?_
    have : maskOf T &&& maskOf S = 0 := mask_ext fun j => by
      rw [Nat.testBit_and, mask_bit, mask_bit, Nat.zero_testBit]
      cases h1 : decide (j ∈ T) with
      | false => rfl
      | true =>
        cases h2 : decide (j ∈ S) with
        | false => rfl
        | true => exact absurd ⟨j, of_decide_eq_true h1, of_decide_eq_true h2⟩ hn
    omega
  · rintro ⟨i, h1, h2⟩
    refine Nat.pos_of_ne_zero fun h0 => ?_
    have : (maskOf T &&& maskOf S).testBit i = true := by rw [Nat.testBit_and, mask_bit, mask_bit, decide_eq_true h1, decide_eq_true h2]; rfl
    rw [h0, Nat.zero_testBit] at this
    cases this
theorem mask_app {c : List Nat} {x : Nat} : maskOf c ||| 1 <<< x = maskOf (c ++ [x]) := by
  rw [show maskOf c ||| 1 <<< x = maskOf (x :: c) from rfl]
  exact mask_congr fun y => by simp only [List.mem_cons, List.mem_append, List.not_mem_nil, or_false]; exact or_comm
end Go.Sx
/- Chapter 18, plain: sites, bounds, placements; slices of structs. -/
namespace Go.Sx
open Go Go.RowKit
structure St where
  p : Int
  r : Int
  v : Int
  l : Int
deriving DecidableEq, Inhabited
def St.at (s : St) : Nat → Int
  | 0 => s.p
  | 1 => s.r
  | 2 => s.v
  | _ => s.l
def sc (s : St) : List Value := [zv s.p, zv s.r, zv s.v, zv s.l]
def stAt (S : List St) (i : Nat) : St := S.getD i ⟨0, 0, 0, 0⟩
def gS (S : List St) (i q : Nat) : Int := (stAt S i).at q
theorem stAt_mem {S : List St} {i : Nat} (h : i < S.length) : stAt S i ∈ S := by
  unfold stAt; rw [List.getD_eq_getElem?_getD, List.getElem?_eq_getElem h]; exact List.getElem_mem h
theorem mem_stAt {S : List St} {s : St} (h : s ∈ S) : ∃ i, i < S.length ∧ stAt S i = s := by
  obtain ⟨i, hi, rfl⟩ := List.getElem_of_mem h
  exact ⟨i, hi, by unfold stAt; simp [hi]⟩
/-- A bound: four numbers of groups, and how many lie. -/
structure Di where
  b : St
  liars : Int
deriving DecidableEq, Inhabited
def Di.cells (d : Di) : List Value := [zv d.b.p, zv d.b.r, zv d.b.v, zv d.b.l, zv d.liars]
def Di.left (d : Di) : Nat → Nat := fun q => (d.b.at q).toNat
def Di.m (d : Di) : Nat := d.liars.toNat
def St.within (s : St) (hi : Int) : Bool := decide ((0 ≤ s.p ∧ s.p ≤ hi) ∧ (0 ≤ s.r ∧ s.r ≤ hi) ∧ (0 ≤ s.v ∧ s.v ≤ hi) ∧ (0 ≤ s.l ∧ s.l ≤ hi))
theorem St.within_at {s : St} {hi : Int} (h : s.within hi = true) (q : Nat) : 0 ≤ s.at q ∧ s.at q ≤ hi := by
  unfold St.within at h
  rw [decide_eq_true_eq] at h
  obtain ⟨h0, h1, h2, h3⟩ := h
  match q with
  | 0 => exact h0
  | 1 => exact h1
  | 2 => exact h2
  | _ + 3 => exact h3
def pvalid (S : List St) (d : Di) : Bool := decide (1 ≤ S.length ∧ S.length ≤ 9) && S.all (fun s => s.within 5) && d.b.within 3 && decide (0 ≤ d.liars ∧ d.liars ≤ 4)
structure PValid (S : List St) (d : Di) : Prop where
  n1 : 1 ≤ S.length
  n9 : S.length ≤ 9
  site : ∀ i, i < S.length → ∀ q, 0 ≤ gS S i q ∧ gS S i q ≤ 5
  bound : ∀ q, 0 ≤ d.b.at q ∧ d.b.at q ≤ 3
  l0 : 0 ≤ d.liars
  l4 : d.liars ≤ 4
theorem pvalid_ok {S : List St} {d : Di} (h : pvalid S d = true) : PValid S d := by
  unfold pvalid at h
  rw [Bool.and_eq_true, Bool.and_eq_true, Bool.and_eq_true, decide_eq_true_eq, decide_eq_true_eq, List.all_eq_true] at h
  obtain ⟨⟨⟨h1, h2⟩, h3⟩, h4⟩ := h
  exact ⟨h1.1, h1.2, fun i hi q => St.within_at (h2 _ (stAt_mem hi)) q, fun q => St.within_at h3 q, h4.1, h4.2⟩
/-- A slice of structs that reads as their cells. -/
def RdC (sz : Nat) (w : World) (v : Value) (cs : List (List Value)) : Prop :=
  ∃ (a : Option Addr) (c : Nat), v = .slice a cs.length c ∧ cs.length ≤ c ∧ (cs = [] ∨ ∃ b off, a = some ⟨b, off, none⟩ ∧ b < w.heap.size ∧ ∀ i row j u, cs[i]? = some row → row[j]? = some u → w.cell? ⟨b, off + i * sz + j, none⟩ = some u)
theorem RdC.ext {sz : Nat} {w w' : World} {v : Value} {cs : List (List Value)} (h : RdC sz w v cs) (k : Ext w w') : RdC sz w' v cs := by
  obtain ⟨a, c, h1, h2, h3⟩ := h
  refine ⟨a, c, h1, h2, ?_⟩
  rcases h3 with h3 | ⟨b, off, h3, h5, h6⟩
  · exact .inl h3
  · exact .inr ⟨b, off, h3, Nat.lt_of_lt_of_le h5 k.size, fun i row j u hi hu => cell_ext k (h6 i row j u hi hu)⟩
theorem RdC.shape {sz : Nat} {w : World} {v : Value} {cs : List (List Value)} (h : RdC sz w v cs) : ∃ a c, v = .slice a cs.length c ∧ cs.length ≤ c := by
  obtain ⟨a, c, h1, h2, -⟩ := h
  exact ⟨a, c, h1, h2⟩
theorem RdC.at {sz : Nat} {w : World} {a : Option Addr} {n c : Nat} {cs : List (List Value)} (h : RdC sz w (.slice a n c) cs) (hne : cs ≠ []) :
    ∃ b off, a = some ⟨b, off, none⟩ ∧ b < w.heap.size ∧ ∀ i row j u, cs[i]? = some row → row[j]? = some u → w.cell? ⟨b, off + i * sz + j, none⟩ = some u := by
  obtain ⟨a', c', h1, h2, h3⟩ := h
  cases h1
  rcases h3 with h3 | h3
  · exact absurd h3 hne
  · exact h3
/-- Sites. -/
def RdS (w : World) (v : Value) (S : List St) : Prop := RdC 4 w v (S.map sc)
theorem RdS.ext {w w' : World} {v : Value} {S : List St} (h : RdS w v S) (k : Ext w w') : RdS w' v S := RdC.ext h k
theorem RdS.shape {w : World} {v : Value} {S : List St} (h : RdS w v S) : ∃ a c, v = .slice a S.length c ∧ S.length ≤ c := by
  obtain ⟨a, c, h1, h2⟩ := RdC.shape h
  rw [List.length_map] at h1 h2
  exact ⟨a, c, h1, h2⟩
theorem RdS.at {w : World} {a : Option Addr} {n c : Nat} {S : List St} (h : RdS w (.slice a n c) S) (hne : S ≠ []) :
    ∃ b off, a = some ⟨b, off, none⟩ ∧ b < w.heap.size ∧ ∀ i, i < S.length → ∀ j u, (sc (stAt S i))[j]? = some u → w.cell? ⟨b, off + i * 4 + j, none⟩ = some u := by
  obtain ⟨b, off, h1, h2, h3⟩ := RdC.at h (by intro e; exact hne (List.map_eq_nil_iff.1 e))
  refine ⟨b, off, h1, h2, fun i hi j u hu => h3 i _ j u ?_ hu⟩
  unfold stAt; simp [hi]
/- a placement -/
/-- The custodians, in order. -/
def hold (H : List Int) : List Nat := (srt H).map Int.toNat
def goodP (S : List St) (d : Di) (H : List Int) (k : Int) : Prop := pvalid S d = true ∧ (1 ≤ k ∧ k ≤ H.length) ∧ (∀ x ∈ H, 0 ≤ x ∧ x < S.length) ∧ H.Nodup
def lostP (S : List St) (d : Di) (l : List Nat) (n : Nat) : Option (List Nat) := (combs l n).find? fun T => hitB (gS S) T d.left d.m
open Classical in
/-- What Check answers. -/
noncomputable def chk (S : List St) (d : Di) (H : List Int) (k : Int) : List Nat × Bool :=
  if goodP S d H k then match lostP S d (hold H) (H.length - k.toNat + 1) with
    | some T => (T, false)
    | none => ([], true)
  else ([], false)
theorem chk_bad {S : List St} {d : Di} {H : List Int} {k : Int} (h : ¬ goodP S d H k) : chk S d H k = ([], false) := by unfold chk; rw [if_neg h]
theorem chk_some {S : List St} {d : Di} {H : List Int} {k : Int} (h : goodP S d H k) {T : List Nat} (hT : lostP S d (hold H) (H.length - k.toNat + 1) = some T) : chk S d H k = (T, false) := by unfold chk; rw [if_pos h, hT]
theorem chk_none {S : List St} {d : Di} {H : List Int} {k : Int} (h : goodP S d H k) (hT : lostP S d (hold H) (H.length - k.toNat + 1) = none) : chk S d H k = ([], true) := by unfold chk; rw [if_pos h, hT]
theorem chk_safe {S : List St} {d : Di} {H : List Int} {k : Int} : (chk S d H k).2 = true ↔ goodP S d H k ∧ lostP S d (hold H) (H.length - k.toNat + 1) = none := by
  by_cases h : goodP S d H k
  · cases hT : lostP S d (hold H) (H.length - k.toNat + 1) with
    | some T => rw [chk_some h hT]; simp
    | none => rw [chk_none h hT]; simp [h]
  · rw [chk_bad h]; simp [h]
/-- The first k fragments that are too few to be left. -/
def natI (l : List Nat) : List Int := l.map Int.ofNat
theorem natI_len (l : List Nat) : (natI l).length = l.length := by simp [natI]
theorem natI_at {l : List Nat} {i : Nat} (h : i < l.length) : at' (natI l) i = (l[i] : Int) := by simp [natI, at', h]
theorem natI_app (l m : List Nat) : natI (l ++ m) = natI l ++ natI m := by simp [natI]
theorem natI_inj {l m : List Nat} (h : natI l = natI m) : l = m := List.map_inj_right (fun _ _ h => Int.ofNat.inj h) |>.1 h
/-- What Best answers: the first placement, by size and in order, that is safe. -/
noncomputable def bestP (S : List St) (d : Di) (k : Int) (n : Nat) : Option (List Nat) := (combs (List.range S.length) n).find? fun T => (chk S d (natI T) k).2
noncomputable def bestFrom (S : List St) (d : Di) (k : Int) : Nat → Nat → Option (List Nat)
  | 0, _ => none
  | f + 1, n => match bestP S d k n with
    | some T => some T
    | none => bestFrom S d k f (n + 1)
noncomputable def best (S : List St) (d : Di) (k : Int) : Option (List Nat) := if pvalid S d = true ∧ 1 ≤ k ∧ k ≤ 9 then bestFrom S d k (S.length + 1 - k.toNat) k.toNat else none
end Go.Sx

