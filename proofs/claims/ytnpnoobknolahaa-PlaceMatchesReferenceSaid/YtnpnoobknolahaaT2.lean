/- Chapter 18, plain: the reference's way to see what is hit; subsets in order; sets as bits. -/
import Derived.Test.YtnpnoobknolahaaT1
namespace Go.Sx
/-- One more group of kind q is struck. -/
def decL (left : Nat → Nat) (q : Nat) : Nat → Nat := fun p => if p = q then left p - 1 else left p
/-- Those of T that do not belong to i's group of kind q. -/
def othersL (g : Nat → Nat → Int) (T : List Nat) (i q : Nat) : List Nat := T.filter fun j => decide (g j q ≠ g i q)
def exB (g : Nat → Nat → Int) : Nat → List Nat → (Nat → Nat) → Nat → Bool
  | 0, _, _, _ => true
  | f + 1, T, left, m => match T with
    | [] => true
    | i :: T' => (decide (0 < m) && exB g f T' left (m - 1)) || (List.range 4).any fun q => decide (0 < left q) && exB g f (othersL g (i :: T') i q) (decL left q) m
section
variable {g : Nat → Nat → Int} {T T' : List Nat} {left left' : Nat → Nat} {m m' : Nat}
theorem Hit.struck {G : Nat → List Int} {i q : Nat} (h3 : ∀ q, q < 4 → (G q).length ≤ left q) (h4 : (T.filter (freeB g G)).length ≤ m) (hq : q < 4) (hg : g i q ∈ G q) : 0 < left q ∧ Hit g (othersL g T i q) (decL left q) m := by
  have hpos : 0 < (G q).length := List.length_pos_of_mem hg
  refine ⟨by have := h3 q hq; omega, fun p => if p = q then (G p).erase (g i q) else G p, fun p hp => ?_, ?_⟩
  · have := h3 p hp
    unfold decL
    dsimp only
    by_cases e : p = q
    · subst e
      rw [if_pos rfl, if_pos rfl, List.length_erase_of_mem hg]; omega
    · rw [if_neg e, if_neg e]; exact this
  · refine Nat.le_trans (Nat.le_of_eq ?_) h4
    unfold othersL
    rw [List.filter_filter]
    congr 1
    refine List.filter_congr fun j _ => ?_
    rw [Bool.eq_iff_iff, Bool.and_eq_true, freeB_iff, freeB_iff, decide_eq_true_eq]
    constructor
    · rintro ⟨h1, h2⟩ p hp hm2
      have hy := h1 p hp
      by_cases e : p = q
      · subst e
        rw [if_pos rfl] at hy
        exact hy ((List.mem_erase_of_ne h2).2 hm2)
      · rw [if_neg e] at hy; exact hy hm2
    · intro h1
      refine ⟨fun p hp => ?_, fun e => h1 q hq (by rw [e]; exact hg)⟩
      by_cases e : p = q
      · subst e
        rw [if_pos rfl]
        exact fun hm2 => h1 p hp (List.mem_of_mem_erase hm2)
      · rw [if_neg e]; exact h1 p hp
theorem hit_nil : Hit g [] left m := Hit.few (Nat.zero_le _)
theorem hit_head {i : Nat} : Hit g (i :: T) left m ↔ (0 < m ∧ Hit g T left (m - 1)) ∨ ∃ q, q < 4 ∧ 0 < left q ∧ Hit g (othersL g (i :: T) i q) (decL left q) m := by
  constructor
  · rintro ⟨G, h3, h4⟩
    cases hf : freeB g G i with
    | true =>
      left
      rw [List.filter_cons, hf, if_pos rfl, List.length_cons] at h4
      exact ⟨by omega, G, h3, by omega⟩
    | false =>
      right
      obtain ⟨q, hq, hg⟩ : ∃ q, q < 4 ∧ g i q ∈ G q := Classical.byContradiction fun hn => by
        have := freeB_iff.2 (fun q hq hm => hn ⟨q, hq, hm⟩ : ∀ q, q < 4 → g i q ∉ G q)
        rw [this] at hf; cases hf
      obtain ⟨h5, h6⟩ := Hit.struck h3 h4 hq hg
      exact ⟨q, hq, h5, h6⟩
  · rintro (⟨h0, G, h3, h4⟩ | ⟨q, hq, h0, h⟩)
    · refine ⟨G, h3, ?_⟩
      rw [List.filter_cons]
      split
      · rw [List.length_cons]; omega
      · omega
    · exact Hit.cons hq h0 h
theorem others_len {i q : Nat} : (othersL g (i :: T) i q).length ≤ T.length := by
  unfold othersL
  rw [List.filter_cons, if_neg (by simp)]
  exact List.length_filter_le _ _
theorem ex_hit : ∀ (f : Nat) (T : List Nat) (left : Nat → Nat) (m : Nat), T.length ≤ f → (exB g f T left m = true ↔ Hit g T left m)
  | 0, T, left, m, h => by
    have : T = [] := List.eq_nil_of_length_eq_zero (by omega)
    subst this
    simp only [exB, true_iff]; exact hit_nil
  | f + 1, [], left, m, _ => by simp only [exB, true_iff]; exact hit_nil
  | f + 1, i :: T, left, m, h => by
    rw [List.length_cons] at h
    rw [hit_head]
    simp only [exB, Bool.or_eq_true, Bool.and_eq_true, decide_eq_true_eq, List.any_eq_true, List.mem_range]
    rw [ex_hit f T left (m - 1) (by omega)]
    refine or_congr Iff.rfl (exists_congr fun q => ?_)
    rw [ex_hit f _ _ m (Nat.le_trans others_len (by omega))]
/-- What the code asks. -/
def hitB (g : Nat → Nat → Int) (T : List Nat) (left : Nat → Nat) (m : Nat) : Bool := exB g T.length T left m
theorem hitB_iff : hitB g T left m = true ↔ Hit g T left m := ex_hit _ _ _ _ (Nat.le_refl _)
theorem hitB_no : hitB g T left m = false ↔ ¬ Hit g T left m := by rw [← hitB_iff]; simp
end
/-- The lists of n elements of a list, in order. -/
def combs : List Nat → Nat → List (List Nat)
  | _, 0 => [[]]
  | [], _ + 1 => []
  | x :: l, n + 1 => (combs l n).map (x :: ·) ++ combs l (n + 1)
theorem combs_zero (l : List Nat) : combs l 0 = [[]] := by cases l <;> rfl
theorem mem_combs : ∀ {l : List Nat} {n : Nat} {T : List Nat}, T ∈ combs l n ↔ T.Sublist l ∧ T.length = n
  | l, 0, T => by
    rw [combs_zero, List.mem_singleton]
    constructor
    · rintro rfl; exact ⟨List.nil_sublist _, rfl⟩
    · rintro ⟨-, h⟩; exact List.eq_nil_of_length_eq_zero h
  | [], n + 1, T => by
    simp only [combs, List.not_mem_nil, false_iff]
    rintro ⟨h1, h2⟩
    rw [List.sublist_nil.1 h1] at h2; cases h2
  | x :: l, n + 1, T => by
    simp only [combs, List.mem_append, List.mem_map]
    constructor
    · rintro (⟨T', h1, rfl⟩ | h1)
      · obtain ⟨h2, h3⟩ := mem_combs.1 h1
        exact ⟨h2.cons_cons x, by rw [List.length_cons, h3]⟩
      · obtain ⟨h2, h3⟩ := mem_combs.1 h1
        exact ⟨h2.cons x, h3⟩
    · rintro ⟨h1, h2⟩
      cases h1 with
      | cons _ h => exact .inr (mem_combs.2 ⟨h, h2⟩)
      | cons_cons _ h => exact .inl ⟨_, mem_combs.2 ⟨h, by simpa using h2⟩, rfl⟩
theorem combs_short {l : List Nat} {n : Nat} (h : l.length < n) : combs l n = [] := List.eq_nil_iff_forall_not_mem.2 fun T hT => by
  obtain ⟨h1, h2⟩ := mem_combs.1 hT
  have := h1.length_le
  omega
theorem combs_drop {l : List Nat} {i : Nat} (h : i < l.length) (n : Nat) : combs (l.drop i) (n + 1) = (combs (l.drop (i + 1)) n).map (l[i] :: ·) ++ combs (l.drop (i + 1)) (n + 1) := by
  rw [List.drop_eq_getElem_cons h]; rfl
theorem combs_self (l : List Nat) : combs l l.length = [l] := by
  induction l with
  | nil => rfl
  | cons x l ih =>
    rw [List.length_cons, combs, ih, combs_short (Nat.lt_succ_self _)]; rfl
/-- a comes ahead of b: at the first place where they differ it has the smaller element. -/
def lexB : List Nat → List Nat → Bool
  | x :: a, y :: b => decide (x < y) || (decide (x = y) && lexB a b)
  | _, _ => false
theorem combs_head {l : List Nat} {n : Nat} {T : List Nat} (h : T ∈ combs l (n + 1)) : ∃ x T', T = x :: T' ∧ x ∈ l := by
  obtain ⟨h1, h2⟩ := mem_combs.1 h
  cases T with
  | nil => cases h2
  | cons x T' => exact ⟨x, T', rfl, h1.subset (List.Mem.head _)⟩
/-- They come in order. -/
theorem combs_lex : ∀ (l : List Nat) (n : Nat), l.Pairwise (· < ·) → (combs l n).Pairwise fun a b => lexB a b = true
  | l, 0, _ => by rw [combs_zero]; exact List.pairwise_singleton _ _
  | [], n + 1, _ => List.Pairwise.nil
  | x :: l, n + 1, h => by
    rw [List.pairwise_cons] at h
    rw [combs, List.pairwise_append]
    refine ⟨?_, combs_lex l (n + 1) h.2, fun a ha b hb => ?_⟩
    · rw [List.pairwise_map]
      refine (combs_lex l n h.2).imp fun {a b} hab => ?_
      simp only [lexB, hab, decide_true, Bool.and_true, Bool.or_true]
    · obtain ⟨T', -, rfl⟩ := List.mem_map.1 ha
      obtain ⟨y, T2, rfl, hy⟩ := combs_head hb
      have := h.1 y hy
      simp only [lexB, decide_eq_true this, Bool.true_or]
theorem find_lex {L : List (List Nat)} {p : List Nat → Bool} {a b : List Nat} (hL : L.Pairwise fun a b => lexB a b = true) (ha : L.find? p = some a) (hb : b ∈ L) (hp : p b = true) : a = b ∨ lexB a b = true := by
  induction L with
  | nil => cases hb
  | cons x L ih =>
    rw [List.pairwise_cons] at hL
    rw [List.find?_cons] at ha
    cases hx : p x with
    | true =>
      rw [hx] at ha
      simp only [Option.some.injEq] at ha
      subst ha
      rcases List.mem_cons.1 hb with rfl | hb
      · exact .inl rfl
      · exact .inr (hL.1 b hb)
    | false =>
      rw [hx] at ha
      simp only at ha
      rcases List.mem_cons.1 hb with rfl | hb
      · rw [hx] at hp; cases hp
      · exact ih hL.2 ha hb
/- sets as bits -/
def maskOf : List Nat → Nat
  | [] => 0
  | x :: c => maskOf c ||| 1 <<< x
theorem mask_bit (c : List Nat) (j : Nat) : (maskOf c).testBit j = decide (j ∈ c) := by
  induction c with
  | nil => simp [maskOf]
  | cons x c ih =>
    rw [maskOf, Nat.testBit_or, ih, Nat.one_shiftLeft, Nat.testBit_two_pow]
    rw [Bool.eq_iff_iff]
    simp only [Bool.or_eq_true, decide_eq_true_eq, List.mem_cons]
    constructor
    · rintro (h | rfl)
      · exact .inr h
      · exact .inl rfl
    · rintro (rfl | h)
      · exact .inr rfl
      · exact .inl h
theorem mask_lt {c : List Nat} {n : Nat} (h : ∀ x ∈ c, x < n) : maskOf c < 2 ^ n := by
  induction c with
  | nil => exact Nat.two_pow_pos n
  | cons x c ih =>
    rw [maskOf]
    refine Nat.or_lt_two_pow (ih fun y hy => h y (List.Mem.tail _ hy)) ?_
    rw [Nat.one_shiftLeft]
    exact Nat.pow_lt_pow_right (by decide) (h x (List.Mem.head _))
theorem mask_ext {a b : Nat} (h : ∀ j, a.testBit j = b.testBit j) : a = b := Nat.eq_of_testBit_eq h
theorem mask_congr {c d : List Nat} (h : ∀ x, x ∈ c ↔ x ∈ d) : maskOf c = maskOf d := mask_ext fun j => by rw [mask_bit, mask_bit]; simp [h]
/-- The elements of a set below 9. -/
def bl (m : Nat) : List Nat := (List.range 9).filter m.testBit
theorem mem_bl {m i : Nat} : i ∈ bl m ↔ i < 9 ∧ m.testBit i = true := by unfold bl; simp
theorem bl_asc (m : Nat) : (bl m).Pairwise (· < ·) := (List.pairwise_lt_range).filter _
theorem asc_ext {a b : List Nat} (ha : a.Pairwise (· < ·)) (hb : b.Pairwise (· < ·)) (h : ∀ x, x ∈ a ↔ x ∈ b) : a = b :=
  List.Perm.eq_of_pairwise (le := (· < ·)) (fun _ _ _ _ h1 h2 => absurd h1 (Nat.lt_asymm h2)) ha hb
    ((List.perm_ext_iff_of_nodup (ha.imp fun h => Nat.ne_of_lt h) (hb.imp fun h => Nat.ne_of_lt h)).2 h)
theorem bl_mask {c : List Nat} (hc : c.Pairwise (· < ·)) (h9 : ∀ x ∈ c, x < 9) : bl (maskOf c) = c := asc_ext (bl_asc _) hc fun x => by
  rw [mem_bl, mask_bit, decide_eq_true_eq]
  exact ⟨fun h => h.2, fun h => ⟨h9 x h, h⟩⟩
theorem bl_step : ∀ m, m < 512 → 0 < m → (bl (m &&& (m - 1))).length + 1 = (bl m).length := by decide +kernel
theorem bl_zero : bl 0 = [] := by decide
theorem has_bit (x n : Nat) : decide (((x >>> n) &&& 1 : Nat) = 1) = x.testBit n := by
  rw [Nat.testBit_eq_decide_div_mod_eq, Nat.and_one_is_mod, Nat.shiftRight_eq_div_pow]
theorem mask_cut {T S : List Nat} : (maskOf T).bitwise (fun a b => a && !b) (maskOf S) = maskOf (T.filter fun j => decide (j ∉ S)) := mask_ext fun j => by
  rw [Nat.testBit_bitwise rfl, mask_bit, mask_bit, mask_bit, Bool.eq_iff_iff]
  simp only [Bool.and_eq_true, decide_eq_true_eq, List.mem_filter, Bool.not_eq_true', decide_eq_false_iff_not]
theorem mask_meet {T S : List Nat} : 0 < maskOf T &&& maskOf S ↔ ∃ i ∈ T, i ∈ S := by
  constructor
  · intro h
    refine Classical.byContradiction fun hn => ?_
    have : maskOf T &&& maskOf S = 0 := mask_ext fun j => by
      rw [Nat.testBit_and, mask_bit, mask_bit, Nat.zero_testBit]
      cases h1 : decide (j ∈ T) with
      | false => rfl
      | true =>
        cases h2 : decide (j ∈ S) with
        | false => rfl
        | true => exact absurd ⟨j, of_decide_eq_true h1, of_decide_eq_true h2⟩ hn
    omega
  · rintro ⟨i, h1, h2⟩
    refine Nat.pos_of_ne_zero fun h0 => ?_
    have : (maskOf T &&& maskOf S).testBit i = true := by rw [Nat.testBit_and, mask_bit, mask_bit, decide_eq_true h1, decide_eq_true h2]; rfl
    rw [h0, Nat.zero_testBit] at this
    cases this
theorem mask_app {c : List Nat} {x : Nat} : maskOf c ||| 1 <<< x = maskOf (c ++ [x]) := by
  rw [show maskOf c ||| 1 <<< x = maskOf (x :: c) from rfl]
  exact mask_congr fun y => by simp only [List.mem_cons, List.mem_append, List.not_mem_nil, or_false]; exact or_comm
end Go.Sx

