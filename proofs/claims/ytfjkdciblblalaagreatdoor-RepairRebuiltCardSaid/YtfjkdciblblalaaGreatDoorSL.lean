/- Plain: which fragment is with whom, as the law RepairRebuilt follows it. -/
import Derived.Test.YtfjkdciblblalaaGreatDoorSK
import Derived.Test.YtfjkdciblblalaaGreatDoorCC
namespace Go.Sx
open Go Go.Proofs
def of0 (holders lost : List Int) : Nat → Nat → Int
  | 0, _ => -1
  | i + 1, h => if (i : Int) ∉ lost ∧ (at' holders i).toNat = h then (i : Int) else of0 holders lost i h
def kp0 (s : ByteArray) (k : Nat) (holders lost : List Int) : Nat → Nat → ByteArray
  | 0, _ => noStr
  | i + 1, h => if (i : Int) ∉ lost ∧ (at' holders i).toNat = h then codeA s k i else kp0 s k holders lost i h
theorem of0_a {holders lost : List Int} (hc : custs holders) : ∀ (i : Nat), i ≤ holders.length → ∀ h, of0 holders lost i h = -1 ∨ ∃ f : Nat, f < i ∧ (f : Int) ∉ lost ∧ of0 holders lost i h = f ∧ at' holders f = h
  | 0, _, h => .inl rfl
  | i + 1, hi, h => by
    unfold of0
    by_cases e : (i : Int) ∉ lost ∧ (at' holders i).toNat = h
    · rw [if_pos e]
      have := hc.2 _ (at_mem (show i < holders.length by omega))
      exact .inr ⟨i, by omega, e.1, rfl, by omega⟩
    · rw [if_neg e]
      rcases of0_a hc i (by omega) h with h1 | ⟨f, h1, h2⟩
      · exact .inl h1
      · exact .inr ⟨f, by omega, h2⟩
theorem kp0_b (s : ByteArray) (k : Nat) (holders lost : List Int) : ∀ (i h : Nat), 0 ≤ of0 holders lost i h → kp0 s k holders lost i h = codeA s k (of0 holders lost i h).toNat
  | 0, h => fun h0 => by unfold of0 at h0; omega
  | i + 1, h => by
    unfold of0 kp0
    by_cases e : (i : Int) ∉ lost ∧ (at' holders i).toNat = h
    · rw [if_pos e, if_pos e]; intro _; rfl
    · rw [if_neg e, if_neg e]; exact kp0_b s k holders lost i h
theorem of0_c {holders lost : List Int} (hc : custs holders) : ∀ (i : Nat), i ≤ holders.length → ∀ f : Nat, f < i → (f : Int) ∉ lost → of0 holders lost i (at' holders f).toNat = f
  | 0, _, f, hf, _ => by omega
  | i + 1, hi, f, hf, hl => by
    unfold of0
    by_cases e : f = i
    · subst e; rw [if_pos ⟨hl, rfl⟩]
    · have h1 := hc.2 _ (at_mem (show i < holders.length by omega))
      have h2 := hc.2 _ (at_mem (show f < holders.length by omega))
      rw [if_neg fun h => e (nodup_at.1 hc.1 f i (by omega) (by omega) (by omega))]
      exact of0_c hc i (by omega) f (by omega) hl
theorem held_init (s : ByteArray) (k : Nat) {holders lost : List Int} (tos : List Int) (hc : custs holders) : Held holders.length holders lost tos s k 0 (of0 holders lost holders.length) (kp0 s k holders lost holders.length) :=
  ⟨fun h _ => by
    rcases of0_a hc holders.length (Nat.le_refl _) h with h1 | h1
    · exact .inl h1
    · exact .inr (.inl h1), fun h _ h0 => kp0_b s k holders lost _ h h0, fun f hf hl => of0_c hc _ (Nat.le_refl _) f hf hl, fun q hq => by omega⟩
/- the place of the next that is lost -/
structure LostAt (lost : List Int) (i a : Nat) : Prop where
  le : a ≤ lost.length
  lo : ∀ j, j < a → at' lost j < i
  hi : ∀ j, a ≤ j → j < lost.length → (i : Int) ≤ at' lost j
theorem LostAt.zero {n : Nat} {lost : List Int} (h : ascTo n lost lost.length) : LostAt lost 0 0 := ⟨Nat.zero_le _, fun j hj => by omega, fun j _ hj => (h j hj).1.1⟩
theorem LostAt.yes {n : Nat} {lost : List Int} {i a : Nat} (hasc : ascTo n lost lost.length) (h : LostAt lost i a) (ha : a < lost.length) (e : at' lost a = i) : (i : Int) ∈ lost ∧ LostAt lost (i + 1) (a + 1) :=
  ⟨by rw [← e]; exact at_mem ha, ha, fun j hj => by
    by_cases h1 : j = a
    · subst h1; omega
    · have := h.lo j (by omega); omega, fun j h1 h2 => by
    have := asc_lt hasc (show a < j by omega) h2; omega⟩
theorem LostAt.no {lost : List Int} {i a : Nat} {n : Nat} (hasc : ascTo n lost lost.length) (h : LostAt lost i a) (e : ¬ (a < lost.length ∧ at' lost a = i)) : (i : Int) ∉ lost ∧ LostAt lost (i + 1) a := by
  have key : ∀ j, a ≤ j → j < lost.length → (i : Int) < at' lost j := fun j h1 h2 => by
    have h3 := h.hi j h1 h2
    by_cases h4 : j = a
    · subst h4
      have : at' lost j ≠ i := fun h5 => e ⟨h2, h5⟩
      omega
    · have h5 := asc_lt hasc (show a < j by omega) h2
      have h6 := h.hi a (Nat.le_refl _) (by omega)
      omega
  refine ⟨fun hm => ?_, h.le, fun j hj => ?_, fun j h1 h2 => ?_⟩
  · obtain ⟨j, hj, ej⟩ := mem_at hm
    by_cases h1 : j < a
    · have := h.lo j h1; omega
    · have := key j (by omega) hj; omega
  · have := h.lo j hj; omega
  · have := key j h1 h2; omega
/- what is there -/
theorem tf_fun {n i : Nat} (p : Nat → Bool) (h : i < n) : tf ((List.range n).map p) i = p i := by simp [tf, h]
theorem agree_p (s : ByteArray) (n : Nat) (p : Nat → Bool) (k : Nat) {l : List Nat} (hk : 1 ≤ k) (hn : n ≤ 9) (hd : l.Nodup) (hl : ∀ i ∈ l, i < n ∧ p i = true) (hc : k ≤ l.length) :
    Agree ((List.range n).map fun i => if p i = true then codeA s k i else noStr) ((List.range n).map p) s k :=
  ⟨hk, by simp; omega, fun i hi ht => by
    have hi' : i < n := by simpa using hi
    rw [tf_fun p hi'] at ht
    rw [fr_range _ hi', if_pos ht], enough_of hd (fun i hi => ⟨by simpa using (hl i hi).1, by rw [tf_fun p (hl i hi).1]; exact (hl i hi).2⟩) hc⟩
/-- The fragments of some custodians. -/
def nums (o : Nat → Int) (l : List Int) : List Nat := l.map fun c => (o c.toNat).toNat
theorem nums_zero (o : Nat → Int) (l : List Int) : nums o (l.take 0) = [] := rfl
theorem nums_take (o : Nat → Int) {l : List Int} {m : Nat} (h : m < l.length) : nums o (l.take (m + 1)) = nums o (l.take m) ++ [(o (at' l m).toNat).toNat] := by
  unfold nums
  rw [List.take_add_one, List.map_append]
  simp [at', h]
section
variable {n : Nat} {holders lost tos : List Int} {S : ByteArray} {k j : Nat} {o : Nat → Int} {kept : Nat → ByteArray}
theorem Held.nums (h : Held n holders lost tos S k j o kept) (hasc : ascTo n lost lost.length) (hj : j ≤ lost.length) {l : List Int} (hd : l.Nodup) (hl : ∀ c ∈ l, (0 ≤ c ∧ c ≤ 8) ∧ 0 ≤ o c.toNat) :
    (nums o l).Nodup ∧ ∀ x ∈ nums o l, x < n := by
  constructor
  · unfold Go.Sx.nums
    rw [List.nodup_iff_pairwise_ne, List.pairwise_map]
    rw [List.nodup_iff_pairwise_ne] at hd
    refine hd.imp_of_mem fun {a b} ha hb hne e => hne ?_
    have h1 := hl a ha
    have h2 := hl b hb
    have := h.inj hasc hj (p := a.toNat) (q := b.toNat) (by omega) (by omega) h1.2 (by omega)
    omega
  · intro x hx
    obtain ⟨c, hc, rfl⟩ := List.mem_map.1 hx
    have h1 := hl c hc
    have := h.lt hasc hj (q := c.toNat) (by omega) h1.2
    omega
/-- Who sends has a fragment. -/
theorem Held.src (h : Held n holders lost tos S k j o kept) (hasc : ascTo n lost lost.length) (hj : j ≤ lost.length) (htl : tos.length = lost.length) (hn : n = holders.length) (hh : custs holders) (hto : custs tos) {c : Int} (hc : c ∈ survS holders lost ∨ ∃ q, q < j ∧ at' tos q = c) : (0 ≤ c ∧ c ≤ 8) ∧ 0 ≤ o c.toNat := by
  rcases hc with hc | ⟨q, hq, rfl⟩
  · unfold survS at hc
    obtain ⟨f, hf, rfl⟩ := List.mem_map.1 hc
    have h1 := List.mem_filter.1 hf
    have h2 := List.mem_range.1 h1.1
    have h3 := hh.2 _ (at_mem h2)
    have h4 := h.c f (by omega) (by simpa using h1.2)
    exact ⟨h3, by omega⟩
  · have h1 := hto.2 _ (at_mem (show q < tos.length by omega))
    have h2 := h.d q hq
    have h3 := (hasc q (by omega)).1
    exact ⟨h1, by omega⟩
/-- In the end all are held. -/
theorem Held.all (h : Held n holders lost tos S k lost.length o kept) (htl : tos.length = lost.length) (hn : n = holders.length) (hh : custs holders) (hto : custs tos) {x : Nat} (hx : x < n) : ∃ q, q < 9 ∧ o q = x := by
  by_cases hl : (x : Int) ∈ lost
  · obtain ⟨q, hq, e⟩ := mem_at hl
    have h1 := hto.2 _ (at_mem (show q < tos.length by omega))
    exact ⟨(at' tos q).toNat, by omega, by rw [h.d q hq, e]⟩
  · have h1 := hh.2 _ (at_mem (show x < holders.length by omega))
    exact ⟨(at' holders x).toNat, by omega, h.c x hx hl⟩
end
/-- Some of n, beginning anywhere. -/
theorem turn_nodup {n m k : Nat} (hn : 0 < n) (hk : k ≤ n) : ((List.range k).map fun i => (m + i) % n).Nodup ∧ ∀ x ∈ (List.range k).map fun i => (m + i) % n, x < n := by
  constructor
  · rw [List.nodup_iff_pairwise_ne, List.pairwise_map]
    have := List.nodup_range (n := k)
    rw [List.nodup_iff_pairwise_ne] at this
    refine this.imp_of_mem fun {a b} ha hb hne e => hne ?_
    have h1 := List.mem_range.1 ha
    have h2 := List.mem_range.1 hb
    have e1 : (m + a) % n = (m + b) % n := e
    have h3 := Nat.sub_mod_eq_zero_of_mod_eq e1
    have h4 := Nat.sub_mod_eq_zero_of_mod_eq e1.symm
    rw [Nat.mod_eq_of_lt (by omega)] at h3 h4
    omega
  · intro x hx
    obtain ⟨i, -, rfl⟩ := List.mem_map.1 hx
    exact Nat.mod_lt _ hn
theorem row_one {n i : Nat} {f g : Nat → Value} {v : Value} (h1 : g i = v) (h2 : ∀ q, q < n → q ≠ i → f q = g q) : (row n f).set i v = row n g := by
  rw [row_set]
  refine row_congr fun q hq => ?_
  by_cases e : q = i
  · subst e; rw [if_pos rfl, h1]
  · rw [if_neg e]; exact h2 q hq e
theorem of0_zero (holders lost : List Int) (q : Nat) : of0 holders lost 0 q = -1 := rfl
theorem kp0_zero (s : ByteArray) (k : Nat) (holders lost : List Int) (q : Nat) : kp0 s k holders lost 0 q = noStr := rfl
theorem of0_skip {holders lost : List Int} {i : Nat} (h : (i : Int) ∈ lost) (q : Nat) : of0 holders lost (i + 1) q = of0 holders lost i q := by
  show (if _ then _ else _) = _
  rw [if_neg fun e => e.1 h]
theorem kp0_skip {s : ByteArray} {k : Nat} {holders lost : List Int} {i : Nat} (h : (i : Int) ∈ lost) (q : Nat) : kp0 s k holders lost (i + 1) q = kp0 s k holders lost i q := by
  show (if _ then _ else _) = _
  rw [if_neg fun e => e.1 h]
theorem of0_put {holders lost : List Int} {i : Nat} (h : (i : Int) ∉ lost) (q : Nat) : of0 holders lost (i + 1) q = if q = (at' holders i).toNat then (i : Int) else of0 holders lost i q := by
  show (if _ then _ else _) = _
  by_cases e : q = (at' holders i).toNat
  · rw [if_pos ⟨h, e.symm⟩, if_pos e]
  · rw [if_neg fun x => e x.2.symm, if_neg e]
theorem kp0_put {s : ByteArray} {k : Nat} {holders lost : List Int} {i : Nat} (h : (i : Int) ∉ lost) (q : Nat) : kp0 s k holders lost (i + 1) q = if q = (at' holders i).toNat then codeA s k i else kp0 s k holders lost i q := by
  show (if _ then _ else _) = _
  by_cases e : q = (at' holders i).toNat
  · rw [if_pos ⟨h, e.symm⟩, if_pos e]
  · rw [if_neg fun x => e x.2.symm, if_neg e]
theorem bools_fun (n : Nat) (f : Nat → Bool) : bools ((List.range n).map f) = row n fun q => .bool (f q) := by simp [bools, row]
/-- One of the first i holds fragment x. -/
def hasO (o : Nat → Int) (i x : Nat) : Bool := (List.range i).any fun q => decide (o q = (x : Int))
theorem hasO_zero (o : Nat → Int) (x : Nat) : hasO o 0 x = false := rfl
theorem hasO_step (o : Nat → Int) (i x : Nat) : hasO o (i + 1) x = (hasO o i x || decide (o i = (x : Int))) := by
  unfold hasO
  rw [List.range_succ, List.any_append]
  simp
theorem hasO_of {o : Nat → Int} {i x q : Nat} (h : q < i) (e : o q = (x : Int)) : hasO o i x = true := by
  unfold hasO
  rw [List.any_eq_true]
  exact ⟨q, List.mem_range.2 h, decide_eq_true e⟩
/-- From i on, k of n. -/
def turnL (m n k : Nat) : List Nat := (List.range k).map fun i => (m + i) % n
theorem turnL_zero (m n : Nat) : turnL m n 0 = [] := rfl
theorem turnL_step (m n k : Nat) : turnL m n (k + 1) = turnL m n k ++ [(m + k) % n] := by
  unfold turnL
  rw [List.range_succ, List.map_append]; rfl
theorem plan_fields {surv lost tos : List Int} {width k d : Nat} (htl : tos.length = lost.length) (h : (planAt surv lost tos width k d).length = lost.length) {i : Nat} (hi : i < (planAt surv lost tos width k d).length) : (tr (planAt surv lost tos width k d) i).frag = at' lost i ∧ (tr (planAt surv lost tos width k d) i).tos = at' tos i := by
  have h1 := plan_map (surv := surv) (width := width) (k := k) htl d
  rw [h, List.take_of_length_le (by omega), List.take_of_length_le (Nat.le_refl _)] at h1
  exact ⟨at_map (f := Tr.frag) h1.2 hi, at_map (f := Tr.tos) h1.1 hi⟩
end Go.Sx

