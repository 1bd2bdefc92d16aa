/- Plain: the fragments of a string are the values of polynomials. -/
import Derived.Test.YtacamanakmeebaaDoorGF
import Derived.Test.YtacamanakmeebaaDoorGP
namespace Go.Sx
open F
def toF (n : Nat) : F := ⟨n % 256, Nat.mod_lt _ (by decide)⟩
theorem toF_n {n : Nat} (h : n < 256) : (toF n).n = n := Nat.mod_eq_of_lt h
theorem toF_self (a : F) : toF a.n = a := F.ext' (Nat.mod_eq_of_lt a.lt)
theorem toF_xor {a b : Nat} (ha : a < 256) (hb : b < 256) : toF (a ^^^ b) = toF a + toF b := F.ext' (by
  rw [toF_n (Nat.xor_lt_two_pow (n := 8) ha hb), F.add_n, toF_n ha, toF_n hb])
theorem toF_mul {a b : Nat} (ha : a < 256) (hb : b < 256) : toF (mulN a b) = toF a * toF b := F.ext' (by
  rw [toF_n mulN_lt, F.mul_n, toF_n ha, toF_n hb])
theorem toF_inv {a : Nat} (ha : a < 256) : toF (invN a) = inv (toF a) := F.ext' (by
  rw [toF_n (invN_lt ha)]; show _ = invN (toF a).n; rw [toF_n ha])
theorem toF_inj {a b : Nat} (ha : a < 256) (hb : b < 256) (h : toF a = toF b) : a = b := by
  have := congrArg F.n h
  rwa [toF_n ha, toF_n hb] at this
theorem inv_one : inv F.one = F.one := by decide +kernel
theorem inv_mul {a b : F} (ha : a ≠ F.zero) (hb : b ≠ F.zero) : inv (a * b) = inv a * inv b := by
  have hab : a * b ≠ F.zero := fun h => by
    rcases F.mul_eq_zero h with e | e
    · exact ha e
    · exact hb e
  have h1 := F.mul_inv hab
  have h2 := F.mul_inv ha
  have h3 := F.mul_inv hb
  calc inv (a * b) = inv (a * b) * F.one := (F.mul_one _).symm
    _ = inv (a * b) * (F.one * F.one) := by rw [F.mul_one F.one]
    _ = inv (a * b) * ((a * inv a) * (b * inv b)) := by rw [h2, h3]
    _ = ((a * b) * inv (a * b)) * (inv a * inv b) := by simp only [F.mul_assoc, F.mul_left_comm, F.mul_comm]
    _ = inv a * inv b := by rw [h1, F.one_mul]
/-- A fold from the left with products, as a product over the list. -/
theorem foldl_mul (f : Nat → Option F) (g : Nat → Nat → Nat) (l : List Nat) (hg : ∀ h ∈ l, ∀ acc, acc < 256 → g acc h < 256 ∧ toF (g acc h) = match f h with | some v => toF acc * v | none => toF acc) :
    ∀ acc, acc < 256 → toF (l.foldl g acc) = toF acc * l.foldr (fun h a => match f h with | some v => v * a | none => a) F.one := by
  induction l with
  | nil => intro acc _; exact (F.mul_one _).symm
  | cons h l ih =>
    intro acc ha
    obtain ⟨h1, h2⟩ := hg h (by simp) acc ha
    rw [List.foldl_cons, ih (fun h' hh => hg h' (by simp [hh])) _ h1, h2, List.foldr_cons]
    cases f h with
    | none => rfl
    | some v => exact F.mul_assoc _ _ _
theorem wgt_La (nums : List Nat) (hn : ∀ i ∈ nums, i < 256) (x i : Nat) (hx : x < 256) (hi : i < 256) : toF (wgt nums x i) = La (nums.map toF) (toF i) (toF x) := by
  have h1 : toF (bel nums i) = inv (pr (nums.map toF) (toF i) (toF i)) := by
    have key : ∀ l : List Nat, (∀ j ∈ l, j < 256) → l.foldr (fun h a => match (if h = i then none else some (inv (toF i + toF h))) with | some v => v * a | none => a) F.one = inv (pr (l.map toF) (toF i) (toF i)) := by
      intro l
      induction l with
      | nil => intro _; exact inv_one.symm
      | cons h l ih =>
        intro hl
        have ih := ih fun j hj => hl j (by simp [hj])
        have hh := hl h (by simp)
        rw [List.foldr_cons, ih]
        show _ = inv (if toF h = toF i then pr (l.map toF) (toF i) (toF i) else (toF i + toF h) * pr (l.map toF) (toF i) (toF i))
        by_cases e : h = i
        · subst e; rw [if_pos rfl, if_pos rfl]
        · have e' : ¬ toF h = toF i := fun e' => e (toF_inj hh hi e')
          rw [if_neg e, if_neg e']
          show inv (toF i + toF h) * inv _ = _
          rw [inv_mul (F.add_ne fun e2 => e' e2.symm) (pr_ne _ _)]
    have := foldl_mul (fun h => if h = i then none else some (inv (toF i + toF h))) (belS i) nums (fun h hh acc ha => by
      unfold belS
      by_cases e : h = i
      · simp only [e, if_true]; exact ⟨ha, trivial⟩
      · simp only [e, if_false]
        have hx := Nat.xor_lt_two_pow (n := 8) hi (hn h hh)
        exact ⟨mulN_lt, by rw [toF_mul ha (invN_lt hx), toF_inv hx, toF_xor hi (hn h hh)]⟩) 1 (by decide)
    unfold bel
    rw [this, key nums hn]
    exact F.one_mul _
  have key : ∀ l : List Nat, (∀ j ∈ l, j < 256) → l.foldr (fun h a => match (if h = i then none else some (toF x + toF h)) with | some v => v * a | none => a) F.one = pr (l.map toF) (toF i) (toF x) := by
    intro l
    induction l with
    | nil => intro _; rfl
    | cons h l ih =>
      intro hl
      have ih := ih fun j hj => hl j (by simp [hj])
      have hh := hl h (by simp)
      rw [List.foldr_cons, ih]
      show _ = (if toF h = toF i then pr (l.map toF) (toF i) (toF x) else (toF x + toF h) * pr (l.map toF) (toF i) (toF x))
      by_cases e : h = i
      · subst e; rw [if_pos rfl, if_pos rfl]
      · have e' : ¬ toF h = toF i := fun e' => e (toF_inj hh hi e')
        rw [if_neg e, if_neg e']
  have := foldl_mul (fun h => if h = i then none else some (toF x + toF h)) (outS i x) nums (fun h hh acc ha => by
    unfold outS
    by_cases e : h = i
    · simp only [e, if_true]; exact ⟨ha, trivial⟩
    · simp only [e, if_false]
      have hxh := Nat.xor_lt_two_pow (n := 8) hx (hn h hh)
      exact ⟨mulN_lt, by rw [toF_mul ha hxh, toF_xor hx (hn h hh)]⟩) (bel nums i) (bel_lt _ _)
  unfold wgt
  rw [this, key nums hn, h1, F.mul_comm]
  rfl
theorem cmpS_sum (frs : List ByteArray) (W : Nat → Nat) (q : Nat) (hW : ∀ i, W i < 256) : ∀ (nums : List Nat) (acc : Nat), acc < 256 →
    toF (nums.foldl (cmpF frs W q) acc) = toF acc + nums.foldr (fun i a => toF (W i) * toF (sb (fr frs i) q) + a) F.zero
  | [], _, _ => (F.add_zero _).symm
  | i :: l, acc, h => by
    have h1 : mulN (W i) (sb (fr frs i) q) < 256 := mulN_lt
    show toF (l.foldl (cmpF frs W q) (acc ^^^ mulN (W i) (sb (fr frs i) q))) = _
    rw [cmpS_sum frs W q hW l _ (Nat.xor_lt_two_pow (n := 8) h h1), List.foldr_cons]
    rw [toF_xor h h1, toF_mul (hW i) (sb_lt _ _), F.add_assoc]
theorem wgtA_lt (nums : List Nat) (x j : Nat) : wgtA nums x j < 256 := by
  unfold wgtA; split
  · exact wgt_lt _ _ _
  · decide
/-- A byte that is computed is a value of the polynomial through those that are given. -/
theorem cmpS_interp (frs : List ByteArray) (nums : List Nat) (hn : ∀ i ∈ nums, i < 256) (x q : Nat) (hx : x < 256) :
    toF (cmpS frs nums (wgtA nums x) q) = interp (nums.map toF) (fun i => toF (sb (fr frs i.n) q)) (toF x) := by
  unfold cmpS
  rw [cmpS_sum frs _ q (wgtA_lt nums x) nums 0 (by decide)]
  have h0 : toF 0 = F.zero := rfl
  rw [h0, F.zero_add]
  unfold interp F.sum
  have key : ∀ l : List Nat, (∀ i ∈ l, i ∈ nums) → l.foldr (fun i a => toF (wgtA nums x i) * toF (sb (fr frs i) q) + a) F.zero = (l.map toF).foldr (fun i a => toF (sb (fr frs i.n) q) * La (nums.map toF) i (toF x) + a) F.zero := by
    intro l
    induction l with
    | nil => intro _; rfl
    | cons i l ih =>
      intro hl
      have hi := hl i (by simp)
      rw [List.foldr_cons, List.map_cons, List.foldr_cons, ih fun j hj => hl j (by simp [hj])]
      have : wgtA nums x i = wgt nums x i := by unfold wgtA; rw [if_pos hi]
      rw [this, wgt_La nums hn x i hx (hn i hi), toF_n (hn i hi), F.mul_comm]
  exact key nums fun _ h => h
theorem map_toF_nodup {l : List Nat} (h : l.Nodup) (hl : ∀ i ∈ l, i < 256) : (l.map toF).Nodup := by
  induction l with
  | nil => simp
  | cons x l ih =>
    obtain ⟨h1, h2⟩ := List.nodup_cons.1 h
    rw [List.map_cons, List.nodup_cons]
    refine ⟨fun hx => ?_, ih h2 fun i hi => hl i (by simp [hi])⟩
    obtain ⟨y, hy, e⟩ := List.mem_map.1 hx
    have := toF_inj (hl y (by simp [hy])) (hl x (by simp)) e
    subst this
    exact h1 hy
/-- The polynomial of byte q of the fragments of s. -/
def polyOf (s : ByteArray) (k q : Nat) (x : F) : F := interp ((List.range k).map toF) (fun i => toF (sb (partOf s k i.n) q)) x
theorem range_nodup (k : Nat) (hk : k ≤ 256) : ((List.range k).map toF).Nodup := map_toF_nodup List.nodup_range (fun i hi => by have := List.mem_range.1 hi; omega)
theorem polyOf_isP (s : ByteArray) (k q : Nat) (hk : k ≤ 256) : IsP k (polyOf s k q) := by
  have := interp_isP (range_nodup k hk) (fun i => toF (sb (partOf s k i.n) q))
  rwa [List.length_map, List.length_range] at this
theorem codeA_poly (s : ByteArray) (k j q : Nat) (hk : k ≤ 256) (hj : j < 256) (hq : q < mOf s.size k) : toF (sb (codeA s k j) q) = polyOf s k q (toF j) := by
  by_cases h : j < k
  · unfold polyOf
    rw [interp_at (range_nodup k hk) _ (List.mem_map_of_mem (List.mem_range.2 h)), toF_n hj]
    simp only [codeA, h, if_true]
  · simp only [codeA, h, if_false]
    rw [cmpStr_sb _ _ _ _ _ hq, cmpS_interp _ _ (fun i hi => by have := List.mem_range.1 hi; omega) _ _ hj]
    unfold polyOf interp
    have key : ∀ l : List F, (∀ i ∈ l, i.n < k) → F.sum l (fun i => toF (sb (fr (parts s k) i.n) q) * La ((List.range k).map toF) i (toF j)) = F.sum l (fun i => toF (sb (partOf s k i.n) q) * La ((List.range k).map toF) i (toF j)) := by
      intro l
      induction l with
      | nil => intro _; rfl
      | cons i l ih =>
        intro hl
        have hi := hl i (by simp)
        have e := ih fun i' hi' => hl i' (by simp [hi'])
        unfold F.sum at e ⊢
        rw [List.foldr_cons, List.foldr_cons, e]
        show toF (sb (fr (parts s k) i.n) q) * _ + _ = toF (sb (partOf s k i.n) q) * _ + _
        rw [parts_fr s hi]
        simp only [codeA, hi, if_true]
    refine key _ fun i hi => ?_
    obtain ⟨a, ha, rfl⟩ := List.mem_map.1 hi
    have := List.mem_range.1 ha
    rw [toF_n (by omega)]; exact this
end Go.Sx

