/- Plain: the fragments of a string are the values of polynomials. -/
import Derived.Test.YtfjkdciblblalaaDoorGF
import Derived.Test.YtfjkdciblblalaaDoorGP
import Derived.Test.YtfjkdciblblalaaDoorHB
namespace Go.Sx
open F
def toF (n : Nat) : F := ⟨n % 256, Nat.mod_lt _ (by decide)⟩
theorem toF_n {n : Nat} (h : n < 256) : (toF n).n = n := Nat.mod_eq_of_lt h
theorem toF_self (a : F) : toF a.n = a := F.ext' (Nat.mod_eq_of_lt a.lt)
theorem toF_xor {a b : Nat} (ha : a < 256) (hb : b < 256) : toF (a ^^^ b) = toF a + toF b := F.ext' (by
  rw [toF_n (Nat.xor_lt_two_pow (n := 8) ha hb), F.add_n, toF_n ha, toF_n hb])
theorem toF_mul {a b : Nat} (ha : a < 256) (hb : b < 256) : toF (mulN a b) = toF a * toF b := F.ext' (by
  rw [toF_n mulN_lt, F.mul_n, toF_n ha, toF_n hb])
theorem toF_inv {a : Nat} (ha : a < 256) : toF (invN a) = inv (toF a) := F.ext' (by
  rw [toF_n (invN_lt ha)]; show _ = invN (toF a).n; rw [toF_n ha])
theorem toF_inj {a b : Nat} (ha : a < 256) (hb : b < 256) (h : toF a = toF b) : a = b := by
  have := congrArg F.n h
  rwa [toF_n ha, toF_n hb] at this
theorem inv_one : inv F.one = F.one := by decide +kernel
theorem inv_mul {a b : F} (ha : a ≠ F.zero) (hb : b ≠ F.zero) : inv (a * b) = inv a * inv b := by
  have hab : a * b ≠ F.zero := fun h => by
    rcases F.mul_eq_zero h with e | e
    · exact ha e
    · exact hb e
  have h1 := F.mul_inv hab
  have h2 := F.mul_inv ha
  have h3 := F.mul_inv hb
  calc inv (a * b) = inv (a * b) * F.one := (F.mul_one _).symm
    _ = inv (a * b) * (F.one * F.one) := by rw [F.mul_one F.one]
    _ = inv (a * b) * ((a * inv a) * (b * inv b)) := by rw [h2, h3]
    _ = ((a * b) * inv (a * b)) * (inv a * inv b) := by simp only [F.mul_assoc, F.mul_left_comm, F.mul_comm]
    _ = inv a * inv b := by rw [h1, F.one_mul]
/-- A fold from the left with products, as a product over the list. -/
theorem foldl_mul (f : Nat → Option F) (g : Nat → Nat → Nat) (l : List Nat) (hg : ∀ h ∈ l, ∀ acc, acc < 256 → g acc h < 256 ∧ toF (g acc h) = match f h with | some v => toF acc * v | none => toF acc) :
    ∀ acc, acc < 256 → toF (l.foldl g acc) = toF acc * l.foldr (fun h a => match f h with | some v => v * a | none => a) F.one := by
  induction l with
  | nil => intro acc _; exact (F.mul_one _).symm
  | cons h l ih =>
    intro acc ha
    obtain ⟨h1, h2⟩ := hg h (by simp) acc ha
    rw [List.foldl_cons, ih (fun h' hh => hg h' (by simp [hh])) _ h1, h2, List.foldr_cons]
    cases f h with
    | none => rfl
    | some v => exact F.mul_assoc _ _ _
theorem wgt_La (nums : List Nat) (hn : ∀ i ∈ nums, i < 256) (x i : Nat) (hx : x < 256) (hi : i < 256) : toF (wgt nums x i) = La (nums.map toF) (toF i) (toF x) := by
  have h1 : toF (bel nums i) = inv (pr (nums.map toF) (toF i) (toF i)) := by
    have key : ∀ l : List Nat, (∀ j ∈ l, j < 256) → l.foldr (fun h a => match (if h = i then none else some (inv (toF i + toF h))) with | some v => v * a | none => a) F.one = inv (pr (l.map toF) (toF i) (toF i)) := by
      intro l
      induction l with
      | nil => intro _; exact inv_one.symm
      | cons h l ih =>
        intro hl
        have ih := ih fun j hj => hl j (by simp [hj])
        have hh := hl h (by simp)
        rw [List.foldr_cons, ih]
        show _ = inv (if toF h = toF i then pr (l.map toF) (toF i) (toF i) else (toF i + toF h) * pr (l.map toF) (toF i) (toF i))
        by_cases e : h = i
        · subst e; rw [if_pos rfl, if_pos rfl]
        · have e' : ¬ toF h = toF i := fun e' => e (toF_inj hh hi e')
          rw [if_neg e, if_neg e']
          show inv (toF i + toF h) * inv _ = _
          rw [inv_mul (F.add_ne fun e2 => e' e2.symm) (pr_ne _ _)]
    have := foldl_mul (fun h => if h = i then none else some (inv (toF i + toF h))) (belS i) nums (fun h hh acc ha => by
      unfold belS
      by_cases e : h = i
      · simp only [e, if_true]; exact ⟨ha, trivial⟩
      · simp only [e, if_false]
        have hx := Nat.xor_lt_two_pow (n := 8) hi (hn h hh)
        exact ⟨mulN_lt, by rw [toF_mul ha (invN_lt hx), toF_inv hx, toF_xor hi (hn h hh)]⟩) 1 (by decide)
    unfold bel
    rw [this, key nums hn]
    exact F.one_mul _
  have key : ∀ l : List Nat, (∀ j ∈ l, j < 256) → l.foldr (fun h a => match (if h = i then none else some (toF x + toF h)) with | some v => v * a | none => a) F.one = pr (l.map toF) (toF i) (toF x) := by
    intro l
    induction l with
    | nil => intro _; rfl
    | cons h l ih =>
      intro hl
      have ih := ih fun j hj => hl j (by simp [hj])
      have hh := hl h (by simp)
      rw [List.foldr_cons, ih]
      show _ = (if toF h = toF i then pr (l.map toF) (toF i) (toF x) else (toF x + toF h) * pr (l.map toF) (toF i) (toF x))
      by_cases e : h = i
      · subst e; rw [if_pos rfl, if_pos rfl]
      · have e' : ¬ toF h = toF i := fun e' => e (toF_inj hh hi e')
        rw [if_neg e, if_neg e']
  have := foldl_mul (fun h => if h = i then none else some (toF x + toF h)) (outS i x) nums (fun h hh acc ha => by
    unfold outS
    by_cases e : h = i
    · simp only [e, if_true]; exact ⟨ha, trivial⟩
    · simp only [e, if_false]
      have hxh := Nat.xor_lt_two_pow (n := 8) hx (hn h hh)
      exact ⟨mulN_lt, by rw [toF_mul ha hxh, toF_xor hx (hn h hh)]⟩) (bel nums i) (bel_lt _ _)
  unfold wgt
  rw [this, key nums hn, h1, F.mul_comm]
  rfl
theorem cmpS_sum (frs : List ByteArray) (W : Nat → Nat) (q : Nat) (hW : ∀ i, W i < 256) : ∀ (nums : List Nat) (acc : Nat), acc < 256 →
    toF (nums.foldl (cmpF frs W q) acc) = toF acc + nums.foldr (fun i a => toF (W i) * toF (sb (fr frs i) q) + a) F.zero
  | [], _, _ => (F.add_zero _).symm
  | i :: l, acc, h => by
    have h1 : mulN (W i) (sb (fr frs i) q) < 256 := mulN_lt
    show toF (l.foldl (cmpF frs W q) (acc ^^^ mulN (W i) (sb (fr frs i) q))) = _
    rw [cmpS_sum frs W q hW l _ (Nat.xor_lt_two_pow (n := 8) h h1), List.foldr_cons]
    rw [toF_xor h h1, toF_mul (hW i) (sb_lt _ _), F.add_assoc]
theorem wgtA_lt (nums : List Nat) (x j : Nat) : wgtA nums x j < 256 := by
  unfold wgtA; split
  · exact wgt_lt _ _ _
  · decide
/-- A byte that is computed is a value of the polynomial through those that are given. -/
theorem cmpS_interp (frs : List ByteArray) (nums : List Nat) (hn : ∀ i ∈ nums, i < 256) (x q : Nat) (hx : x < 256) :
    toF (cmpS frs nums (wgtA nums x) q) = interp (nums.map toF) (fun i => toF (sb (fr frs i.n) q)) (toF x) := by
  unfold cmpS
  rw [cmpS_sum frs _ q (wgtA_lt nums x) nums 0 (by decide)]
  have h0 : toF 0 = F.zero := rfl
  rw [h0, F.zero_add]
  unfold interp F.sum
  have key : ∀ l : List Nat, (∀ i ∈ l, i ∈ nums) → l.foldr (fun i a => toF (wgtA nums x i) * toF (sb (fr frs i) q) + a) F.zero = (l.map toF).foldr (fun i a => toF (sb (fr frs i.n) q) * La (nums.map toF) i (toF x) + a) F.zero := by
    intro l
    induction l with
    | nil => intro _; rfl
    | cons i l ih =>
      intro hl
      have hi := hl i (by simp)
      rw [List.foldr_cons, List.map_cons, List.foldr_cons, ih fun j hj => hl j (by simp [hj])]
      have : wgtA nums x i = wgt nums x i := by unfold wgtA; rw [if_pos hi]
      rw [this, wgt_La nums hn x i hx (hn i hi), toF_n (hn i hi), F.mul_comm]
  exact key nums fun _ h => h
theorem map_toF_nodup {l : List Nat} (h : l.Nodup) (hl : ∀ i ∈ l, i < 256) : (l.map toF).Nodup := by
  induction l with
  | nil => simp
  | cons x l ih =>
    obtain ⟨h1, h2⟩ := List.nodup_cons.1 h
    rw [List.map_cons, List.nodup_cons]
    refine ⟨fun hx => ?_, ih h2 fun i hi => hl i (by simp [hi])⟩
    obtain ⟨y, hy, e⟩ := List.mem_map.1 hx
    have := toF_inj (hl y (by simp [hy])) (hl x (by simp)) e
    subst this
    exact h1 hy
/-- The polynomial of byte q of the fragments of s. -/
def polyOf (s : ByteArray) (k q : Nat) (x : F) : F := interp ((List.range k).map toF) (fun i => toF (sb (partOf s k i.n) q)) x
theorem range_nodup (k : Nat) (hk : k ≤ 256) : ((List.range k).map toF).Nodup := map_toF_nodup List.nodup_range (fun i hi => by have := List.mem_range.1 hi; omega)
theorem polyOf_isP (s : ByteArray) (k q : Nat) (hk : k ≤ 256) : IsP k (polyOf s k q) := by
  have := interp_isP (range_nodup k hk) (fun i => toF (sb (partOf s k i.n) q))
  rwa [List.length_map, List.length_range] at this
theorem codeA_poly (s : ByteArray) (k j q : Nat) (hk : k ≤ 256) (hj : j < 256) (hq : q < mOf s.size k) : toF (sb (codeA s k j) q) = polyOf s k q (toF j) := by
  by_cases h : j < k
  · unfold polyOf
    rw [interp_at (range_nodup k hk) _ (List.mem_map_of_mem (List.mem_range.2 h)), toF_n hj]
    simp only [codeA, h, if_true]
  · simp only [codeA, h, if_false]
    rw [cmpStr_sb _ _ _ _ _ hq, cmpS_interp _ _ (fun i hi => by have := List.mem_range.1 hi; omega) _ _ hj]
    unfold polyOf interp
    have key : ∀ l : List F, (∀ i ∈ l, i.n < k) → F.sum l (fun i => toF (sb (fr (parts s k) i.n) q) * La ((List.range k).map toF) i (toF j)) = F.sum l (fun i => toF (sb (partOf s k i.n) q) * La ((List.range k).map toF) i (toF j)) := by
      intro l
      induction l with
      | nil => intro _; rfl
      | cons i l ih =>
        intro hl
        have hi := hl i (by simp)
        have e := ih fun i' hi' => hl i' (by simp [hi'])
        unfold F.sum at e ⊢
        rw [List.foldr_cons, List.foldr_cons, e]
        show toF (sb (fr (parts s k) i.n) q) * _ + _ = toF (sb (partOf s k i.n) q) * _ + _
        rw [parts_fr s hi]
        simp only [codeA, hi, if_true]
    refine key _ fun i hi => ?_
    obtain ⟨a, ha, rfl⟩ := List.mem_map.1 hi
    have := List.mem_range.1 ha
    rw [toF_n (by omega)]; exact this
end Go.Sx
/- Plain: whichever k fragments are there, all are got back. -/
namespace Go.Sx
open F
theorem sb_ext {a b : ByteArray} (hs : a.size = b.size) (h : ∀ q, q < a.size → sb a q = sb b q) : a = b := by
  cases a with
  | mk a =>
  cases b with
  | mk b =>
  congr 1
  apply Array.ext
  · exact hs
  · intro i h1 h2
    have h3 := h i h1
    unfold sb at h3
    have e1 : a.toList.getD i 0 = a[i] := by simp [h1]
    have e2 : b.toList.getD i 0 = b[i] := by simp [h2]
    simp only at h3
    rw [e1, e2] at h3
    exact UInt8.toNat_inj.1 h3
theorem tnums_nodup (th : List Bool) (i k : Nat) : (tnums th i k).Nodup := by
  unfold tnums
  exact (List.nodup_range.sublist List.filter_sublist).sublist (List.take_sublist _ _)
theorem cOut_sb (frs : List ByteArray) (th : List Bool) (k j q : Nat) (hth : th.length ≤ 256) (hj : j < 256) (hq : q < cM frs th k) :
    toF (sb (cOut frs th k j) q) = interp ((cN th k).map toF) (fun i => toF (sb (fr frs i.n) q)) (toF j) := by
  unfold cOut
  rw [cmpStr_sb _ _ _ _ _ hq, cmpS_interp _ _ (fun i hi => by have := (tnums_mem hi).1; omega) _ _ hj]
theorem toF_sb_inj {a b : ByteArray} {q : Nat} (h : toF (sb a q) = toF (sb b q)) : sb a q = sb b q := toF_inj (sb_lt _ _) (sb_lt _ _) h
/-- What is there agrees with the fragments of s, and is enough: everything is got back. -/
structure Agree (frs : List ByteArray) (th : List Bool) (s : ByteArray) (k : Nat) : Prop where
  pos : 0 < k
  th9 : th.length ≤ 9
  eq : ∀ i, i < th.length → tf th i = true → fr frs i = codeA s k i
  enough : (cN th k).length = k
theorem Agree.k9 {frs : List ByteArray} {th : List Bool} {s : ByteArray} {k : Nat} (h : Agree frs th s k) : k ≤ 9 := by
  have h1 := h.enough
  have h2 : (cN th k).length ≤ th.length := tnums_len2 _ _ _
  have := h.th9
  omega
theorem Agree.cM {frs : List ByteArray} {th : List Bool} {s : ByteArray} {k : Nat} (h : Agree frs th s k) : cM frs th k = mOf s.size k := by
  unfold Go.Sx.cM
  have hp : 0 < (cN th k).length := by rw [h.enough]; exact h.pos
  have hm := tnums_mem (nu_mem hp)
  rw [show fr frs (nu (cN th k) 0) = codeA s k (nu (cN th k) 0) from h.eq _ hm.1 hm.2, codeA_size]
theorem Agree.out {frs : List ByteArray} {th : List Bool} {s : ByteArray} {k : Nat} (h : Agree frs th s k) (j : Nat) (hj : j < 256) : cOut frs th k j = codeA s k j := by
  have hk := h.k9
  have h9 := h.th9
  refine sb_ext (by rw [cOut_size, codeA_size, h.cM]) fun q hq => toF_sb_inj ?_
  rw [cOut_size] at hq
  rw [cOut_sb frs th k j q (by omega) hj hq]
  rw [h.cM] at hq
  rw [codeA_poly s k j q (by omega) hj hq]
  refine interp_poly (map_toF_nodup (tnums_nodup _ _ _) fun i hi => by have := (tnums_mem hi).1; omega) ((List.length_map _).trans h.enough) (polyOf_isP s k q (by omega)) ?_ _
  intro i hi
  obtain ⟨a, ha, rfl⟩ := List.mem_map.1 hi
  have hm := tnums_mem ha
  rw [toF_n (by omega), h.eq a hm.1 hm.2, codeA_poly s k a q (by omega) (by omega) hq]
theorem Agree.ok {frs : List ByteArray} {th : List Bool} {s : ByteArray} {k : Nat} (h : Agree frs th s k) (hl : frs.length = th.length) (hs : s.size ≤ 4096 * k) : CompOK frs th k := by
  have h1 := h.enough
  have h2 : (cN th k).length ≤ th.length := tnums_len2 _ _ _
  have h3 := h.th9
  have h4 := h.pos
  refine ⟨⟨by omega, by omega, by omega⟩, hl.symm, by rw [Int.toNat_natCast]; exact h1, fun i hi ht => ?_, fun i hi ht => ?_⟩
  · rw [Int.toNat_natCast, h.cM, h.eq i (by omega) ht, codeA_size]
    exact ⟨rfl, mOf_le h.pos hs⟩
  · rw [Int.toNat_natCast, h.out i (by omega), h.eq i (by omega) ht]
/-- The string is the beginning of its first k fragments; behind it there is nothing but zeros. -/
theorem catS_sb : ∀ (l : List ByteArray) (m : Nat), (∀ x ∈ l, x.size = m) → ∀ i q, i < l.length → q < m → sb (catS l) (i * m + q) = sb (fr l i) q
  | [], _, _, _, _, h, _ => by cases h
  | x :: l, m, hm, i, q, hi, hq => by
    have hx := hm x (by simp)
    have hc : (catS (x :: l)).data.toList = x.data.toList ++ (catS l).data.toList := by
      unfold catS
      simp
    have hxl : x.data.toList.length = m := by rw [ba_len, hx]
    unfold sb
    rw [hc]
    cases i with
    | zero =>
      have : 0 * m + q < x.data.toList.length := by omega
      rw [List.getD_eq_getElem?_getD, List.getElem?_append_left this, ← List.getD_eq_getElem?_getD]
      simp [fr]
    | succ i =>
      have h2 := catS_sb l m (fun y hy => hm y (by simp [hy])) i q (by simpa using hi) hq
      have h3 : (i + 1) * m + q = m + (i * m + q) := by rw [Nat.succ_mul]; omega
      rw [List.getD_eq_getElem?_getD, List.getElem?_append_right (by omega), ← List.getD_eq_getElem?_getD]
      unfold sb at h2
      rw [show (i + 1) * m + q - x.data.toList.length = i * m + q by omega, h2]
      rfl
theorem sb_append_left {a b : ByteArray} {i : Nat} (h : i < a.size) : sb (a ++ b) i = sb a i := by
  unfold sb
  have e : (a ++ b).data.toList = a.data.toList ++ b.data.toList := by simp
  rw [e, List.getD_eq_getElem?_getD, List.getElem?_append_left (by rw [ba_len]; exact h), ← List.getD_eq_getElem?_getD]
theorem sb_append_right {a b : ByteArray} {i : Nat} (h : a.size ≤ i) : sb (a ++ b) i = sb b (i - a.size) := by
  unfold sb
  have e : (a ++ b).data.toList = a.data.toList ++ b.data.toList := by simp
  rw [e, List.getD_eq_getElem?_getD, List.getElem?_append_right (by rw [ba_len]; exact h), ← List.getD_eq_getElem?_getD, ba_len]
theorem sb_zeros (n i : Nat) : sb (zeros n) i = 0 := by
  unfold sb zeros
  simp only [List.getD_eq_getElem?_getD, List.getElem?_replicate]
  split <;> rfl
theorem sb_extract {a : ByteArray} {i j q : Nat} (hj : j ≤ a.size) (hq : i + q < j) : sb (a.extract i j) q = sb a (i + q) := by
  unfold sb
  rw [ByteArray.data_extract, Array.toList_extract, List.extract_eq_take_drop, List.getD_eq_getElem?_getD, List.getElem?_take_of_lt (by omega), List.getElem?_drop, ← List.getD_eq_getElem?_getD]
theorem padS_sb_in (s : ByteArray) (k : Nat) {i : Nat} (h : i < s.size) : sb (padS s k) i = sb s i := sb_append_left h
theorem padS_sb_out (s : ByteArray) (k : Nat) {i : Nat} (h : s.size ≤ i) : sb (padS s k) i = 0 := by
  unfold padS
  rw [sb_append_right h, sb_zeros]
theorem partOf_sb (s : ByteArray) {k i q : Nat} (hi : i < k) (hq : q < mOf s.size k) : sb (partOf s k i) q = sb (padS s k) (i * mOf s.size k + q) := by
  have h2 : (i + 1) * mOf s.size k ≤ k * mOf s.size k := Nat.mul_le_mul_right _ (by omega)
  have h3 : (i + 1) * mOf s.size k = i * mOf s.size k + mOf s.size k := Nat.succ_mul _ _
  unfold partOf
  rw [sb_extract (by rw [padS_size s (by omega)]; exact h2) (by omega)]
theorem cat_parts (s : ByteArray) {k : Nat} (hk : 0 < k) : catS (parts s k) = padS s k := by
  have hsz : (catS (parts s k)).size = k * mOf s.size k := by
    rw [catS_size _ (mOf s.size k)]
    · simp [parts]
    · intro x hx
      obtain ⟨i, hi, rfl⟩ := List.mem_map.1 hx
      exact partOf_size s (List.mem_range.1 hi)
  refine sb_ext (by rw [hsz, padS_size s hk]) fun q hq => ?_
  rw [hsz] at hq
  have hm : 0 < mOf s.size k := by
    rcases Nat.eq_zero_or_pos (mOf s.size k) with e | e
    · rw [e, Nat.mul_zero] at hq; cases hq
    · exact e
  have hd := Nat.div_add_mod q (mOf s.size k)
  have hr := Nat.mod_lt q hm
  have hi : q / mOf s.size k < k := Nat.div_lt_of_lt_mul (by rw [Nat.mul_comm]; exact hq)
  have e : q = q / mOf s.size k * mOf s.size k + q % mOf s.size k := by rw [Nat.mul_comm]; exact hd.symm
  rw [e, catS_sb (parts s k) (mOf s.size k) (fun x hx => by
    obtain ⟨i, hi, rfl⟩ := List.mem_map.1 hx
    exact partOf_size s (List.mem_range.1 hi)) _ _ (by simpa [parts] using hi) hr]
  have hf : fr (parts s k) (q / mOf s.size k) = partOf s k (q / mOf s.size k) := by rw [parts_fr s hi]; simp [codeA, hi]
  rw [hf, partOf_sb s hi hr]
theorem Agree.cat {frs : List ByteArray} {th : List Bool} {s : ByteArray} {k : Nat} (h : Agree frs th s k) : catO frs th k = padS s k := by
  rw [← cat_parts s h.pos]
  unfold catO parts
  congr 1
  apply List.map_congr_left
  intro i hi
  have := List.mem_range.1 hi
  have hk := h.k9
  rw [h.out i (by omega)]
  simp [codeA, this]
theorem padS_take (s : ByteArray) (k : Nat) : (padS s k).extract 0 s.size = s := by
  refine sb_ext ?_ fun q hq => ?_
  · rw [ByteArray.size_extract]
    unfold padS
    rw [ByteArray.size_append]
    omega
  · rw [ByteArray.size_extract] at hq
    have h1 : s.size ≤ (padS s k).size := by unfold padS; rw [ByteArray.size_append]; omega
    rw [sb_extract h1 (by omega), Nat.zero_add, padS_sb_in s k (by omega)]
theorem Agree.join {frs : List ByteArray} {th : List Bool} {s : ByteArray} {k : Nat} (h : Agree frs th s k) (hl : frs.length = th.length) (hs : s.size ≤ 4096 * k) : JoinOK frs th k s.size := by
  refine ⟨h.ok hl hs, by omega, by omega, ?_, ?_⟩
  · rw [Int.toNat_natCast, h.cM]
    unfold mOf
    have hp := h.pos
    rw [Int.natCast_ediv]
    congr 1
    omega
  · intro j h1 h2
    rw [Int.toNat_natCast] at h1 h2 ⊢
    rw [h.cat]
    exact padS_sb_out s k h1
end Go.Sx
/- Plain: what the laws ask of the fragments. -/
namespace Go.Sx
theorem cN_len {th : List Bool} {k : Nat} (h : k ≤ ((List.range th.length).filter (tf th)).length) : (cN th k).length = k := by
  unfold cN tnums
  rw [List.length_take]
  omega
theorem cN_few {th : List Bool} {k : Nat} (h : ((List.range th.length).filter (tf th)).length < k) : (cN th k).length < k := by
  unfold cN tnums
  rw [List.length_take]
  omega
theorem few_no {frs : List ByteArray} {th : List Bool} {k : Nat} (h : ((List.range th.length).filter (tf th)).length < k) : ¬ CompOK frs th k := fun hc => by
  have h1 := hc.2.2.1
  rw [Int.toNat_natCast] at h1
  have := cN_few h
  omega
theorem agree_code {s : ByteArray} {k n : Nat} {th : List Bool} (hk : 1 ≤ k) (hn : n ≤ 9) (hl : th.length = n) (h : k ≤ ((List.range th.length).filter (tf th)).length) : Agree (codeL s k n) th s k :=
  ⟨hk, by omega, fun i hi _ => codeL_fr s k (by omega), cN_len h⟩
/-- Lengths that are refused. -/
theorem Agree.far {frs : List ByteArray} {th : List Bool} {s : ByteArray} {k : Nat} (h : Agree frs th s k) {len : Int} (hf : len < 0 ∨ (k : Int) * (mOf s.size k : Int) < len ∨ len ≤ (k : Int) * ((mOf s.size k : Int) - 1)) : ¬ JoinOK frs th k len := fun hj => by
  have h1 := hj.2.2.2.1
  have h0 := hj.2.1
  rw [Int.toNat_natCast, h.cM] at h1
  have hp := h.pos
  generalize mOf s.size k = m at *
  have hd := Int.mul_ediv_add_emod (len + k - 1) k
  have hr0 := Int.emod_nonneg (len + k - 1) (show (k : Int) ≠ 0 by omega)
  have hr1 := Int.emod_lt_of_pos (len + k - 1) (show (0 : Int) < k by omega)
  rw [← h1] at hd
  rw [Int.mul_sub, Int.mul_one] at hf
  omega
end Go.Sx
namespace Go.Sx
open F
/-- The string with bytes XORed. -/
def xorS (s t : ByteArray) : ByteArray := mkS (min s.size t.size) fun q => sb s q ^^^ sb t q
theorem xorS_size (s t : ByteArray) : (xorS s t).size = min s.size t.size := mkS_size _ _
theorem xorS_sb (s t : ByteArray) {q : Nat} (h : q < min s.size t.size) : sb (xorS s t) q = sb s q ^^^ sb t q :=
  mkS_sb h (Nat.xor_lt_two_pow (n := 8) (sb_lt _ _) (sb_lt _ _))
theorem sum_add (S : List F) (f g : F → F) : F.sum S (fun i => f i + g i) = F.sum S f + F.sum S g := by
  unfold F.sum
  induction S with
  | nil => exact (F.add_zero _).symm
  | cons a S ih =>
    simp only [List.foldr_cons]
    rw [ih]
    simp only [F.add_assoc, F.add_left_comm]
theorem sum_congr {S : List F} {f g : F → F} (h : ∀ i ∈ S, f i = g i) : F.sum S f = F.sum S g := by
  unfold F.sum
  induction S with
  | nil => rfl
  | cons a S ih =>
    simp only [List.foldr_cons]
    rw [h a (by simp), ih fun i hi => h i (by simp [hi])]
theorem interp_add (S : List F) (f g : F → F) (x : F) : interp S (fun i => f i + g i) x = interp S f x + interp S g x := by
  unfold interp
  rw [← sum_add]
  exact sum_congr fun i _ => F.add_mul _ _ _
theorem interp_congr {S : List F} {f g : F → F} (h : ∀ i ∈ S, f i = g i) (x : F) : interp S f x = interp S g x := by
  unfold interp
  exact sum_congr fun i hi => by rw [h i hi]
theorem sb_out {s : ByteArray} {q : Nat} (h : s.size ≤ q) : sb s q = 0 := by
  unfold sb
  rw [List.getD_eq_getElem?_getD, List.getElem?_eq_none (by rw [ba_len]; exact h)]
  rfl
theorem padS_sb (s : ByteArray) (k q : Nat) : sb (padS s k) q = sb s q := by
  by_cases h : q < s.size
  · exact padS_sb_in s k h
  · rw [padS_sb_out s k (by omega), sb_out (by omega)]
/-- Byte q of part i of a string. -/
theorem part_byte (s : ByteArray) {k i q : Nat} (hi : i < k) (hq : q < mOf s.size k) : sb (partOf s k i) q = sb s (i * mOf s.size k + q) := by
  rw [partOf_sb s hi hq, padS_sb]
theorem poly_bytes (s : ByteArray) (k q : Nat) (hk : k ≤ 256) (hq : q < mOf s.size k) (x : F) : polyOf s k q x = interp ((List.range k).map toF) (fun i => toF (sb s (i.n * mOf s.size k + q))) x := by
  unfold polyOf
  refine interp_congr (fun i hi => ?_) x
  obtain ⟨a, ha, rfl⟩ := List.mem_map.1 hi
  have := List.mem_range.1 ha
  rw [toF_n (by omega), part_byte s this hq]
theorem xorS_sb_all {s t : ByteArray} (h : s.size = t.size) (q : Nat) : sb (xorS s t) q = sb s q ^^^ sb t q := by
  by_cases hq : q < s.size
  · exact xorS_sb s t (by omega)
  · rw [sb_out (s := xorS s t) (by rw [xorS_size]; omega), sb_out (s := s) (by omega), sb_out (s := t) (by omega)]; rfl
theorem code_xor {s t : ByteArray} (h : s.size = t.size) {k j : Nat} (hk : k ≤ 256) (hj : j < 256) : codeA (xorS s t) k j = xorS (codeA s k j) (codeA t k j) := by
  have hx : (xorS s t).size = s.size := by rw [xorS_size]; omega
  refine sb_ext ?_ fun q hq => toF_sb_inj ?_
  · rw [codeA_size, xorS_size (codeA s k j), codeA_size, codeA_size, hx, h]; omega
  · rw [codeA_size, hx] at hq
    have hqt : q < mOf t.size k := by rw [← h]; exact hq
    rw [xorS_sb _ _ (by rw [codeA_size, codeA_size, h]; rw [h] at hq; omega), toF_xor (sb_lt _ _) (sb_lt _ _), codeA_poly _ _ _ _ hk hj (by rw [hx]; exact hq), codeA_poly s _ _ _ hk hj hq, codeA_poly t _ _ _ hk hj hqt,
      poly_bytes _ _ _ hk (by rw [hx]; exact hq), poly_bytes s _ _ hk hq, poly_bytes t _ _ hk hqt, ← interp_add]
    refine interp_congr (fun i _ => ?_) _
    rw [hx, xorS_sb_all h, toF_xor (sb_lt _ _) (sb_lt _ _), h]
/-- Fragments that belong together, of which k are those of a string, are all those of this string. -/
theorem comp_same {frs : List ByteArray} {th : List Bool} {S : ByteArray} {k : Nat} (hc : CompOK frs th k) (A : List Nat) (hA : k ≤ A.length) (hn : A.Nodup) (hin : ∀ a ∈ A, a < frs.length ∧ tf th a = true ∧ fr frs a = codeA S k a)
    {w : Nat} (hw : w < frs.length) (htw : tf th w = true) : fr frs w = codeA S k w := by
  obtain ⟨⟨h1, h2, h3⟩, h4, h5, h6, h7⟩ := hc
  rw [Int.toNat_natCast] at h5 h6 h7
  have hk1 : 1 ≤ k := by omega
  have hk9 : k ≤ 9 := by omega
  have hth9 : th.length ≤ 9 := by omega
  obtain ⟨a0, ha0⟩ : ∃ a, a ∈ A := by
    cases A with
    | nil => simp at hA; omega
    | cons a A => exact ⟨a, by simp⟩
  obtain ⟨g1, g2, g3⟩ := hin a0 ha0
  have hcm : cM frs th k = mOf S.size k := by rw [← (h6 a0 g1 g2).1, g3, codeA_size]
  refine sb_ext (by rw [(h6 w hw htw).1, codeA_size, hcm]) fun q hq => toF_sb_inj ?_
  rw [(h6 w hw htw).1] at hq
  have hP : IsP k fun x => interp ((cN th k).map toF) (fun i => toF (sb (fr frs i.n) q)) x := by
    have := interp_isP (map_toF_nodup (tnums_nodup th th.length k) fun i hi => by have := (tnums_mem hi).1; omega) (fun i => toF (sb (fr frs i.n) q))
    rwa [List.length_map, show (tnums th th.length k).length = k from h5] at this
  have hat : ∀ i, i < frs.length → tf th i = true → toF (sb (fr frs i) q) = interp ((cN th k).map toF) (fun i => toF (sb (fr frs i.n) q)) (toF i) := fun i hi ht => by
    rw [← cOut_sb frs th k i q (by omega) (by omega) hq, h7 i hi ht]
  rw [hat w hw htw, codeA_poly S k w q (by omega) (by omega) (by rw [← hcm]; exact hq)]
  refine IsP.unique hP (polyOf_isP S k q (by omega)) (A.map toF) (by rw [List.length_map]; exact hA) (map_toF_nodup hn fun i hi => by have := (hin i hi).1; omega) (fun r hr => ?_) _
  obtain ⟨a, ha, rfl⟩ := List.mem_map.1 hr
  obtain ⟨e1, e2, e3⟩ := hin a ha
  rw [← hat a e1 e2, e3, codeA_poly S k a q (by omega) (by omega) (by rw [← hcm]; exact hq)]
/-- A changed fragment is another one. -/
def chgS (s : ByteArray) (i c : Nat) : ByteArray := s.extract 0 i ++ mkS 1 (fun _ => sb s i ^^^ c) ++ s.extract (i + 1) s.size
theorem chgS_ne {s : ByteArray} {i c : Nat} (hi : i < s.size) (hc : c < 256) (h0 : 0 < c) : chgS s i c ≠ s := fun h => by
  have h1 : sb (chgS s i c) i = sb s i := by rw [h]
  have e1 : (s.extract 0 i).size = i := by rw [ByteArray.size_extract]; omega
  have hx := Nat.xor_lt_two_pow (n := 8) (sb_lt s i) hc
  unfold chgS at h1
  rw [sb_append_left (by rw [ByteArray.size_append, e1, mkS_size]; omega), sb_append_right (by omega), e1, Nat.sub_self, mkS_sb (f := fun _ => sb s i ^^^ c) (by decide) hx] at h1
  have h2 : sb s i ^^^ (sb s i ^^^ c) = 0 := by rw [h1, Nat.xor_self]
  rw [← Nat.xor_assoc, Nat.xor_self, Nat.zero_xor] at h2
  omega
end Go.Sx
namespace Go.Sx
theorem catS_snoc (l : List ByteArray) (x : ByteArray) : catS (l ++ [x]) = catS l ++ x := by
  apply ByteArray.ext
  apply Array.toList_inj.1
  simp [catS]
def textS (s : ByteArray) (k i : Nat) : ByteArray := catS ((List.range i).map (codeA s k))
theorem textS_succ (s : ByteArray) (k i : Nat) : textS s k (i + 1) = textS s k i ++ codeA s k i := by
  unfold textS
  rw [List.range_succ, List.map_append, List.map_cons, List.map_nil, catS_snoc]
theorem textS_size (s : ByteArray) (k i : Nat) : (textS s k i).size = i * mOf s.size k := by
  unfold textS
  rw [catS_size _ (mOf s.size k)]
  · simp
  · intro x hx
    obtain ⟨j, -, rfl⟩ := List.mem_map.1 hx
    exact codeA_size _ _ _
theorem textS_all (s : ByteArray) {k : Nat} (hk : 0 < k) : textS s k k = padS s k := by
  rw [← cat_parts s hk]
  unfold textS parts
  congr 1
  apply List.map_congr_left
  intro i hi
  have := List.mem_range.1 hi
  simp [codeA, this]
theorem strs_code (s : ByteArray) (k n : Nat) : strs (codeL s k n) = row n fun q => .string (codeA s k q) := by simp [strs, codeL, row]
theorem strs_row (n : Nat) (f : Nat → ByteArray) : strs ((List.range n).map f) = row n fun q => .string (f q) := by simp [strs, row]
theorem fr_range {n i : Nat} (f : Nat → ByteArray) (h : i < n) : fr ((List.range n).map f) i = f i := by simp [fr, h]
end Go.Sx

