/- Plain, chapter 21: which record prevails; what is in effect. -/
import Derived.Test.YtldhccgelcmjoaaGreatXA
import Derived.Test.YtldhccgelcmjoaaGreatHn
namespace Go.Sx
open Go
theorem less_irr : ∀ x : List UInt8, Op.bytesLess x x = false
  | [] => rfl
  | a :: x => by
    simp only [Op.bytesLess, Bool.or_eq_false_iff, Bool.and_eq_false_iff, decide_eq_false_iff_not]
    exact ⟨UInt8.lt_irrefl a, .inr (less_irr x)⟩
theorem less_tri : ∀ x y : List UInt8, x ≠ y → Op.bytesLess x y = true ∨ Op.bytesLess y x = true
  | [], [], h => absurd rfl h
  | [], _ :: _, _ => .inl rfl
  | _ :: _, [], _ => .inr rfl
  | a :: x, b :: y, h => by
    simp only [Op.bytesLess, Bool.or_eq_true, Bool.and_eq_true, decide_eq_true_eq, beq_iff_eq]
    by_cases e : a = b
    · subst e
      rcases less_tri x y (fun e => h (by rw [e])) with h1 | h1
      · exact .inl (.inr ⟨rfl, h1⟩)
      · exact .inr (.inr ⟨rfl, h1⟩)
    · rcases UInt8.lt_or_lt_of_ne e with h1 | h1
      · exact .inl (.inl h1)
      · exact .inr (.inl h1)
theorem less_trans : ∀ x y z : List UInt8, Op.bytesLess x y = true → Op.bytesLess y z = true → Op.bytesLess x z = true
  | _, [], _, h, _ => by simp [Op.bytesLess] at h
  | _, _ :: _, [], _, h => by simp [Op.bytesLess] at h
  | [], _ :: _, _ :: _, _, _ => rfl
  | a :: x, b :: y, c :: z, h1, h2 => by
    simp only [Op.bytesLess, Bool.or_eq_true, Bool.and_eq_true, decide_eq_true_eq, beq_iff_eq] at h1 h2 ⊢
    rcases h1 with h1 | ⟨rfl, h1⟩
    · rcases h2 with h2 | ⟨rfl, h2⟩
      · exact .inl (UInt8.lt_trans h1 h2)
      · exact .inl h1
    · rcases h2 with h2 | ⟨rfl, h2⟩
      · exact .inl h2
      · exact .inr ⟨rfl, less_trans x y z h1 h2⟩
/-- One record counts rather than another one. -/
def Prev (a b : Rc) : Prop := (ValidR a ∧ ValidR b ∧ keyR a = keyR b) ∧ (b.version < a.version ∨ a.version = b.version ∧ Op.bytesLess (encR b) (encR a) = true)
theorem prev_irr (a : Rc) : ¬ Prev a a := fun h => by
  rcases h.2 with h1 | ⟨-, h1⟩
  · omega
  · rw [less_irr] at h1; cases h1
theorem prev_trans {a b c : Rc} (h1 : Prev a b) (h2 : Prev b c) : Prev a c := by
  refine ⟨⟨h1.1.1, h2.1.2.1, h1.1.2.2.trans h2.1.2.2⟩, ?_⟩
  rcases h1.2 with h3 | ⟨h3, h4⟩
  · rcases h2.2 with h5 | ⟨h5, h6⟩
    · exact .inl (by omega)
    · exact .inl (by omega)
  · rcases h2.2 with h5 | ⟨h5, h6⟩
    · exact .inl (by omega)
    · exact .inr ⟨by omega, less_trans _ _ _ h6 h4⟩
theorem prev_tri {a b : Rc} (ha : ValidR a) (hb : ValidR b) (hk : keyR a = keyR b) (h : a ≠ b) : Prev a b ∨ Prev b a := by
  by_cases h1 : a.version = b.version
  · rcases less_tri (encR b) (encR a) (fun e => h (enc_inj ha hb e.symm)) with h2 | h2
    · exact .inl ⟨⟨ha, hb, hk⟩, .inr ⟨h1, h2⟩⟩
    · exact .inr ⟨⟨hb, ha, hk.symm⟩, .inr ⟨h1.symm, h2⟩⟩
  · by_cases h2 : b.version < a.version
    · exact .inl ⟨⟨ha, hb, hk⟩, .inl h2⟩
    · exact .inr ⟨⟨hb, ha, hk.symm⟩, .inl (by omega)⟩
/-- A record that counts, by what is known on a day. -/
def Now (day : Int) (r : Rc) : Prop := ValidR r ∧ r.day ≤ day
structure Top (l : List Rc) (day : Int) (r : Rc) : Prop where
  mem : r ∈ l
  now : Now day r
  top : ∀ s ∈ l, s.day ≤ day → ¬ Prev s r
/-- What a map of keys holds behind some records. -/
structure EffM (l : List Rc) (day : Int) (m : List (List UInt8 × Rc)) : Prop where
  nd : (m.map Prod.fst).Nodup
  top : ∀ p ∈ m, p.1 = keyR p.2 ∧ Top l day p.2
  all : ∀ r ∈ l, Now day r → ∃ p ∈ m, p.1 = keyR r
theorem EffM.nil (day : Int) : EffM [] day [] := ⟨by simp, by simp, by simp⟩
theorem top_uniq {l : List Rc} {day : Int} {r s : Rc} (hr : Top l day r) (hs : Top l day s) (hk : keyR r = keyR s) : r = s := by
  apply Classical.byContradiction
  intro h
  rcases prev_tri hr.now.1 hs.now.1 hk h with h1 | h1
  · exact hs.top r hr.mem hr.now.2 h1
  · exact hr.top s hs.mem hs.now.2 h1
theorem EffM.has {l : List Rc} {day : Int} {m : List (List UInt8 × Rc)} (h : EffM l day m) (r : Rc) : (∃ p ∈ m, p.2 = r) ↔ Top l day r := by
  constructor
  · rintro ⟨p, hp, rfl⟩
    exact (h.top p hp).2
  · intro hr
    obtain ⟨p, hp, e⟩ := h.all r hr.mem hr.now
    have h1 := h.top p hp
    exact ⟨p, hp, top_uniq h1.2 hr (by rw [← h1.1, e])⟩
theorem top_snoc {l : List Rc} {day : Int} {r s : Rc} (h : Top l day r) (hs : ¬ (s.day ≤ day ∧ Prev s r)) : Top (l ++ [s]) day r :=
  ⟨List.mem_append_left _ h.mem, h.now, fun t ht hd hp => by
    rcases List.mem_append.1 ht with ht | ht
    · exact h.top t ht hd hp
    · obtain rfl := List.mem_singleton.1 ht
      exact hs ⟨hd, hp⟩⟩
/-- One that does not count. -/
theorem EffM.skip {l : List Rc} {day : Int} {m : List (List UInt8 × Rc)} (h : EffM l day m) {r : Rc} (hr : ¬ Now day r) : EffM (l ++ [r]) day m :=
  ⟨h.nd, fun p hp => ⟨(h.top p hp).1, top_snoc (h.top p hp).2 fun e => hr ⟨e.2.1.1, e.1⟩⟩, fun s hs hn => by
    rcases List.mem_append.1 hs with hs | hs
    · exact h.all s hs hn
    · obtain rfl := List.mem_singleton.1 hs
      exact absurd hn hr⟩
/-- One that does not prevail. -/
theorem EffM.keep {l : List Rc} {day : Int} {m : List (List UInt8 × Rc)} (h : EffM l day m) {r : Rc} {p : List UInt8 × Rc} (hp : p ∈ m) (hk : p.1 = keyR r) (hn : ¬ Prev r p.2) : EffM (l ++ [r]) day m :=
  ⟨h.nd, fun q hq => ⟨(h.top q hq).1, top_snoc (h.top q hq).2 fun e => by
    have h1 := (h.top q hq).1
    have h2 := (h.top p hp).1
    have h3 : q.2 = p.2 := top_uniq (h.top q hq).2 (h.top p hp).2 (by rw [← h1, ← h2, hk, h1]; exact e.2.1.2.2.symm)
    rw [h3] at e
    exact hn e.2⟩, fun s hs hs2 => by
    rcases List.mem_append.1 hs with hs | hs
    · exact h.all s hs hs2
    · obtain rfl := List.mem_singleton.1 hs
      exact ⟨p, hp, hk⟩⟩
/-- A new key. -/
theorem EffM.add {l : List Rc} {day : Int} {m : List (List UInt8 × Rc)} (h : EffM l day m) {r : Rc} (hr : Now day r) (hk : ∀ p ∈ m, p.1 ≠ keyR r) : EffM (l ++ [r]) day (m ++ [(keyR r, r)]) := by
  have hno : ∀ s ∈ l, Now day s → keyR s ≠ keyR r := fun s hs hn e => by
    obtain ⟨p, hp, e2⟩ := h.all s hs hn
    exact hk p hp (e2.trans e)
  refine ⟨?_, fun q hq => ?_, fun s hs hs2 => ?_⟩
  · rw [List.map_append]
    refine List.nodup_append.2 ⟨h.nd, by simp, fun a ha b hb e => ?_⟩
    obtain ⟨p, hp, rfl⟩ := List.mem_map.1 ha
    simp only [List.map_cons, List.map_nil, List.mem_singleton] at hb
    exact hk p hp (e.trans hb)
  · rcases List.mem_append.1 hq with hq | hq
    · have h1 := h.top q hq
      exact ⟨h1.1, top_snoc h1.2 fun e => hk q hq (by rw [h1.1]; exact e.2.1.2.2.symm)⟩
    · obtain rfl := List.mem_singleton.1 hq
      refine ⟨rfl, List.mem_append_right _ (List.mem_singleton.2 rfl), hr, fun t ht hd hp => ?_⟩
      rcases List.mem_append.1 ht with ht | ht
      · exact hno t ht ⟨hp.1.1, hd⟩ hp.1.2.2
      · obtain rfl := List.mem_singleton.1 ht
        exact prev_irr _ hp
  · rcases List.mem_append.1 hs with hs | hs
    · obtain ⟨p, hp, e⟩ := h.all s hs hs2
      exact ⟨p, List.mem_append_left _ hp, e⟩
    · obtain rfl := List.mem_singleton.1 hs
      exact ⟨_, List.mem_append_right _ (List.mem_singleton.2 rfl), rfl⟩
/-- One that prevails stands where the other one stood. -/
theorem EffM.put {l : List Rc} {day : Int} {m : List (List UInt8 × Rc)} (h : EffM l day m) {r : Rc} (hr : Now day r) {i : Nat} {s : Rc} (hi : m[i]? = some (keyR r, s)) (hp : Prev r s) : EffM (l ++ [r]) day (m.set i (keyR r, r)) := by
  have hlt : i < m.length := (List.getElem?_eq_some_iff.1 hi).1
  have hmi : (keyR r, s) ∈ m := List.mem_of_getElem? hi
  have hts := (h.top _ hmi).2
  have hfst : (m.set i (keyR r, r)).map Prod.fst = m.map Prod.fst := by
    rw [List.map_set]
    apply List.ext_getElem?
    intro j
    rw [List.getElem?_set]
    by_cases e : i = j
    · subst e
      rw [List.getElem?_eq_getElem hlt] at hi
      have e2 := Option.some.inj hi
      simp [hlt, e2]
    · simp [e]
  have hmem : ∀ q, q ∈ m.set i (keyR r, r) → q = (keyR r, r) ∨ (q ∈ m ∧ q.1 ≠ keyR r) := fun q hq => by
    obtain ⟨j, hj⟩ := List.mem_iff_getElem?.1 hq
    rw [List.getElem?_set] at hj
    by_cases e : i = j
    · subst e
      simp [hlt] at hj
      exact .inl hj.symm
    · rw [if_neg e] at hj
      refine .inr ⟨List.mem_of_getElem? hj, fun e2 => e ?_⟩
      have hjl : j < m.length := (List.getElem?_eq_some_iff.1 hj).1
      have n1 : (m.map Prod.fst)[i]? = some (keyR r) := by simp [hi]
      have n2 : (m.map Prod.fst)[j]? = some (keyR r) := by simp [hj, e2]
      exact (List.getElem?_inj (by simpa using hlt) h.nd).1 (n1.trans n2.symm)
  refine ⟨by rw [hfst]; exact h.nd, fun q hq => ?_, fun t ht hn => ?_⟩
  · rcases hmem q hq with rfl | ⟨hq, hne⟩
    · refine ⟨rfl, List.mem_append_right _ (List.mem_singleton.2 rfl), hr, fun t ht hd hpt => ?_⟩
      rcases List.mem_append.1 ht with ht | ht
      · exact hts.top t ht hd (prev_trans hpt hp)
      · obtain rfl := List.mem_singleton.1 ht
        exact prev_irr _ hpt
    · have h1 := h.top q hq
      exact ⟨h1.1, top_snoc h1.2 fun e => hne (by rw [h1.1]; exact e.2.1.2.2.symm)⟩
  · have hin : (keyR r, r) ∈ m.set i (keyR r, r) := List.mem_set hlt _
    rcases List.mem_append.1 ht with ht | ht
    · obtain ⟨p, hpm, e⟩ := h.all t ht hn
      obtain ⟨j, hj⟩ := List.mem_iff_getElem?.1 hpm
      by_cases e2 : i = j
      · subst e2
        rw [hi] at hj
        cases hj
        exact ⟨_, hin, e⟩
      · refine ⟨p, List.mem_of_getElem? (i := j) ?_, e⟩
        rw [List.getElem?_set, if_neg e2]; exact hj
    · obtain rfl := List.mem_singleton.1 ht
      exact ⟨_, hin, rfl⟩
/-- The number that is a record's key. -/
def numR (r : Rc) : Int := r.get (keyF r.kind)
def asK (L : List Rc) : Prop := L.Pairwise fun a b => numR a < numR b
theorem asK_uniq : ∀ {L M : List Rc}, asK L → asK M → (∀ r, r ∈ L ↔ r ∈ M) → L = M
  | [], [], _, _, _ => rfl
  | [], b :: M, _, _, h => by have := (h b).2 (List.mem_cons_self ..); simp at this
  | a :: L, [], _, _, h => by have := (h a).1 (List.mem_cons_self ..); simp at this
  | a :: L, b :: M, hL, hM, h => by
    have h1 := List.pairwise_cons.1 hL
    have h2 := List.pairwise_cons.1 hM
    have e : a = b := by
      rcases List.mem_cons.1 ((h a).1 (List.mem_cons_self ..)) with e | ha
      · exact e
      · rcases List.mem_cons.1 ((h b).2 (List.mem_cons_self ..)) with e | hb
        · exact e.symm
        · have := h1.1 b hb
          have := h2.1 a ha
          omega
    subst e
    congr 1
    refine asK_uniq h1.2 h2.2 fun r => ?_
    constructor
    · intro hr
      rcases List.mem_cons.1 ((h r).1 (List.mem_cons_of_mem _ hr)) with rfl | hr2
      · have := h1.1 r hr; omega
      · exact hr2
    · intro hr
      rcases List.mem_cons.1 ((h r).2 (List.mem_cons_of_mem _ hr)) with rfl | hr2
      · have := h2.1 r hr; omega
      · exact hr2
/-- What is in effect by what is known on a day, of a kind: ascending. -/
structure IsOf (l : List Rc) (day : Int) (k : Int) (L : List Rc) : Prop where
  asc : asK L
  mem : ∀ r, r ∈ L ↔ (Top l day r ∧ r.gone = false) ∧ r.kind = k
theorem IsOf.uniq {l l' : List Rc} {day day' k : Int} {L M : List Rc} (hL : IsOf l day k L) (hM : IsOf l' day' k M) (h : ∀ r, r.kind = k → r.gone = false → (Top l day r ↔ Top l' day' r)) : L = M :=
  asK_uniq hL.asc hM.asc fun r => by
    rw [hL.mem, hM.mem]
    constructor
    · rintro ⟨⟨h1, h2⟩, h3⟩
      exact ⟨⟨(h r h3 h2).1 h1, h2⟩, h3⟩
    · rintro ⟨⟨h1, h2⟩, h3⟩
      exact ⟨⟨(h r h3 h2).2 h1, h2⟩, h3⟩
/-- Neither order, nor repetitions, nor what becomes known later make a difference. -/
theorem top_same {l l' : List Rc} {day : Int} (h : ∀ r, r.day ≤ day → (r ∈ l ↔ r ∈ l')) (r : Rc) : Top l day r ↔ Top l' day r := by
  constructor
  · intro ht
    exact ⟨(h r ht.now.2).1 ht.mem, ht.now, fun s hs hd => ht.top s ((h s hd).2 hs) hd⟩
  · intro ht
    exact ⟨(h r ht.now.2).2 ht.mem, ht.now, fun s hs hd => ht.top s ((h s hd).1 hs) hd⟩
end Go.Sx

