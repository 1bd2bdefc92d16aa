/-
  Statements whose order is open: the lexical order is enough: checked on a skeleton.
-/
import Derived.Test.YtlihcenahjgnmaaGreatDoorHB
namespace Go.Sx
open Go Go.RowKit
abbrev Sk := Option Nat × List Nat × List Nat
def memB (x : Nat) : List Nat → Bool
  | [] => false
  | y :: l => Nat.beq x y || memB x l
theorem memB_iff {x : Nat} : ∀ {l : List Nat}, memB x l = true ↔ x ∈ l
  | [] => by simp [memB]
  | y :: l => by
    simp only [memB, Bool.or_eq_true, memB_iff, List.mem_cons]
    constructor
    · rintro (h | h)
      · exact .inl (Nat.eq_of_beq_eq_true h)
      · exact .inr h
    · rintro (rfl | h)
      · exact .inl (Nat.beq_refl _)
      · exact .inr h
def apartS (x y : Sk) : Bool :=
  (match x.1 with
   | some d => !(memB d y.2.1) && (match y.1 with | some e => !(Nat.beq e d) | none => true)
   | none => true) &&
  (match y.1 with
   | some d => !(memB d x.2.1)
   | none => true)
def skOf (ops : Array Oper) (o : Oper) : Sk := (o.dst, o.looksAt ops, (o.after.toList.filter (Region.binds .any)).map (·.on))
def pairB (k : Nat) (x : Sk) : List Sk → Bool
  | [] => true
  | y :: l => (memB k y.2.2 || apartS x y) && pairB k x l
def allLt (k : Nat) : List Nat → Bool
  | [] => true
  | x :: l => Nat.blt x k && allLt k l
def skB (k : Nat) : List Sk → Bool
  | [] => true
  | x :: l => allLt k x.2.2 && pairB k x l && skB (k + 1) l
theorem allLt_iff {k : Nat} : ∀ {l : List Nat}, allLt k l = true → ∀ x ∈ l, x < k
  | [], _, _, hx => by cases hx
  | y :: l, h, x, hx => by
    simp only [allLt, Bool.and_eq_true] at h
    rcases List.mem_cons.1 hx with rfl | hx
    · simpa [Nat.blt_eq] using h.1
    · exact allLt_iff h.2 x hx
theorem pairB_at {k : Nat} {x : Sk} : ∀ {l : List Sk}, pairB k x l = true → ∀ y ∈ l, k ∈ y.2.2 ∨ apartS x y = true
  | [], _, _, hy => by cases hy
  | z :: l, h, y, hy => by
    simp only [pairB, Bool.and_eq_true, Bool.or_eq_true] at h
    rcases List.mem_cons.1 hy with rfl | hy
    · exact h.1.imp (fun h => memB_iff.1 h) id
    · exact pairB_at h.2 y hy
theorem skB_at : ∀ {l : List Sk} {k : Nat}, skB k l = true → ∀ i x, l[i]? = some x → (∀ d ∈ x.2.2, d < k + i) ∧ ∀ j y, i < j → l[j]? = some y → (k + i) ∈ y.2.2 ∨ apartS x y = true
  | [], _, _, i, x, hx => by simp at hx
  | z :: l, k, h, i, x, hx => by
    simp only [skB, Bool.and_eq_true] at h
    cases i with
    | zero =>
      simp only [List.getElem?_cons_zero, Option.some.injEq] at hx
      subst hx
      refine ⟨allLt_iff h.1.1, fun j y hj hy => ?_⟩
      cases j with
      | zero => cases hj
      | succ j =>
        rw [List.getElem?_cons_succ] at hy
        exact pairB_at h.1.2 y (List.mem_of_getElem? hy)
    | succ i =>
      rw [List.getElem?_cons_succ] at hx
      obtain ⟨h1, h2⟩ := skB_at h.2 i x hx
      have e : k + 1 + i = k + (i + 1) := by omega
      rw [e] at h1 h2
      refine ⟨h1, fun j y hj hy => ?_⟩
      cases j with
      | zero => cases hj
      | succ j =>
        rw [List.getElem?_cons_succ] at hy
        exact h2 j y (by omega) hy
theorem contains_memB (d : Nat) (l : List Nat) : l.contains d = memB d l := by
  cases h : memB d l with
  | true => exact List.contains_iff_mem.2 (memB_iff.1 h)
  | false =>
    cases hc : l.contains d with
    | false => rfl
    | true => rw [memB_iff.2 (List.contains_iff_mem.1 hc)] at h; cases h
theorem apart_sk (ops : Array Oper) (x y : Oper) : x.apart ops y = apartS (skOf ops x) (skOf ops y) := by
  unfold Oper.apart apartS skOf
  simp only
  congr 1
  · cases x.dst with
    | none => rfl
    | some d =>
      simp only
      rw [contains_memB]
      congr 1
      cases y.dst with
      | none => rfl
      | some e =>
        simp only
        by_cases h : e = d
        · subst h; simp
        · have h1 : Nat.beq e d = false := beq_ne h
          rw [h1]; simp [h]
  · cases y.dst with
    | none => rfl
    | some d => simp only; rw [contains_memB]
theorem lexB_sk {l : List Oper} (sk : List Sk) (h1 : l.map (skOf l.toArray) = sk) (h2 : skB 0 sk = true) (h3 : Region.noSelect l.toArray = true) : Region.lexB .any l.toArray = true := by
  unfold Region.lexB
  rw [h3, Bool.true_and]
  have key : ∀ (fuel k : Nat) (listed : Array Bool), fuel + k = l.length → listed.size = l.length → (∀ i, i < l.length → listed[i]? = some (decide (i < k))) → Region.lexFrom .any l.toArray fuel k listed = true := by
    intro fuel
    induction fuel with
    | zero =>
      intro k listed hk hs hl
      unfold Region.lexFrom Region.ready
      rw [List.isEmpty_iff, List.filter_eq_nil_iff]
      intro i hi
      have hi' : i < l.length := by simpa using hi
      have e : listed.getD i true = true := by
        rw [Array.getD_eq_getD_getElem?, hl i hi']
        simp; omega
      simp [e]
    | succ fuel ih =>
      intro k listed hk hs hl
      have hkl : k < l.length := by omega
      obtain ⟨o, ho⟩ : ∃ o, l[k]? = some o := ⟨l[k], by simp [hkl]⟩
      have hsk : sk[k]? = some (skOf l.toArray o) := by rw [← h1, List.getElem?_map, ho]; rfl
      obtain ⟨g1, g2⟩ := skB_at h2 k _ hsk
      rw [Nat.zero_add] at g1 g2
      unfold Region.lexFrom
      rw [Bool.and_eq_true, Bool.and_eq_true]
      refine ⟨⟨?_, ?_⟩, ?_⟩
      · rw [List.contains_iff_mem]
        unfold Region.ready
        rw [List.mem_filter]
        refine ⟨by simpa using hkl, ?_⟩
        have e : listed.getD k true = false := by
          rw [Array.getD_eq_getD_getElem?, hl k hkl]; simp
        have e2 : (l.toArray)[k]? = some o := by simpa using ho
        rw [e, e2]
        simp only [Bool.not_false, Option.map_some, Option.getD_some, Bool.true_and]
        rw [Array.all_eq_true_iff_forall_mem]
        intro ed hed
        by_cases hb : Region.binds .any ed = true
        · have hlt : ed.on < k := g1 ed.on (by
            simp only [skOf, List.mem_map, List.mem_filter]
            exact ⟨ed, ⟨by simpa using hed, hb⟩, rfl⟩)
          have : listed.getD ed.on false = true := by
            rw [Array.getD_eq_getD_getElem?, hl ed.on (by omega)]; simp [hlt]
          rw [this]; simp
        · simp [hb]
      · unfold Region.free
        have e2 : (l.toArray)[k]? = some o := by simpa using ho
        rw [e2]
        simp only
        rw [List.all_eq_true]
        intro j hj
        have hj' : j < l.length := by simpa using hj
        by_cases hjk : j = k
        · simp [hjk]
        · by_cases hlt : j < k
          · have : listed.getD j true = true := by rw [Array.getD_eq_getD_getElem?, hl j hj']; simp [hlt]
            simp [this]
          · obtain ⟨oj, hoj⟩ : ∃ o, l[j]? = some o := ⟨l[j], by simp [hj']⟩
            have hskj : sk[j]? = some (skOf l.toArray oj) := by rw [← h1, List.getElem?_map, hoj]; rfl
            have e3 : (l.toArray)[j]? = some oj := by simpa using hoj
            rw [e3]
            simp only [Bool.or_eq_true]
            right
            rcases g2 j _ (by omega) hskj with h | h
            · left
              rw [Array.any_eq_true']
              simp only [skOf, List.mem_map, List.mem_filter] at h
              obtain ⟨ed, ⟨h4, h5⟩, h6⟩ := h
              exact ⟨ed, by simpa using h4, by simp [h5, h6]⟩
            · right
              rw [apart_sk]; exact h
      · refine ih (k + 1) _ (by omega) (by simp [hs]) fun i hi => ?_
        rw [Array.getElem?_setIfInBounds]
        by_cases e : k = i
        · subst e; simp [hs, hkl]
        · rw [if_neg e, hl i hi]
          congr 1
          rw [decide_eq_decide]
          omega
  have := key l.length 0 (Array.replicate l.length false) (by omega) (by simp) (fun i hi => by simp [hi])
  simpa using this
section
variable {P : Program} {r : Option Nat} {N : Nat} {ds : List Deferred} {Q : Post} {E : Env} {w0 : World} {H : List Atom}
theorem HC.quietS [hm : Mixed P] {id : Nat} {l : List Oper} (sk : List Sk) (h1 : l.map (skOf l.toArray) = sk) (h2 : skB 0 sk = true) (h3 : Region.noSelect l.toArray = true) (h : HQ P r N ds l l Q E w0 H) : HC P r N ds (.region id l.toArray true) Q E w0 H := HC.quiet (lexB_sk sk h1 h2 h3) h
end
end Go.Sx

