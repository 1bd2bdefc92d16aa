/- Plain, chapter 21: what is in effect by lists that are known. -/
import Derived.Test.YtldhccgelcmjoaaGreatXW
namespace Go.Sx
open Go
theorem prev_key {a b : Rc} (h : Prev a b) : a.kind = b.kind ∧ numR a = numR b := by
  have h1 := num_lim h.1.1
  have h2 := num_lim h.1.2.1
  exact key_inj h.1.1 h.1.2.1 (by omega) (by omega) h.1.2.2
theorem IsOf.is {l : List Rc} {day k : Int} {L M : List Rc} (h : IsOf l day k L) (hM : asK M) (hm : ∀ r, r ∈ M ↔ (Top l day r ∧ r.gone = false) ∧ r.kind = k) : L = M :=
  asK_uniq h.asc hM fun r => by rw [h.mem, hm]
/-- A check that a record is valid. -/
def vchk (r : Rc) : Bool :=
  decide (1 ≤ r.kind ∧ r.kind ≤ 8) && decide (1 ≤ r.version ∧ r.version ≤ 1000000) && decide (0 ≤ r.day ∧ r.day ≤ 100000) && decide (r.text.size ≤ 200) && decide (restP r) && ((specF r.kind).all fun p => decide (p.2.1 ≤ r.get p.1 ∧ r.get p.1 ≤ p.2.2)) &&
    ((List.range 10).all fun i => ((specF r.kind).map Prod.fst).contains i || decide (r.get i = 0))
theorem vchk_ok {r : Rc} (h : vchk r = true) : ValidR r := by
  unfold vchk at h
  simp only [Bool.and_eq_true, decide_eq_true_eq, List.all_eq_true, Bool.or_eq_true, List.mem_range, List.contains_iff_mem] at h
  obtain ⟨⟨⟨⟨⟨⟨h1, h2⟩, h3⟩, h4⟩, h5⟩, h6⟩, h7⟩ := h
  exact ⟨h1, h2, h3, h4, h5, h6, fun i hi hm => (h7 i hi).resolve_left hm⟩
theorem RcOk.of_valid {r : Rc} (h : ValidR r) : RcOk r := by
  have hg : ∀ i, i < 10 → i64W (r.get i) := fun i hi => by
    by_cases hm : i ∈ (specF r.kind).map Prod.fst
    · obtain ⟨p, hp, rfl⟩ := List.mem_map.1 hm
      have h1 := h.lim p hp
      have h2 := spec_hi hp
      have h3 := (spec_lo hp).1
      unfold i64W; omega
    · rw [h.zero i hi hm]; unfold i64W; omega
  have h1 := h.kind
  have h2 := h.ver
  have h3 := h.day
  have h4 := h.text
  exact ⟨by unfold i64W; omega, hg 0 (by decide), by unfold i64W; omega, by unfold i64W; omega, hg 1 (by decide), hg 2 (by decide), hg 3 (by decide), hg 4 (by decide), hg 5 (by decide), hg 6 (by decide), hg 7 (by decide), hg 9 (by decide), by simp only [maxLen]; omega⟩
theorem numL_id {l : List Int} (h : l.Pairwise (· < ·)) : numL l = l := asc_same (numL_lt l) h fun x => mem_numL
/-- The records of the examples. -/
def ex0 : Rc := ⟨5, 4, 1, 0, false, 10, 90, 0, 0, 0, 0, 0, false, 0, ByteArray.mk #[]⟩
def ex1 : Rc := ⟨5, 5, 1, 0, false, 20, 30, 7, 0, 0, 0, 0, false, 0, ByteArray.mk #[]⟩
def ex2 : Rc := ⟨6, 0, 1, 0, false, 50, 0, 0, 0, 0, 0, 0, false, 4, ByteArray.mk #[]⟩
def ex3 : Rc := ⟨5, 4, 2, 30, true, 10, 90, 0, 0, 0, 0, 0, false, 0, ByteArray.mk #[]⟩
def exL : List Rc := [ex0, ex1, ex2, ex3]
theorem exv0 : ValidR ex0 := vchk_ok (by decide)
theorem exv1 : ValidR ex1 := vchk_ok (by decide)
theorem exv2 : ValidR ex2 := vchk_ok (by decide)
theorem exv3 : ValidR ex3 := vchk_ok (by decide)
theorem ex_valid : ∀ r ∈ exL, ValidR r := by
  intro r hr
  simp only [exL, List.mem_cons, List.not_mem_nil, or_false] at hr
  rcases hr with rfl | rfl | rfl | rfl
  · exact exv0
  · exact exv1
  · exact exv2
  · exact exv3
theorem ex_no {a b : Rc} (h : ¬ (a.kind = b.kind ∧ numR a = numR b)) : ¬ Prev a b := fun hp => h (prev_key hp)
theorem ex_p10 : ¬ Prev ex1 ex0 := ex_no (by decide)
theorem ex_p20 : ¬ Prev ex2 ex0 := ex_no (by decide)
theorem ex_p01 : ¬ Prev ex0 ex1 := ex_no (by decide)
theorem ex_p21 : ¬ Prev ex2 ex1 := ex_no (by decide)
theorem ex_p31 : ¬ Prev ex3 ex1 := ex_no (by decide)
theorem ex_p02 : ¬ Prev ex0 ex2 := ex_no (by decide)
theorem ex_p12 : ¬ Prev ex1 ex2 := ex_no (by decide)
theorem ex_p32 : ¬ Prev ex3 ex2 := ex_no (by decide)
theorem ex_p30 : Prev ex3 ex0 := ⟨⟨exv3, exv0, rfl⟩, .inl (by decide)⟩
theorem ex_early (r : Rc) : Top exL 29 r ↔ r = ex0 ∨ r = ex1 ∨ r = ex2 := by
  constructor
  · intro h
    have hm := h.mem
    simp only [exL, List.mem_cons, List.not_mem_nil, or_false] at hm
    rcases hm with h1 | h1 | h1 | h1
    · exact .inl h1
    · exact .inr (.inl h1)
    · exact .inr (.inr h1)
    · have := h.now.2
      rw [h1] at this
      exact absurd this (by decide)
  · have hs : ∀ s ∈ exL, s.day ≤ 29 → s = ex0 ∨ s = ex1 ∨ s = ex2 := fun s hs hd => by
      simp only [exL, List.mem_cons, List.not_mem_nil, or_false] at hs
      rcases hs with h1 | h1 | h1 | h1
      · exact .inl h1
      · exact .inr (.inl h1)
      · exact .inr (.inr h1)
      · rw [h1] at hd; exact absurd hd (by decide)
    rintro (rfl | rfl | rfl)
    · refine ⟨by simp [exL], ⟨exv0, by decide⟩, fun s h1 h2 => ?_⟩
      rcases hs s h1 h2 with rfl | rfl | rfl
      · exact prev_irr _
      · exact ex_p10
      · exact ex_p20
    · refine ⟨by simp [exL], ⟨exv1, by decide⟩, fun s h1 h2 => ?_⟩
      rcases hs s h1 h2 with rfl | rfl | rfl
      · exact ex_p01
      · exact prev_irr _
      · exact ex_p21
    · refine ⟨by simp [exL], ⟨exv2, by decide⟩, fun s h1 h2 => ?_⟩
      rcases hs s h1 h2 with rfl | rfl | rfl
      · exact ex_p02
      · exact ex_p12
      · exact prev_irr _
theorem ex_late (r : Rc) : (Top exL 30 r ∧ r.gone = false) ↔ r = ex1 ∨ r = ex2 := by
  have hs : ∀ s ∈ exL, s = ex0 ∨ s = ex1 ∨ s = ex2 ∨ s = ex3 := fun s hs => by
    simp only [exL, List.mem_cons, List.not_mem_nil, or_false] at hs
    exact hs
  constructor
  · rintro ⟨h, hg⟩
    rcases hs r h.mem with rfl | h1 | h1 | rfl
    · exact absurd ex_p30 (h.top ex3 (by simp [exL]) (by decide))
    · exact .inl h1
    · exact .inr h1
    · exact absurd hg (by decide)
  · rintro (rfl | rfl)
    · refine ⟨⟨by simp [exL], ⟨exv1, by decide⟩, fun s h1 h2 => ?_⟩, rfl⟩
      rcases hs s h1 with rfl | rfl | rfl | rfl
      · exact ex_p01
      · exact prev_irr _
      · exact ex_p21
      · exact ex_p31
    · refine ⟨⟨by simp [exL], ⟨exv2, by decide⟩, fun s h1 h2 => ?_⟩, rfl⟩
      rcases hs s h1 with rfl | rfl | rfl | rfl
      · exact ex_p02
      · exact ex_p12
      · exact prev_irr _
      · exact ex_p32
/-- The lists of a base, from few records in effect. -/
def exB (k : Nat) : List Rc → List Rc
  | [] => []
  | r :: l => if r.kind = (k : Int) + 1 then r :: exB k l else exB k l
theorem exB_mem {k : Nat} {r : Rc} : ∀ {l : List Rc}, r ∈ exB k l ↔ r ∈ l ∧ r.kind = (k : Int) + 1
  | [] => by simp [exB]
  | s :: l => by
    unfold exB
    split
    · rename_i h
      rw [List.mem_cons, List.mem_cons, exB_mem]
      constructor
      · rintro (rfl | h1)
        · exact ⟨.inl rfl, h⟩
        · exact ⟨.inr h1.1, h1.2⟩
      · rintro ⟨rfl | h1, h2⟩
        · exact .inl rfl
        · exact .inr ⟨h1, h2⟩
    · rename_i h
      rw [List.mem_cons, exB_mem]
      constructor
      · exact fun h1 => ⟨.inr h1.1, h1.2⟩
      · rintro ⟨rfl | h1, h2⟩
        · exact absurd h2 h
        · exact ⟨h1, h2⟩
theorem early_is {k : Nat} {L : List Rc} (h : IsOf exL 29 ((k : Int) + 1) L) (hk : k < 8) : L = exB k [ex0, ex1, ex2] := by
  refine h.is ?_ fun r => ?_
  · rcases (show k = 0 ∨ k = 1 ∨ k = 2 ∨ k = 3 ∨ k = 4 ∨ k = 5 ∨ k = 6 ∨ k = 7 by omega) with rfl | rfl | rfl | rfl | rfl | rfl | rfl | rfl <;> first | exact List.Pairwise.nil | exact List.pairwise_singleton _ _ | (refine List.pairwise_cons.2 ⟨fun b hb => ?_, List.pairwise_singleton _ _⟩; obtain rfl := List.mem_singleton.1 hb; decide)
  · rw [exB_mem]
    constructor
    · rintro ⟨hm, hk⟩
      simp only [List.mem_cons, List.not_mem_nil, or_false] at hm
      exact ⟨⟨(ex_early r).2 hm, by rcases hm with rfl | rfl | rfl <;> rfl⟩, hk⟩
    · rintro ⟨⟨ht, -⟩, hk⟩
      have := (ex_early r).1 ht
      exact ⟨by simpa using this, hk⟩
theorem late_is {k : Nat} {L : List Rc} (h : IsOf exL 30 ((k : Int) + 1) L) (hk : k < 8) : L = exB k [ex1, ex2] := by
  refine h.is ?_ fun r => ?_
  · rcases (show k = 0 ∨ k = 1 ∨ k = 2 ∨ k = 3 ∨ k = 4 ∨ k = 5 ∨ k = 6 ∨ k = 7 by omega) with rfl | rfl | rfl | rfl | rfl | rfl | rfl | rfl <;> first | exact List.Pairwise.nil | exact List.pairwise_singleton _ _
  · rw [exB_mem, ex_late]
    simp
end Go.Sx

