/- Chapter 21: the law KnownOthers: plain. -/
import Derived.Test.YtldhccgelcmjoaaGreatV8
namespace Go.Sx
open Go Go.Proofs Go.RowKit
/-- What is a package's own. -/
def ownB (p : Int) (r : Rc) : Bool := decide (r.pack = p) || ((decide (r.kind = 5) && decide (r.pack = 0)) || decide (r.kind = 6))
/-- Records whose keys do not stand among some records make no difference to these. -/
theorem top_own {l own : List Rc} {day : Int} (hsub : ∀ r ∈ own, r ∈ l) (hno : ∀ r ∈ l, r ∉ own → ∀ s ∈ own, keyR r ≠ keyR s) (t : Rc) : Top own day t ↔ Top l day t ∧ t ∈ own := by
  constructor
  · intro h
    refine ⟨⟨hsub t h.mem, h.now, fun s hs hd hp => ?_⟩, h.mem⟩
    by_cases hm : s ∈ own
    · exact h.top s hm hd hp
    · exact hno s hs hm t h.mem hp.1.2.2
  · rintro ⟨h, hm⟩
    exact ⟨hm, h.now, fun s hs hd => h.top s (hsub s hs) hd⟩
theorem numL_ext {l m : List Int} (h : ∀ x, x ∈ l ↔ x ∈ m) : numL l = numL m := asc_same (numL_lt l) (numL_lt m) fun x => by rw [mem_numL, mem_numL, h]
/-- The lists of a base, and of what is a package's own of it. -/
structure OthC (p : Int) (L M : Nat → List Rc) : Prop where
  sub : ∀ i, i < 8 → ∀ r ∈ M i, r ∈ L i
  own : ∀ i, i < 8 → ∀ r ∈ L i, ownB p r = true → r ∈ M i
  kind : ∀ i : Nat, i < 8 → ∀ r ∈ L i, r.kind = (i : Int) + 1
theorem oth_of {l : List Rc} {p day : Int} {L M : Nat → List Rc} (hno : ∀ r ∈ l, r ∉ l.filter (ownB p) → ∀ s ∈ l.filter (ownB p), keyR r ≠ keyR s) (hL : ∀ i : Nat, i < 8 → IsOf l day ((i : Int) + 1) (L i)) (hM : ∀ i : Nat, i < 8 → IsOf (l.filter (ownB p)) day ((i : Int) + 1) (M i)) : OthC p L M := by
  have ht := fun t => top_own (day := day) (own := l.filter (ownB p)) (fun r hr => (List.mem_filter.1 hr).1) hno t
  refine ⟨fun i hi r hr => ?_, fun i hi r hr ho => ?_, fun i hi r hr => (((hL i hi).mem r).1 hr).2⟩
  · obtain ⟨⟨h1, h2⟩, h3⟩ := ((hM i hi).mem r).1 hr
    exact ((hL i hi).mem r).2 ⟨⟨((ht r).1 h1).1, h2⟩, h3⟩
  · obtain ⟨⟨h1, h2⟩, h3⟩ := ((hL i hi).mem r).1 hr
    exact ((hM i hi).mem r).2 ⟨⟨(ht r).2 ⟨h1, List.mem_filter.2 ⟨h1.mem, ho⟩⟩, h2⟩, h3⟩
theorem any_same {L M : List Rc} {f : Rc → Bool} (hs : ∀ r ∈ M, r ∈ L) (hf : ∀ r ∈ L, f r = true → r ∈ M) : L.any f = M.any f := by
  rw [Bool.eq_iff_iff, List.any_eq_true, List.any_eq_true]
  exact ⟨fun ⟨r, h1, h2⟩ => ⟨r, hf r h1 h2, h2⟩, fun ⟨r, h1, h2⟩ => ⟨r, hs r h1, h2⟩⟩
theorem num_same {L M : List Rc} {f : Rc → Bool} {g : Rc → Int} (hs : ∀ r ∈ M, r ∈ L) (hf : ∀ r ∈ L, f r = true → r ∈ M) : numL ((L.filter f).map g) = numL ((M.filter f).map g) := by
  refine numL_ext fun x => ?_
  simp only [List.mem_map, List.mem_filter]
  exact ⟨fun ⟨r, ⟨h1, h2⟩, h3⟩ => ⟨r, ⟨hf r h1 h2, h2⟩, h3⟩, fun ⟨r, ⟨h1, h2⟩, h3⟩ => ⟨r, ⟨hs r h1, h2⟩, h3⟩⟩
theorem own_pack {p : Int} {r : Rc} (h : r.pack = p) : ownB p r = true := by
  unfold ownB
  rw [decide_eq_true h]
  rfl
section
variable {p : Int} {L M : Nat → List Rc} (h : OthC p L M)
include h
theorem oth_cons (b d : Int) : (M 2).any (aboutB p b d) = (L 2).any (aboutB p b d) :=
  (any_same (h.sub 2 (by decide)) fun r hr hf => h.own 2 (by decide) r hr (own_pack (by unfold aboutB at hf; simp only [Bool.and_eq_true, decide_eq_true_eq] at hf; exact hf.1))).symm
theorem oth_emb (d : Int) : embL (M 3) p d = embL (L 3) p d :=
  (num_same (h.sub 3 (by decide)) fun r hr hf => h.own 3 (by decide) r hr (own_pack (by unfold embB at hf; simp only [Bool.and_eq_true, decide_eq_true_eq] at hf; exact hf.1))).symm
theorem oth_hid (b d : Int) : hidL (M 6) p b d = hidL (L 6) p b d :=
  (num_same (h.sub 6 (by decide)) fun r hr hf => h.own 6 (by decide) r hr (own_pack (by unfold aboutB at hf; simp only [Bool.and_eq_true, decide_eq_true_eq] at hf; exact hf.1))).symm
theorem oth_held (d : Int) : heldL (M 4) (M 5) p d = heldL (L 4) (L 5) p d := by
  have e : heldB (M 5) p d = heldB (L 5) p d := by
    funext r
    unfold heldB
    rw [any_same (L := L 5) (M := M 5) (h.sub 5 (by decide)) fun s hs _ => h.own 5 (by decide) s hs (by
      have hk : s.kind = 6 := h.kind 5 (by decide) s hs
      unfold ownB
      rw [decide_eq_true hk, Bool.or_true, Bool.or_true])]
  unfold heldL
  rw [e]
  refine (num_same (h.sub 4 (by decide)) fun r hr hf => h.own 4 (by decide) r hr ?_).symm
  have hk : r.kind = 5 := h.kind 4 (by decide) r hr
  unfold heldB at hf
  simp only [Bool.and_eq_true, Bool.or_eq_true, decide_eq_true_eq] at hf
  rcases hf.1 with h0 | h0
  · unfold ownB
    rw [decide_eq_true hk, decide_eq_true h0]
    simp
  · exact own_pack h0
end
theorem embL_le (L : List Rc) (a d : Int) : (embL L a d).length ≤ L.length := by
  unfold embL
  refine Nat.le_trans (numL_len _) ?_
  rw [List.length_map]
  exact List.length_filter_le _ _
theorem hidL_le (L : List Rc) (a b d : Int) : (hidL L a b d).length ≤ L.length := by
  unfold hidL
  refine Nat.le_trans (numL_len _) ?_
  rw [List.length_map]
  exact List.length_filter_le _ _
theorem POp.seqYes {N : Nat} {ds : List Deferred} {E : Env} {x y : Operand} {t' ty t : TypeId} {s u : ByteArray} [UTy Tryz.prog t .string] (hx : Env.ev E x = some (.string s)) (hy : Env.ev E y = some (.string u)) (h : s = u) : POp Tryz.prog N ds E (.binOp .eql t x y t') ty (.bool true) := by
  rw [← decide_eq_true h]
  exact POp.seql hx hy
/-- The first of a list, of which some are kept. -/
theorem filt_yes {f : Rc → Bool} {l : List Rc} {i : Nat} {r : Rc} (hr : l[i]? = some r) (h : f r = true) : (l.take (i + 1)).filter f = (l.take i).filter f ++ [r] := by
  rw [take_snoc hr, List.filter_append, List.filter_cons, if_pos h, List.filter_nil]
theorem filt_no {f : Rc → Bool} {l : List Rc} {i : Nat} {r : Rc} (hr : l[i]? = some r) (h : f r = false) : (l.take (i + 1)).filter f = (l.take i).filter f := by
  rw [take_snoc hr, List.filter_append, List.filter_cons, if_neg (by rw [h]; decide), List.filter_nil, List.append_nil]
theorem filt_len {f : Rc → Bool} {l : List Rc} {i : Nat} : ((l.take i).filter f).length ≤ l.length :=
  Nat.le_trans (List.length_filter_le _ _) (by rw [List.length_take]; omega)
end Go.Sx

