/- Chapter 21: the law KnownHolds: plain, and what its walk needs. -/
import Derived.Test.YtldhccgelcmjoaaGreatV4
import Derived.Test.YtldhccgelcmjoaaGreatXY
namespace Go.Sx
open Go Go.Proofs Go.RowKit
theorem H1.appRec {P : Program} {r : Option Nat} {N : Nat} {ds : List Deferred} {Q : Post} {E : Env} {w0 : World} {H : List Atom} {next : Act → World → Prop} {g : Option (Nat × Bool)}
    {d : Nat} {t ty : TypeId} {pos : String} {af : Array Edge} {x y : Operand}
    {e : TypeId} {z : Value} {bb c c2 : Nat} {a ao : Option Addr} {l m : List Rc} {H' : Option Addr → Nat → List Atom} [h : UTy P t (.slice e)] [hi : ITy P e z 15 bb] (hzs : z.cells.size = 15)
    (hx : Env.ev E x = some (.slice a l.length c)) (hy : Env.ev E y = some (.slice ao m.length c2)) (hr : ∀ a' c', Rpl (A.grow e 15 a c l.length (rcl l)) (A.grow e 15 a' c' (l ++ m).length (rcl (l ++ m))) H (H' a' c'))
    (hR : ∀ w, Mm w0 H w → RdR w (.slice ao m.length c2) m) (hnm : l.length + m.length ≤ 1000000) (hb : bb ≤ 1000) (hd : Nat.blt d N = true)
    (hn : ∀ a' c', HN N ds next ((d, .slice a' (l ++ m).length c') :: E) w0 (H' a' c')) :
    H1 P r N ds next ⟨some d, .call ⟨.builtin .append, #[x, y], #[t, t]⟩, ty, pos, af, g⟩ Q E w0 H := by
  have hr' : ∀ a' c', Rpl (A.grow e 15 a c l.length (rcl l)) (A.grow e 15 a' c' (l.length + m.length) (rcl l ++ rcl m)) H (H' a' c') := fun a' c' => by
    have := hr a' c'
    rwa [List.length_append, rcl_app] at this
  have hn' : ∀ a' c', HN N ds next ((d, .slice a' (l.length + m.length) c') :: E) w0 (H' a' c') := fun a' c' => by
    have := hn a' c'
    rwa [List.length_append] at this
  cases ao with
  | some ad =>
    refine H1.app hzs (by decide) hx hy hr' (rcl_len m) (fun w hM => ?_) (rcl_one m) hnm hb hd (fun a' c' _ => hn' a' c')
    intro j u hu
    obtain ⟨a', c', h2, h3, h4⟩ := hR w hM
    cases h2
    rcases h4 with rfl | ⟨b, off, h5, h6, h7⟩
    · simp [rcl] at hu
    · cases h5
      rw [add_lit]
      have hj : j < m.length * 15 := by have := (List.getElem?_eq_some_iff.1 hu).1; rwa [rcl_len] at this
      have hq : j / 15 < m.length := by omega
      have hm15 : j % 15 < 15 := Nat.mod_lt _ (by decide)
      have h8 : (rcells m[j / 15])[j % 15]? = some (rcells m[j / 15])[j % 15] := List.getElem?_eq_getElem (by rw [rcells_len]; exact hm15)
      have h9 := rcl_get (List.getElem?_eq_getElem hq) (j % 15) _ h8
      rw [show j / 15 * 15 + j % 15 = j by omega, hu] at h9
      have h10 := h7 (j / 15) _ (List.getElem?_eq_getElem hq) (j % 15) _ h8
      rw [show off + j / 15 * 15 + j % 15 = off + j by omega] at h10
      rw [h10, ← Option.some.inj h9]
  | none =>
    intro w hM
    obtain ⟨a', c', h2, h3, h4⟩ := hR w hM
    cases h2
    have e0 : m = [] := by
      rcases h4 with h4 | ⟨b, off, h5, -⟩
      · exact h4
      · cases h5
    subst e0
    obtain ⟨i, hi1, hi2, hi3, hi4⟩ := hi.parts
    have hsame : H = H' a c := Rpl.same (x := A.grow e 15 a c l.length (rcl l)) (by have := hr a c; simpa using this)
    have hown := hM.own (hr a c).mem
    refine W1.run (v := .slice a l.length c) (w' := w) (fun ac ha => ?_) rfl hd (by have := hn a c w (hsame ▸ hM); rwa [List.append_nil] at this)
    have hrun := run_append_none (P := P) 0 t ty e i 15 h.is hi1 (.slice a l.length c) l.length c2 (rcl l) hown
    simp only [List.length_nil] at hy
    simp only [execOp, resolve, invoke, Go.builtin, Sem.run_bind, Sem.run_pure, Result.andThen, List.map_toArray, List.map_cons, List.map_nil, ha.ev hx, ha.ev hy, hrun]
section
variable {P : Program} {r : Option Nat} {N : Nat} {ds : List Deferred} {Q : Post} {E : Env} {w0 w : World} {H : List Atom} {q : Nat → Slot} {k b : Nat}
theorem Mm.slotOwn (hM : Mm w0 H w) (hm : bsA q ∈ H) (hk : k < 8) : w.ownsRow 0 24 15 (slot (q k)) (bsL q k).length (rcl (bsL q k)) := by
  have hp : ∀ x ∈ slots q, x.p w := hM.all _ hm
  exact hp (slotA (q k)) (List.mem_map.2 ⟨k, List.mem_range.2 hk, rfl⟩)
theorem HC.opens {co : Code} (hm : bsA q ∈ H) (hk : k < 8) (hne : bsL q k ≠ []) (h : ∀ b, (q k).1 = some ⟨b, 0, none⟩ → HC P r N ds co Q E w0 H) : HC P r N ds co Q E w0 H := fun w hM => by
  rcases (hM.slotOwn hm hk).2 with ⟨-, h0⟩ | ⟨g, cap, cur, hv, -⟩
  · exact absurd (List.eq_nil_of_length_eq_zero h0) hne
  · unfold slot at hv
    injection hv with hv
    exact h g hv w hM
theorem Mm.slotCell (hM : Mm w0 H w) (hm : bsA q ∈ H) (hk : k < 8) (e : (q k).1 = some ⟨b, 0, none⟩) {j : Nat} {rc : Rc} (hr : (bsL q k)[j]? = some rc) : ∀ i v, (rcells rc)[i]? = some v → w.cell? ⟨b, j * 15 + i, none⟩ = some v := fun i v hv => by
  have hown := hM.slotOwn hm hk
  unfold slot at hown
  rw [e] at hown
  have h1 := hown.cells (g := b) rfl (j * 15 + i) v (rcl_get hr i v hv)
  rw [add_lit, Nat.zero_add] at h1
  exact h1
/-- A base of which one list is another one. -/
theorem Mm.baseU {a : Option Addr} {c : Nat} {l : List Rc} (hM : Mm w0 H w) (hm : bsA q ∈ H) (hg : A.grow 24 15 a c l.length (rcl l) ∈ H) : BaseV w (bsV (updQ q k (a, c, l))) (bsL (updQ q k (a, c, l))) := by
  refine ⟨_, rfl, fun i hi => ?_⟩
  by_cases e : i = k
  · subst e
    have e1 : updQ q i (a, c, l) i = (a, c, l) := if_pos rfl
    show RdR w (slot (updQ q i (a, c, l) i)) (updQ q i (a, c, l) i).2.2
    rw [e1]
    exact hM.recs hg
  · have e1 : updQ q k (a, c, l) i = q i := if_neg e
    show RdR w (slot (updQ q k (a, c, l) i)) (updQ q k (a, c, l) i).2.2
    rw [e1]
    obtain ⟨s, h1, h2⟩ := hM.base hm
    exact RdR.of_owns (hM.slotOwn hm hi)
end
theorem bsL_upd (q : Nat → Slot) (k : Nat) (x : Slot) (i : Nat) : bsL (updQ q k x) i = if i = k then x.2.2 else bsL q i := by
  unfold bsL updQ
  split <;> rfl
theorem heldL_mem {L rel : List Rc} {a d x : Int} : x ∈ heldL L rel a d ↔ ∃ r ∈ L, heldB rel a d r = true ∧ r.id = x := by
  unfold heldL
  rw [mem_numL, List.mem_map]
  constructor
  · rintro ⟨r, hr, rfl⟩
    have := List.mem_filter.1 hr
    exact ⟨r, this.1, this.2, rfl⟩
  · rintro ⟨r, h1, h2, rfl⟩
    exact ⟨r, List.mem_filter.2 ⟨h1, h2⟩, rfl⟩
theorem held_wide {L rel : List Rc} {a d : Int} {h : Rc} {x : Int} (hx : x ∈ heldL L rel a d) : x ∈ heldL (L ++ [h]) rel a d := by
  rw [heldL_mem] at hx ⊢
  obtain ⟨r, h1, h2, h3⟩ := hx
  exact ⟨r, List.mem_append_left _ h1, h2, h3⟩
theorem held_narrow {L rel : List Rc} {a d : Int} {h : Rc} {x : Int} (hx : x ∈ heldL L (rel ++ [h]) a d) : x ∈ heldL L rel a d := by
  rw [heldL_mem] at hx ⊢
  obtain ⟨r, h1, h2, h3⟩ := hx
  refine ⟨r, h1, ?_, h3⟩
  unfold heldB at h2 ⊢
  rw [List.any_append, Bool.and_eq_true, Bool.and_eq_true, Bool.not_eq_true', Bool.or_eq_false_iff] at h2
  rw [Bool.and_eq_true, Bool.and_eq_true, Bool.not_eq_true']
  exact ⟨h2.1, h2.2.1, h2.2.2.1⟩
theorem held_over {L rel : List Rc} {a d d' : Int} {r : Rc} (hr : r ∈ rel) (h : r.start ≤ d) (hd : d ≤ d') : r.party ∉ heldL L rel a d' := by
  rw [heldL_mem]
  rintro ⟨s, h1, h2, h3⟩
  unfold heldB at h2
  rw [Bool.and_eq_true, Bool.and_eq_true, Bool.not_eq_true', List.any_eq_false] at h2
  refine h2.2.2 r hr ?_
  unfold overB
  rw [Bool.and_eq_true, decide_eq_true_eq, decide_eq_true_eq]
  exact ⟨h3.symm, by omega⟩
theorem numL_nodup (l : List Int) : (numL l).Nodup := (numL_lt l).imp fun h e => by omega
theorem held_len {L rel : List Rc} {a d : Int} {h : Rc} : (heldL (L ++ [h]) rel a d).length ≤ (heldL L rel a d).length + 1 := by
  have := nodup_len (L := heldL (L ++ [h]) rel a d) (l := h.id :: heldL L rel a d) (numL_nodup _) fun x hx => by
    rw [heldL_mem] at hx
    obtain ⟨r, h1, h2, h3⟩ := hx
    rcases List.mem_append.1 h1 with h1 | h1
    · exact List.mem_cons_of_mem _ (heldL_mem.2 ⟨r, h1, h2, h3⟩)
    · obtain rfl := List.mem_singleton.1 h1
      rw [← h3]; exact List.mem_cons_self ..
  simpa using this
theorem heldL_le (L rel : List Rc) (a d : Int) : (heldL L rel a d).length ≤ L.length := by
  unfold heldL
  refine Nat.le_trans (numL_len _) ?_
  rw [List.length_map]
  exact List.length_filter_le _ _
theorem of_len {l : List Rc} {day k : Int} {L : List Rc} (h : IsOf l day k L) : L.length ≤ l.length :=
  nodup_len (h.asc.imp fun h e => by subst e; omega) fun r hr => ((h.mem r).1 hr).1.1.mem
end Go.Sx

