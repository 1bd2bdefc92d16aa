/-
  The layer with atoms: many atoms as one; append of a list that may be nil.
-/
import Derived.Test.YtionfblneloaiaaGreatDoorHv
import Derived.Laws.OwnMore
namespace Go.Sx
open Go Go.RowKit
/-- Some atoms as one. -/
def A.all (K : List Atom) : Atom := ⟨fps K, fun w => ∀ x ∈ K, x.p w, fun w w' hs h hp x hx => x.loc w w' hs (fun b hb => h b (mem_fps hx hb)) (hp x hx)⟩
theorem Mm.pack {w0 w : World} {K H : List Atom} (h : Mm w0 (K ++ H) w) : Mm w0 (A.all K :: H) w := by
  refine ⟨h.ext, fun x hx => ?_, ?_, fun b hb => ?_⟩
  · rcases List.mem_cons.1 hx with rfl | hx
    · exact fun y hy => h.all y (List.mem_append_left _ hy)
    · exact h.all x (List.mem_append_right _ hx)
  · have := h.nd; rwa [fps_append] at this
  · refine h.rng b ?_
    rw [fps_append]; exact hb
theorem Mm.pack1 {w0 w : World} {K : List Atom} (h : Mm w0 K w) : Mm w0 [A.all K] w := Mm.pack (H := []) (by simpa using h)
theorem Mm.unpack {w0 w : World} {K H : List Atom} (h : Mm w0 (A.all K :: H) w) : Mm w0 (K ++ H) w := by
  refine ⟨h.ext, fun x hx => ?_, ?_, fun b hb => h.rng b ?_⟩
  · rcases List.mem_append.1 hx with hx | hx
    · exact h.all (A.all K) (List.Mem.head _) x hx
    · exact h.all x (List.Mem.tail _ hx)
  · have := h.nd; rw [fps_append]; exact this
  · rw [fps_append] at hb; exact hb
theorem Mm.allNil {w0 w : World} {H : List Atom} (h : Mm w0 H w) : Mm w0 (A.all [] :: H) w := Mm.pack (K := []) h
/-- One more among those that are one. -/
theorem Mm.allAdd {w0 w : World} {a : Atom} {K H : List Atom} (h : Mm w0 (a :: A.all K :: H) w) : Mm w0 (A.all (K ++ [a]) :: H) w := by
  refine Mm.pack ?_
  have h1 : Mm w0 (A.all K :: a :: H) w := h.perm (List.Perm.swap _ _ _)
  have h2 := h1.unpack
  simpa using h2
theorem run_append_none {P : Program} {w : World} (base : Nat) (t ty e : TypeId) (i : TypeInfo) (size : Nat) (ht : P.underlying t = some (.slice e)) (hi : P.info? e = some i)
    (v : Value) (n c : Nat) (xs : List Value) (hown : w.ownsRow base e size v n xs) :
    (Builtin.append_ #[t, t] ty #[v, .slice none 0 c]).run P w = .ok v w := by
  rcases hown.2 with ⟨rfl, rfl⟩ | ⟨g, cap, cur, rfl, _, _, hnc, _⟩
  · simp [Builtin.append_, run_underlying ht, sizeOf, typeInfo, hi, Builtin.lenOf, Builtin.firstCells]
  · simp [Builtin.append_, run_underlying ht, sizeOf, typeInfo, hi, Builtin.lenOf, Builtin.firstCells, hnc, storeCells]
theorem Rpl.same {x : Atom} {H H' : List Atom} (h : Rpl x x H H') : H = H' := by
  generalize hy : x = y at h
  induction h with
  | here => rfl
  | there _ ih => rw [ih]
theorem H1.appR {P : Program} {r : Option Nat} {N : Nat} {ds : List Deferred} {Q : Post} {E : Env} {w0 : World} {H : List Atom} {next : Act → World → Prop} {g : Option (Nat × Bool)}
    {d : Nat} {t ty : TypeId} {pos : String} {af : Array Edge} {x y : Operand}
    {e : TypeId} {z : Value} {bb n c c2 : Nat} {a ao : Option Addr} {xs vs : List Value} {H' : Option Addr → Nat → List Atom} [h : UTy P t (.slice e)] [hi : ITy P e z 1 bb] (hzs : z.cells.size = 1)
    (hx : Env.ev E x = some (.slice a n c)) (hy : Env.ev E y = some (.slice ao vs.length c2)) (hr : ∀ a' c', Rpl (A.grow e 1 a c n xs) (A.grow e 1 a' c' (n + vs.length) (xs ++ vs)) H (H' a' c'))
    (hR : ∀ w, Mm w0 H w → Rd w (.slice ao vs.length c2) vs) (h1 : ∀ u ∈ vs, u.oneCell' = true) (hnm : n + vs.length ≤ 1000000) (hb : bb ≤ 1000) (hd : Nat.blt d N = true)
    (ha0 : n = 0 ∨ ∃ b, a = some ⟨b, 0, none⟩) (hn : ∀ a' c', (n + vs.length = 0 ∨ ∃ b, a' = some ⟨b, 0, none⟩) → HN N ds next ((d, .slice a' (n + vs.length) c') :: E) w0 (H' a' c')) :
    H1 P r N ds next ⟨some d, .call ⟨.builtin .append, #[x, y], #[t, t]⟩, ty, pos, af, g⟩ Q E w0 H := by
  cases ao with
  | some ad =>
    refine H1.app hzs (by decide) hx hy hr (by simp) (fun w hM => ?_) h1 hnm hb hd hn
    intro j u hu
    obtain ⟨a', c', h2, h3, h4⟩ := hR w hM
    cases h2
    rcases h4 with rfl | ⟨b, off, h5, h6, h7⟩
    · simp at hu
    · cases h5; rw [add_lit]; exact h7 j u hu
  | none =>
    intro w hM
    obtain ⟨a', c', h2, h3, h4⟩ := hR w hM
    cases h2
    have e0 : vs = [] := by
      rcases h4 with h4 | ⟨b, off, h5, -⟩
      · exact h4
      · cases h5
    subst e0
    obtain ⟨i, hi1, hi2, hi3, hi4⟩ := hi.parts
    have hsame : H = H' a c := Rpl.same (x := A.grow e 1 a c n xs) (by have := hr a c; simpa using this)
    have hown := hM.own (hr a c).mem
    refine W1.run (v := .slice a n c) (w' := w) (fun ac ha => ?_) rfl hd (by have := hn a c ha0 w (hsame ▸ hM); rwa [List.length_nil, Nat.add_zero] at this)
    have hrun := run_append_none (P := P) 0 t ty e i 1 h.is hi1 (.slice a n c) n c2 xs hown
    simp only [List.length_nil] at hy
    simp only [execOp, resolve, invoke, Go.builtin, Sem.run_bind, Sem.run_pure, Result.andThen, List.map_toArray, List.map_cons, List.map_nil, ha.ev hx, ha.ev hy, hrun]
/-- A guarded operation, a call at that, that is not performed. -/
theorem HO.drop_a {P : Program} {N : Nat} {ds : List Deferred} {ol : List Oper} {Q : Post} {E : Env} {w0 : World} {H : List Atom} {fuel : Nat} {listed : Array Bool} {ty : TypeId} {pos : String} {af : Array Edge} {op : Op} {d : Option Nat} {i j : Nat} {want b : Bool} (hj : guardE ol E j = some b)
    (h : HA P N ds ol fuel (listed.setIfInBounds i true) Q (putE d undef E) w0 H)
    (hb : b = !want := by
      first | with_reducible rfl | assumption | (simp only [Bool.not_true, Bool.not_false]; done) | (simp only [decide_eq_true_eq, decide_eq_false_iff_not, Bool.not_true, Bool.not_false, not_true_eq_false, not_false_eq_true, reduceCtorEq]; first | done | assumption | omega)) (hd : dOk d N = true := by exact rfl) : HO P N ds ol fuel listed i ⟨d, op, ty, pos, af, some (j, want)⟩ Q E w0 H := fun w hM a ha => by
  have hy := guardE_spec hj ha
  have hne : ((some (!want) : Option Bool) == some want) = false := by cases want <;> rfl
  simp only [Region.wanted, hy, hb, hne, Bool.false_eq_true, if_false]
  exact h w hM _ (ha.putO hd undef)
section
variable {l : List (Addr × Value)} {w0 : World} {H : List Atom}
variable {P : Program} {N : Nat} {ds : List Deferred} {ol : List Oper} {Q : Post} {E : Env} {fuel : Nat} {listed : Array Bool} {ty : TypeId} {pos : String} {af : Array Edge}
theorem HP.drop_a {op : Op} {d : Option Nat} {i j : Nat} {want b : Bool} (hj : guardE ol E j = some b) (h : HB l P N ds ol fuel (listed.setIfInBounds i true) Q (putE d undef E) w0 H)
    (hb : b = !want := by
      first | with_reducible rfl | assumption | (simp only [Bool.not_true, Bool.not_false]; done) | (simp only [decide_eq_true_eq, decide_eq_false_iff_not, Bool.not_true, Bool.not_false, not_true_eq_false, not_false_eq_true, reduceCtorEq]; first | done | assumption | omega))
    (hd : dOk d N = true := by exact rfl) : HP l P N ds ol fuel listed i ⟨d, op, ty, pos, af, some (j, want)⟩ Q E w0 H := fun w hM a ha => by
  have hy := guardE_spec hj ha
  have hne : ((some (!want) : Option Bool) == some want) = false := by cases want <;> rfl
  simp only [Region.wanted, hy, hb, hne, Bool.false_eq_true, if_false]
  exact h w hM _ (ha.putO hd undef)
end
end Go.Sx

