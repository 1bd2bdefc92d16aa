/- Chapter 19: the library's Clone, Contains, Sort, Equal, IsSorted at numbers, as the walks use them. -/
import Derived.Test.YtfjkdciblblalaaGreatDoorR1
namespace Go.Sx
open Go Go.Proofs Go.RowKit
section
variable {P : Program} {r : Option Nat} {N : Nat} {ds : List Deferred} {ol rest : List Oper} {Q : Post} {E : Env} {w0 : World} {H : List Atom} {next : Act → World → Prop} {g : Option (Nat × Bool)}
/-- A call that turns what is the caller's own. -/
theorem H1.callm {α : Type} {V : α → Value} {H' : α → List Atom} {I : α → Prop} {d : Option Nat} {f : FuncId} {args : List Operand} {ats : Array TypeId} {ty : TypeId} {pos : String} {af : Array Edge} {vs : List Value}
    [hf : CallOk P f] (hd : dOk d N = true) (ha : Env.evs E args = some vs) (hc : ∀ w, Mm w0 H w → Fn P f vs.toArray w fun v w' => ∃ z, I z ∧ v = V z ∧ Mm w0 (H' z) w')
    (h : ∀ z, I z → HN N ds next (putE d (V z) E) w0 (H' z)) :
    H1 P r N ds next ⟨d, .call ⟨.value (.func f), args.toArray, ats⟩, ty, pos, af, g⟩ Q E w0 H := fun w hM => W1.call hd ha (hc w hM) (by
    rintro v w' ⟨z, hz, rfl, hn⟩; exact h z hz w' hn)
end
theorem rd_clone {w : World} {b off c : Nat} {l : List Int} (hR : Rd w (.slice (some ⟨b, off, none⟩) l.length c) (ints l)) : ∀ j, j < l.length → w.cell? ⟨b, off + j, none⟩ = some (.int .i64 (l.getD j 0)) := fun _ hj => hR.cell (ints_get hj)
theorem ints_map (l : List Int) : l.map (Value.int .i64) = ints l := rfl
/-- A slice of the call's own, as an atom. -/
theorem Mm.ownFresh {w w' : World} {e : TypeId} {sz n c : Nat} {a : Option Addr} {xs : List Value} (hx : Ext w w') (h : w'.ownsRow w.heap.size e sz (.slice a n c) n xs) : Mm w [A.grow e sz a c n xs] w' := by
  refine (Mm.nil hx).cons ⟨h.1, ?_⟩ ?_ fun b hb => ?_
  · rcases h.2 with h2 | ⟨g, cap, cur, hv, -, rest⟩
    · exact .inl h2
    · exact .inr ⟨g, cap, cur, hv, Nat.zero_le _, rest⟩
  · show (Option.toList _).Nodup
    cases (Value.slice a n c).ownBlock <;> simp
  · have hb' : (Value.slice a n c).ownBlock = some b := by simpa [A.grow] using hb
    have := h.lt b hb'
    exact ⟨by simp [fps], this.1, this.2⟩
theorem own_shape {w : World} {base : Nat} {e : TypeId} {sz n : Nat} {v : Value} {xs : List Value} (h : w.ownsRow base e sz v n xs) : ∃ a c, v = .slice a n c ∧ (n = 0 ∨ ∃ b, a = some ⟨b, 0, none⟩) := by
  rcases h.2 with ⟨rfl, rfl⟩ | ⟨g, cap, cur, rfl, -⟩
  · exact ⟨none, 0, rfl, .inl rfl⟩
  · exact ⟨_, cap, rfl, .inr ⟨g, rfl⟩⟩
theorem clone_fn (v : Value) (l : List Int) (hl : l.length ≤ 1000000) (w : World) (hR : Rd w v (ints l)) :
    Fn Tryz.prog 40 #[v] w fun u w' => ∃ z : Option Addr × Nat, (l.length = 0 ∨ ∃ b, z.1 = some ⟨b, 0, none⟩) ∧ u = .slice z.1 l.length z.2 ∧ Mm w [A.grow 3 1 z.1 z.2 l.length (ints l)] w' := by
  obtain ⟨a, c, rfl, hc⟩ := hR.isInts
  by_cases hne : l = []
  · subst hne
    cases a with
    | none =>
      refine Calls.mono (Tryz.slices_Clone_int_nil 0 c w) ?_
      rintro e w' ⟨rfl, rfl⟩
      exact ⟨_, rfl, (none, 0), .inl rfl, rfl, (Mm.refl _).grow0 _ _⟩
    | some a =>
      refine Calls.mono (Tryz.slices_Clone_int_zero a c w) ?_
      rintro e w' ⟨v', rfl, h1, h2, h3⟩
      obtain ⟨a', c', rfl, ha⟩ := own_shape h1
      exact ⟨_, rfl, (a', c'), ha, rfl, Mm.ownFresh h3 h1⟩
  · obtain ⟨b, off, rfl, hb⟩ := hR.iat hne
    refine Calls.mono (Tryz.slices_Clone_int b off l.length c l w (Nat.le_refl _) (by omega) (rd_clone hR)) ?_
    rintro e w' ⟨v', rfl, h1, h2, h3⟩
    rw [List.take_length] at h1
    obtain ⟨a', c', rfl, ha⟩ := own_shape h1
    exact ⟨_, rfl, (a', c'), ha, rfl, Mm.ownFresh h3 h1⟩
theorem contains_fn (v : Value) (l : List Int) (x : Int) (hl : l.length ≤ 1000000) (w : World) (hR : Rd w v (ints l)) :
    Fn Tryz.prog 49 #[v, zv x] w fun u w' => u = .bool (l.contains x) ∧ w = w' := by
  obtain ⟨a, c, rfl, hc⟩ := hR.isInts
  by_cases hne : l = []
  · subst hne
    refine Calls.mono (Tryz.slices_Contains_int_empty a c x w) ?_
    rintro e w' ⟨rfl, rfl⟩
    exact ⟨_, rfl, rfl, rfl⟩
  · obtain ⟨b, off, rfl, hb⟩ := hR.iat hne
    refine Calls.mono (Tryz.slices_Contains_int b off l.length c l x w (Nat.le_refl _) (by omega) (rd_clone hR)) ?_
    rintro e w' ⟨rfl, rfl⟩
    rw [List.take_length]
    exact ⟨_, rfl, rfl, rfl⟩
def srt (l : List Int) : List Int := l.mergeSort fun x y => decide (x ≤ y)
theorem sort_own {w0 w : World} {H H' : List Atom} {b c : Nat} {l : List Int} (hM : Mm w0 H w) (hr : Rpl (A.grow 3 1 (some ⟨b, 0, none⟩) c l.length (ints l)) (A.grow 3 1 (some ⟨b, 0, none⟩) c l.length (ints (srt l))) H H') (hl : l.length ≤ 1000000) :
    Fn Tryz.prog 41 #[.slice (some ⟨b, 0, none⟩) l.length c] w fun v w' => v = .tuple #[] ∧ Mm w0 H' w' := by
  have hown := hM.own hr.mem
  rcases hown.2 with ⟨hv, -⟩ | ⟨g, cap, cur, hv, -, hg, hnc, hcm, hcs, htake⟩
  · cases hv
  cases hv
  have hlt := (Array.getElem?_eq_some_iff.1 hg).1
  have hcell : ∀ j, j < l.length → w.cell? ⟨b, j, none⟩ = some (zv (at' l j)) := fun j hj => ownsRow_cell hown (ints_get hj)
  refine Calls.mono (Tryz.slices_Sort_int b 0 c l w (fun j hj => ?_) hlt (by omega)) ?_
  · have hj' : j < l.length := by simpa using hj
    rw [Nat.zero_add, hcell j hj']
    refine ⟨?_, by simp [World.frozen?, hg]⟩
    simp [at', hj', zv, getElem!_pos]
  · rintro e w' ⟨rfl, n, os, rfl⟩
    refine ⟨_, rfl, rfl, hM.turn hr rfl rfl rfl ?_ (fun k hk hkb => ?_) ?_ (by simp [A.grow, Value.ownBlock]) (fun b' hb' => .inl (by simpa [A.grow, Value.ownBlock] using hb'))⟩
    · simp [Go.Sort.grow, Go.Sort.putRow, Go.Sort.mapBlock, Go.Sort.ahead]
    · have hkb' : ¬ b = k := fun e => hkb (by subst e; simp [A.grow, Value.ownBlock])
      have hs : (Go.Sort.putRow (Value.int .i64) (Go.Sort.ahead w n) b 0 (srt l).toArray).heap.size = w.heap.size := by simp [Go.Sort.putRow, Go.Sort.mapBlock, Go.Sort.ahead]
      show ((Go.Sort.putRow (Value.int .i64) (Go.Sort.ahead w n) b 0 (srt l).toArray).heap ++ os)[k]? = _
      rw [Array.getElem?_append, if_pos (by rw [hs]; exact hk)]
      show (w.heap.modify b _)[k]? = _
      rw [Array.getElem?_modify, if_neg hkb']
    · have hls : (srt l).length = l.length := by simp [srt]
      refine ⟨by simp [ints, hls], .inr ⟨b, c, Go.Sort.putCells (Value.int .i64) 0 (srt l).toArray cur, rfl, Nat.zero_le _, ?_, hnc, hcm, ?_, ?_⟩⟩
      · have hm : (Go.Sort.putRow (Value.int .i64) (Go.Sort.ahead w n) b 0 (srt l).toArray).heap[b]? = some (.cells (Go.Sort.putCells (Value.int .i64) 0 (srt l).toArray cur) 3 (0, 0)) := by
          simp [Go.Sort.putRow, Go.Sort.mapBlock, Go.Sort.ahead, Array.getElem?_modify, hg, Go.Sort.onCells]
        have hs : (Go.Sort.putRow (Value.int .i64) (Go.Sort.ahead w n) b 0 (srt l).toArray).heap.size = w.heap.size := by simp [Go.Sort.putRow, Go.Sort.mapBlock, Go.Sort.ahead]
        show (Go.Sort.grow (Go.Sort.putRow (Value.int .i64) (Go.Sort.ahead w n) b 0 (srt l).toArray) os).heap[b]? = _
        rw [Go.Sort.grow]
        simp only [Array.getElem?_append]
        rw [if_pos (by rw [hs]; exact hlt), hm]
      · simp [Go.Sort.putCells, hcs]
      · apply List.ext_getElem?
        intro i
        rw [List.getElem?_take]
        have hlen : l.length ≤ cur.size := by omega
        by_cases hi : i < l.length
        · rw [if_pos (by omega), ints_get (by rw [hls]; exact hi)]
          have hi2 : i < cur.size := by omega
          have hi3 : i < (srt l).length := by rw [hls]; exact hi
          simp [Go.Sort.putCells, hi2, at', zv, hi3]
        · rw [if_neg (by omega), List.getElem?_eq_none (by rw [ints_len, hls]; omega)]
end Go.Sx

