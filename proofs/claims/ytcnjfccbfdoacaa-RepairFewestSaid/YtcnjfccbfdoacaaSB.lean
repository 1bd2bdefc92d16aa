/- Slices of which one element is cut out: append(l[:i:i], l[i+1:]...), l being read only. -/
import Derived.Test.YtcnjfccbfdoacaaSA
import Derived.Test.YtcnjfccbfdoacaaR8
namespace Go.Sx
open Go Go.Proofs Go.RowKit
section
variable {P : Program} {N : Nat} {ds : List Deferred} {E : Env} {t ty : TypeId} {x lo hi mx : Operand} {k' k2 : IntKind}
/-- Where a slice begins that is cut from m on. -/
def cutA (a : Option Addr) (c m : Nat) : Option Addr := if c = m then a else a.map (·.add m)
theorem add_zero' (a : Addr) : a.add 0 = a := rfl
theorem POp.cut3 {e : TypeId} {a : Option Addr} {l c i : Nat} {z : Value} {sz bb : Nat} [h : UTy P t (.slice e)] [hi' : ITy P e z sz bb] (hx : Env.ev E x = some (.slice a l c)) (hh : Env.ev E hi = some (.int k' (i : Int))) (hm : Env.ev E mx = some (.int k2 (i : Int))) (h1 : i ≤ c) :
    POp P N ds E (.slice t x none (some hi) (some mx)) ty (.slice a i i) := fun ac ha d pos af g w => by
  have e1 : (a.map fun b => b.add 0) = a := by cases a <;> rfl
  simp [execOp, ha.ev hx, ha.ev hh, ha.ev hm, Instr.sliceAt, Instr.slice, run_underlying h.is, Instr.sliceBounds, run_bound (show 0 ≤ (i : Int) by omega) (show (i : Int) ≤ (c : Int) by omega), run_bound (show 0 ≤ (i : Int) by omega) (Int.le_refl (i : Int)), Sem.run_bind, run_sizeOf, e1]
theorem POp.cut_lo {e : TypeId} {a : Option Addr} {l c m : Nat} {z : Value} {bb : Nat} [h : UTy P t (.slice e)] [hi' : ITy P e z 1 bb] (hx : Env.ev E x = some (.slice a l c)) (hl : Env.ev E lo = some (.int k' (m : Int))) (h1 : m ≤ l) :
    POp P N ds E (.slice t x (some lo) none none) ty (.slice (cutA a c m) (l - m) (c - m)) := fun ac ha d pos af g w => by
  simp [execOp, ha.ev hx, ha.ev hl, Instr.sliceAt, Instr.slice, run_underlying h.is, Instr.sliceBounds, run_bound (show 0 ≤ (m : Int) by omega) (show (m : Int) ≤ (l : Int) by omega), Sem.run_bind, run_sizeOf, cutA]
end
theorem Mm.soft {w0 w : World} {H H' : List Atom} {a a' : Atom} (h : Mm w0 H w) (hr : Rpl a a' H H') (ha : a'.p w) (hn : a'.fp.Nodup) (hs : ∀ b ∈ a'.fp, b ∈ a.fp) : Mm w0 H' w :=
  h.turn hr rfl rfl rfl (Nat.le_refl _) (fun _ _ _ => rfl) ha hn fun b hb => .inl (hs b hb)
theorem rd_fp {v : Value} {vs : List Value} {b : Nat} (h : b ∈ (A.rd v vs).fp) : vs ≠ [] ∧ v.ownBlock = some b := by
  unfold A.rd at h
  dsimp only at h
  cases vs with
  | nil => simp at h
  | cons u vs => exact ⟨by simp, by simpa using h⟩
theorem rd_nd (v : Value) (vs : List Value) : (A.rd v vs).fp.Nodup := by
  unfold A.rd
  dsimp only
  split
  · simp
  · cases v.ownBlock <;> simp
/-- What one owns, one may read. -/
theorem HC.toRd {P : Program} {r : Option Nat} {N : Nat} {ds : List Deferred} {Q : Post} {E : Env} {w0 : World} {H H' : List Atom} {e : TypeId} {c n : Nat} {a : Option Addr} {xs : List Value} {co : Code}
    (hr : Rpl (A.grow e 1 a c n xs) (A.rd (.slice a n c) xs) H H') (h : HC P r N ds co Q E w0 H') : HC P r N ds co Q E w0 H := fun w hM =>
  h w (hM.soft hr (hM.gr hr.mem) (rd_nd _ _) fun b hb => by
    have := (rd_fp hb).2
    simp [A.grow, this])
section
variable {P : Program} {r : Option Nat} {N : Nat} {ds : List Deferred} {Q : Post} {E : Env} {w0 : World} {H : List Atom} {next : Act → World → Prop} {g : Option (Nat × Bool)}
variable {d : Nat} {t ty : TypeId} {pos : String} {af : Array Edge} {x y : Operand}
theorem H1.cutout {e : TypeId} {z : Value} {bb n c c2 i : Nat} {a : Option Addr} {xs : List Value} {H' : Option Addr → Nat → List Atom} [h : UTy P t (.slice e)] [hi : ITy P e z 1 bb]
    (hx : Env.ev E x = some (.slice a i i)) (hy : Env.ev E y = some (.slice (cutA a c (i + 1)) (n - (i + 1)) c2)) (hl : xs.length = n) (hin : i < n) (hn : n ≤ 1000000) (hb : bb ≤ 1000) (hd : Nat.blt d N = true)
    (hr : ∀ a' c', Rpl (A.rd (.slice a n c) xs) (A.rd (.slice a' (n - 1) c') (xs.take i ++ xs.drop (i + 1))) H (H' a' c'))
    (hk : ∀ a' c', HN N ds next ((d, .slice a' (n - 1) c') :: E) w0 (H' a' c')) :
    H1 P r N ds next ⟨some d, .call ⟨.builtin .append, #[x, y], #[t, t]⟩, ty, pos, af, g⟩ Q E w0 H := fun w hM => by
  have hR : Rd w (.slice a n c) xs := hM.rd (hr none 0).mem
  obtain ⟨b, off, c', hv, hlc, hbs, hcell⟩ := hR.at (by intro e; rw [e] at hl; simp at hl; omega)
  injection hv with hv1 hv2 hv3
  subst hv1
  subst hv3
  have hlen : (xs.take i ++ xs.drop (i + 1)).length = n - 1 := by rw [List.length_append, List.length_take, List.length_drop]; omega
  obtain ⟨inf, hi1, hi2, hi3, hi4⟩ := hi.parts
  by_cases hm : n = i + 1
  · subst hm
    have e0 : xs.drop (i + 1) = [] := List.drop_eq_nil_of_le (by omega)
    have hrun : ∃ a2 : Addr, cutA (some ⟨b, off, none⟩) c (i + 1) = some a2 := by
      unfold cutA; split <;> exact ⟨_, rfl⟩
    obtain ⟨a2, ha2⟩ := hrun
    rw [ha2, Nat.sub_self] at hy
    have hrun : (Builtin.append_ #[t, t] ty #[.slice (some ⟨b, off, none⟩) i i, .slice (some a2) 0 c2]).run P w = .ok (.slice (some ⟨b, off, none⟩) i i) w := by
      simp [Builtin.append_, run_underlying h.is, sizeOf, typeInfo, hi1, Builtin.lenOf, Builtin.firstCells, loadCells, loadCellsFrom, storeCells]
    have hk' := hk (some ⟨b, off, none⟩) i
    rw [Nat.add_sub_cancel] at hk'
    refine W1.run (v := .slice (some ⟨b, off, none⟩) i i) (w' := w) (fun ac ha => ?_) rfl hd (hk' w (hM.soft (hr _ _) ?_ (rd_nd _ _) fun b' hb' => ?_))
    · simp only [execOp, resolve, invoke, Go.builtin, Sem.run_bind, Sem.run_pure, Result.andThen, List.map_toArray, List.map_cons, List.map_nil, ha.ev hx, ha.ev hy, hrun]
    · show Rd w (.slice (some ⟨b, off, none⟩) (i + 1 - 1) i) (xs.take i ++ xs.drop (i + 1))
      refine ⟨_, _, by rw [hlen], by rw [hlen]; omega, ?_⟩
      rw [e0, List.append_nil]
      refine .inr ⟨b, off, rfl, hbs, fun j u hu => hcell j u ?_⟩
      rw [List.getElem?_take] at hu
      split at hu
      · exact hu
      · cases hu
    · have h1 := rd_fp hb'
      unfold A.rd
      have : xs ≠ [] := by intro e; rw [e] at hl; simp at hl
      have h2 : xs.isEmpty = false := by
        cases xs with
        | nil => exact absurd rfl this
        | cons u vs => rfl
      have h3 : b = b' := by simpa [Value.ownBlock] using h1.2
      simp [h2, Value.ownBlock, h3]
  · have hc1 : ¬ c = i + 1 := by omega
    have e1 : cutA (some ⟨b, off, none⟩) c (i + 1) = some ⟨b, off + (i + 1), none⟩ := by unfold cutA; rw [if_neg hc1]; rfl
    rw [e1] at hy
    have hrun := run_append_grow (P := P) w t ty e inf z h.is hi1 hi2 ⟨b, off, none⟩ i i (xs.take i) (by rw [List.length_take, hi3]; omega) (fun j u hu => by
        rw [add_lit]
        refine hcell j u ?_
        rw [List.getElem?_take] at hu
        split at hu
        · exact hu
        · cases hu) ⟨b, off + (i + 1), none⟩ (n - (i + 1)) c2 (xs.drop (i + 1)) (by rw [List.length_drop, hi3]; omega) (fun j u hu => by
        rw [List.getElem?_drop] at hu
        rw [add_lit, Nat.add_assoc]
        exact hcell _ u hu) (by omega) (by omega) (growslice_fits (by omega) (by
          rw [hi4]
          exact Nat.le_trans (Nat.mul_le_mul (show i + (n - (i + 1)) ≤ 1000000 by omega) hb) (by decide)))
    have e2 : i + (n - (i + 1)) = n - 1 := by omega
    rw [e2] at hrun
    have hge := grownCap_ge w (n - 1) i e
    obtain ⟨c', w', hr1, h1, h2, h3, h4, h5, h6, h7⟩ : ∃ c' w', (Builtin.append_ #[t, t] ty #[.slice (some ⟨b, off, none⟩) i i, .slice (some ⟨b, off + (i + 1), none⟩) (n - (i + 1)) c2]).run P w = .ok (.slice (some ⟨w.heap.size, 0, none⟩) (n - 1) c') w' ∧ w'.os = w.os ∧ w'.tape = w.tape ∧ w'.output = w.output ∧ w.heap.size < w'.heap.size ∧
        (∀ k, k < w.heap.size → w'.heap[k]? = w.heap[k]?) ∧ (∀ j u, (xs.take i ++ xs.drop (i + 1))[j]? = some u → w'.cell? ⟨w.heap.size, 0 + j, none⟩ = some u) ∧ n - 1 ≤ c' := by
      refine ⟨_, _, hrun, rfl, rfl, rfl, by simp, fun k hk' => heap_alloc_old w.drew _ k hk', fun j u hu => ?_, hge⟩
      have h0 := heap_alloc_new w.drew (.cells ((xs.take i).toArray ++ (xs.drop (i + 1)).toArray ++ Builtin.zeroCells z.cells (grownCap w (n - 1) i e - (n - 1))) e)
      have hj := (List.getElem?_eq_some_iff.1 hu).1
      rw [Nat.zero_add]
      have h8 : w.drew.heap.size = w.heap.size := rfl
      rw [h8] at h0
      have h9 : ((xs.take i).toArray ++ (xs.drop (i + 1)).toArray ++ Builtin.zeroCells z.cells (grownCap w (n - 1) i e - (n - 1)))[j]? = some u := by
        rw [Array.getElem?_append_left (by simpa using hj)]
        simpa using hu
      unfold World.cell?
      rw [h0]
      simpa using h9
    refine W1.run (v := .slice (some ⟨w.heap.size, 0, none⟩) (n - 1) c') (w' := w') (fun ac ha => ?_) rfl hd (hk _ _ _ (hM.turn (hr _ _) h1 h2 h3 (Nat.le_of_lt h4) (fun k hk' _ => h5 k hk') ?_ (rd_nd _ _) fun b' hb' => ?_))
    · simp only [execOp, resolve, invoke, Go.builtin, Sem.run_bind, Sem.run_pure, Result.andThen, List.map_toArray, List.map_cons, List.map_nil, ha.ev hx, ha.ev hy, hr1]
    · refine ⟨_, _, by rw [hlen], by rw [hlen]; exact h7, .inr ⟨w.heap.size, 0, rfl, h4, h6⟩⟩
    · have h8 := (rd_fp hb').2
      simp only [Value.ownBlock, Option.some.injEq] at h8
      subst h8
      exact .inr ⟨Nat.le_refl _, h4⟩
end
end Go.Sx

