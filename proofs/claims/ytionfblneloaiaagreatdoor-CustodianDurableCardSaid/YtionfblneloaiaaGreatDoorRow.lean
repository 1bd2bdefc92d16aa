/- Plain: a row of values by a function; slices that can be read. -/
import Derived.Test.YtionfblneloaiaaGreatDoorSxAuto
import Derived.Laws.AppendOwn
namespace Go.Sx
open Go Go.RowKit
def row (n : Nat) (f : Nat → Value) : List Value := (List.range n).map f
theorem row_len (n : Nat) (f : Nat → Value) : (row n f).length = n := by simp [row]
theorem row_get {n i : Nat} (f : Nat → Value) (h : i < n) : (row n f)[i]? = some (f i) := by simp [row, h]
theorem row_set (n i : Nat) (f : Nat → Value) (v : Value) : (row n f).set i v = row n (fun j => if j = i then v else f j) := by
  apply List.ext_getElem
  · simp [row]
  · intro j h1 h2
    simp only [row, List.getElem_set, List.getElem_map, List.getElem_range]
    by_cases e : i = j
    · subst e; simp
    · have : ¬ j = i := fun e' => e e'.symm
      simp [e, this]
theorem row_congr {n : Nat} {f g : Nat → Value} (h : ∀ i, i < n → f i = g i) : row n f = row n g := by
  unfold row
  apply List.map_congr_left
  intro i hi
  exact h i (List.mem_range.1 hi)
theorem row_rep (n : Nat) (v : Value) : List.replicate n v = row n (fun _ => v) := by
  apply List.ext_getElem
  · simp [row]
  · intro j h1 h2; simp [row]

/-- A slice of one-cell elements that reads as vs. -/
def Rd (w : World) (v : Value) (vs : List Value) : Prop :=
  ∃ a c, v = .slice a vs.length c ∧ vs.length ≤ c ∧ (vs = [] ∨ ∃ b off, a = some ⟨b, off, none⟩ ∧ b < w.heap.size ∧ ∀ i u, vs[i]? = some u → w.cell? ⟨b, off + i, none⟩ = some u)
theorem Rd.ext {w w' : World} {v : Value} {vs : List Value} (h : Rd w v vs) (k : Ext w w') : Rd w' v vs := by
  obtain ⟨a, c, h1, h2, h3⟩ := h
  refine ⟨a, c, h1, h2, ?_⟩
  rcases h3 with h3 | ⟨b, off, h3, h4, h5⟩
  · exact .inl h3
  · exact .inr ⟨b, off, h3, Nat.lt_of_lt_of_le h4 k.size, fun i u hu => cell_ext k (h5 i u hu)⟩
theorem Rd.below {n : Nat} {w w' : World} {v : Value} {vs : List Value} (h : Rd w v vs) (k : Below n w w') (hn : w.heap.size ≤ n) : Rd w' v vs := h.ext (k.mono hn)
/-- A slice that is not empty: where it lies. -/
theorem Rd.at {w : World} {v : Value} {vs : List Value} (h : Rd w v vs) (hne : vs ≠ []) : ∃ b off c, v = .slice (some ⟨b, off, none⟩) vs.length c ∧ vs.length ≤ c ∧ b < w.heap.size ∧ ∀ i u, vs[i]? = some u → w.cell? ⟨b, off + i, none⟩ = some u := by
  obtain ⟨a, c, h1, h2, h3⟩ := h
  rcases h3 with h3 | ⟨b, off, rfl, h4, h5⟩
  · exact absurd h3 hne
  · exact ⟨b, off, c, h1, h2, h4, h5⟩
theorem Rd.cell {w : World} {b off n c : Nat} {vs : List Value} (h : Rd w (.slice (some ⟨b, off, none⟩) n c) vs) {i : Nat} {u : Value} (hu : vs[i]? = some u) : w.cell? ⟨b, off + i, none⟩ = some u := by
  obtain ⟨a, c', h1, h2, h3⟩ := h
  cases h1
  rcases h3 with rfl | ⟨b', off', h3, h4, h5⟩
  · simp at hu
  · cases h3; exact h5 i u hu
/-- Whatever it holds, its length is known. -/
theorem Rd.len {w : World} {v : Value} {vs : List Value} (h : Rd w v vs) : ∃ a c, v = .slice a vs.length c := by
  obtain ⟨a, c, h1, -⟩ := h
  exact ⟨a, c, h1⟩
theorem Rd.of_blk {w : World} {b : Nat} {cs : List Value} {e : TypeId} (h : Blk w b cs e) {l c : Nat} (hl : l ≤ cs.length) (hc : l ≤ c) : Rd w (.slice (some ⟨b, 0, none⟩) l c) (cs.take l) := by
  have e1 : (cs.take l).length = l := by simp [hl]
  refine ⟨_, c, by rw [e1], by rw [e1]; exact hc, .inr ⟨b, 0, rfl, h.lt, fun i u hu => ?_⟩⟩
  rw [Nat.zero_add]
  refine h.cell ?_
  rw [List.getElem?_take] at hu
  split at hu
  · exact hu
  · cases hu
theorem Rd.of_owns {w : World} {base : Nat} {e : TypeId} {v : Value} {n : Nat} {xs : List Value} (h : w.ownsRow base e 1 v n xs) : Rd w v xs := by
  obtain ⟨h1, h2⟩ := h
  rw [Nat.mul_one] at h1
  subst h1
  rcases h2 with ⟨rfl, h2⟩ | ⟨g, cap, cur, rfl, h3, h4, h5, h6, h7, h8⟩
  · have : xs = [] := List.eq_nil_of_length_eq_zero h2
    subst this
    exact ⟨none, 0, rfl, Nat.le_refl _, .inl rfl⟩
  · refine ⟨_, cap, rfl, h5, .inr ⟨g, 0, rfl, (Array.getElem?_eq_some_iff.1 h4).1, fun i u hu => ?_⟩⟩
    have hb : Blk w g cur.toList e := by unfold Blk; simpa using h4
    rw [Nat.zero_add]
    refine hb.cell ?_
    rw [Nat.mul_one] at h8
    rw [← h8, List.getElem?_take] at hu
    split at hu
    · exact hu
    · cases hu
theorem Rd.nil (w : World) (c : Nat) (a : Option Addr) : Rd w (.slice a 0 c) [] := ⟨a, c, rfl, Nat.zero_le _, .inl rfl⟩

/-- A step that turns the record of a loop leaves slices as they are. -/
theorem cell_loop {w w' : World} {l : Nat} {lp : Obj} (hl : w.heap[l]? = some lp) (hne : ∀ c e f, lp ≠ .cells c e f) (k : Upd1 l w w') {a : Addr} {v : Value} (h : w.cell? a = some v) : w'.cell? a = some v := by
  have hb : a.block ≠ l := by
    intro e
    unfold World.cell? at h
    rw [e, hl] at h
    cases lp with
    | cells c e f => exact hne _ _ _ rfl
    | _ => simp at h
  unfold World.cell? at h ⊢
  rw [k.block _ hb]; exact h
theorem Rd.loop1 {N : Nat} {E : Env} {ps : List Nat} {assign body : Code} {st : LoopState} {pe : Option Code} {l : Nat} {w w' : World} {v : Value} {vs : List Value} (h : Rd w v vs) (hl : LoopAt N E ps assign body st pe l w) (k : Upd1 l w w') : Rd w' v vs := by
  obtain ⟨a, c, h1, h2, h3⟩ := h
  refine ⟨a, c, h1, h2, ?_⟩
  obtain ⟨rec, g1, -⟩ := hl
  rcases h3 with h3 | ⟨b, off, h3, h4, h5⟩
  · exact .inl h3
  · exact .inr ⟨b, off, h3, by rw [k.size]; exact h4, fun i u hu => cell_loop g1 (fun _ _ _ e => by cases e) k (h5 i u hu)⟩

theorem Upd1.ext {b : Nat} {w0 w w1 : World} (h : Ext w0 w) (k : Upd1 b w w1) (hb : w0.heap.size ≤ b) : Ext w0 w1 := Below.trans h (k.below hb)
theorem Blk.keep1 {w w1 : World} {b b' : Nat} {cs : List Value} {e : TypeId} (h : Blk w b cs e) (k : Upd1 b' w w1) (hne : b ≠ b') : Blk w1 b cs e := (k.block b hne).trans h

theorem Ext.grown_own {w0 w w' : World} {e : TypeId} {sz n : Nat} {v : Value} {xs : List Value} (h : Ext w0 w) (hown : w.ownsRow w0.heap.size e sz v n xs) (hg : w.grownBy w' v.ownBlock) : Ext w0 w' :=
  ⟨hg.os.trans h.os, hg.tape.trans h.tape, hg.output.trans h.output, Nat.le_trans h.size hg.size, fun k hk => by
    rw [hg.block k (Nat.lt_of_lt_of_le hk h.size) (fun e => by have := (hown.lt k e.symm).1; omega)]
    exact h.block k hk⟩
theorem ownsRow_ext {w w' : World} {base : Nat} {e : TypeId} {sz n : Nat} {v : Value} {xs : List Value} (h : w.ownsRow base e sz v n xs) (k : Ext w w') : w'.ownsRow base e sz v n xs :=
  h.kept (row := none) ⟨k.os, k.tape, k.output, k.size, fun j hj _ => k.block j hj⟩ (by cases hv : v.ownBlock <;> simp)
/-- Blocks of two kinds are two. -/
theorem Blk.ne {w : World} {b b' : Nat} {cs cs' : List Value} {e e' : TypeId} (h : Blk w b cs e) (k : Blk w b' cs' e') (hne : e ≠ e') : b ≠ b' := by
  intro hb
  subst hb
  unfold Blk at h k
  rw [h] at k
  cases k
  exact hne rfl
/-- A slice from the head of a block. -/
theorem Rd.of_row {w : World} {b n l c : Nat} {f : Nat → Value} {e : TypeId} (h : Blk w b (row n f) e) (hl : l ≤ n) (hc : l ≤ c) : Rd w (.slice (some ⟨b, 0, none⟩) l c) ((List.range l).map f) := by
  have := Rd.of_blk h (l := l) (c := c) (by rw [row_len]; exact hl) hc
  refine (congrArg (Rd w _) ?_).mp this
  unfold row
  rw [← List.map_take, List.take_range, Nat.min_eq_left hl]

section
variable {P : Program} {r : Option Nat} {N : Nat} {ds : List Deferred} {Q : Post} {E : Env} {w : World} {next : Act → World → Prop} {g : Option (Nat × Bool)}
variable {d : Nat} {t ty : TypeId} {pos : String} {af : Array Edge} {x y : Operand}
/-- A new variable with a value. -/
theorem W1.box' {v : Value} (hx : Env.ev E x = some v) (hv : v.cells = #[v]) (hd : Nat.blt d N = true)
    (h : ∀ b w1, w.heap.size = b → w1.heap.size = b + 1 → Ext w w1 → Blk w1 b [v] t → NX N ds next ((d, .pointer (some ⟨b, 0, none⟩)) :: E) w1) : W1 P r N ds next ⟨some d, .box t x, ty, pos, af, g⟩ Q E w := by
  refine W1.box hx hd ?_
  rw [hv]
  exact h _ _ rfl (by simp) (Ext.alloc _ _) (Blk.new w [v] t)
theorem W1.boxAgg' {cs : List Value} (hx : Env.ev E x = some (.agg cs.toArray)) (hd : Nat.blt d N = true)
    (h : ∀ b w1, w.heap.size = b → w1.heap.size = b + 1 → Ext w w1 → Blk w1 b cs t → NX N ds next ((d, .pointer (some ⟨b, 0, none⟩)) :: E) w1) : W1 P r N ds next ⟨some d, .box t x, ty, pos, af, g⟩ Q E w :=
  W1.box hx hd (h _ _ rfl (by simp) (Ext.alloc _ _) (Blk.new w cs t))
theorem W1.alloc' {z : Value} {n bb : Nat} {cs : List Value} [hi : ITy P t z n bb] (hz : z.cells = cs.toArray) (hd : Nat.blt d N = true)
    (h : ∀ b w1, w.heap.size = b → w1.heap.size = b + 1 → Ext w w1 → Blk w1 b cs t → NX N ds next ((d, .pointer (some ⟨b, 0, none⟩)) :: E) w1) : W1 P r N ds next ⟨some d, .alloc t, ty, pos, af, g⟩ Q E w := by
  refine W1.alloc (z := z) (n := n) (bb := bb) hd ?_
  rw [hz]
  exact h _ _ rfl (by simp) (Ext.alloc _ _) (Blk.new w cs t)
theorem W1.make' {e : TypeId} {z : Value} {bb : Nat} {cp : Operand} {l c : Nat} {m n : Int} [h : UTy P t (.slice e)] [hi : ITy P e z 1 bb] (hx : Env.ev E x = some (.int .i64 m)) (hy : Env.ev E cp = some (.int .i64 n))
    (hm : m = (l : Int)) (hnn : n = (c : Int)) (hz : z.cells = #[z]) (hlc : l ≤ c) (hb : bb * c ≤ 281474976710656) (hc : c ≤ 9223372036854775807) (hd : Nat.blt d N = true)
    (hn : ∀ b w1, w.heap.size = b → w1.heap.size = b + 1 → Ext w w1 → Blk w1 b (List.replicate c z) e → NX N ds next ((d, .slice (some ⟨b, 0, none⟩) l c) :: E) w1) :
    W1 P r N ds next ⟨some d, .makeSlice t x cp, ty, pos, af, g⟩ Q E w :=
  W1.make hx hy hm hnn hz hlc hb hc hd (hn _ _ rfl (by simp) (Ext.alloc _ _) (Blk.new w _ e))
theorem W1.lit1' {e : TypeId} {z v : Value} {bb : Nat} [h : UTy P t (.slice e)] [hi : ITy P e z 1 bb] (hz : z.cells = #[z]) (hx : Env.ev E x = some v) (hv : v.cells = #[v]) (hd : Nat.blt d N = true)
    (hn : ∀ b w1, w.heap.size = b → w1.heap.size = b + 1 → Ext w w1 → Blk w1 b [v] e → NX N ds next ((d, .slice (some ⟨b, 0, none⟩) 1 1) :: E) w1) :
    W1 P r N ds next ⟨some d, .buildSlice t 1 #[(0, x)], ty, pos, af, g⟩ Q E w :=
  W1.lit1 hz hx hv hd (hn _ _ rfl (by simp) (Ext.alloc _ _) (Blk.new w [v] e))
/-- A store into a block that is known whole. -/
theorem W1.store' {b i : Nat} {cs : List Value} {e : TypeId} {v : Value} {z : Value} {bb : Nat} [hi : ITy P t z 1 bb] (hx : Env.ev E x = some (.pointer (some ⟨b, i, none⟩))) (hy : Env.ev E y = some v)
    (ha : ∀ vs, v ≠ .agg vs) (ht : ∀ vs, v ≠ .tuple vs) (hb : Blk w b cs e) (hlt : i < cs.length)
    (h : ∀ w1, Upd1 b w w1 → Blk w1 b (cs.set i v) e → NX N ds next E w1) : W1 P r N ds next ⟨none, .store t x y, ty, pos, af, g⟩ Q E w :=
  W1.store hx hy ha ht (hb.cell (v := cs[i]) (by simp [hlt])) (hb.free i)
    (h _ ⟨rfl, rfl, rfl, by simp, fun k hk => Below.heap_setCell _ _ _ _ hk⟩ (hb.set i v))
/-- A struct or an array stored over the whole of its block. -/
theorem W1.storeAgg' {b : Nat} {cs vs : List Value} {e : TypeId} {z : Value} {n bb : Nat} [hi : ITy P t z n bb] (hx : Env.ev E x = some (.pointer (some ⟨b, 0, none⟩))) (hy : Env.ev E y = some (.agg vs.toArray))
    (hn : vs.length = n) (h1 : ∀ v ∈ vs, v.oneCell' = true) (hb : Blk w b cs e) (hl : vs.length = cs.length)
    (h : ∀ w1, Upd1 b w w1 → Blk w1 b vs e → NX N ds next E w1) : W1 P r N ds next ⟨none, .store t x y, ty, pos, af, g⟩ Q E w := by
  have hs := run_storeCells_at P b 0 e vs 0 cs.toArray w hb (by simp [hl]) h1
  refine W1.skip (w' := w.setRow b ((cs.toArray.toList.take (0 + 0) ++ vs ++ cs.toArray.toList.drop (0 + 0 + vs.length)).toArray)) (fun a ha => ?_) rfl rfl (h _ ?_ ?_)
  · simp only [execOp, ha.ev hx, ha.ev hy, Instr.storeAt, Instr.sureAddr, storeVar, Sem.run_bind, Sem.run_pure, Result.andThen]
    subst hn
    simp only [run_sizeOf, Value.cells, List.size_toArray, ne_eq, not_true, if_false]
    simp only [hs]
  · exact ⟨rfl, rfl, rfl, by simp [World.setRow], fun k hk => setRow_other _ _ _ _ hk⟩
  · unfold Blk
    rw [setRow_heap w b _ _ e _ hb]
    simp [hl]
/-- append, of one element, onto a slice of the call's own. -/
theorem W1.append1o {w0 : World} {e : TypeId} {z u v : Value} {bb n c : Nat} {xs : List Value} {ad : Addr} [h : UTy P t (.slice e)] [hi : ITy P e z 1 bb] (hz : z.cells = #[z]) (hx : Env.ev E x = some v) (hy : Env.ev E y = some (.slice (some ad) 1 c))
    (hown : w.ownsRow w0.heap.size e 1 v n xs) (h0 : Ext w0 w) (hu : w.cell? ad = some u) (h1 : u.oneCell' = true) (hn1 : n ≤ 1000000) (hb : bb ≤ 1000) (hd : Nat.blt d N = true)
    (hn : ∀ v' w1, w1.ownsRow w0.heap.size e 1 v' (n + 1) (xs ++ [u]) → Ext w0 w1 → w.grownBy w1 v.ownBlock → NX N ds next ((d, v') :: E) w1) :
    W1 P r N ds next ⟨some d, .call ⟨.builtin .append, #[x, y], #[t, t]⟩, ty, pos, af, g⟩ Q E w :=
  W1.append (base := w0.heap.size) (e := e) (z := z) (sz := 1) (bb := bb) (news := [u]) (m := 1) (by rw [hz]; rfl) (by decide) hx hown hy (by simp) (by
      intro j v hj
      cases j with
      | zero => simp only [List.getElem?_cons_zero, Option.some.injEq] at hj; subst hj; simpa [Addr.add] using hu
      | succ j => simp at hj) (by simpa using h1) (by simp only [maxLen]; omega) (Nat.le_trans (Nat.mul_le_mul (show n + 1 ≤ 1000001 by omega) hb) (by decide)) h0.size hd
    fun v' w1 g1 g2 => hn v' w1 g1 (h0.grown_own hown g2) g2
/-- append, of one element, where there is room. -/
theorem W1.append1r {e : TypeId} {z u : Value} {bb b sLen sCap c : Nat} {cs : List Value} {ad : Addr} [h : UTy P t (.slice e)] [hi : ITy P e z 1 bb] (hx : Env.ev E x = some (.slice (some ⟨b, 0, none⟩) sLen sCap)) (hy : Env.ev E y = some (.slice (some ad) 1 c))
    (hb : Blk w b cs e) (hu : w.cell? ad = some u) (h1 : u.oneCell' = true) (hl : sLen + 1 ≤ sCap) (hc : sLen < cs.length) (hd : Nat.blt d N = true)
    (hn : ∀ w1, Upd1 b w w1 → Blk w1 b (cs.set sLen u) e → NX N ds next ((d, .slice (some ⟨b, 0, none⟩) (sLen + 1) sCap) :: E) w1) :
    W1 P r N ds next ⟨some d, .call ⟨.builtin .append, #[x, y], #[t, t]⟩, ty, pos, af, g⟩ Q E w := by
  obtain ⟨i, hi1, hi2, hi3, hi4⟩ := hi.parts
  have hr := run_append_room (P := P) w t ty e i h.is hi1 b sLen sCap cs.toArray hb ad 1 c [u] (by simp [hi3]) (by
    intro j v hj
    cases j with
    | zero => simp only [List.getElem?_cons_zero, Option.some.injEq] at hj; subst hj; simpa [Addr.add] using hu
    | succ j => simp at hj) (by simpa using h1) hl (by simp [hi3]; omega)
  rw [hi3] at hr
  refine W1.run (v := .slice (some ⟨b, 0, none⟩) (sLen + 1) sCap) (w' := w.setRow b (cs.toArray.toList.take (sLen * 1) ++ [u] ++ cs.toArray.toList.drop (sLen * 1 + [u].length)).toArray) (fun a ha => ?_) rfl hd (hn _ ?_ ?_)
  · simp only [execOp, resolve, invoke, Go.builtin, Sem.run_bind, Sem.run_pure, Result.andThen, List.map_toArray, List.map_cons, List.map_nil, ha.ev hx, ha.ev hy, hr]
  · exact ⟨rfl, rfl, rfl, by simp [World.setRow], fun k hk => setRow_other _ _ _ _ hk⟩
  · unfold Blk
    rw [setRow_heap w b _ _ e _ hb]
    simp [List.set_eq_take_append_cons_drop, hc]
theorem WX.retCell {fn : Func} {tt tc b : Nat} {vs : List Value} {e : TypeId} {z : Value} {n bb : Nat} {R : Value → World → Prop} [ha' : ATy P tc true] [hi : ITy P tc z n bb] (hr : fn.results = #[.cell tt tc]) (hv : Env.g E tt = some (.pointer (some ⟨b, 0, none⟩)))
    (hb : Blk w b vs e) (hn : vs.length = n) (h : R (.agg vs.toArray) w) : WX N [] .ret (bodyPost P fn (RetP R)) E w := fun a ha => by
  refine ⟨ha.defers, _, ?_, _, rfl, h⟩
  have hp : a.tmps[tt]?.getD undef = .pointer (some ⟨b, 0, none⟩) := by rw [ha.get _ _ hv]; rfl
  have hl := run_loadCellsFrom P w b 0 vs (fun i v hv => by rw [Nat.zero_add]; exact hb.cell hv) n 0 #[] (by omega)
  simp only [results, hr]
  simp [Sem.run_bind, hp, asAddr, loadVar, run_isAgg, run_sizeOf, loadCells, hl, Result.andThen]
end
end Go.Sx
namespace Go.Sx
open Go Go.RowKit
theorem Rd.take {w : World} {b off n c l : Nat} {vs : List Value} (h : Rd w (.slice (some ⟨b, off, none⟩) n c) vs) (hl : l ≤ vs.length) : Rd w (.slice (some ⟨b, off, none⟩) l c) (vs.take l) := by
  have e1 : (vs.take l).length = l := by simp [hl]
  obtain ⟨a, c', h1, h2, h3⟩ := h
  cases h1
  refine ⟨_, c, by rw [e1], by omega, ?_⟩
  rcases h3 with rfl | ⟨b', off', h3, h4, h5⟩
  · left; simp
  · cases h3
    refine .inr ⟨b, off, rfl, h4, fun i u hu => h5 i u ?_⟩
    rw [List.getElem?_take] at hu
    split at hu
    · exact hu
    · cases hu
section
variable {P : Program} {r : Option Nat} {N : Nat} {ds : List Deferred} {ol rest : List Oper} {Q : Post} {E : Env} {w : World} {fuel : Nat} {listed : Array Bool} {next : Act → World → Prop}
variable {op : Op} {ty : TypeId} {pos : String} {af : Array Edge} {v : Value}
theorem QL.ga {d : Option Nat} {j : Nat} {want b : Bool} (hj : guardE ol E j = some b) (h : QL P r N ds w ol (⟨d, op, ty, pos, af, none⟩ :: rest) Q E)
    (hb : b = want := by
      first | with_reducible rfl | assumption | (simp only [Bool.not_true, Bool.not_false]; done) | (simp only [decide_eq_true_eq, decide_eq_false_iff_not, Bool.not_true, Bool.not_false, not_true_eq_false, not_false_eq_true, reduceCtorEq]; first | done | assumption | omega)) : QL P r N ds w ol (⟨d, op, ty, pos, af, some (j, want)⟩ :: rest) Q E := QL.gy hj hb h
theorem QL.na {d : Option Nat} {j : Nat} {want b : Bool} (hj : guardE ol E j = some b) (h : QL P r N ds w ol rest Q (putE d undef E))
    (hb : b = !want := by
      first | with_reducible rfl | assumption | (simp only [Bool.not_true, Bool.not_false]; done) | (simp only [decide_eq_true_eq, decide_eq_false_iff_not, Bool.not_true, Bool.not_false, not_true_eq_false, not_false_eq_true, reduceCtorEq]; first | done | assumption | omega)) (hd : dOk d N = true := by exact rfl) :
    QL P r N ds w ol (⟨d, op, ty, pos, af, some (j, want)⟩ :: rest) Q E := QL.gn hj hb hd h
theorem QL.nu {d : Option Nat} {j : Nat} {want : Bool} (hj : guardU ol E j = true) (h : QL P r N ds w ol rest Q (putE d undef E)) (hd : dOk d N = true := by exact rfl) :
    QL P r N ds w ol (⟨d, op, ty, pos, af, some (j, want)⟩ :: rest) Q E := by
  intro a ha
  have hy := guardU_spec hj ha
  have hne : ((none : Option Bool) == some want) = false := by cases want <;> rfl
  simp only [wpQuietIn, Region.wanted, hy, hne, Bool.false_eq_true, if_false]
  exact ⟨fun _ _ _ _ => trivial, h _ (ha.putO hd _)⟩
theorem W1.lit3' {g : Option (Nat × Bool)} {d : Nat} {t : TypeId} {x0 x1 x2 : Operand} {e : TypeId} {z v0 v1 v2 : Value} {bb : Nat} [h : UTy P t (.slice e)] [hi : ITy P e z 1 bb] (hz : z.cells = #[z]) (hx0 : Env.ev E x0 = some v0) (hx1 : Env.ev E x1 = some v1) (hx2 : Env.ev E x2 = some v2)
    (hv0 : v0.cells = #[v0]) (hv1 : v1.cells = #[v1]) (hv2 : v2.cells = #[v2]) (hd : Nat.blt d N = true)
    (hn : ∀ b w1, w.heap.size = b → w1.heap.size = b + 1 → Ext w w1 → Blk w1 b [v0, v1, v2] e → NX N ds next ((d, .slice (some ⟨b, 0, none⟩) 3 3) :: E) w1) :
    W1 P r N ds next ⟨some d, .buildSlice t 3 #[(0, x0), (1, x1), (2, x2)], ty, pos, af, g⟩ Q E w :=
  W1.run (v := .slice (some ⟨w.heap.size, 0, none⟩) 3 3) (w' := w.alloc (.cells #[v0, v1, v2] e)) (fun a ha => by
    have hr : Array.range 3 = #[0, 1, 2] := rfl
    simp [execOp, ha.ev hx0, ha.ev hx1, ha.ev hx2, Instr.buildSlice, run_underlying h.is, run_sizeOf, run_zeroValue, Sem.run_bind, Instr.fill, newRow, hv0, hv1, hv2, hz, hr]) rfl hd (hn _ _ rfl (by simp) (Ext.alloc _ _) (Blk.new w [v0, v1, v2] e))
/-- The list of what is done, written otherwise. -/
theorem WA.norm {listed' : Array Bool} (hl : listed = listed') (h : WA P N ds ol fuel listed' Q E w) : WA P N ds ol fuel listed Q E w := hl ▸ h
theorem WA.sub (E' : Env) (h : WA P N ds ol fuel listed Q E' w) (hs : Env.sub E E') : WA P N ds ol fuel listed Q E w := fun a ha => h a (ha.sub hs)
end
end Go.Sx

