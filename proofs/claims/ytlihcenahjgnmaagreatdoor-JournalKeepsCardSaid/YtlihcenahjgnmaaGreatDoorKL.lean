/-
  The layer with atoms: parts of a block that are stored whole; strings copied into a block; slices of the call's own that are cleared and cut.
-/
import Derived.Test.YtlihcenahjgnmaaGreatDoorDG
import Derived.Test.YtlihcenahjgnmaaGreatDoorHj
namespace Go.Sx
open Go Go.RowKit
theorem ownsRow_cut {w : World} {base c n sz : Nat} {e : TypeId} {a : Option Addr} {xs : List Value} (h : w.ownsRow base e sz (.slice a n c) n xs) : w.ownsRow base e sz (.slice a 0 c) 0 [] := by
  rcases h.2 with ⟨hv, -⟩ | ⟨g, cap, cur, hv, hb, hg, hnc, hcm, hcs, htk⟩
  · cases hv
    exact ⟨by simp, .inl ⟨rfl, rfl⟩⟩
  · cases hv
    exact ⟨by simp, .inr ⟨g, c, cur, rfl, hb, hg, Nat.zero_le _, hcm, hcs, by simp⟩⟩
section
variable {P : Program} {r : Option Nat} {N : Nat} {ds : List Deferred} {ol rest : List Oper} {Q : Post} {E : Env} {w0 : World} {H : List Atom} {next : Act → World → Prop} {g : Option (Nat × Bool)}
variable {d : Option Nat} {t ty : TypeId} {pos : String} {af : Array Edge} {x y : Operand}
theorem HL.growCut {l : List Oper} {e : TypeId} {sz c n : Nat} {a : Option Addr} {xs : List Value} {H' : List Atom} (hr : Rpl (A.grow e sz a c n xs) (A.grow e sz a c 0 []) H H') (h : HL P r N ds ol l Q E w0 H') : HL P r N ds ol l Q E w0 H := fun w hM =>
  h w (hM.turn hr rfl rfl rfl (Nat.le_refl _) (fun _ _ _ => rfl) (ownsRow_cut (hM.own hr.mem)) (by cases a <;> simp [A.grow, Value.ownBlock]) (fun b hb => .inl (by cases a <;> exact hb)))
theorem H1.stAggO {b o : Nat} {cs cs' vs : List Value} {e : TypeId} {z : Value} {n bb : Nat} {H' : List Atom} [hi : ITy P t z n bb] (hx : Env.ev E x = some (.pointer (some ⟨b, o, none⟩))) (hy : Env.ev E y = some (.agg vs.toArray))
    (hn : vs.length = n) (h1 : ∀ v ∈ vs, v.oneCell' = true) (hl : o + vs.length ≤ cs.length) (he : cs.take o ++ vs ++ cs.drop (o + vs.length) = cs') (hr : Rpl (A.blk b cs e) (A.blk b cs' e) H H')
    (h : HN N ds next E w0 H') : H1 P r N ds next ⟨none, .store t x y, ty, pos, af, g⟩ Q E w0 H := fun w hM => by
  subst he
  have hb : w.heap[b]? = some (.cells cs.toArray e (0, 0)) := hM.blk hr.mem
  have hs := run_storeCells_at P b o e vs 0 cs.toArray w hb (by simpa using hl) h1
  simp only [Nat.add_zero] at hs
  refine W1.skip (w' := w.setRow b ((cs.take o ++ vs ++ cs.drop (o + vs.length)).toArray)) (fun a ha => ?_) rfl rfl (h _ (hM.turn hr rfl rfl rfl (by simp [World.setRow]) (fun q hq hq' => ?_) ?_ (by simp [A.blk]) fun b' hb' => .inl hb'))
  · simp only [execOp, ha.ev hx, ha.ev hy, Instr.storeAt, Instr.sureAddr, storeVar, Sem.run_bind, Sem.run_pure, Result.andThen]
    subst hn
    simp only [run_sizeOf, Value.cells, List.size_toArray, ne_eq, not_true, if_false]
    simp only [hs]
  · have hne : ¬ b = q := fun e => hq' (by simp [A.blk, e])
    simp [World.setRow, Array.getElem?_modify, hne]
  · show (w.setRow b _).heap[b]? = _
    simp [World.setRow, Array.getElem?_modify, hb]
/-- copy of a string, into a block of the call's own. -/
theorem H1.copyS {e eb t2 : TypeId} {z : Value} {bb b o dl dc : Nat} {s : ByteArray} {cur cur' : List Value} {H' : List Atom} [h : UTy P t (.slice e)] [hi' : ITy P e z 1 bb] (hx : Env.ev E x = some (.slice (some ⟨b, o, none⟩) dl dc)) (hy : Env.ev E y = some (.string s))
    (hn : s.size ≤ dl) (hfit : o + s.size ≤ cur.length) (he : cur.take o ++ ub s.data.toList ++ cur.drop (o + s.size) = cur')
    (hr : Rpl (A.blk b cur eb) (A.blk b cur' eb) H H') (hd : dOk d N = true) (hn' : HN N ds next (putE d (zv (s.size : Int)) E) w0 H') :
    H1 P r N ds next ⟨d, .call ⟨.builtin .copy, #[x, y], #[t, t2]⟩, ty, pos, af, g⟩ Q E w0 H := fun w hM => by
  subst he
  obtain ⟨i, hi1, hi2, hi3, hi4⟩ := hi'.parts
  have hb : w.heap[b]? = some (.cells cur.toArray eb (0, 0)) := hM.blk hr.mem
  have hl : (ub s.data.toList).length = s.size := by unfold ub; rw [List.length_map, Array.length_toList]; rfl
  have hst := run_storeCells_at P b o eb (ub s.data.toList) 0 cur.toArray w hb (by rw [hl]; simpa using hfit) (by
    intro v hv
    obtain ⟨x, -, rfl⟩ := List.mem_map.1 hv
    rfl)
  simp only [Nat.add_zero, hl] at hst
  have hmin : Nat.min s.size dl = s.size := Nat.min_eq_left hn
  have e3 : List.take s.size (List.map (fun b : UInt8 => Value.int .u8 ((b.toNat : Nat) : Int)) s.data.toList) = ub s.data.toList := by
    rw [List.take_of_length_le (by rw [List.length_map, Array.length_toList]; exact Nat.le_refl _)]; rfl
  have hrun : (Builtin.copy_ #[t, t2] ty #[.slice (some ⟨b, o, none⟩) dl dc, .string s]).run P w = .ok (goInt s.size) (w.setRow b (cur.take o ++ ub s.data.toList ++ cur.drop (o + s.size)).toArray) := by
    simp [Builtin.copy_, run_underlying h.is, sizeOf, typeInfo, hi1, Builtin.lenOf, Builtin.firstCells, hmin]
    rw [e3, hst]
    simp [Result.andThen]
  refine W1.run (v := zv (s.size : Int)) (w' := w.setRow b (cur.take o ++ ub s.data.toList ++ cur.drop (o + s.size)).toArray) (fun a ha => ?_) rfl hd (hn' _ (hM.turn hr rfl rfl rfl (by simp [World.setRow]) (fun q hq hq' => ?_) ?_ (by simp [A.blk]) fun b' hb' => .inl hb'))
  · simp only [execOp, resolve, invoke, Go.builtin, Sem.run_bind, Sem.run_pure, Result.andThen, List.map_toArray, List.map_cons, List.map_nil, ha.ev hx, ha.ev hy, hrun]; rfl
  · have hne : ¬ b = q := fun e => hq' (by simp [A.blk, e])
    simp [World.setRow, Array.getElem?_modify, hne]
  · show (w.setRow b _).heap[b]? = _
    simp [World.setRow, Array.getElem?_modify, hb]
/-- clear, on a slice of the call's own; it is cut to nothing behind it. -/
theorem H1.clearG {e : TypeId} {z : Value} {sz bb n c : Nat} {a : Option Addr} {xs : List Value} {H' : List Atom} {d : Option Nat} [h : UTy P t (.slice e)] [hi : ITy P e z sz bb] (hzs : z.cells.size = sz) (h1 : ∀ v ∈ z.cells.toList, v.oneCell' = true) (h0 : 0 < sz)
    (hx : Env.ev E x = some (.slice a n c)) (hr : Rpl (A.grow e sz a c n xs) (A.grow e sz a c n (Builtin.zeroCells z.cells n).toList) H H') (hd : dOk d N = true) (hn : HN N ds next (putE d (.tuple #[]) E) w0 H') :
    H1 P r N ds next ⟨d, .call ⟨.builtin .clear, #[x], #[t]⟩, ty, pos, af, g⟩ Q E w0 H := fun w hM => by
  have hown := hM.own hr.mem
  have hzl : (Builtin.zeroCells z.cells n).toList.length = n * sz := by simp [Builtin.zeroCells, hzs]
  have hz1 : ∀ v ∈ (Builtin.zeroCells z.cells n).toList, v.oneCell' = true := by
    intro v hv
    unfold Builtin.zeroCells at hv
    rw [Array.toList_map] at hv
    obtain ⟨i, -, rfl⟩ := List.mem_map.1 hv
    refine h1 _ ?_
    have hlt : i % z.cells.size < z.cells.size := Nat.mod_lt _ (by omega)
    rw [getElem!_pos z.cells (i % z.cells.size) hlt]
    exact Array.getElem_mem_toList hlt
  rcases hown.2 with ⟨hv, hn0⟩ | ⟨q, cap, cur, hv, hbq, hg, hnc, hcm, hcs, htk⟩
  · cases hv
    have hrun : (Builtin.clear_ #[t] ty #[.slice none 0 0]).run P w = .ok (.tuple #[]) w := by simp [Builtin.clear_, run_underlying h.is]
    refine W1.run (v := .tuple #[]) (w' := w) (fun b ha => ?_) rfl hd (hn _ (hM.turn hr rfl rfl rfl (Nat.le_refl _) (fun _ _ _ => rfl) ⟨hzl, .inl ⟨rfl, rfl⟩⟩ (by simp [A.grow, Value.ownBlock]) fun b' hb' => .inl hb'))
    simp only [execOp, resolve, invoke, Go.builtin, Sem.run_bind, Sem.run_pure, Result.andThen, List.map_toArray, List.map_cons, List.map_nil, ha.ev hx, hrun]
  · cases hv
    have hfit : n * sz ≤ cur.size := by rw [hcs]; exact Nat.mul_le_mul_right _ hnc
    have hst := run_storeCells_at P q 0 e (Builtin.zeroCells z.cells n).toList 0 cur w hg (by rw [hzl]; simpa using hfit) hz1
    simp only [Nat.add_zero, Nat.zero_add, List.take_zero, List.nil_append, hzl] at hst
    cases n with
    | zero =>
      have hrun : (Builtin.clear_ #[t] ty #[.slice (some ⟨q, 0, none⟩) 0 c]).run P w = .ok (.tuple #[]) w := by simp [Builtin.clear_, run_underlying h.is]
      refine W1.run (v := .tuple #[]) (w' := w) (fun b ha => ?_) rfl hd (hn _ (hM.turn hr rfl rfl rfl (Nat.le_refl _) (fun _ _ _ => rfl) ⟨hzl, .inr ⟨q, c, cur, rfl, hbq, hg, hnc, hcm, hcs, ?_⟩⟩ (by simp [A.grow, Value.ownBlock]) fun b' hb' => .inl hb'))
      · simp only [execOp, resolve, invoke, Go.builtin, Sem.run_bind, Sem.run_pure, Result.andThen, List.map_toArray, List.map_cons, List.map_nil, ha.ev hx, hrun]
      · have : (Builtin.zeroCells z.cells 0).toList = [] := List.eq_nil_of_length_eq_zero (by rw [hzl]; simp)
        rw [this]; simp
    | succ n =>
      have hrun : (Builtin.clear_ #[t] ty #[.slice (some ⟨q, 0, none⟩) (n + 1) c]).run P w = .ok (.tuple #[]) (w.setRow q ((Builtin.zeroCells z.cells (n + 1)).toList ++ cur.toList.drop ((n + 1) * sz)).toArray) := by
        simp [Builtin.clear_, run_underlying h.is, run_zeroValue (h := hi), hst]
      refine W1.run (v := .tuple #[]) (w' := w.setRow q ((Builtin.zeroCells z.cells (n + 1)).toList ++ cur.toList.drop ((n + 1) * sz)).toArray) (fun b ha => ?_) rfl hd (hn _ (hM.turn hr rfl rfl rfl (by simp [World.setRow]) (fun k hk hk' => ?_) ⟨hzl, .inr ⟨q, c, ((Builtin.zeroCells z.cells (n + 1)).toList ++ cur.toList.drop ((n + 1) * sz)).toArray, rfl, hbq, ?_, hnc, hcm, ?_, ?_⟩⟩ (by simp [A.grow, Value.ownBlock]) fun b' hb' => .inl hb'))
      · simp only [execOp, resolve, invoke, Go.builtin, Sem.run_bind, Sem.run_pure, Result.andThen, List.map_toArray, List.map_cons, List.map_nil, ha.ev hx, hrun]
      · have hne : ¬ q = k := fun e => hk' (by simp [A.grow, Value.ownBlock, e])
        simp [World.setRow, Array.getElem?_modify, hne]
      · exact setRow_heap w q _ _ e _ hg
      · rw [List.size_toArray, List.length_append, hzl, List.length_drop, Array.length_toList, hcs]; rw [hcs] at hfit; omega
      · rw [List.toList_toArray, List.take_append_of_le_length (by rw [hzl]; exact Nat.le_refl _), List.take_of_length_le (by rw [hzl]; exact Nat.le_refl _)]
theorem POp.pre_any {hi : Operand} {k' : IntKind} {n : Int} {e : TypeId} {a : Option Addr} {l c : Nat} {z : Value} {sz bb : Nat} [h : UTy P t (.slice e)] [hi' : ITy P e z sz bb]
    (hx : Env.ev E x = some (.slice a l c)) (hh : Env.ev E hi = some (.int k' n)) (h1 : 0 ≤ n) (h2 : n ≤ c) : POp P N ds E (.slice t x none (some hi) none) ty (.slice a n.toNat c) := by
  cases a with
  | none => exact POp.pre_hn hx hh h1 h2
  | some ad => exact POp.pre_hs hx hh h1 h2
theorem H1.bstrC {dst e : TypeId} {b off c n d : Nat} {ys : List UInt8} [h : UTy P t (.slice e)] [he : UTy P e (.int .u8)] [hs : UTy P dst .string] (hx : Env.ev E x = some (.slice (some ⟨b, off, none⟩) n c)) (hl : n = ys.length)
    (hc : ∀ w, Mm w0 H w → Rd w (.slice (some ⟨b, off, none⟩) n c) (ub ys)) (hd : Nat.blt d N = true) (hn : HN N ds next ((d, .string ⟨ys.toArray⟩) :: E) w0 H) : H1 P r N ds next ⟨some d, .convert t dst x, ty, pos, af, g⟩ Q E w0 H := fun w hM =>
  W1.bytes_string hx hl (fun j hj => by
    rw [add_lit]
    exact (hc w hM).cell (by simp [ub, hj])) hd (hn w hM)
end
end Go.Sx

