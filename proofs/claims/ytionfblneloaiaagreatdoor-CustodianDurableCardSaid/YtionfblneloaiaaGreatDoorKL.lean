/-
  The layer with atoms: bytes of a string to which more is added; strings out of bytes.
-/
import Derived.Test.YtionfblneloaiaaGreatDoorDB
import Derived.Test.YtionfblneloaiaaGreatDoorXH
import Derived.Laws.IdiomCopy
import Derived.Test.YtionfblneloaiaaGreatDoorHj
namespace Go.Sx
open Go Go.RowKit
/-- Cells that may grow; nothing of them is shared with a string. -/
def A.gb (e : TypeId) (b c n : Nat) (xs : List Value) : Atom :=
  A.obj b fun o => ∃ cur fz, o = .cells cur e fz ∧ (∀ q, q < cur.size → ¬ (fz.1 ≤ q ∧ q < fz.2)) ∧ n ≤ c ∧ cur.size = c ∧ cur.toList.take n = xs ∧ xs.length = n
theorem Mm.gb {w0 w : World} {H : List Atom} {e : TypeId} {b c n : Nat} {xs : List Value} (h : Mm w0 H w) (hm : A.gb e b c n xs ∈ H) :
    ∃ cur fz, w.heap[b]? = some (.cells cur e fz) ∧ (∀ q, q < cur.size → ¬ (fz.1 ≤ q ∧ q < fz.2)) ∧ n ≤ c ∧ cur.size = c ∧ cur.toList.take n = xs ∧ xs.length = n := by
  obtain ⟨o, h1, cur, fz, rfl, h2⟩ := h.obj hm
  exact ⟨cur, fz, h1, h2⟩
theorem gb_cell {w0 w : World} {H : List Atom} {e : TypeId} {b c n : Nat} {xs : List Value} (h : Mm w0 H w) (hm : A.gb e b c n xs ∈ H) {j : Nat} {v : Value} (hv : xs[j]? = some v) : w.cell? ⟨b, j, none⟩ = some v := by
  obtain ⟨cur, fz, h1, -, h3, h4, h5, h6⟩ := h.gb hm
  have hj : j < n := by have := (List.getElem?_eq_some_iff.1 hv).1; omega
  rw [← h5, List.getElem?_take_of_lt hj] at hv
  simp only [World.cell?, h1]
  simpa using hv
theorem gb_rd {w0 w : World} {H : List Atom} {e : TypeId} {b c n off m c2 : Nat} {xs : List Value} (h : Mm w0 H w) (hm : A.gb e b c n xs ∈ H) (h1 : off + m ≤ n) (h2 : m ≤ c2) : Rd w (.slice (some ⟨b, off, none⟩) m c2) ((xs.drop off).take m) := by
  have hl : ((xs.drop off).take m).length = m := by
    obtain ⟨cur, fz, -, -, -, -, -, h6⟩ := h.gb hm
    rw [List.length_take, List.length_drop, h6]; omega
  refine ⟨some ⟨b, off, none⟩, c2, by rw [hl], by rw [hl]; exact h2, .inr ⟨b, off, rfl, ?_, fun i u hu => ?_⟩⟩
  · obtain ⟨cur, fz, hb, -⟩ := h.gb hm
    exact (Array.getElem?_eq_some_iff.1 hb).1
  · have hi : i < m := by have := (List.getElem?_eq_some_iff.1 hu).1; omega
    rw [List.getElem?_take_of_lt hi, List.getElem?_drop] at hu
    exact gb_cell h hm hu
section
variable {P : Program} {r : Option Nat} {N : Nat} {ds : List Deferred} {ol rest : List Oper} {Q : Post} {E : Env} {w0 : World} {H : List Atom} {next : Act → World → Prop} {g : Option (Nat × Bool)}
variable {d : Nat} {t ty : TypeId} {pos : String} {af : Array Edge} {x y : Operand}
theorem H1.sgb {src dst e : TypeId} {s : ByteArray} [hs : UTy P src .string] [hd' : UTy P dst (.slice e)] [he : UTy P e (.int .u8)] (hx : Env.ev E x = some (.string s)) (hd : Nat.blt d N = true)
    (h : ∀ b c, HN N ds next ((d, .slice (some ⟨b, 0, none⟩) s.size c) :: E) w0 (A.gb e b c s.size (ub s.data.toList) :: H)) : H1 P r N ds next ⟨some d, .convert src dst x, ty, pos, af, g⟩ Q E w0 H := fun w hM => by
  have hrun := run_bytes_of_string (P := P) w src dst e s hs.is hd'.is he.is
  have hge := grownCap_ge w s.size 0 e
  obtain ⟨R, hR⟩ : ∃ R, R = bytesRow s (grownCap w s.size 0 e) := ⟨_, rfl⟩
  rw [← hR] at hrun
  have hsz : s.data.size = s.size := rfl
  refine W1.run (v := .slice (some ⟨w.heap.size, 0, none⟩) s.size (grownCap w s.size 0 e)) (w' := w.drew.alloc (.cells R e (R.size, R.size + 1))) (fun a ha => ?_) rfl hd (h w.heap.size (grownCap w s.size 0 e) _ ?_)
  · simp only [execOp, ha.ev hx, Sem.run_bind, hrun, Result.andThen, Sem.run_pure]
  · refine (hM.more ((Ext.drew w).trans (Ext.alloc w.drew _))).cons ⟨_, heap_alloc_new w.drew _, _, _, rfl, fun q hq hh => ?_, hge, ?_, ?_, ?_⟩ (by simp [A.gb, A.obj]) fun b hb => ?_
    · have := hh.1
      simp only at this
      omega
    · rw [hR]; simp only [bytesRow, Array.size_append, Array.size_map, Array.size_replicate]; omega
    · rw [hR]
      simp only [bytesRow, Array.toList_append, Array.toList_map]
      rw [List.take_append_of_le_length (by rw [List.length_map, Array.length_toList]; omega), List.take_of_length_le (by rw [List.length_map, Array.length_toList]; omega)]
      rfl
    · unfold ub; rw [List.length_map, Array.length_toList]; omega
    · have hb' : b = w.heap.size := by simpa [A.gb, A.obj] using hb
      subst hb'
      refine ⟨fun hm => ?_, hM.ext.size, by simp⟩
      have := (hM.rng _ hm).2
      omega
theorem H1.appG1 {e : TypeId} {z u : Value} {bb n c b b2 : Nat} {xs : List Value} {H' : Nat → Nat → List Atom} [h : UTy P t (.slice e)] [hi : ITy P e z 1 bb]
    (hx : Env.ev E x = some (.slice (some ⟨b, 0, none⟩) n c)) (hy : Env.ev E y = some (.slice (some ⟨b2, 0, none⟩) 1 1)) (hr : ∀ b' c', Rpl (A.gb e b c n xs) (A.gb e b' c' (n + 1) (xs ++ [u])) H (H' b' c'))
    (hm : A.blk b2 [u] e ∈ H) (h1 : u.oneCell' = true) (hzs : z.cells.size = 1) (hnm : n + 1 ≤ 1000000) (hb : Nat.ble bb 1000 = true) (hd : Nat.blt d N = true)
    (hn : ∀ b' c', HN N ds next ((d, .slice (some ⟨b', 0, none⟩) (n + 1) c') :: E) w0 (H' b' c')) :
    H1 P r N ds next ⟨some d, .call ⟨.builtin .append, #[x, y], #[t, t]⟩, ty, pos, af, g⟩ Q E w0 H := fun w hM => by
  obtain ⟨i, hi1, hi2, hi3, hi4⟩ := hi.parts
  obtain ⟨cur, fz, hb1, hfz, hnc, hcs, htk, hxl⟩ := hM.gb (hr 0 0).mem
  have hnews : ∀ j v, [u][j]? = some v → w.cell? ((⟨b2, 0, none⟩ : Addr).add j) = some v := fun j v hj => by
    rw [add_lit, Nat.zero_add]
    exact (hM.blk hm).cell hj
  have hlc : cur.toList.length = c := by simpa using hcs
  by_cases hroom : n + 1 ≤ c
  · have hst := run_storeCells_cells (P := P) b n [u] 0 w (fun j hj => by
      have hj0 : j = 0 := by simpa using hj
      subst hj0
      have hlt : n < cur.size := by omega
      simp [World.cell?, hb1, hlt]) (fun j hj => by
      have hj0 : j = 0 := by simpa using hj
      subst hj0
      have := hfz n (by omega)
      simp only [World.frozen?, hb1, Nat.add_zero]
      simpa using this) (by simpa using h1)
    have hf := run_firstCells_some (P := P) w i.size 1 ⟨b2, 0, none⟩ 1 1 [u] (by rw [hi3]; rfl) hnews
    rw [hi3] at hf
    have hrun : (Builtin.append_ #[t, t] ty #[.slice (some ⟨b, 0, none⟩) n c, .slice (some ⟨b2, 0, none⟩) 1 1]).run P w = .ok (.slice (some ⟨b, 0, none⟩) (n + 1) c) (w.setCells b n [u]) := by
      simp only [Nat.add_zero] at hst
      simp [Builtin.append_, run_underlying h.is, sizeOf, typeInfo, hi1, Builtin.lenOf, hroom, hf, Addr.add_lit, hi3, hst]
    have hnew : (w.setCells b n [u]).heap[b]? = some (.cells (cur.setIfInBounds n u) e fz) := by
      simp [World.setCells, World.setCell, Array.getElem?_modify, hb1]
    refine W1.run (v := .slice (some ⟨b, 0, none⟩) (n + 1) c) (w' := w.setCells b n [u]) (fun a ha => ?_) rfl hd (hn b c _ (hM.turn (hr b c) ?_ ?_ ?_ (by simp [World.setCells, World.setCell]) (fun q hq hq' => ?_) ⟨_, hnew, _, _, rfl, fun q hq => hfz q (by simpa using hq), hroom, by simpa using hcs, ?_, by simp [hxl]⟩ (by simp [A.gb, A.obj]) fun b' hb' => .inl hb'))
    · simp only [execOp, resolve, invoke, Go.builtin, Sem.run_bind, Sem.run_pure, Result.andThen, List.map_toArray, List.map_cons, List.map_nil, ha.ev hx, ha.ev hy, hrun]
    · simp [World.setCells, World.setCell]
    · simp [World.setCells, World.setCell]
    · simp [World.setCells, World.setCell]
    · have hne : ¬ b = q := fun e => hq' (by simp [A.gb, A.obj, e])
      simp [World.setCells, World.setCell, Array.getElem?_modify, hne]
    · rw [Array.toList_setIfInBounds, List.take_succ_eq_append_getElem (by rw [List.length_set]; omega), List.getElem_set_self, List.take_set, htk]
      rw [List.set_eq_of_length_le (by omega)]
  · have hrun := run_append_grow (P := P) (w := w) t ty e i z h.is hi1 hi2 ⟨b, 0, none⟩ n c xs (by rw [hi3, hxl]; omega) (fun j v hv => by
      rw [add_lit, Nat.zero_add]; exact gb_cell hM (hr 0 0).mem hv) ⟨b2, 0, none⟩ 1 1 [u] (by rw [hi3]; rfl) hnews (by omega) (by omega) (growslice_fits (by omega) (Nat.le_trans (Nat.mul_le_mul hnm (by rw [hi4]; exact Nat.le_of_ble_eq_true hb)) (by decide)))
    have hge := grownCap_ge w (n + 1) c e
    have hM2 := hM
    refine W1.run (v := .slice (some ⟨w.heap.size, 0, none⟩) (n + 1) (grownCap w (n + 1) c e)) (w' := w.drew.alloc (.cells (xs.toArray ++ [u].toArray ++ Builtin.zeroCells z.cells (grownCap w (n + 1) c e - (n + 1))) e)) (fun a ha => ?_) rfl hd
      (hn _ _ _ (hM.turn (hr _ _) rfl rfl rfl (by simp) (fun q hq hq' => ?_) ⟨_, heap_alloc_new w.drew _, _, _, rfl, fun q _ hh => by simp at hh, hge, ?_, ?_, by simp [hxl]⟩ (by simp [A.gb, A.obj]) fun b' hb' => .inr ?_))
    · simp only [execOp, resolve, invoke, Go.builtin, Sem.run_bind, Sem.run_pure, Result.andThen, List.map_toArray, List.map_cons, List.map_nil, ha.ev hx, ha.ev hy, hrun]
    · exact (Ext.alloc w.drew _).block q hq
    · simp [Builtin.zeroCells, hzs, hxl]; omega
    · simp only [Array.toList_append]
      rw [List.take_append_of_le_length (by simp [hxl]), List.take_of_length_le (by simp [hxl])]
    · have hb' : b' = w.heap.size := by simpa [A.gb, A.obj] using hb'
      subst hb'
      exact ⟨Nat.le_refl _, by simp⟩
theorem H1.bstrB {dst e eb : TypeId} {b c : Nat} {ys : List UInt8} [h : UTy P t (.slice e)] [he : UTy P e (.int .u8)] [hs : UTy P dst .string] (hx : Env.ev E x = some (.slice (some ⟨b, 0, none⟩) ys.length c)) (hm : A.blk b (ub ys) eb ∈ H)
    (hd : Nat.blt d N = true) (hn : HN N ds next ((d, .string ⟨ys.toArray⟩) :: E) w0 H) : H1 P r N ds next ⟨some d, .convert t dst x, ty, pos, af, g⟩ Q E w0 H := fun w hM =>
  W1.bytes_string hx rfl (fun j hj => by
    rw [add_lit, Nat.zero_add]
    exact (hM.blk hm).cell (by simp [ub, hj])) hd (hn w hM)
theorem POp.cut3 {e : TypeId} {b off l c lo hi mx : Nat} {z : Value} {sz bb : Nat} {k1 k2 k3 : IntKind} {n1 n2 n3 : Int} {y1 y2 y3 : Operand} [h : UTy P t (.slice e)] [hi' : ITy P e z sz bb] (hx : Env.ev E x = some (.slice (some ⟨b, off, none⟩) l c))
    (h1 : Env.ev E y1 = some (.int k1 n1)) (h2 : Env.ev E y2 = some (.int k2 n2)) (h3 : Env.ev E y3 = some (.int k3 n3)) (e1 : n1 = (lo : Int)) (e2 : n2 = (hi : Int)) (e3 : n3 = (mx : Int)) (h4 : lo ≤ hi) (h5 : hi ≤ mx) (h6 : mx ≤ c) (hne : lo < mx) :
    POp P N ds E (.slice t x (some y1) (some y2) (some y3)) ty (.slice (some ⟨b, off + lo * sz, none⟩) (hi - lo) (mx - lo)) := fun a ha d pos af g w => by
  subst e1; subst e2; subst e3
  have hc : ¬ mx = lo := by omega
  simp [execOp, ha.ev hx, ha.ev h1, ha.ev h2, ha.ev h3, Instr.sliceAt, Instr.slice, run_underlying h.is, Instr.sliceBounds, run_bound (show (0 : Int) ≤ (mx : Int) by omega) (show (mx : Int) ≤ ((c : Nat) : Int) by omega),
    run_bound (show (0 : Int) ≤ (hi : Int) by omega) (show (hi : Int) ≤ ((mx : Nat) : Int) by omega), run_bound (show (0 : Int) ≤ (lo : Int) by omega) (show (lo : Int) ≤ ((hi : Nat) : Int) by omega), Sem.run_bind, run_sizeOf, hc, add_lit]
end
end Go.Sx
/-
  The layer with atoms: parts of a block that are stored whole; strings copied into a block; slices of the call's own that are cleared and cut.
-/
namespace Go.Sx
open Go Go.RowKit
theorem ownsRow_cut {w : World} {base c n sz : Nat} {e : TypeId} {a : Option Addr} {xs : List Value} (h : w.ownsRow base e sz (.slice a n c) n xs) : w.ownsRow base e sz (.slice a 0 c) 0 [] := by
  rcases h.2 with ⟨hv, -⟩ | ⟨g, cap, cur, hv, hb, hg, hnc, hcm, hcs, htk⟩
  · cases hv
    exact ⟨by simp, .inl ⟨rfl, rfl⟩⟩
  · cases hv
    exact ⟨by simp, .inr ⟨g, c, cur, rfl, hb, hg, Nat.zero_le _, hcm, hcs, by simp⟩⟩
section
variable {P : Program} {r : Option Nat} {N : Nat} {ds : List Deferred} {ol rest : List Oper} {Q : Post} {E : Env} {w0 : World} {H : List Atom} {next : Act → World → Prop} {g : Option (Nat × Bool)}
variable {d : Option Nat} {t ty : TypeId} {pos : String} {af : Array Edge} {x y : Operand}
theorem HL.growCut {l : List Oper} {e : TypeId} {sz c n : Nat} {a : Option Addr} {xs : List Value} {H' : List Atom} (hr : Rpl (A.grow e sz a c n xs) (A.grow e sz a c 0 []) H H') (h : HL P r N ds ol l Q E w0 H') : HL P r N ds ol l Q E w0 H := fun w hM =>
  h w (hM.turn hr rfl rfl rfl (Nat.le_refl _) (fun _ _ _ => rfl) (ownsRow_cut (hM.own hr.mem)) (by cases a <;> simp [A.grow, Value.ownBlock]) (fun b hb => .inl (by cases a <;> exact hb)))
theorem H1.stAggO {b o : Nat} {cs cs' vs : List Value} {e : TypeId} {z : Value} {n bb : Nat} {H' : List Atom} [hi : ITy P t z n bb] (hx : Env.ev E x = some (.pointer (some ⟨b, o, none⟩))) (hy : Env.ev E y = some (.agg vs.toArray))
    (hn : vs.length = n) (h1 : ∀ v ∈ vs, v.oneCell' = true) (hl : o + vs.length ≤ cs.length) (he : cs.take o ++ vs ++ cs.drop (o + vs.length) = cs') (hr : Rpl (A.blk b cs e) (A.blk b cs' e) H H')
    (h : HN N ds next E w0 H') : H1 P r N ds next ⟨none, .store t x y, ty, pos, af, g⟩ Q E w0 H := fun w hM => by
  subst he
  have hb : w.heap[b]? = some (.cells cs.toArray e (0, 0)) := hM.blk hr.mem
  have hs := run_storeCells_at P b o e vs 0 cs.toArray w hb (by simpa using hl) h1
  simp only [Nat.add_zero] at hs
  refine W1.skip (w' := w.setRow b ((cs.take o ++ vs ++ cs.drop (o + vs.length)).toArray)) (fun a ha => ?_) rfl rfl (h _ (hM.turn hr rfl rfl rfl (by simp [World.setRow]) (fun q hq hq' => ?_) ?_ (by simp [A.blk]) fun b' hb' => .inl hb'))
  · simp only [execOp, ha.ev hx, ha.ev hy, Instr.storeAt, Instr.sureAddr, storeVar, Sem.run_bind, Sem.run_pure, Result.andThen]
    subst hn
    simp only [run_sizeOf, Value.cells, List.size_toArray, ne_eq, not_true, if_false]
    simp only [hs]
  · have hne : ¬ b = q := fun e => hq' (by simp [A.blk, e])
    simp [World.setRow, Array.getElem?_modify, hne]
  · show (w.setRow b _).heap[b]? = _
    simp [World.setRow, Array.getElem?_modify, hb]
/-- copy of a string, into a block of the call's own. -/
theorem H1.copyS {e eb t2 : TypeId} {z : Value} {bb b o dl dc : Nat} {s : ByteArray} {cur cur' : List Value} {H' : List Atom} [h : UTy P t (.slice e)] [hi' : ITy P e z 1 bb] (hx : Env.ev E x = some (.slice (some ⟨b, o, none⟩) dl dc)) (hy : Env.ev E y = some (.string s))
    (hn : s.size ≤ dl) (hfit : o + s.size ≤ cur.length) (he : cur.take o ++ ub s.data.toList ++ cur.drop (o + s.size) = cur')
    (hr : Rpl (A.blk b cur eb) (A.blk b cur' eb) H H') (hd : dOk d N = true) (hn' : HN N ds next (putE d (zv (s.size : Int)) E) w0 H') :
    H1 P r N ds next ⟨d, .call ⟨.builtin .copy, #[x, y], #[t, t2]⟩, ty, pos, af, g⟩ Q E w0 H := fun w hM => by
  subst he
  obtain ⟨i, hi1, hi2, hi3, hi4⟩ := hi'.parts
  have hb : w.heap[b]? = some (.cells cur.toArray eb (0, 0)) := hM.blk hr.mem
  have hl : (ub s.data.toList).length = s.size := by unfold ub; rw [List.length_map, Array.length_toList]; rfl
  have hst := run_storeCells_at P b o eb (ub s.data.toList) 0 cur.toArray w hb (by rw [hl]; simpa using hfit) (by
    intro v hv
    obtain ⟨x, -, rfl⟩ := List.mem_map.1 hv
    rfl)
  simp only [Nat.add_zero, hl] at hst
  have hmin : Nat.min s.size dl = s.size := Nat.min_eq_left hn
  have e3 : List.take s.size (List.map (fun b : UInt8 => Value.int .u8 ((b.toNat : Nat) : Int)) s.data.toList) = ub s.data.toList := by
    rw [List.take_of_length_le (by rw [List.length_map, Array.length_toList]; exact Nat.le_refl _)]; rfl
  have hrun : (Builtin.copy_ #[t, t2] ty #[.slice (some ⟨b, o, none⟩) dl dc, .string s]).run P w = .ok (goInt s.size) (w.setRow b (cur.take o ++ ub s.data.toList ++ cur.drop (o + s.size)).toArray) := by
    simp [Builtin.copy_, run_underlying h.is, sizeOf, typeInfo, hi1, Builtin.lenOf, Builtin.firstCells, hmin]
    rw [e3, hst]
    simp [Result.andThen]
  refine W1.run (v := zv (s.size : Int)) (w' := w.setRow b (cur.take o ++ ub s.data.toList ++ cur.drop (o + s.size)).toArray) (fun a ha => ?_) rfl hd (hn' _ (hM.turn hr rfl rfl rfl (by simp [World.setRow]) (fun q hq hq' => ?_) ?_ (by simp [A.blk]) fun b' hb' => .inl hb'))
  · simp only [execOp, resolve, invoke, Go.builtin, Sem.run_bind, Sem.run_pure, Result.andThen, List.map_toArray, List.map_cons, List.map_nil, ha.ev hx, ha.ev hy, hrun]; rfl
  · have hne : ¬ b = q := fun e => hq' (by simp [A.blk, e])
    simp [World.setRow, Array.getElem?_modify, hne]
  · show (w.setRow b _).heap[b]? = _
    simp [World.setRow, Array.getElem?_modify, hb]
/-- clear, on a slice of the call's own; it is cut to nothing behind it. -/
theorem H1.clearG {e : TypeId} {z : Value} {sz bb n c : Nat} {a : Option Addr} {xs : List Value} {H' : List Atom} {d : Option Nat} [h : UTy P t (.slice e)] [hi : ITy P e z sz bb] (hzs : z.cells.size = sz) (h1 : ∀ v ∈ z.cells.toList, v.oneCell' = true) (h0 : 0 < sz)
    (hx : Env.ev E x = some (.slice a n c)) (hr : Rpl (A.grow e sz a c n xs) (A.grow e sz a c n (Builtin.zeroCells z.cells n).toList) H H') (hd : dOk d N = true) (hn : HN N ds next (putE d (.tuple #[]) E) w0 H') :
    H1 P r N ds next ⟨d, .call ⟨.builtin .clear, #[x], #[t]⟩, ty, pos, af, g⟩ Q E w0 H := fun w hM => by
  have hown := hM.own hr.mem
  have hzl : (Builtin.zeroCells z.cells n).toList.length = n * sz := by simp [Builtin.zeroCells, hzs]
  have hz1 : ∀ v ∈ (Builtin.zeroCells z.cells n).toList, v.oneCell' = true := by
    intro v hv
    unfold Builtin.zeroCells at hv
    rw [Array.toList_map] at hv
    obtain ⟨i, -, rfl⟩ := List.mem_map.1 hv
    refine h1 _ ?_
    have hlt : i % z.cells.size < z.cells.size := Nat.mod_lt _ (by omega)
    rw [getElem!_pos z.cells (i % z.cells.size) hlt]
    exact Array.getElem_mem_toList hlt
  rcases hown.2 with ⟨hv, hn0⟩ | ⟨q, cap, cur, hv, hbq, hg, hnc, hcm, hcs, htk⟩
  · cases hv
    have hrun : (Builtin.clear_ #[t] ty #[.slice none 0 0]).run P w = .ok (.tuple #[]) w := by simp [Builtin.clear_, run_underlying h.is]
    refine W1.run (v := .tuple #[]) (w' := w) (fun b ha => ?_) rfl hd (hn _ (hM.turn hr rfl rfl rfl (Nat.le_refl _) (fun _ _ _ => rfl) ⟨hzl, .inl ⟨rfl, rfl⟩⟩ (by simp [A.grow, Value.ownBlock]) fun b' hb' => .inl hb'))
    simp only [execOp, resolve, invoke, Go.builtin, Sem.run_bind, Sem.run_pure, Result.andThen, List.map_toArray, List.map_cons, List.map_nil, ha.ev hx, hrun]
  · cases hv
    have hfit : n * sz ≤ cur.size := by rw [hcs]; exact Nat.mul_le_mul_right _ hnc
    have hst := run_storeCells_at P q 0 e (Builtin.zeroCells z.cells n).toList 0 cur w hg (by rw [hzl]; simpa using hfit) hz1
    simp only [Nat.add_zero, Nat.zero_add, List.take_zero, List.nil_append, hzl] at hst
    cases n with
    | zero =>
      have hrun : (Builtin.clear_ #[t] ty #[.slice (some ⟨q, 0, none⟩) 0 c]).run P w = .ok (.tuple #[]) w := by simp [Builtin.clear_, run_underlying h.is]
      refine W1.run (v := .tuple #[]) (w' := w) (fun b ha => ?_) rfl hd (hn _ (hM.turn hr rfl rfl rfl (Nat.le_refl _) (fun _ _ _ => rfl) ⟨hzl, .inr ⟨q, c, cur, rfl, hbq, hg, hnc, hcm, hcs, ?_⟩⟩ (by simp [A.grow, Value.ownBlock]) fun b' hb' => .inl hb'))
      · simp only [execOp, resolve, invoke, Go.builtin, Sem.run_bind, Sem.run_pure, Result.andThen, List.map_toArray, List.map_cons, List.map_nil, ha.ev hx, hrun]
      · have : (Builtin.zeroCells z.cells 0).toList = [] := List.eq_nil_of_length_eq_zero (by rw [hzl]; simp)
        rw [this]; simp
    | succ n =>
      have hrun : (Builtin.clear_ #[t] ty #[.slice (some ⟨q, 0, none⟩) (n + 1) c]).run P w = .ok (.tuple #[]) (w.setRow q ((Builtin.zeroCells z.cells (n + 1)).toList ++ cur.toList.drop ((n + 1) * sz)).toArray) := by
        simp [Builtin.clear_, run_underlying h.is, run_zeroValue (h := hi), hst]
      refine W1.run (v := .tuple #[]) (w' := w.setRow q ((Builtin.zeroCells z.cells (n + 1)).toList ++ cur.toList.drop ((n + 1) * sz)).toArray) (fun b ha => ?_) rfl hd (hn _ (hM.turn hr rfl rfl rfl (by simp [World.setRow]) (fun k hk hk' => ?_) ⟨hzl, .inr ⟨q, c, ((Builtin.zeroCells z.cells (n + 1)).toList ++ cur.toList.drop ((n + 1) * sz)).toArray, rfl, hbq, ?_, hnc, hcm, ?_, ?_⟩⟩ (by simp [A.grow, Value.ownBlock]) fun b' hb' => .inl hb'))
      · simp only [execOp, resolve, invoke, Go.builtin, Sem.run_bind, Sem.run_pure, Result.andThen, List.map_toArray, List.map_cons, List.map_nil, ha.ev hx, hrun]
      · have hne : ¬ q = k := fun e => hk' (by simp [A.grow, Value.ownBlock, e])
        simp [World.setRow, Array.getElem?_modify, hne]
      · exact setRow_heap w q _ _ e _ hg
      · rw [List.size_toArray, List.length_append, hzl, List.length_drop, Array.length_toList, hcs]; rw [hcs] at hfit; omega
      · rw [List.toList_toArray, List.take_append_of_le_length (by rw [hzl]; exact Nat.le_refl _), List.take_of_length_le (by rw [hzl]; exact Nat.le_refl _)]
theorem POp.pre_any {hi : Operand} {k' : IntKind} {n : Int} {e : TypeId} {a : Option Addr} {l c : Nat} {z : Value} {sz bb : Nat} [h : UTy P t (.slice e)] [hi' : ITy P e z sz bb]
    (hx : Env.ev E x = some (.slice a l c)) (hh : Env.ev E hi = some (.int k' n)) (h1 : 0 ≤ n) (h2 : n ≤ c) : POp P N ds E (.slice t x none (some hi) none) ty (.slice a n.toNat c) := by
  cases a with
  | none => exact POp.pre_hn hx hh h1 h2
  | some ad => exact POp.pre_hs hx hh h1 h2
theorem H1.bstrC {dst e : TypeId} {b off c n d : Nat} {ys : List UInt8} [h : UTy P t (.slice e)] [he : UTy P e (.int .u8)] [hs : UTy P dst .string] (hx : Env.ev E x = some (.slice (some ⟨b, off, none⟩) n c)) (hl : n = ys.length)
    (hc : ∀ w, Mm w0 H w → Rd w (.slice (some ⟨b, off, none⟩) n c) (ub ys)) (hd : Nat.blt d N = true) (hn : HN N ds next ((d, .string ⟨ys.toArray⟩) :: E) w0 H) : H1 P r N ds next ⟨some d, .convert t dst x, ty, pos, af, g⟩ Q E w0 H := fun w hM =>
  W1.bytes_string hx hl (fun j hj => by
    rw [add_lit]
    exact (hc w hM).cell (by simp [ub, hj])) hd (hn w hM)
end
end Go.Sx

