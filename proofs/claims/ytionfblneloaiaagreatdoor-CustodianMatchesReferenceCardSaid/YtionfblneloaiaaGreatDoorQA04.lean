/-
  The layer with atoms: bytes of a string to which more is added; strings out of bytes.
-/
import Derived.Test.YtionfblneloaiaaGreatDoorQA03
import Derived.Laws.IdiomCopy
import Derived.Lib.Join
import Derived.Lib.TrimByte
import Derived.KernelRfl
import Derived.Shelf.Strings.Builder1
import Derived.Shelf.Strings.Builder2
import Derived.Shelf.Strings.OnBuilder
import Derived.Shelf.Strings.Trim
import Derived.Shelf.Small.Utf8
import Derived.Shelf.Small.Bits
import Derived.Shelf.Small.Strs
import Derived.Shelf.Small.Wraps
import Derived.Shelf.Strings.BuilderF
import Derived.Shelf.Strconv.Itoa0
import Derived.Shelf.Strings.Search1
import Derived.Shelf.Sort.Plain
import Derived.Shelf.Strings.Prefix
import Derived.Shelf.Strings.Runes
import Derived.Shelf.Strings.AsciiSet
import Derived.Shelf.Bits.Mul64
import Derived.Shelf.Strings.Repeat
import Derived.Shelf.Unicode.DecodeSlow
import Derived.Ground.Names2Prog
import Derived.Shelf.Slices.Clone
import Derived.Shelf.Slices.CompactI
import Derived.Shelf.Slices.SearchI
import Derived.Shelf.Slices.Cells
import Derived.Shelf.Slices.In.SortNone
import Derived.Test.YtionfblneloaiaaGreatDoorProg
namespace Go.Sx
open Go Go.RowKit
/-- Cells that may grow; nothing of them is shared with a string. -/
def A.gb (e : TypeId) (b c n : Nat) (xs : List Value) : Atom :=
  A.obj b fun o => ∃ cur fz, o = .cells cur e fz ∧ (∀ q, q < cur.size → ¬ (fz.1 ≤ q ∧ q < fz.2)) ∧ n ≤ c ∧ cur.size = c ∧ cur.toList.take n = xs ∧ xs.length = n
theorem Mm.gb {w0 w : World} {H : List Atom} {e : TypeId} {b c n : Nat} {xs : List Value} (h : Mm w0 H w) (hm : A.gb e b c n xs ∈ H) :
    ∃ cur fz, w.heap[b]? = some (.cells cur e fz) ∧ (∀ q, q < cur.size → ¬ (fz.1 ≤ q ∧ q < fz.2)) ∧ n ≤ c ∧ cur.size = c ∧ cur.toList.take n = xs ∧ xs.length = n := by
  obtain ⟨o, h1, cur, fz, rfl, h2⟩ := h.obj hm
  exact ⟨cur, fz, h1, h2⟩
theorem gb_cell {w0 w : World} {H : List Atom} {e : TypeId} {b c n : Nat} {xs : List Value} (h : Mm w0 H w) (hm : A.gb e b c n xs ∈ H) {j : Nat} {v : Value} (hv : xs[j]? = some v) : w.cell? ⟨b, j, none⟩ = some v := by
  obtain ⟨cur, fz, h1, -, h3, h4, h5, h6⟩ := h.gb hm
  have hj : j < n := by have := (List.getElem?_eq_some_iff.1 hv).1; omega
  rw [← h5, List.getElem?_take_of_lt hj] at hv
  simp only [World.cell?, h1]
  simpa using hv
theorem gb_rd {w0 w : World} {H : List Atom} {e : TypeId} {b c n off m c2 : Nat} {xs : List Value} (h : Mm w0 H w) (hm : A.gb e b c n xs ∈ H) (h1 : off + m ≤ n) (h2 : m ≤ c2) : Rd w (.slice (some ⟨b, off, none⟩) m c2) ((xs.drop off).take m) := by
  have hl : ((xs.drop off).take m).length = m := by
    obtain ⟨cur, fz, -, -, -, -, -, h6⟩ := h.gb hm
    rw [List.length_take, List.length_drop, h6]; omega
  refine ⟨some ⟨b, off, none⟩, c2, by rw [hl], by rw [hl]; exact h2, .inr ⟨b, off, rfl, ?_, fun i u hu => ?_⟩⟩
  · obtain ⟨cur, fz, hb, -⟩ := h.gb hm
    exact (Array.getElem?_eq_some_iff.1 hb).1
  · have hi : i < m := by have := (List.getElem?_eq_some_iff.1 hu).1; omega
    rw [List.getElem?_take_of_lt hi, List.getElem?_drop] at hu
    exact gb_cell h hm hu
section
variable {P : Program} {r : Option Nat} {N : Nat} {ds : List Deferred} {ol rest : List Oper} {Q : Post} {E : Env} {w0 : World} {H : List Atom} {next : Act → World → Prop} {g : Option (Nat × Bool)}
variable {d : Nat} {t ty : TypeId} {pos : String} {af : Array Edge} {x y : Operand}
theorem H1.sgb {src dst e : TypeId} {s : ByteArray} [hs : UTy P src .string] [hd' : UTy P dst (.slice e)] [he : UTy P e (.int .u8)] (hx : Env.ev E x = some (.string s)) (hd : Nat.blt d N = true)
    (h : ∀ b c, HN N ds next ((d, .slice (some ⟨b, 0, none⟩) s.size c) :: E) w0 (A.gb e b c s.size (ub s.data.toList) :: H)) : H1 P r N ds next ⟨some d, .convert src dst x, ty, pos, af, g⟩ Q E w0 H := fun w hM => by
  have hrun := run_bytes_of_string (P := P) w src dst e s hs.is hd'.is he.is
  have hge := grownCap_ge w s.size 0 e
  obtain ⟨R, hR⟩ : ∃ R, R = bytesRow s (grownCap w s.size 0 e) := ⟨_, rfl⟩
  rw [← hR] at hrun
  have hsz : s.data.size = s.size := rfl
  refine W1.run (v := .slice (some ⟨w.heap.size, 0, none⟩) s.size (grownCap w s.size 0 e)) (w' := w.drew.alloc (.cells R e (R.size, R.size + 1))) (fun a ha => ?_) rfl hd (h w.heap.size (grownCap w s.size 0 e) _ ?_)
  · simp only [execOp, ha.ev hx, Sem.run_bind, hrun, Result.andThen, Sem.run_pure]
  · refine (hM.more ((Ext.drew w).trans (Ext.alloc w.drew _))).cons ⟨_, heap_alloc_new w.drew _, _, _, rfl, fun q hq hh => ?_, hge, ?_, ?_, ?_⟩ (by simp [A.gb, A.obj]) fun b hb => ?_
    · have := hh.1
      simp only at this
      omega
    · rw [hR]; simp only [bytesRow, Array.size_append, Array.size_map, Array.size_replicate]; omega
    · rw [hR]
      simp only [bytesRow, Array.toList_append, Array.toList_map]
      rw [List.take_append_of_le_length (by rw [List.length_map, Array.length_toList]; omega), List.take_of_length_le (by rw [List.length_map, Array.length_toList]; omega)]
      rfl
    · unfold ub; rw [List.length_map, Array.length_toList]; omega
    · have hb' : b = w.heap.size := by simpa [A.gb, A.obj] using hb
      subst hb'
      refine ⟨fun hm => ?_, hM.ext.size, by simp⟩
      have := (hM.rng _ hm).2
      omega
theorem H1.appG1 {e : TypeId} {z u : Value} {bb n c b b2 : Nat} {xs : List Value} {H' : Nat → Nat → List Atom} [h : UTy P t (.slice e)] [hi : ITy P e z 1 bb]
    (hx : Env.ev E x = some (.slice (some ⟨b, 0, none⟩) n c)) (hy : Env.ev E y = some (.slice (some ⟨b2, 0, none⟩) 1 1)) (hr : ∀ b' c', Rpl (A.gb e b c n xs) (A.gb e b' c' (n + 1) (xs ++ [u])) H (H' b' c'))
    (hm : A.blk b2 [u] e ∈ H) (h1 : u.oneCell' = true) (hzs : z.cells.size = 1) (hnm : n + 1 ≤ 1000000) (hb : Nat.ble bb 1000 = true) (hd : Nat.blt d N = true)
    (hn : ∀ b' c', HN N ds next ((d, .slice (some ⟨b', 0, none⟩) (n + 1) c') :: E) w0 (H' b' c')) :
    H1 P r N ds next ⟨some d, .call ⟨.builtin .append, #[x, y], #[t, t]⟩, ty, pos, af, g⟩ Q E w0 H := fun w hM => by
  obtain ⟨i, hi1, hi2, hi3, hi4⟩ := hi.parts
  obtain ⟨cur, fz, hb1, hfz, hnc, hcs, htk, hxl⟩ := hM.gb (hr 0 0).mem
  have hnews : ∀ j v, [u][j]? = some v → w.cell? ((⟨b2, 0, none⟩ : Addr).add j) = some v := fun j v hj => by
    rw [add_lit, Nat.zero_add]
    exact (hM.blk hm).cell hj
  have hlc : cur.toList.length = c := by simpa using hcs
  by_cases hroom : n + 1 ≤ c
  · have hst := run_storeCells_cells (P := P) b n [u] 0 w (fun j hj => by
      have hj0 : j = 0 := by simpa using hj
      subst hj0
      have hlt : n < cur.size := by omega
      simp [World.cell?, hb1, hlt]) (fun j hj => by
      have hj0 : j = 0 := by simpa using hj
      subst hj0
      have := hfz n (by omega)
      simp only [World.frozen?, hb1, Nat.add_zero]
      simpa using this) (by simpa using h1)
    have hf := run_firstCells_some (P := P) w i.size 1 ⟨b2, 0, none⟩ 1 1 [u] (by rw [hi3]; rfl) hnews
    rw [hi3] at hf
    have hrun : (Builtin.append_ #[t, t] ty #[.slice (some ⟨b, 0, none⟩) n c, .slice (some ⟨b2, 0, none⟩) 1 1]).run P w = .ok (.slice (some ⟨b, 0, none⟩) (n + 1) c) (w.setCells b n [u]) := by
      simp only [Nat.add_zero] at hst
      simp [Builtin.append_, run_underlying h.is, sizeOf, typeInfo, hi1, Builtin.lenOf, hroom, hf, Addr.add_lit, hi3, hst]
    have hnew : (w.setCells b n [u]).heap[b]? = some (.cells (cur.setIfInBounds n u) e fz) := by
      simp [World.setCells, World.setCell, Array.getElem?_modify, hb1]
    refine W1.run (v := .slice (some ⟨b, 0, none⟩) (n + 1) c) (w' := w.setCells b n [u]) (fun a ha => ?_) rfl hd (hn b c _ (hM.turn (hr b c) ?_ ?_ ?_ (by simp [World.setCells, World.setCell]) (fun q hq hq' => ?_) ⟨_, hnew, _, _, rfl, fun q hq => hfz q (by simpa using hq), hroom, by simpa using hcs, ?_, by simp [hxl]⟩ (by simp [A.gb, A.obj]) fun b' hb' => .inl hb'))
    · simp only [execOp, resolve, invoke, Go.builtin, Sem.run_bind, Sem.run_pure, Result.andThen, List.map_toArray, List.map_cons, List.map_nil, ha.ev hx, ha.ev hy, hrun]
    · simp [World.setCells, World.setCell]
    · simp [World.setCells, World.setCell]
    · simp [World.setCells, World.setCell]
    · have hne : ¬ b = q := fun e => hq' (by simp [A.gb, A.obj, e])
      simp [World.setCells, World.setCell, Array.getElem?_modify, hne]
    · rw [Array.toList_setIfInBounds, List.take_succ_eq_append_getElem (by rw [List.length_set]; omega), List.getElem_set_self, List.take_set, htk]
      rw [List.set_eq_of_length_le (by omega)]
  · have hrun := run_append_grow (P := P) (w := w) t ty e i z h.is hi1 hi2 ⟨b, 0, none⟩ n c xs (by rw [hi3, hxl]; omega) (fun j v hv => by
      rw [add_lit, Nat.zero_add]; exact gb_cell hM (hr 0 0).mem hv) ⟨b2, 0, none⟩ 1 1 [u] (by rw [hi3]; rfl) hnews (by omega) (by omega) (growslice_fits (by omega) (Nat.le_trans (Nat.mul_le_mul hnm (by rw [hi4]; exact Nat.le_of_ble_eq_true hb)) (by decide)))
    have hge := grownCap_ge w (n + 1) c e
    have hM2 := hM
    refine W1.run (v := .slice (some ⟨w.heap.size, 0, none⟩) (n + 1) (grownCap w (n + 1) c e)) (w' := w.drew.alloc (.cells (xs.toArray ++ [u].toArray ++ Builtin.zeroCells z.cells (grownCap w (n + 1) c e - (n + 1))) e)) (fun a ha => ?_) rfl hd
      (hn _ _ _ (hM.turn (hr _ _) rfl rfl rfl (by simp) (fun q hq hq' => ?_) ⟨_, heap_alloc_new w.drew _, _, _, rfl, fun q _ hh => by simp at hh, hge, ?_, ?_, by simp [hxl]⟩ (by simp [A.gb, A.obj]) fun b' hb' => .inr ?_))
    · simp only [execOp, resolve, invoke, Go.builtin, Sem.run_bind, Sem.run_pure, Result.andThen, List.map_toArray, List.map_cons, List.map_nil, ha.ev hx, ha.ev hy, hrun]
    · exact (Ext.alloc w.drew _).block q hq
    · simp [Builtin.zeroCells, hzs, hxl]; omega
    · simp only [Array.toList_append]
      rw [List.take_append_of_le_length (by simp [hxl]), List.take_of_length_le (by simp [hxl])]
    · have hb' : b' = w.heap.size := by simpa [A.gb, A.obj] using hb'
      subst hb'
      exact ⟨Nat.le_refl _, by simp⟩
theorem H1.bstrB {dst e eb : TypeId} {b c : Nat} {ys : List UInt8} [h : UTy P t (.slice e)] [he : UTy P e (.int .u8)] [hs : UTy P dst .string] (hx : Env.ev E x = some (.slice (some ⟨b, 0, none⟩) ys.length c)) (hm : A.blk b (ub ys) eb ∈ H)
    (hd : Nat.blt d N = true) (hn : HN N ds next ((d, .string ⟨ys.toArray⟩) :: E) w0 H) : H1 P r N ds next ⟨some d, .convert t dst x, ty, pos, af, g⟩ Q E w0 H := fun w hM =>
  W1.bytes_string hx rfl (fun j hj => by
    rw [add_lit, Nat.zero_add]
    exact (hM.blk hm).cell (by simp [ub, hj])) hd (hn w hM)
theorem POp.cut3 {e : TypeId} {b off l c lo hi mx : Nat} {z : Value} {sz bb : Nat} {k1 k2 k3 : IntKind} {n1 n2 n3 : Int} {y1 y2 y3 : Operand} [h : UTy P t (.slice e)] [hi' : ITy P e z sz bb] (hx : Env.ev E x = some (.slice (some ⟨b, off, none⟩) l c))
    (h1 : Env.ev E y1 = some (.int k1 n1)) (h2 : Env.ev E y2 = some (.int k2 n2)) (h3 : Env.ev E y3 = some (.int k3 n3)) (e1 : n1 = (lo : Int)) (e2 : n2 = (hi : Int)) (e3 : n3 = (mx : Int)) (h4 : lo ≤ hi) (h5 : hi ≤ mx) (h6 : mx ≤ c) (hne : lo < mx) :
    POp P N ds E (.slice t x (some y1) (some y2) (some y3)) ty (.slice (some ⟨b, off + lo * sz, none⟩) (hi - lo) (mx - lo)) := fun a ha d pos af g w => by
  subst e1; subst e2; subst e3
  have hc : ¬ mx = lo := by omega
  simp [execOp, ha.ev hx, ha.ev h1, ha.ev h2, ha.ev h3, Instr.sliceAt, Instr.slice, run_underlying h.is, Instr.sliceBounds, run_bound (show (0 : Int) ≤ (mx : Int) by omega) (show (mx : Int) ≤ ((c : Nat) : Int) by omega),
    run_bound (show (0 : Int) ≤ (hi : Int) by omega) (show (hi : Int) ≤ ((mx : Nat) : Int) by omega), run_bound (show (0 : Int) ≤ (lo : Int) by omega) (show (lo : Int) ≤ ((hi : Nat) : Int) by omega), Sem.run_bind, run_sizeOf, hc, add_lit]
end
end Go.Sx
/-
  The layer with atoms: parts of a block that are stored whole; strings copied into a block; slices of the call's own that are cleared and cut.
-/
namespace Go.Sx
open Go Go.RowKit
theorem ownsRow_cut {w : World} {base c n sz : Nat} {e : TypeId} {a : Option Addr} {xs : List Value} (h : w.ownsRow base e sz (.slice a n c) n xs) : w.ownsRow base e sz (.slice a 0 c) 0 [] := by
  rcases h.2 with ⟨hv, -⟩ | ⟨g, cap, cur, hv, hb, hg, hnc, hcm, hcs, htk⟩
  · cases hv
    exact ⟨by simp, .inl ⟨rfl, rfl⟩⟩
  · cases hv
    exact ⟨by simp, .inr ⟨g, c, cur, rfl, hb, hg, Nat.zero_le _, hcm, hcs, by simp⟩⟩
section
variable {P : Program} {r : Option Nat} {N : Nat} {ds : List Deferred} {ol rest : List Oper} {Q : Post} {E : Env} {w0 : World} {H : List Atom} {next : Act → World → Prop} {g : Option (Nat × Bool)}
variable {d : Option Nat} {t ty : TypeId} {pos : String} {af : Array Edge} {x y : Operand}
theorem HL.growCut {l : List Oper} {e : TypeId} {sz c n : Nat} {a : Option Addr} {xs : List Value} {H' : List Atom} (hr : Rpl (A.grow e sz a c n xs) (A.grow e sz a c 0 []) H H') (h : HL P r N ds ol l Q E w0 H') : HL P r N ds ol l Q E w0 H := fun w hM =>
  h w (hM.turn hr rfl rfl rfl (Nat.le_refl _) (fun _ _ _ => rfl) (ownsRow_cut (hM.own hr.mem)) (by cases a <;> simp [A.grow, Value.ownBlock]) (fun b hb => .inl (by cases a <;> exact hb)))
theorem H1.stAggO {b o : Nat} {cs cs' vs : List Value} {e : TypeId} {z : Value} {n bb : Nat} {H' : List Atom} [hi : ITy P t z n bb] (hx : Env.ev E x = some (.pointer (some ⟨b, o, none⟩))) (hy : Env.ev E y = some (.agg vs.toArray))
    (hn : vs.length = n) (h1 : ∀ v ∈ vs, v.oneCell' = true) (hl : o + vs.length ≤ cs.length) (he : cs.take o ++ vs ++ cs.drop (o + vs.length) = cs') (hr : Rpl (A.blk b cs e) (A.blk b cs' e) H H')
    (h : HN N ds next E w0 H') : H1 P r N ds next ⟨none, .store t x y, ty, pos, af, g⟩ Q E w0 H := fun w hM => by
  subst he
  have hb : w.heap[b]? = some (.cells cs.toArray e (0, 0)) := hM.blk hr.mem
  have hs := run_storeCells_at P b o e vs 0 cs.toArray w hb (by simpa using hl) h1
  simp only [Nat.add_zero] at hs
  refine W1.skip (w' := w.setRow b ((cs.take o ++ vs ++ cs.drop (o + vs.length)).toArray)) (fun a ha => ?_) rfl rfl (h _ (hM.turn hr rfl rfl rfl (by simp [World.setRow]) (fun q hq hq' => ?_) ?_ (by simp [A.blk]) fun b' hb' => .inl hb'))
  · simp only [execOp, ha.ev hx, ha.ev hy, Instr.storeAt, Instr.sureAddr, storeVar, Sem.run_bind, Sem.run_pure, Result.andThen]
    subst hn
    simp only [run_sizeOf, Value.cells, List.size_toArray, ne_eq, not_true, if_false]
    simp only [hs]
  · have hne : ¬ b = q := fun e => hq' (by simp [A.blk, e])
    simp [World.setRow, Array.getElem?_modify, hne]
  · show (w.setRow b _).heap[b]? = _
    simp [World.setRow, Array.getElem?_modify, hb]
/-- copy of a string, into a block of the call's own. -/
theorem H1.copyS {e eb t2 : TypeId} {z : Value} {bb b o dl dc : Nat} {s : ByteArray} {cur cur' : List Value} {H' : List Atom} [h : UTy P t (.slice e)] [hi' : ITy P e z 1 bb] (hx : Env.ev E x = some (.slice (some ⟨b, o, none⟩) dl dc)) (hy : Env.ev E y = some (.string s))
    (hn : s.size ≤ dl) (hfit : o + s.size ≤ cur.length) (he : cur.take o ++ ub s.data.toList ++ cur.drop (o + s.size) = cur')
    (hr : Rpl (A.blk b cur eb) (A.blk b cur' eb) H H') (hd : dOk d N = true) (hn' : HN N ds next (putE d (zv (s.size : Int)) E) w0 H') :
    H1 P r N ds next ⟨d, .call ⟨.builtin .copy, #[x, y], #[t, t2]⟩, ty, pos, af, g⟩ Q E w0 H := fun w hM => by
  subst he
  obtain ⟨i, hi1, hi2, hi3, hi4⟩ := hi'.parts
  have hb : w.heap[b]? = some (.cells cur.toArray eb (0, 0)) := hM.blk hr.mem
  have hl : (ub s.data.toList).length = s.size := by unfold ub; rw [List.length_map, Array.length_toList]; rfl
  have hst := run_storeCells_at P b o eb (ub s.data.toList) 0 cur.toArray w hb (by rw [hl]; simpa using hfit) (by
    intro v hv
    obtain ⟨x, -, rfl⟩ := List.mem_map.1 hv
    rfl)
  simp only [Nat.add_zero, hl] at hst
  have hmin : Nat.min s.size dl = s.size := Nat.min_eq_left hn
  have e3 : List.take s.size (List.map (fun b : UInt8 => Value.int .u8 ((b.toNat : Nat) : Int)) s.data.toList) = ub s.data.toList := by
    rw [List.take_of_length_le (by rw [List.length_map, Array.length_toList]; exact Nat.le_refl _)]; rfl
  have hrun : (Builtin.copy_ #[t, t2] ty #[.slice (some ⟨b, o, none⟩) dl dc, .string s]).run P w = .ok (goInt s.size) (w.setRow b (cur.take o ++ ub s.data.toList ++ cur.drop (o + s.size)).toArray) := by
    simp [Builtin.copy_, run_underlying h.is, sizeOf, typeInfo, hi1, Builtin.lenOf, Builtin.firstCells, hmin]
    rw [e3, hst]
    simp [Result.andThen]
  refine W1.run (v := zv (s.size : Int)) (w' := w.setRow b (cur.take o ++ ub s.data.toList ++ cur.drop (o + s.size)).toArray) (fun a ha => ?_) rfl hd (hn' _ (hM.turn hr rfl rfl rfl (by simp [World.setRow]) (fun q hq hq' => ?_) ?_ (by simp [A.blk]) fun b' hb' => .inl hb'))
  · simp only [execOp, resolve, invoke, Go.builtin, Sem.run_bind, Sem.run_pure, Result.andThen, List.map_toArray, List.map_cons, List.map_nil, ha.ev hx, ha.ev hy, hrun]; rfl
  · have hne : ¬ b = q := fun e => hq' (by simp [A.blk, e])
    simp [World.setRow, Array.getElem?_modify, hne]
  · show (w.setRow b _).heap[b]? = _
    simp [World.setRow, Array.getElem?_modify, hb]
/-- clear, on a slice of the call's own; it is cut to nothing behind it. -/
theorem H1.clearG {e : TypeId} {z : Value} {sz bb n c : Nat} {a : Option Addr} {xs : List Value} {H' : List Atom} {d : Option Nat} [h : UTy P t (.slice e)] [hi : ITy P e z sz bb] (hzs : z.cells.size = sz) (h1 : ∀ v ∈ z.cells.toList, v.oneCell' = true) (h0 : 0 < sz)
    (hx : Env.ev E x = some (.slice a n c)) (hr : Rpl (A.grow e sz a c n xs) (A.grow e sz a c n (Builtin.zeroCells z.cells n).toList) H H') (hd : dOk d N = true) (hn : HN N ds next (putE d (.tuple #[]) E) w0 H') :
    H1 P r N ds next ⟨d, .call ⟨.builtin .clear, #[x], #[t]⟩, ty, pos, af, g⟩ Q E w0 H := fun w hM => by
  have hown := hM.own hr.mem
  have hzl : (Builtin.zeroCells z.cells n).toList.length = n * sz := by simp [Builtin.zeroCells, hzs]
  have hz1 : ∀ v ∈ (Builtin.zeroCells z.cells n).toList, v.oneCell' = true := by
    intro v hv
    unfold Builtin.zeroCells at hv
    rw [Array.toList_map] at hv
    obtain ⟨i, -, rfl⟩ := List.mem_map.1 hv
    refine h1 _ ?_
    have hlt : i % z.cells.size < z.cells.size := Nat.mod_lt _ (by omega)
    rw [getElem!_pos z.cells (i % z.cells.size) hlt]
    exact Array.getElem_mem_toList hlt
  rcases hown.2 with ⟨hv, hn0⟩ | ⟨q, cap, cur, hv, hbq, hg, hnc, hcm, hcs, htk⟩
  · cases hv
    have hrun : (Builtin.clear_ #[t] ty #[.slice none 0 0]).run P w = .ok (.tuple #[]) w := by simp [Builtin.clear_, run_underlying h.is]
    refine W1.run (v := .tuple #[]) (w' := w) (fun b ha => ?_) rfl hd (hn _ (hM.turn hr rfl rfl rfl (Nat.le_refl _) (fun _ _ _ => rfl) ⟨hzl, .inl ⟨rfl, rfl⟩⟩ (by simp [A.grow, Value.ownBlock]) fun b' hb' => .inl hb'))
    simp only [execOp, resolve, invoke, Go.builtin, Sem.run_bind, Sem.run_pure, Result.andThen, List.map_toArray, List.map_cons, List.map_nil, ha.ev hx, hrun]
  · cases hv
    have hfit : n * sz ≤ cur.size := by rw [hcs]; exact Nat.mul_le_mul_right _ hnc
    have hst := run_storeCells_at P q 0 e (Builtin.zeroCells z.cells n).toList 0 cur w hg (by rw [hzl]; simpa using hfit) hz1
    simp only [Nat.add_zero, Nat.zero_add, List.take_zero, List.nil_append, hzl] at hst
    cases n with
    | zero =>
      have hrun : (Builtin.clear_ #[t] ty #[.slice (some ⟨q, 0, none⟩) 0 c]).run P w = .ok (.tuple #[]) w := by simp [Builtin.clear_, run_underlying h.is]
      refine W1.run (v := .tuple #[]) (w' := w) (fun b ha => ?_) rfl hd (hn _ (hM.turn hr rfl rfl rfl (Nat.le_refl _) (fun _ _ _ => rfl) ⟨hzl, .inr ⟨q, c, cur, rfl, hbq, hg, hnc, hcm, hcs, ?_⟩⟩ (by simp [A.grow, Value.ownBlock]) fun b' hb' => .inl hb'))
      · simp only [execOp, resolve, invoke, Go.builtin, Sem.run_bind, Sem.run_pure, Result.andThen, List.map_toArray, List.map_cons, List.map_nil, ha.ev hx, hrun]
      · have : (Builtin.zeroCells z.cells 0).toList = [] := List.eq_nil_of_length_eq_zero (by rw [hzl]; simp)
        rw [this]; simp
    | succ n =>
      have hrun : (Builtin.clear_ #[t] ty #[.slice (some ⟨q, 0, none⟩) (n + 1) c]).run P w = .ok (.tuple #[]) (w.setRow q ((Builtin.zeroCells z.cells (n + 1)).toList ++ cur.toList.drop ((n + 1) * sz)).toArray) := by
        simp [Builtin.clear_, run_underlying h.is, run_zeroValue (h := hi), hst]
      refine W1.run (v := .tuple #[]) (w' := w.setRow q ((Builtin.zeroCells z.cells (n + 1)).toList ++ cur.toList.drop ((n + 1) * sz)).toArray) (fun b ha => ?_) rfl hd (hn _ (hM.turn hr rfl rfl rfl (by simp [World.setRow]) (fun k hk hk' => ?_) ⟨hzl, .inr ⟨q, c, ((Builtin.zeroCells z.cells (n + 1)).toList ++ cur.toList.drop ((n + 1) * sz)).toArray, rfl, hbq, ?_, hnc, hcm, ?_, ?_⟩⟩ (by simp [A.grow, Value.ownBlock]) fun b' hb' => .inl hb'))
      · simp only [execOp, resolve, invoke, Go.builtin, Sem.run_bind, Sem.run_pure, Result.andThen, List.map_toArray, List.map_cons, List.map_nil, ha.ev hx, hrun]
      · have hne : ¬ q = k := fun e => hk' (by simp [A.grow, Value.ownBlock, e])
        simp [World.setRow, Array.getElem?_modify, hne]
      · exact setRow_heap w q _ _ e _ hg
      · rw [List.size_toArray, List.length_append, hzl, List.length_drop, Array.length_toList, hcs]; rw [hcs] at hfit; omega
      · rw [List.toList_toArray, List.take_append_of_le_length (by rw [hzl]; exact Nat.le_refl _), List.take_of_length_le (by rw [hzl]; exact Nat.le_refl _)]
theorem POp.pre_any {hi : Operand} {k' : IntKind} {n : Int} {e : TypeId} {a : Option Addr} {l c : Nat} {z : Value} {sz bb : Nat} [h : UTy P t (.slice e)] [hi' : ITy P e z sz bb]
    (hx : Env.ev E x = some (.slice a l c)) (hh : Env.ev E hi = some (.int k' n)) (h1 : 0 ≤ n) (h2 : n ≤ c) : POp P N ds E (.slice t x none (some hi) none) ty (.slice a n.toNat c) := by
  cases a with
  | none => exact POp.pre_hn hx hh h1 h2
  | some ad => exact POp.pre_hs hx hh h1 h2
theorem H1.bstrC {dst e : TypeId} {b off c n d : Nat} {ys : List UInt8} [h : UTy P t (.slice e)] [he : UTy P e (.int .u8)] [hs : UTy P dst .string] (hx : Env.ev E x = some (.slice (some ⟨b, off, none⟩) n c)) (hl : n = ys.length)
    (hc : ∀ w, Mm w0 H w → Rd w (.slice (some ⟨b, off, none⟩) n c) (ub ys)) (hd : Nat.blt d N = true) (hn : HN N ds next ((d, .string ⟨ys.toArray⟩) :: E) w0 H) : H1 P r N ds next ⟨some d, .convert t dst x, ty, pos, af, g⟩ Q E w0 H := fun w hM =>
  W1.bytes_string hx hl (fun j hj => by
    rw [add_lit]
    exact (hc w hM).cell (by simp [ub, hj])) hd (hn w hM)
end
end Go.Sx
/-
  More operations that ask nothing of the world: quotients and shifts of any number; a slice from an index on.
-/
namespace Go.Sx
open Go Go.RowKit
section
variable {P : Program} {N : Nat} {ds : List Deferred} {E : Env} {t ty t' : TypeId} {x y lo : Operand} {m n : Int} {k' : IntKind}
theorem POp.cut_l {e : TypeId} {b off l c : Nat} {z : Value} {sz bb : Nat} [h : UTy P t (.slice e)] [hi' : ITy P e z sz bb] (hx : Env.ev E x = some (.slice (some ⟨b, off, none⟩) l c))
    (hl : Env.ev E lo = some (.int k' m)) (h0 : 0 ≤ m) (h1 : m ≤ l) (hne : m < c) :
    POp P N ds E (.slice t x (some lo) none none) ty (.slice (some ⟨b, off + m.toNat * sz, none⟩) (l - m.toNat) (c - m.toNat)) := fun a ha d pos af g w => by
  have hc : ¬ c = m.toNat := by omega
  simp [execOp, ha.ev hx, ha.ev hl, Instr.sliceAt, Instr.slice, run_underlying h.is, Instr.sliceBounds, run_bound h0 h1, Sem.run_bind, run_sizeOf, hc, add_lit]
theorem POp.cut_le {e : TypeId} {ad : Addr} {l : Nat} {z : Value} {sz bb : Nat} [h : UTy P t (.slice e)] [hi' : ITy P e z sz bb] (hx : Env.ev E x = some (.slice (some ad) l l))
    (hl : Env.ev E lo = some (.int k' (l : Int))) : POp P N ds E (.slice t x (some lo) none none) ty (.slice (some ad) 0 0) := fun a ha d pos af g w => by
  simp [execOp, ha.ev hx, ha.ev hl, Instr.sliceAt, Instr.slice, run_underlying h.is, Instr.sliceBounds, run_bound (show 0 ≤ (l : Int) by omega) (Int.le_refl _), Sem.run_bind, run_sizeOf]
end
end Go.Sx
/- Plain: the numbers of chapter 17 as natural numbers. No program in sight. -/
namespace Go.Sx
def redL : List Nat := [0, 29, 58, 39, 116, 105, 78, 83, 232, 245, 210, 207, 156, 129, 166, 187]
def fewP (a b : Nat) : Nat → Nat
  | 0 => 0
  | i + 1 => if (b >>> i) &&& 1 = 1 then fewP a b i ^^^ (a <<< i) else fewP a b i
def fewN (a b : Nat) : Nat := (fewP a b 4 &&& 255) ^^^ redL.getD (fewP a b 4 >>> 8) 0
def sixteenN (a : Nat) : Nat := ((a <<< 4) &&& 255) ^^^ redL.getD (a >>> 4) 0
def mulN (a b : Nat) : Nat := fewN a (b &&& 15) ^^^ sixteenN (fewN a (b >>> 4))
def invP (a : Nat) : Nat → Nat × Nat
  | 0 => (1, a)
  | i + 1 => let q := mulN (invP a i).2 (invP a i).2; (mulN (invP a i).1 q, q)
def invN (a : Nat) : Nat := (invP a 7).1

theorem redL_lt : ∀ i, redL.getD i 0 < 256 := by
  intro i
  rcases Nat.lt_or_ge i 16 with h | h
  · have : ∀ j : Fin 16, redL.getD j.1 0 < 256 := by decide
    exact this ⟨i, h⟩
  · simp [redL, List.getD_eq_getElem?_getD, List.getElem?_eq_none (show [0, 29, 58, 39, 116, 105, 78, 83, 232, 245, 210, 207, 156, 129, 166, 187].length ≤ i from h)]
theorem shl_lt {a i k n : Nat} (h : a < 2 ^ k) (hk : k + i ≤ n) : a <<< i < 2 ^ n := by
  rw [Nat.shiftLeft_eq]
  calc a * 2 ^ i < 2 ^ k * 2 ^ i := Nat.mul_lt_mul_of_pos_right h (Nat.two_pow_pos i)
    _ = 2 ^ (k + i) := (Nat.pow_add 2 k i).symm
    _ ≤ 2 ^ n := Nat.pow_le_pow_right (by decide) hk
theorem fewN_lt {a b : Nat} : fewN a b < 256 :=
  Nat.xor_lt_two_pow (n := 8) (Nat.lt_of_le_of_lt Nat.and_le_right (by decide)) (redL_lt _)
theorem sixteenN_lt {a : Nat} : sixteenN a < 256 :=
  Nat.xor_lt_two_pow (n := 8) (Nat.lt_of_le_of_lt Nat.and_le_right (by decide)) (redL_lt _)
theorem mulN_lt {a b : Nat} : mulN a b < 256 := Nat.xor_lt_two_pow (n := 8) fewN_lt sixteenN_lt
end Go.Sx
namespace Go.Sx
/-- One step of a weight's denominator; of its numerator. -/
def belS (i acc h : Nat) : Nat := if h = i then acc else mulN acc (invN (i ^^^ h))
def outS (i x acc h : Nat) : Nat := if h = i then acc else mulN acc (x ^^^ h)
def bel (nums : List Nat) (i : Nat) : Nat := nums.foldl (belS i) 1
def belA (nums : List Nat) (j : Nat) : Nat := if j ∈ nums then bel nums j else 0
def wgt (nums : List Nat) (x i : Nat) : Nat := nums.foldl (outS i x) (bel nums i)
def wgtA (nums : List Nat) (x j : Nat) : Nat := if j ∈ nums then wgt nums x j else 0
/-- The k-th number. -/
def nu (nums : List Nat) (k : Nat) : Nat := nums.getD k 0
end Go.Sx
namespace Go.Sx
def fr (frs : List ByteArray) (i : Nat) : ByteArray := frs.getD i ByteArray.empty
def strs (l : List ByteArray) : List Value := l.map .string
theorem strs_get {l : List ByteArray} {i : Nat} (h : i < l.length) : (strs l)[i]? = some (.string (fr l i)) := by
  simp [strs, fr, h]
def cmpF (frs : List ByteArray) (W : Nat → Nat) (at' acc i : Nat) : Nat := acc ^^^ mulN (W i) (sb (fr frs i) at')
def cmpS (frs : List ByteArray) (nums : List Nat) (W : Nat → Nat) (at' : Nat) : Nat := nums.foldl (cmpF frs W at') 0
def cmpStr (frs : List ByteArray) (nums : List Nat) (W : Nat → Nat) (m : Nat) : ByteArray := ⟨((List.range m).map fun q => UInt8.ofNat (cmpS frs nums W q)).toArray⟩
end Go.Sx
namespace Go.Sx
def mOf (l k : Nat) : Nat := (l + k - 1) / k
def zeros (n : Nat) : ByteArray := ⟨(List.replicate n (0 : UInt8)).toArray⟩
def padS (s : ByteArray) (k : Nat) : ByteArray := s ++ zeros (k * mOf s.size k - s.size)
def partOf (s : ByteArray) (k i : Nat) : ByteArray := (padS s k).extract (i * mOf s.size k) ((i + 1) * mOf s.size k)
def parts (s : ByteArray) (k : Nat) : List ByteArray := (List.range k).map (partOf s k)
/-- Fragment j of the string s. -/
def codeA (s : ByteArray) (k j : Nat) : ByteArray := if j < k then partOf s k j else cmpStr (parts s k) (List.range k) (wgtA (List.range k) j) (mOf s.size k)
def codeL (s : ByteArray) (k n : Nat) : List ByteArray := (List.range n).map (codeA s k)

end Go.Sx
namespace Go.Sx
def isC (k n : Int) : Prop := 1 ≤ k ∧ k ≤ n ∧ n ≤ 9
def tf (th : List Bool) (i : Nat) : Bool := th.getD i false
def bools (l : List Bool) : List Value := l.map .bool
def tnums (th : List Bool) (i k : Nat) : List Nat := ((List.range i).filter (tf th)).take k
def cN (th : List Bool) (k : Nat) : List Nat := tnums th th.length k
def cM (frs : List ByteArray) (th : List Bool) (k : Nat) : Nat := (fr frs (nu (cN th k) 0)).size
def cOut (frs : List ByteArray) (th : List Bool) (k j : Nat) : ByteArray := cmpStr frs (cN th k) (wgtA (cN th k) j) (cM frs th k)
def CompOK (frs : List ByteArray) (th : List Bool) (k : Int) : Prop :=
  isC k frs.length ∧ th.length = frs.length ∧ (cN th k.toNat).length = k.toNat ∧ (∀ i, i < frs.length → tf th i = true → (fr frs i).size = cM frs th k.toNat ∧ cM frs th k.toNat ≤ 4096) ∧
    ∀ i, i < frs.length → tf th i = true → cOut frs th k.toNat i = fr frs i
end Go.Sx
namespace Go.Sx
open Go
def catS (l : List ByteArray) : ByteArray := ⟨(l.map (·.data.toList)).flatten.toArray⟩
theorem join_empty (l : List ByteArray) : (⟨(Lib.join (l.map (·.data.toList)) (ByteArray.mk #[]).data.toList).toArray⟩ : ByteArray) = catS l := by
  unfold catS
  congr 1
  cases l with
  | nil => rfl
  | cons x r =>
    rw [List.map_cons, Lib.join_cons]
    simp only [Lib.joinTail, List.flatten_cons, List.map_map]
    rfl
def allOut (frs : List ByteArray) (th : List Bool) (k : Nat) : List ByteArray := (List.range frs.length).map (cOut frs th k)
def catO (frs : List ByteArray) (th : List Bool) (k : Nat) : ByteArray := catS ((List.range k).map (cOut frs th k))
def FragOK (frs : List ByteArray) (th : List Bool) (k which : Int) : Prop := CompOK frs th k ∧ 0 ≤ which ∧ which < frs.length
/-- The string may be got back. -/
def JoinOK (frs : List ByteArray) (th : List Bool) (k len : Int) : Prop :=
  CompOK frs th k ∧ 0 ≤ len ∧ len ≤ 4096 * k ∧ (cM frs th k.toNat : Int) = (len + k - 1) / k ∧ ∀ j, len.toNat ≤ j → j < (catO frs th k.toNat).size → sb (catO frs th k.toNat) j = 0
end Go.Sx
namespace Go.Sx
open Go
def exAb : ByteArray := ByteArray.mk #[97, 98]
def exL : List ByteArray := [ByteArray.mk #[97], ByteArray.mk #[98], ByteArray.mk #[103]]
end Go.Sx
/-
  DERIVED: THE SHELF's CONTRACTS AT THIS DUMP, IN PLAIN WORDS (tools/lay-plain.mjs out of 'TryzShelf.lean', which tools/lay-shelf.mjs wrote): THE SAME DECLARATIONS UNDER THE SAME NAMES: 'import', 'namespace', 'open', 'def', 'theorem' AND NOTHING ELSE: no command of the shelf's: FOR A HAND-IN. Each laying: the table of numbers ('.._ren') and one theorem, a field a fact of the dump's own or the kernel's comparison; each contract: ONE APPLICATION.
-/
namespace Go.Proofs
open Go.Shelf
def Tryz.lays170_ren : Go.Shelf.Ren := ⟨fun | 170 => 133 | n => n, fun | 70 => 203 | 3 => 3 | 0 => 0 | 72 => 205 | 37 => 55 | 5 => 5 | n => n, fun | n => n⟩
def Tryz.lays169_ren : Go.Shelf.Ren := ⟨fun | 169 => 134 | n => n, fun | 70 => 203 | 9 => 9 | 0 => 0 | 72 => 205 | 37 => 55 | 127 => 253 | 3 => 3 | 5 => 5 | n => n, fun | n => n⟩
def Tryz.lays241_ren : Go.Shelf.Ren := ⟨fun | 241 => 171 | 277 => 205 | n => n, fun | 70 => 203 | 3 => 3 | 0 => 0 | 72 => 205 | 37 => 55 | 5 => 5 | n => n, fun | n => n⟩
def Tryz.lays165_ren : Go.Shelf.Ren := ⟨fun | 165 => 131 | 240 => 170 | 241 => 171 | 276 => 204 | 277 => 205 | n => n, fun | 70 => 203 | 3 => 3 | 0 => 0 | 4 => 4 | 9 => 9 | 20 => 20 | 72 => 205 | 37 => 55 | 164 => 277 | 5 => 5 | n => n, fun | n => n⟩
def Tryz.lays156_ren : Go.Shelf.Ren := ⟨fun | 156 => 86 | 165 => 131 | 166 => 132 | 169 => 134 | 240 => 170 | 241 => 171 | 276 => 204 | 277 => 205 | n => n, fun | 31 => 69 | 9 => 9 | 3 => 3 | 4 => 4 | 0 => 0 | 20 => 20 | 72 => 205 | 76 => 207 | 70 => 203 | 37 => 55 | 75 => 111 | 127 => 253 | 164 => 277 | 5 => 5 | 80 => 132 | n => n, fun | n => n⟩
theorem Tryz.lays156 : Go.Proofs.Lays.n156 Tryz.prog Tryz.lays156_ren := {
  mixed := by kernel_rfl
  f156 := Tryz.func86.trans (congrArg some (by kernel_rfl))
  f165 := Tryz.func131.trans (congrArg some (by kernel_rfl))
  f166 := Tryz.func132.trans (congrArg some (by kernel_rfl))
  f169 := Tryz.func134.trans (congrArg some (by kernel_rfl))
  f240 := Tryz.func170.trans (congrArg some (by kernel_rfl))
  f241 := Tryz.func171.trans (congrArg some (by kernel_rfl))
  f276 := Tryz.func204.trans (congrArg some (by kernel_rfl))
  f277 := Tryz.func205.trans (congrArg some (by kernel_rfl))
  t0 := Tryz.underlying0
  a0 := Tryz.isAgg0
  z0 := Tryz.sizeOf0
  v0 := Tryz.zeroValue0
  t3 := Tryz.underlying3
  a3 := Tryz.isAgg3
  z3 := Tryz.sizeOf3
  v3 := Tryz.zeroValue3
  t4 := Tryz.underlying4
  a4 := Tryz.isAgg4
  z4 := Tryz.sizeOf4
  v4 := Tryz.zeroValue4
  t9 := Tryz.underlying9
  a9 := Tryz.isAgg9
  z9 := Tryz.sizeOf9
  v9 := Tryz.zeroValue9
  t20 := Tryz.underlying20
  a20 := Tryz.isAgg20
  z20 := Tryz.sizeOf20
  v20 := Tryz.zeroValue20
  t31 := Tryz.underlying69
  a31 := Tryz.isAgg69
  z31 := Tryz.sizeOf69
  v31 := Tryz.zeroValue69
  t37 := Tryz.underlying55
  a37 := Tryz.isAgg55
  z37 := Tryz.sizeOf55
  v37 := Tryz.zeroValue55
  t70 := Tryz.underlying203
  a70 := Tryz.isAgg203
  z70 := Tryz.sizeOf203
  v70 := Tryz.zeroValue203
  t72 := Tryz.underlying205
  a72 := Tryz.isAgg205
  z72 := Tryz.sizeOf205
  v72 := Tryz.zeroValue205
  t75 := Tryz.underlying111
  a75 := Tryz.isAgg111
  z75 := Tryz.sizeOf111
  v75 := Tryz.zeroValue111
  t76 := Tryz.underlying207
  a76 := Tryz.isAgg207
  z76 := Tryz.sizeOf207
  v76 := Tryz.zeroValue207
  t127 := Tryz.underlying253
  a127 := Tryz.isAgg253
  z127 := Tryz.sizeOf253
  v127 := Tryz.zeroValue253
  t164 := Tryz.underlying277
  a164 := Tryz.isAgg277
  z164 := Tryz.sizeOf277
  v164 := Tryz.zeroValue277 }
theorem Tryz.Builder_Extra_156 : Builder.Extra Tryz.prog Tryz.lays156_ren := {
  sizeBuilder := by kernel_rfl
  liesBuilder := by kernel_rfl
  t5 := Tryz.underlying5
  a5 := Tryz.isAgg5
  z5 := Tryz.sizeOf5
  v5 := Tryz.zeroValue5
  infoByte := by kernel_rfl
  cellsByte := by kernel_rfl
  sizeByte := by kernel_rfl
  neB5 := by decide }
open Go.RowKit in
/-- strings.Join: "Join concatenates the elements of its first argument to create a single string. The separator string sep is placed between elements in the resulting string.": HOWEVER MANY ELEMENTS. Below the heap's end the world is as it was. (LAID: no walk: one application.) -/
theorem Tryz.strings_Join (bk o c : Nat) (xs : List ByteArray) (sep : ByteArray) (w : World) (hcells : ∀ (j : Nat) x, xs[j]? = some x → w.cell? ⟨bk, o + j, none⟩ = some (.string x)) (hbk : bk < w.heap.size) (hN : xs.length ≤ 140737488355328) (hcap : xs.length ≤ c) (hlen : (Lib.join (xs.map (·.data.toList)) sep.data.toList).length ≤ 140737488355328) :
    Calls Tryz.prog 86 #[.slice (some ⟨bk, o, none⟩) xs.length c, .string sep] w fun e w' => e = .returned (.string ⟨(Lib.join (xs.map (·.data.toList)) sep.data.toList).toArray⟩) ∧ Below w.heap.size w w' := Any.strings_Join Tryz.lays156 Tryz.Builder_Extra_156 bk o c xs sep w hcells hbk hN hcap hlen
def Tryz.lays231_ren : Go.Shelf.Ren := ⟨fun | 231 => 139 | n => n, fun | 9 => 9 | 5 => 5 | 3 => 3 | 4 => 4 | n => n, fun | n => n⟩
def Tryz.lays232_ren : Go.Shelf.Ren := ⟨fun | 232 => 140 | n => n, fun | 9 => 9 | 5 => 5 | 3 => 3 | 4 => 4 | n => n, fun | n => n⟩
def Tryz.lays160_ren : Go.Shelf.Ren := ⟨fun | 160 => 87 | 232 => 140 | 231 => 139 | 227 => 141 | 234 => 143 | 233 => 142 | 236 => 145 | 235 => 144 | 228 => 176 | 271 => 179 | 151 => 178 | 197 => 177 | 120 => 208 | 152 => 207 | 260 => 206 | 137 => 218 | 119 => 219 | 224 => 220 | 225 => 221 | 217 => 225 | 266 => 226 | n => n, fun | 9 => 9 | 4 => 4 | 3 => 3 | 5 => 5 | 117 => 215 | 116 => 214 | 0 => 0 | 124 => 218 | 21 => 21 | 105 => 256 | 46 => 89 | 119 => 292 | 139 => 295 | 138 => 294 | n => n, fun | 3 => 5 | 4 => 6 | n => n⟩
theorem Tryz.lays160 : Go.Proofs.Lays.n160 Tryz.prog Tryz.lays160_ren := {
  mixed := by kernel_rfl
  f119 := Tryz.func219.trans (congrArg some (by kernel_rfl))
  f120 := Tryz.func208.trans (congrArg some (by kernel_rfl))
  f137 := Tryz.func218.trans (congrArg some (by kernel_rfl))
  f151 := Tryz.func178.trans (congrArg some (by kernel_rfl))
  f152 := Tryz.func207.trans (congrArg some (by kernel_rfl))
  f160 := Tryz.func87.trans (congrArg some (by kernel_rfl))
  f197 := Tryz.func177.trans (congrArg some (by kernel_rfl))
  f217 := Tryz.func225.trans (congrArg some (by kernel_rfl))
  f224 := Tryz.func220.trans (congrArg some (by kernel_rfl))
  f225 := Tryz.func221.trans (congrArg some (by kernel_rfl))
  f227 := Tryz.func141.trans (congrArg some (by kernel_rfl))
  f228 := Tryz.func176.trans (congrArg some (by kernel_rfl))
  f231 := Tryz.func139.trans (congrArg some (by kernel_rfl))
  f232 := Tryz.func140.trans (congrArg some (by kernel_rfl))
  f233 := Tryz.func142.trans (congrArg some (by kernel_rfl))
  f234 := Tryz.func143.trans (congrArg some (by kernel_rfl))
  f235 := Tryz.func144.trans (congrArg some (by kernel_rfl))
  f236 := Tryz.func145.trans (congrArg some (by kernel_rfl))
  f260 := Tryz.func206.trans (congrArg some (by kernel_rfl))
  f266 := Tryz.func226.trans (congrArg some (by kernel_rfl))
  f271 := Tryz.func179.trans (congrArg some (by kernel_rfl))
  t0 := Tryz.underlying0
  a0 := Tryz.isAgg0
  z0 := Tryz.sizeOf0
  v0 := Tryz.zeroValue0
  t3 := Tryz.underlying3
  a3 := Tryz.isAgg3
  z3 := Tryz.sizeOf3
  v3 := Tryz.zeroValue3
  t4 := Tryz.underlying4
  a4 := Tryz.isAgg4
  z4 := Tryz.sizeOf4
  v4 := Tryz.zeroValue4
  t5 := Tryz.underlying5
  a5 := Tryz.isAgg5
  z5 := Tryz.sizeOf5
  v5 := Tryz.zeroValue5
  t9 := Tryz.underlying9
  a9 := Tryz.isAgg9
  z9 := Tryz.sizeOf9
  v9 := Tryz.zeroValue9
  t21 := Tryz.underlying21
  a21 := Tryz.isAgg21
  z21 := Tryz.sizeOf21
  v21 := Tryz.zeroValue21
  t46 := Tryz.underlying89
  a46 := Tryz.isAgg89
  z46 := Tryz.sizeOf89
  v46 := Tryz.zeroValue89
  t105 := Tryz.underlying256
  a105 := Tryz.isAgg256
  z105 := Tryz.sizeOf256
  v105 := Tryz.zeroValue256
  t116 := Tryz.underlying214
  a116 := Tryz.isAgg214
  z116 := Tryz.sizeOf214
  t117 := Tryz.underlying215
  a117 := Tryz.isAgg215
  z117 := Tryz.sizeOf215
  v117 := Tryz.zeroValue215
  t119 := Tryz.underlying292
  a119 := Tryz.isAgg292
  z119 := Tryz.sizeOf292
  t124 := Tryz.underlying218
  a124 := Tryz.isAgg218
  z124 := Tryz.sizeOf218
  v124 := Tryz.zeroValue218
  t138 := Tryz.underlying294
  a138 := Tryz.isAgg294
  z138 := Tryz.sizeOf294
  v138 := Tryz.zeroValue294
  t139 := Tryz.underlying295
  a139 := Tryz.isAgg295
  z139 := Tryz.sizeOf295
  v139 := Tryz.zeroValue295
  g3 := by kernel_rfl
  g4 := by kernel_rfl }
open Go.RowKit in
/-- strings.Trim: "Trim returns a slice of the string s with all leading and trailing Unicode code points contained in cutset removed.": AT A cutset OF ONE ASCII BYTE. THE WORLD BEHIND IT: as it was, or (where s is not empty) with ONE DRAW MORE off the tape: the statement 'return trimLeftByte(trimRightByte(s, c), c)' draws its order of evaluation. (LAID: no walk: one application.) -/
theorem Tryz.strings_Trim_one (s : ByteArray) (c : UInt8) (hc : c.toNat < 128) (w : World) (hs : s.size ≤ 9223372036854775807) :
    Calls Tryz.prog 87 #[.string s, .string ⟨#[c]⟩] w fun e w' => e = .returned (.string ⟨(Lib.trimB s.data.toList c).toArray⟩) ∧ (w' = w ∨ w' = w.drew) := Any.strings_Trim_one Tryz.lays160 s c hc w hs
def Tryz.lays119_ren : Go.Shelf.Ren := ⟨fun | 119 => 219 | n => n, fun | 21 => 21 | 4 => 4 | n => n, fun | n => n⟩
def Tryz.lays120_ren : Go.Shelf.Ren := ⟨fun | 120 => 208 | n => n, fun | 5 => 5 | 4 => 4 | n => n, fun | n => n⟩
def Tryz.lays128_ren : Go.Shelf.Ren := ⟨fun | 128 => 192 | n => n, fun | 51 => 85 | 3 => 3 | 4 => 4 | 46 => 89 | 5 => 5 | 9 => 9 | n => n, fun | n => n⟩
def Tryz.lays125_ren : Go.Shelf.Ren := ⟨fun | 125 => 156 | 128 => 192 | 129 => 193 | n => n, fun | 46 => 89 | 3 => 3 | 51 => 85 | 53 => 222 | 4 => 4 | 5 => 5 | 9 => 9 | n => n, fun | n => n⟩
def Tryz.lays137_ren : Go.Shelf.Ren := ⟨fun | 137 => 218 | 217 => 225 | 266 => 226 | n => n, fun | 9 => 9 | 5 => 5 | 3 => 3 | n => n, fun | n => n⟩
def Tryz.lays215_ren : Go.Shelf.Ren := ⟨fun | 215 => 157 | n => n, fun | 3 => 3 | 4 => 4 | n => n, fun | n => n⟩
def Tryz.lays122_ren : Go.Shelf.Ren := ⟨fun | 122 => 100 | 215 => 157 | n => n, fun | 3 => 3 | 4 => 4 | n => n, fun | n => n⟩
theorem Tryz.lays122 : Go.Proofs.Lays.n122 Tryz.prog Tryz.lays122_ren := {
  mixed := by kernel_rfl
  f122 := Tryz.func100.trans (congrArg some (by kernel_rfl))
  f215 := Tryz.func157.trans (congrArg some (by kernel_rfl))
  t3 := Tryz.underlying3
  a3 := Tryz.isAgg3
  z3 := Tryz.sizeOf3
  v3 := Tryz.zeroValue3
  t4 := Tryz.underlying4
  a4 := Tryz.isAgg4
  z4 := Tryz.sizeOf4
  v4 := Tryz.zeroValue4 }
open Go.RowKit in
/-- cmp.Compare at int: "Compare returns -1 if x is less than y, 0 if x equals y, +1 if x is greater than y.": IT RETURNS 'Lib.compareInt x y'; the world is as it was. (LAID: no walk: one application.) -/
theorem Tryz.cmp_Compare_int (x y : Int) (w : World) :
    Calls Tryz.prog 100 #[.int .i64 x, .int .i64 y] w fun e w' => e = .returned (.int .i64 (Lib.compareInt x y)) ∧ w' = w := Any.cmp_Compare_int Tryz.lays122 x y w
def Tryz.lays129_ren : Go.Shelf.Ren := ⟨fun | 129 => 193 | n => n, fun | 53 => 222 | 3 => 3 | 4 => 4 | 46 => 89 | 5 => 5 | 9 => 9 | n => n, fun | n => n⟩
def Tryz.lays217_ren : Go.Shelf.Ren := ⟨fun | 217 => 225 | 266 => 226 | n => n, fun | 9 => 9 | 5 => 5 | 3 => 3 | n => n, fun | n => n⟩
def Tryz.lays224_ren : Go.Shelf.Ren := ⟨fun | 224 => 220 | n => n, fun | 3 => 3 | n => n, fun | n => n⟩
def Tryz.lays189_ren : Go.Shelf.Ren := ⟨fun | 189 => 126 | 125 => 156 | 257 => 166 | 128 => 192 | 129 => 193 | 294 => 195 | 295 => 196 | 296 => 197 | 297 => 198 | 298 => 199 | 299 => 200 | 216 => 201 | 300 => 202 | 301 => 203 | 328 => 215 | 329 => 211 | 330 => 212 | 331 => 216 | 332 => 217 | 215 => 157 | 343 => 224 | n => n, fun | 28 => 38 | 3 => 3 | 46 => 89 | 0 => 0 | 51 => 85 | 53 => 222 | 4 => 4 | 183 => 264 | 182 => 263 | 131 => 268 | 5 => 5 | 9 => 9 | 218 => 284 | 222 => 288 | 228 => 299 | 229 => 300 | n => n, fun | n => n⟩
theorem Tryz.lays189 : Go.Proofs.Lays.n189 Tryz.prog Tryz.lays189_ren := {
  mixed := by kernel_rfl
  f125 := Tryz.func156.trans (congrArg some (by kernel_rfl))
  f128 := Tryz.func192.trans (congrArg some (by kernel_rfl))
  f129 := Tryz.func193.trans (congrArg some (by kernel_rfl))
  f189 := Tryz.func126.trans (congrArg some (by kernel_rfl))
  f215 := Tryz.func157.trans (congrArg some (by kernel_rfl))
  f216 := Tryz.func201.trans (congrArg some (by kernel_rfl))
  f257 := Tryz.func166.trans (congrArg some (by kernel_rfl))
  f294 := Tryz.func195.trans (congrArg some (by kernel_rfl))
  f295 := Tryz.func196.trans (congrArg some (by kernel_rfl))
  f296 := Tryz.func197.trans (congrArg some (by kernel_rfl))
  f297 := Tryz.func198.trans (congrArg some (by kernel_rfl))
  f298 := Tryz.func199.trans (congrArg some (by kernel_rfl))
  f299 := Tryz.func200.trans (congrArg some (by kernel_rfl))
  f300 := Tryz.func202.trans (congrArg some (by kernel_rfl))
  f301 := Tryz.func203.trans (congrArg some (by kernel_rfl))
  f328 := Tryz.func215.trans (congrArg some (by kernel_rfl))
  f329 := Tryz.func211.trans (congrArg some (by kernel_rfl))
  f330 := Tryz.func212.trans (congrArg some (by kernel_rfl))
  f331 := Tryz.func216.trans (congrArg some (by kernel_rfl))
  f332 := Tryz.func217.trans (congrArg some (by kernel_rfl))
  f343 := Tryz.func224.trans (congrArg some (by kernel_rfl))
  t0 := Tryz.underlying0
  a0 := Tryz.isAgg0
  z0 := Tryz.sizeOf0
  v0 := Tryz.zeroValue0
  t3 := Tryz.underlying3
  a3 := Tryz.isAgg3
  z3 := Tryz.sizeOf3
  v3 := Tryz.zeroValue3
  t4 := Tryz.underlying4
  a4 := Tryz.isAgg4
  z4 := Tryz.sizeOf4
  v4 := Tryz.zeroValue4
  t5 := Tryz.underlying5
  a5 := Tryz.isAgg5
  z5 := Tryz.sizeOf5
  v5 := Tryz.zeroValue5
  t9 := Tryz.underlying9
  a9 := Tryz.isAgg9
  z9 := Tryz.sizeOf9
  v9 := Tryz.zeroValue9
  t28 := Tryz.underlying38
  a28 := Tryz.isAgg38
  z28 := Tryz.sizeOf38
  v28 := Tryz.zeroValue38
  t46 := Tryz.underlying89
  a46 := Tryz.isAgg89
  z46 := Tryz.sizeOf89
  v46 := Tryz.zeroValue89
  t51 := Tryz.underlying85
  a51 := Tryz.isAgg85
  z51 := Tryz.sizeOf85
  v51 := Tryz.zeroValue85
  t53 := Tryz.underlying222
  a53 := Tryz.isAgg222
  z53 := Tryz.sizeOf222
  v53 := Tryz.zeroValue222
  t131 := Tryz.underlying268
  a131 := Tryz.isAgg268
  z131 := Tryz.sizeOf268
  v131 := Tryz.zeroValue268
  t182 := Tryz.underlying263
  a182 := Tryz.isAgg263
  z182 := Tryz.sizeOf263
  v182 := Tryz.zeroValue263
  t183 := Tryz.underlying264
  a183 := Tryz.isAgg264
  z183 := Tryz.sizeOf264
  v183 := Tryz.zeroValue264
  t218 := Tryz.underlying284
  a218 := Tryz.isAgg284
  z218 := Tryz.sizeOf284
  v218 := Tryz.zeroValue284
  t222 := Tryz.underlying288
  a222 := Tryz.isAgg288
  z222 := Tryz.sizeOf288
  v222 := Tryz.zeroValue288
  t228 := Tryz.underlying299
  a228 := Tryz.isAgg299
  z228 := Tryz.sizeOf299
  v228 := Tryz.zeroValue299
  t229 := Tryz.underlying300
  a229 := Tryz.isAgg300
  z229 := Tryz.sizeOf300
  v229 := Tryz.zeroValue300 }
open Go.Sort Go.RowKit in
theorem Tryz.slices_Sort_int (blk off cap : Nat) (zs : List Int) (w : World) (hH : Holds (Value.int .i64) w blk off zs.toArray) (hblk : blk < w.heap.size) (hsz : zs.length < 4611686018427387904) :
    Calls Tryz.prog 126 #[.slice (some ⟨blk, off, none⟩) zs.length cap] w fun e w' =>
      e = .returned (.tuple #[]) ∧ ∃ n os, w' = grow (putRow (Value.int .i64) (Sort.ahead w n) blk off (zs.mergeSort fun x y => decide (x ≤ y)).toArray) os := Any.slices_Sort_int Tryz.lays189 blk off cap zs w hH hblk hsz
def Tryz.lays206_ren : Go.Shelf.Ren := ⟨fun | 206 => 169 | n => n, fun | 9 => 9 | 4 => 4 | 3 => 3 | n => n, fun | n => n⟩
def Tryz.lays99_ren : Go.Shelf.Ren := ⟨fun | 99 => 130 | 206 => 169 | n => n, fun | 9 => 9 | 4 => 4 | 3 => 3 | n => n, fun | n => n⟩
def Tryz.lays152_ren : Go.Shelf.Ren := ⟨fun | 152 => 207 | 137 => 218 | 119 => 219 | 224 => 220 | 225 => 221 | 217 => 225 | 266 => 226 | n => n, fun | 9 => 9 | 21 => 21 | 3 => 3 | 4 => 4 | 5 => 5 | 0 => 0 | 46 => 89 | n => n, fun | n => n⟩
def Tryz.lays151_ren : Go.Shelf.Ren := ⟨fun | 151 => 178 | 152 => 207 | 137 => 218 | 119 => 219 | 224 => 220 | 225 => 221 | 217 => 225 | 266 => 226 | n => n, fun | 9 => 9 | 21 => 21 | 4 => 4 | 3 => 3 | 5 => 5 | 0 => 0 | 46 => 89 | n => n, fun | n => n⟩
def Tryz.lays227_ren : Go.Shelf.Ren := ⟨fun | 227 => 141 | n => n, fun | 9 => 9 | 116 => 214 | 4 => 4 | 0 => 0 | 3 => 3 | 5 => 5 | n => n, fun | n => n⟩
def Tryz.lays228_ren : Go.Shelf.Ren := ⟨fun | 228 => 176 | n => n, fun | 124 => 218 | 5 => 5 | 4 => 4 | 0 => 0 | 116 => 214 | n => n, fun | n => n⟩
def Tryz.lays264_ren : Go.Shelf.Ren := ⟨fun | 264 => 168 | n => n, fun | 53 => 222 | 46 => 89 | n => n, fun | n => n⟩
def Tryz.lays212_ren : Go.Shelf.Ren := ⟨fun | 212 => 129 | 263 => 167 | 264 => 168 | n => n, fun | 46 => 89 | 51 => 85 | 146 => 249 | 53 => 222 | 148 => 251 | n => n, fun | n => n⟩
def Tryz.lays105_ren : Go.Shelf.Ren := ⟨fun | 105 => 82 | 212 => 129 | 99 => 130 | 165 => 131 | 166 => 132 | 170 => 133 | 169 => 134 | 263 => 167 | 264 => 168 | 206 => 169 | 240 => 170 | 241 => 171 | 276 => 204 | 277 => 205 | n => n, fun | 9 => 9 | 3 => 3 | 4 => 4 | 20 => 20 | 0 => 0 | 46 => 89 | 109 => 200 | 5 => 5 | 72 => 205 | 76 => 207 | 51 => 85 | 146 => 249 | 53 => 222 | 148 => 251 | 70 => 203 | 37 => 55 | 75 => 111 | 127 => 253 | 164 => 277 | 80 => 132 | n => n, fun | n => n⟩
def Tryz.lays260_ren : Go.Shelf.Ren := ⟨fun | 260 => 206 | n => n, fun | 9 => 9 | 21 => 21 | 3 => 3 | 4 => 4 | 5 => 5 | 119 => 292 | 0 => 0 | 46 => 89 | 139 => 295 | 138 => 294 | n => n, fun | 3 => 5 | 4 => 6 | n => n⟩
def Tryz.laysNm216_ren : Go.Shelf.Ren := ⟨fun | 16 => 111 | n => n, fun | 24 => 69 | 9 => 9 | 4 => 4 | n => n, fun | n => n⟩
theorem Tryz.laysNm216 : Go.Proofs.Lays2.n16 Tryz.prog Tryz.laysNm216_ren := {
  mixed := by kernel_rfl
  f16 := Tryz.func111.trans (congrArg some (by kernel_rfl))
  t4 := Tryz.underlying4
  a4 := Tryz.isAgg4
  z4 := Tryz.sizeOf4
  v4 := Tryz.zeroValue4
  t9 := Tryz.underlying9
  a9 := Tryz.isAgg9
  z9 := Tryz.sizeOf9
  v9 := Tryz.zeroValue9
  t24 := Tryz.underlying69
  a24 := Tryz.isAgg69
  z24 := Tryz.sizeOf69
  v24 := Tryz.zeroValue69
  i9 := by kernel_rfl }
open Go.RowKit Go.Lib in
/-- slices.Clone at []string: "Clone returns a copy of the slice. The elements are copied using assignment, so this is a shallow clone. The result may have additional unused capacity. The result preserves the nilness of s.": OF A SLICE THAT IS NOT nil IT RETURNS A SLICE THAT IS NOT nil, OF THE SAME ELEMENTS, IN MEMORY OF THE CALL's OWN: in the how-to's words (6f): 'w'.ownsRow B e 1 v' n cells': v' begins at the head of a row among the blocks from B on (B: the heap's size at the call), not frozen, whose first cells are the elements · 'Below B w w'': below B all is as it was. The capacity is whatever the run-time gives. 'zs': what the cells behind the slice's address hold; 'zs.take n': its elements. (LAID: no walk: one application.) -/
theorem Tryz.slices_Clone_string (b off n c : Nat) (zs : List ByteArray) (w : World) (hz : n ≤ zs.length) (hbig : n * 16 ≤ 140737488355328) (hc : ∀ j, j < zs.length → w.cell? ⟨b, off + j, none⟩ = some (.string (zs.getD j ByteArray.empty))) :
    Calls Tryz.prog 111 #[.slice (some ⟨b, off, none⟩) n c] w fun e w' => ∃ v', e = .returned v' ∧ w'.ownsRow w.heap.size 9 1 v' n ((zs.take n).map (Value.string)) ∧ v' ≠ .slice none 0 0 ∧ Below w.heap.size w w' := Any.slices_Clone_string Tryz.laysNm216 b off n c zs w hz hbig hc
open Go.RowKit Go.Lib in
/-- The same at nil: nil comes back; the world is as it was. (LAID: no walk: one application.) -/
theorem Tryz.slices_Clone_string_nil (n c : Nat) (w : World) :
    Calls Tryz.prog 111 #[.slice none n c] w fun e w' => e = .returned (.slice none 0 0) ∧ w' = w := Any.slices_Clone_string_nil Tryz.laysNm216 n c w
open Go.RowKit Go.Lib in
/-- The same at a slice of length 0 that is not nil, WHATEVER ITS ADDRESS (no cell is asked for): a slice that is not nil and owns nothing comes back. (LAID: no walk: one application.) -/
theorem Tryz.slices_Clone_string_zero (a : Addr) (c : Nat) (w : World) :
    Calls Tryz.prog 111 #[.slice (some a) 0 c] w fun e w' => ∃ v', e = .returned v' ∧ w'.ownsRow w.heap.size 9 1 v' 0 [] ∧ v' ≠ .slice none 0 0 ∧ Below w.heap.size w w' := Any.slices_Clone_string_zero Tryz.laysNm216 a c w
def Tryz.laysNm220_ren : Go.Shelf.Ren := ⟨fun | 20 => 72 | n => n, fun | 22 => 38 | 3 => 3 | 4 => 4 | 0 => 0 | n => n, fun | n => n⟩
theorem Tryz.laysNm220 : Go.Proofs.Lays2.n20 Tryz.prog Tryz.laysNm220_ren := {
  mixed := by kernel_rfl
  f20 := Tryz.func72.trans (congrArg some (by kernel_rfl))
  t0 := Tryz.underlying0
  a0 := Tryz.isAgg0
  z0 := Tryz.sizeOf0
  v0 := Tryz.zeroValue0
  t3 := Tryz.underlying3
  a3 := Tryz.isAgg3
  z3 := Tryz.sizeOf3
  v3 := Tryz.zeroValue3
  t4 := Tryz.underlying4
  a4 := Tryz.isAgg4
  z4 := Tryz.sizeOf4
  v4 := Tryz.zeroValue4
  t22 := Tryz.underlying38
  a22 := Tryz.isAgg38
  z22 := Tryz.sizeOf38
  v22 := Tryz.zeroValue38
  i3 := by kernel_rfl }
open Go.RowKit Go.Lib Go.Sort in
/-- slices.Compact at []int: "Compact replaces consecutive runs of equal elements with a single copy. This is like the uniq command found on Unix. Compact modifies the contents of the slice s and returns the modified slice, which may have a smaller length. Compact zeroes the elements between the new length and the original length. The result preserves the nilness of s.": IT RETURNS THE SLICE CUT TO 'Lib.compact zs'; ITS CELLS HOLD 'Lib.compact zs', THEN ZERO VALUES up to the old length; all else is as it was, but for the count of draws. IN THE WORDS OF slices.Sort's CONTRACT ('Holds', 'putRow'): so the everyday 'slices.Sort(xs); xs = slices.Compact(xs)' goes from the one contract to the other. It asks 'zs.length ≤ cap' (every slice's: the reslicing 's[:k]' looks at it). Length 0, nil: '.._empty'. (LAID: no walk: one application.) -/
theorem Tryz.slices_Compact_int (blk off cap : Nat) (zs : List Int) (w : World) (hH : Holds (Value.int .i64) w blk off zs.toArray) (hsz : zs.length ≤ 9223372036854775807) (hcap : zs.length ≤ cap) :
    Calls Tryz.prog 72 #[.slice (some ⟨blk, off, none⟩) zs.length cap] w fun e w' => e = .returned (.slice (some ⟨blk, off, none⟩) (Lib.compact zs).length cap) ∧ ∃ q, w' = putRow (Value.int .i64) (Sort.ahead w q) blk off (Lib.compact zs ++ List.replicate (zs.length - (Lib.compact zs).length) 0).toArray := Any.slices_Compact_int Tryz.laysNm220 blk off cap zs w hH hsz hcap
open Go.RowKit Go.Lib Go.Sort in
/-- The same at a slice of length 0, a nil one too: it comes back as it is. (LAID: no walk: one application.) -/
theorem Tryz.slices_Compact_int_empty (a : Option Addr) (cap : Nat) (w : World) :
    Calls Tryz.prog 72 #[.slice a 0 cap] w fun e w' => e = .returned (.slice a 0 cap) ∧ w' = w := Any.slices_Compact_int_empty Tryz.laysNm220 a cap w
def Tryz.laysNm237_ren : Go.Shelf.Ren := ⟨fun | 37 => 157 | n => n, fun | 3 => 3 | 4 => 4 | n => n, fun | n => n⟩
def Tryz.laysNm231_ren : Go.Shelf.Ren := ⟨fun | 31 => 201 | 37 => 157 | n => n, fun | 3 => 3 | 4 => 4 | n => n, fun | n => n⟩
open Go.RowKit Go.Sort in
/-- .. and plain. (LAID: no walk: one application.) -/
theorem Tryz.slices_Sort_int_none (p : Option Addr) (cap : Nat) (w : World) :
    Calls Tryz.prog 126 #[.slice p 0 cap] w fun e w' => e = .returned (.tuple #[]) ∧ w' = w := Any.slices_Sort_int_none Tryz.lays189 p cap w
end Go.Proofs
/- Chapter 2: the digest of a string: the walks. -/
namespace Go.Sx
open Go Go.Proofs Go.RowKit
theorem hwDI {G G2 : Prop} (x : G2) (hwq : Hold G2 → G := by
    intro hQq
    repeat' (first | apply HL.fold | apply HA.fold | apply HL.nil | apply HX.n_then | apply HC.seq | apply HC.region | refine HL.pa ?_ | refine HL.ga rfl ?_ | refine HL.na rfl ?_ | refine HL.nu rfl rfl ?_ | apply HC.block | apply HC.skip | apply HC.exit | apply HC.ret | apply HX.e_block | refine HX.e_other rfl ?_ | apply HX.e_then | apply HX.e_again | apply HX.n_block | apply HX.r_then | apply HX.r_block | apply HX.r_again | refine HC.cond_yes rfl ?_ | refine HC.cond_no rfl ?_ | refine HL.one (H1.ldb rfl memA rfl rfl ?_) | refine HC.cond rfl (fun hc => ?_) (fun hc => ?_) | refine HC.cond_b rfl (fun hc => ?_) (fun hc => ?_))
    exact hQq.get) : G := hwq ⟨x⟩
theorem HX.retM1 {P : Program} {N : Nat} {E : Env} {w0 : World} {H H' : List Atom} {fn : Func} {t D : Nat} {v : Value} {R : Value → World → Prop} (hr : fn.results = #[.tmp t]) (hv : Env.g E t = some v) (hm : Pick (A.dfr D) H H') (h : ∀ w, Mm w0 H' w → R v w) :
    HX N [markOf D] .ret (bodyPostM Fence.wide 0 P fn (RetP R)) E w0 H := fun w hM => by
  have hp := hM.perm hm.perm
  obtain ⟨o, h1, rfl⟩ : ∃ o, w.heap[D]? = some o ∧ o = .deferred (some []) := hp.all (A.dfr D) (List.Mem.head _)
  exact WX.retM1 hr hv h1 fun w' u => h w' (hp.drop1 rfl u)
theorem digL_at (s : S8) : ∀ (i k : Nat), i < 8 → k < 4 → (digL s)[4 * i + k]? = some ((s.l.getD i 0) >>> UInt32.ofNat (24 - 8 * k)).toUInt8 := by
  intro i k hi hk
  match i, hi, k, hk with
  | 0, _, 0, _ | 0, _, 1, _ | 0, _, 2, _ | 0, _, 3, _ => rfl
  | 1, _, 0, _ | 1, _, 1, _ | 1, _, 2, _ | 1, _, 3, _ => rfl
  | 2, _, 0, _ | 2, _, 1, _ | 2, _, 2, _ | 2, _, 3, _ => rfl
  | 3, _, 0, _ | 3, _, 1, _ | 3, _, 2, _ | 3, _, 3, _ => rfl
  | 4, _, 0, _ | 4, _, 1, _ | 4, _, 2, _ | 4, _, 3, _ => rfl
  | 5, _, 0, _ | 5, _, 1, _ | 5, _, 2, _ | 5, _, 3, _ => rfl
  | 6, _, 0, _ | 6, _, 1, _ | 6, _, 2, _ | 6, _, 3, _ => rfl
  | 7, _, 0, _ | 7, _, 1, _ | 7, _, 2, _ | 7, _, 3, _ => rfl
def dgC (s : S8) (m : Nat) : List Value := row 32 fun q => b8 (if q < m then (digL s).getD q 0 else 0)
theorem dgC_set {s : S8} {i k : Nat} (hi : i < 8) (hk : k < 4) : (dgC s (4 * i + k)).set (4 * i + k) (b8 ((s.l.getD i 0) >>> UInt32.ofNat (24 - 8 * k)).toUInt8) = dgC s (4 * i + (k + 1)) := by
  have h := digL_at s i k hi hk
  unfold dgC
  rw [row_set]
  refine row_congr fun j _ => ?_
  by_cases e : j = 4 * i + k
  · subst e
    have e2 : (digL s).getD (4 * i + k) 0 = ((s.l.getD i 0) >>> UInt32.ofNat (24 - 8 * k)).toUInt8 := by rw [List.getD_eq_getElem?_getD, h]; rfl
    rw [if_pos rfl, if_pos (by omega), e2]
  · have : (j < 4 * i + (k + 1)) = (j < 4 * i + k) := by simp only [eq_iff_iff]; omega
    rw [if_neg e]; simp only [this]
theorem dgC_32 (s : S8) : dgC s 32 = ub (digL s) := rfl
attribute [local irreducible] WC WL WX POp Then Again Fn NX W1 WA WO QL RP RA Yld LoopAt HC HL HX HN H1 HA HO HQ HB HP A.blk A.grow A.rd A.obj A.mp AgainH CutH
attribute [local irreducible] mixW kL digL
set_option maxHeartbeats 1000000 in
theorem digest_fn (s : S8) (w : World) : Fn Tryz.prog 92 #[.agg (ws s.l).toArray] w fun v w' => v = .string ⟨(digL s).toArray⟩ ∧ Ext w w' := by
  refine enterH (l := [_]) rfl Tryz.ntmps92 rfl ?_
  refine hwDI ?_
  refine HL.one (H1.boxAgg (cs := ws s.l) rfl rfl (fun b1 => ?_))
  refine hwDI ?_
  refine HL.one (H1.alloc (cs := dgC s 0) (by kernel_rfl) rfl (fun b3 => ?_))
  refine hwDI ?_
  refine HL.one (H1.ldAgg (vs := ws s.l) rfl memA rfl (fun i v h => by rwa [Nat.zero_add]) rfl ?_)
  refine hwDI ?_
  refine HC.loop (α := Nat) (fun i => [(3, .pointer (some ⟨b3, 0, none⟩)), (7, .agg (ws s.l).toArray), (8, zv (i : Int))]) (fun i => [A.blk b3 (dgC s (4 * i)) 229]) (fun i => i ≤ 8) (fun i => 8 - i) 0 (Nat.zero_le _) esA (by repeat (first | exact Hs.nil _ | (refine Hs.cons pickA ?_))) ?_
  rintro i hi
  by_cases hlt : i < 8
  · have hx := S8.get (s := s) hlt
    refine hwDI ?_
    refine HL.pa ?_ (POp.index_agg (v := w32 (s.l.getD i 0)) rfl rfl rfl hlt hx)
    refine hwDI ?_
    refine HC.loop (α := Nat) (fun k => [(3, .pointer (some ⟨b3, 0, none⟩)), (7, .agg (ws s.l).toArray), (8, zv (i : Int)), (4, zv (i : Int)), (5, w32 (s.l.getD i 0)), (12, zv (k : Int))]) (fun k => [A.blk b3 (dgC s (4 * i + k)) 229]) (fun k => k ≤ 4) (fun k => 4 - k) 0 (Nat.zero_le _) esA (Hs.refl _) ?_
    rintro k hk
    by_cases hlt2 : k < 4
    · have hset := dgC_set (s := s) hlt hlt2
      refine hwDI ?_
      refine HL.pa ?_ (POp.shr32 (s := 24 - 8 * k) rfl rfl (by omega) (by omega))
      refine hwDI ?_
      rw [show (4 * (i : Int) + (k : Int)).toNat = 4 * i + k from by omega]
      refine HL.one (H1.st (b := b3) rfl rfl (by intro _ h; cases h) (by intro _ h; cases h) rplA (by unfold dgC; rw [row_len]; omega) ?_)
      rw [hset]
      refine hwDI ?_
      exact HX.again (k + 1) hlt2 (by show 4 - (k + 1) < 4 - k; omega) esA (Hs.refl _)
    · obtain rfl : k = 4 := by omega
      refine hwDI ?_
      exact HX.again (i + 1) hlt (by show 8 - (i + 1) < 8 - i; omega) esA (Hs.refl _)
  · obtain rfl : i = 8 := by omega
    rw [dgC_32]
    refine hwDI ?_
    refine HL.pa ?_ (POp.arr_all rfl)
    refine hwDI ?_
    refine HL.one (H1.bstrB (ys := digL s) (b := b3) (c := 32) (by rw [digL_len]; rfl) memA rfl ?_)
    refine hwDI ?_
    exact HX.ret1 rfl rfl fun w' hM => ⟨rfl, hM.ext⟩
theorem chunk_fn {n c bp : Nat} (w : World) : Fn Tryz.prog 90 #[.slice (some ⟨bp, 0, none⟩) n c, zv 64] w fun v w' => ∃ q : Nat × Nat, True ∧ v = .func (.func 151) #[] #[.pointer (some ⟨q.1, 0, none⟩), .pointer (some ⟨q.2, 0, none⟩)] ∧
    Mm w [A.blk q.2 [zv 64] 3, A.blk q.1 [.slice (some ⟨bp, 0, none⟩) n c] 55] w' := by
  refine enterH (l := [_, _]) rfl Tryz.ntmps90 rfl ?_
  refine hwDI ?_
  refine HL.one (H1.box rfl rfl rfl (fun b1 => ?_))
  refine hwDI ?_
  refine HL.one (H1.box rfl rfl rfl (fun b2 => ?_))
  refine hwDI ?_
  exact HX.ret1 rfl rfl fun w' hM => ⟨(b1, b2), trivial, rfl, hM⟩
set_option maxHeartbeats 1000000 in
theorem chunk1_fn {w0 : World} {K0 K1 : Atom} {Hq : Nat → List Atom} {b1 b2 bp c l : Nat} (nq : Nat) (hc : 64 * nq ≤ c) (hn : nq ≤ 100000)
    (hy : ∀ q, q < nq → ∀ w, Mm w0 (K0 :: K1 :: A.blk b2 [zv 64] 3 :: A.blk b1 [.slice (some ⟨bp, 0, none⟩) (64 * nq) c] 55 :: Hq q) w →
      Yld Tryz.prog l [.slice (some ⟨bp, 64 * q, none⟩) 64 64] w fun b w' => b = true ∧ ∃ _z : Unit, True ∧
        Mm w0 (K0 :: K1 :: A.blk b2 [zv 64] 3 :: A.blk b1 [.slice (some ⟨bp, 0, none⟩) (64 * nq) c] 55 :: Hq (q + 1)) w') :
    ∀ w, Mm w0 (K0 :: K1 :: A.blk b2 [zv 64] 3 :: A.blk b1 [.slice (some ⟨bp, 0, none⟩) (64 * nq) c] 55 :: Hq 0) w →
      Fn Tryz.prog 151 (.func (.yield l) #[] #[] :: [.pointer (some ⟨b1, 0, none⟩), .pointer (some ⟨b2, 0, none⟩)]).toArray w fun _ w' => ∃ _z : Unit, True ∧ Mm w0 (K0 :: K1 :: Hq nq) w' := by
  intro w hM
  refine enterK (l := [_, _, _]) hM rfl Tryz.ntmps151 rfl ?_
  refine hwDI ?_
  refine HC.loop (α := Nat) (fun q => [(0, .func (.yield l) #[] #[]), (1, .pointer (some ⟨b1, 0, none⟩)), (2, .pointer (some ⟨b2, 0, none⟩)), (4, zv ((64 * q : Nat) : Int))]) (fun q => K0 :: K1 :: A.blk b2 [zv 64] 3 :: A.blk b1 [.slice (some ⟨bp, 0, none⟩) (64 * nq) c] 55 :: Hq q)
    (fun q => q ≤ nq) (fun q => nq - q) 0 (Nat.zero_le _) esA (Hs.refl _) ?_
  rintro q hq
  by_cases hlt : q < nq
  · have hlt' : ((64 * q : Nat) : Int) < ((64 * nq : Nat) : Int) := by omega
    have hmin : min (64 : Int) (((64 * nq - ((64 * q : Nat) : Int).toNat : Nat)) : Int) = 64 := by omega
    refine hwDI ?_
    refine HC.quietS [(some 13, [2], []), (some 14, [1], []), (some 15, [4], []), (some 16, [14, 15], [1, 2]), (some 17, [16], [3]), (some 18, [13, 17], [0, 4]), (some 5, [18], [5, 0, 1, 2, 3, 4, 5])] (by kernel_rfl) (by kernel_rfl) (by kernel_rfl) ?_
    repeat' (first | refine HQ.pa ?_ | refine HQ.ga rfl ?_ | refine HQ.na rfl ?_ | refine HQ.nu rfl ?_ | refine HQ.ldb rfl memA rfl rfl ?_)
    refine HQ.pa ?_ (POp.cut_l rfl rfl (by omega) (by omega) (by omega))
    repeat' (first | refine HQ.pa ?_ | refine HQ.ga rfl ?_ | refine HQ.na rfl ?_ | refine HQ.nu rfl ?_ | refine HQ.ldb rfl memA rfl rfl ?_)
    rw [hmin]
    refine HQ.nil ?_
    refine hwDI ?_
    refine HL.pa ?_ (POp.cut3 (lo := 64 * q) (hi := 64 * q + 64) (mx := 64 * q + 64) rfl rfl rfl rfl rfl (by omega) (by omega) (by omega) (by omega) (by omega) (by omega))
    rw [show 64 * q + 64 - 64 * q = 64 from by omega, Nat.zero_add, Nat.mul_one]
    refine HL.one (H1.yield (vs := [.slice (some ⟨bp, 64 * q, none⟩) 64 64]) rfl rfl rfl (hy q hlt) ?_)
    rintro - -
    refine hwDI ?_
    exact HX.again (q + 1) hlt (by show nq - (q + 1) < nq - q; omega) (by refine ⟨rfl, rfl, rfl, ?_, trivial⟩; show some (zv _) = some (zv _); congr 2) (Hs.refl _)
  · obtain rfl : q = nq := by omega
    refine hwDI ?_
    exact HX.end0 rfl fun w' hM => ⟨(), trivial, hM.sub (Hs.cons Pick.here (Hs.cons Pick.here (Hs.refl _).skip.skip))⟩
end Go.Sx
/- Chapter 2: Sum and Chain: the walks. -/
namespace Go.Sx
open Go Go.Proofs Go.RowKit
theorem ub_app1 (ys : List UInt8) (b : UInt8) : ub ys ++ [b8 b] = ub (ys ++ [b]) := by simp [ub]
theorem ub_len (ys : List UInt8) : (ub ys).length = ys.length := by simp [ub]
theorem ub_mid (ys : List UInt8) (i : Nat) : ((ub ys).drop i).take 64 = ub ((ys.drop i).take 64) := by simp [ub, List.map_drop, List.map_take]
theorem rep_snoc (L : List UInt8) (j : Nat) : L ++ List.replicate j 0 ++ [(0 : UInt8)] = L ++ List.replicate (j + 1) 0 := by
  rw [List.append_assoc, List.replicate_succ']
theorem rng_snoc (L : List UInt8) (n j : Nat) : L ++ (List.range j).map (shaT n) ++ [shaT n j] = L ++ (List.range (j + 1)).map (shaT n) := by
  rw [List.append_assoc, List.range_succ, List.map_append]; rfl
attribute [local irreducible] WC WL WX POp Then Again Fn NX W1 WA WO QL RP RA Yld LoopAt HC HL HX HN H1 HA HO HQ HB HP A.blk A.grow A.rd A.obj A.mp AgainH CutH
attribute [local irreducible] A.gb kL digL shaI shaT
set_option maxHeartbeats 2000000 in
theorem sum_fn (s : ByteArray) (hs : s.size ≤ 900000) (w : World) (hG : RoundG w) : Fn Tryz.prog 46 #[.string s] w fun v w' => v = .string (sumS s) ∧ Ext w w' := by
  have hlen : s.data.toList.length = s.size := by rw [Array.length_toList]; rfl
  obtain ⟨n, hn⟩ : ∃ n, n = s.size := ⟨_, rfl⟩
  have hz : shaZ n < 64 := by unfold shaZ; omega
  have hP : shaP s.data.toList = s.data.toList ++ [128] ++ List.replicate (shaZ n) 0 ++ (List.range 8).map (shaT n) := by unfold shaP; rw [hlen, hn]
  have hPl := shaP_len s.data.toList
  have hPm := shaP_mod s.data.toList
  rw [hlen, ← hn] at hPl
  refine enterMH (l := [_]) rfl Tryz.ntmps46 rfl ?_
  refine hwDI ?_
  refine HL.build (cs := ws shaI.l) rfl (by kernel_rfl) rfl ?_
  refine hwDI ?_
  refine HL.one (H1.alloc (cs := List.replicate 8 (.int .u32 0)) (by kernel_rfl) rfl (fun b3 => ?_))
  refine hwDI ?_
  refine HL.one (H1.stAgg (cs := List.replicate 8 (.int .u32 0)) rfl rfl rfl ws_one rplA rfl ?_)
  refine hwDI ?_
  refine HL.one (H1.sgb (e := 5) rfl rfl (fun bp0 c0 => ?_))
  rw [← hn]
  refine hwDI ?_
  refine HL.one (H1.lit (cs := [b8 128]) rfl rfl rfl rfl rfl rfl (fun b9 => ?_))
  refine hwDI ?_
  refine HL.one (H1.appG1 (u := b8 128) rfl rfl (fun _ _ => by first | ((repeat (first | with_reducible exact Rpl.here | with_reducible apply Rpl.there)); done) | (repeat (first | exact Rpl.here | apply Rpl.there))) memA rfl rfl (by omega) rfl rfl (fun bp1 c1 => ?_))
  rw [ub_app1]
  refine hwDI ?_
  refine HC.loop (α := Nat × Nat × Nat) (fun z => [(0, .string s), (3, .pointer (some ⟨b3, 0, none⟩)), (4, .slice (some ⟨z.2.1, 0, none⟩) (n + 1 + z.1) z.2.2)])
    (fun z => [A.blk b3 (ws shaI.l) 161, A.gb 5 z.2.1 z.2.2 (n + 1 + z.1) (ub (s.data.toList ++ [128] ++ List.replicate z.1 0))]) (fun z => z.1 ≤ shaZ n) (fun z => shaZ n - z.1) (0, bp1, c1) (Nat.zero_le _) esA
    (by show Hs _ [_, A.gb _ bp1 c1 (n + 1) (ub (s.data.toList ++ [128] ++ []))]; rw [List.append_nil]; exact Hs.cons (Pick.there (Pick.there Pick.here)) (Hs.cons (Pick.there Pick.here) (Hs.nil _))) ?_
  rintro ⟨j, bp, c⟩ hj
  dsimp only at hj ⊢
  by_cases hlt : j < shaZ n
  · have hne : ¬ (((n + 1 + j : Nat) : Int) % 64 = 56) := by unfold shaZ at hlt; omega
    refine hwDI ?_
    refine HL.one (H1.lit (cs := [b8 0]) rfl rfl rfl rfl rfl rfl (fun b9 => ?_))
    refine hwDI ?_
    refine HL.one (H1.appG1 (u := b8 0) rfl rfl (fun _ _ => by first | ((repeat (first | with_reducible exact Rpl.here | with_reducible apply Rpl.there)); done) | (repeat (first | exact Rpl.here | apply Rpl.there))) memA rfl rfl (by omega) rfl rfl (fun bp2 c2 => ?_))
    rw [ub_app1, rep_snoc]
    refine hwDI ?_
    exact HX.again (j + 1, bp2, c2) hlt (by show shaZ n - (j + 1) < shaZ n - j; omega) esA (Hs.cons (Pick.there Pick.here) (Hs.cons (Pick.there Pick.here) (Hs.nil _)))
  · obtain rfl : j = shaZ n := by omega
    have hne : ((n + 1 + shaZ n : Nat) : Int) % 64 = 56 := by unfold shaZ; omega
    refine hwDI ?_
    refine HC.loop (α := Nat × Nat × Nat) (fun z => [(0, .string s), (3, .pointer (some ⟨b3, 0, none⟩)), (4, .slice (some ⟨z.2.1, 0, none⟩) (n + 1 + shaZ n + z.1) z.2.2), (5, zv (7 - (z.1 : Int)))])
      (fun z => [A.blk b3 (ws shaI.l) 161, A.gb 5 z.2.1 z.2.2 (n + 1 + shaZ n + z.1) (ub (s.data.toList ++ [128] ++ List.replicate (shaZ n) 0 ++ (List.range z.1).map (shaT n)))]) (fun z => z.1 ≤ 8) (fun z => 8 - z.1) (0, bp, c) (Nat.zero_le _) esA
      (by show Hs _ [_, A.gb _ bp c (n + 1 + shaZ n) (ub (s.data.toList ++ [128] ++ List.replicate (shaZ n) 0 ++ []))]; rw [List.append_nil]; exact Hs.refl _) ?_
    rintro ⟨k, bp2, c2⟩ hk
    dsimp only at hk ⊢
    by_cases hlt2 : k < 8
    · have hge : (0 : Int) ≤ 7 - (k : Int) := by omega
      refine hwDI ?_
      rw [← hn]
      refine hwDI ?_
      refine HL.pa ?_ (POp.shr (a := 8 * n) (b := 8 * (7 - k)) rfl rfl (by omega) (by omega) (by omega))
      refine hwDI ?_
      refine HL.one (H1.lit (cs := [b8 (shaT n k)]) rfl rfl (by unfold shaT; rfl) rfl rfl rfl (fun b9 => ?_))
      refine hwDI ?_
      refine HL.one (H1.appG1 (u := b8 (shaT n k)) rfl rfl (fun _ _ => by first | ((repeat (first | with_reducible exact Rpl.here | with_reducible apply Rpl.there)); done) | (repeat (first | exact Rpl.here | apply Rpl.there))) memA rfl rfl (by omega) rfl rfl (fun bp3 c3 => ?_))
      rw [ub_app1, rng_snoc]
      refine hwDI ?_
      refine HX.again (k + 1, bp3, c3) hlt2 (by show 8 - (k + 1) < 8 - k; omega) ⟨rfl, rfl, rfl, ?_, trivial⟩ (Hs.cons (Pick.there Pick.here) (Hs.cons (Pick.there Pick.here) (Hs.nil _)))
      show some (zv _) = some (zv _)
      congr 2
      show (7 - (k : Int)) - 1 = 7 - ((k + 1 : Nat) : Int)
      omega
    · obtain rfl : k = 8 := by omega
      have hge : ¬ ((0 : Int) ≤ 7 - ((8 : Nat) : Int)) := by omega
      obtain ⟨nq, hq⟩ : ∃ nq, 64 * nq = n + 1 + shaZ n + 8 := ⟨(n + 1 + shaZ n + 8) / 64, by omega⟩
      have hnq : nq = (shaP s.data.toList).length / 64 := by rw [hPl]; omega
      rw [← hP, ← hq]
      have hsum : sumS s = ⟨(digL (sums (shaP s.data.toList) nq)).toArray⟩ := by unfold sumS sumL; rw [hnq]
      rw [hsum]
      rw [← hq] at hPl
      generalize shaP s.data.toList = Pd at hPl
      refine hwDI ?_
      refine HL.one (H1.callz (vs := [_, zv 64]) rfl rfl (fun w' _ => chunk_fn (n := 64 * nq) (c := c2) (bp := bp2) w') ?_)
      rintro ⟨q1, q2⟩ -
      dsimp only
      refine hwDI ?_
      refine HC.sub [(3, .pointer (some ⟨b3, 0, none⟩)), (34, .func (.func 151) #[] #[.pointer (some ⟨q1, 0, none⟩), .pointer (some ⟨q2, 0, none⟩)])]
        (A.blk q2 [zv 64] 3 :: A.blk q1 [.slice (some ⟨bp2, 0, none⟩) (64 * nq) c2] 55 :: [A.blk b3 (ws (sums Pd 0).l) 161, A.gb 5 bp2 c2 (64 * nq) (ub Pd)]) ?_ esA (by repeat (first | exact Hs.nil _ | (refine Hs.cons pickA ?_)))
      refine HC.rangeFunc (α := Unit) (lb := [.pointer (some ⟨q1, 0, none⟩), .pointer (some ⟨q2, 0, none⟩)]) (fun _ => [A.blk b3 (ws (sums Pd nq).l) 161, A.gb 5 bp2 c2 (64 * nq) (ub Pd)]) (fun _ => True) rfl ?_ ?_
      · intro D l L hL w1 hM1
        have hc2 : 64 * nq ≤ c2 := by
          obtain ⟨_, _, _, _, h, _⟩ := hM1.gb (e := 5) (b := bp2) (c := c2) (n := 64 * nq) (xs := ub Pd) memA
          exact h
        refine chunk1_fn (Hq := fun q => [A.blk b3 (ws (sums Pd q).l) 161, A.gb 5 bp2 c2 (64 * nq) (ub Pd)]) nq hc2 (by omega) ?_ w1 hM1
        intro q hqlt
        refine Yld.ofH hL memA rfl rfl ?_
        dsimp only [List.zip_cons_cons, List.zip_nil_right, putAll]
        refine hwDI ?_
        refine HX.ra hL rplA ?_
        refine hwDI ?_
        have hl64 : ((Pd.drop (64 * q)).take 64).length = 64 := by rw [List.length_take, List.length_drop]; omega
        refine HL.one (H1.callk (α := Unit) (V := fun _ => .tuple #[]) (I := fun _ => True)
          (H' := fun _ => A.blk b3 (ws (sums Pd (q + 1)).l) 161 :: [L .busy none, A.dfr D, A.blk q2 [zv 64] 3, A.blk q1 [.slice (some ⟨bp2, 0, none⟩) (64 * nq) c2] 55, A.gb 5 bp2 c2 (64 * nq) (ub Pd)])
          (vs := [.pointer (some ⟨b3, 0, none⟩), .slice (some ⟨bp2, 64 * q, none⟩) 64 64]) rfl rfl (fun w' hM => ?_) ?_)
        · refine (add_fn (H := [L .busy none, A.dfr D, A.blk q2 [zv 64] 3, A.blk q1 [.slice (some ⟨bp2, 0, none⟩) (64 * nq) c2] 55, A.gb 5 bp2 c2 (64 * nq) (ub Pd)]) (sums Pd q) ((Pd.drop (64 * q)).take 64) hl64 hG
            (hM.sub (Hs.cons (Pick.there (Pick.there (Pick.there (Pick.there Pick.here)))) (Hs.refl _))) (fun w2 hM2 => ?_)).mono fun v w2 h => ⟨(), trivial, h⟩
          have := gb_rd hM2 (e := 5) (b := bp2) (c := c2) (n := 64 * nq) (xs := ub Pd) (off := 64 * q) (m := 64) (c2 := 64) memA (by omega) (Nat.le_refl _)
          rwa [ub_mid] at this
        rintro - -
        refine hwDI ?_
        refine HX.rp_n hL rplA fun w' hM => ⟨rfl, (), trivial, ?_⟩
        exact hM.sub (Hs.cons (Pick.there Pick.here) (Hs.cons (Pick.there Pick.here) (Hs.cons (Pick.there Pick.here) (Hs.cons (Pick.there Pick.here) (Hs.refl _)))))
      · rintro D - -
        refine hwDI ?_
        refine HL.one (H1.ldAgg (vs := ws (sums Pd nq).l) rfl memA rfl (fun i v h => by rwa [Nat.zero_add]) rfl ?_)
        refine hwDI ?_
        refine HL.one (H1.callx (vs := [_]) rfl rfl (fun w' _ => digest_fn (sums Pd nq) w') ?_)
        refine hwDI ?_
        exact HX.retM1 rfl rfl Pick.here fun w' hM => ⟨rfl, hM.ext⟩
end Go.Sx
/- Chapter 2: marked digests; Chain: the walks. -/
namespace Go.Sx
open Go Go.Proofs Go.RowKit
theorem joinB_fn (c b off : Nat) (l : List ByteArray) (w : World) (hR : Rd w (.slice (some ⟨b, off, none⟩) l.length c) (strs l)) (hb : b < w.heap.size) (hl : l.length ≤ 100) (hc : l.length ≤ c) (hs : (catS l).size ≤ 1000000) :
    Fn Tryz.prog 86 #[.slice (some ⟨b, off, none⟩) l.length c, .string (ByteArray.mk #[])] w fun v w' => v = .string (catS l) ∧ Ext w w' := by
  have hlen : (Lib.join (l.map (·.data.toList)) (ByteArray.mk #[]).data.toList).length = (catS l).size := by
    rw [← join_empty l]; rfl
  have := Tryz.strings_Join b off c l (ByteArray.mk #[]) w (fun j x hx => hR.cell (by simp [strs, hx])) hb (by omega) hc (by omega)
  refine Calls.mono this ?_
  rintro e w' ⟨rfl, h2⟩
  exact ⟨_, rfl, by rw [join_empty], h2⟩
def mkB (m : UInt8) : ByteArray := ByteArray.mk #[m]
def markS (m : UInt8) (l : List ByteArray) : ByteArray := sumS (mkB m ++ catS l)
def chainS (h r : ByteArray) : ByteArray := markS 2 [h, r]
theorem chainS_size (h r : ByteArray) : (chainS h r).size = 32 := sumS_size _
theorem catS_2 (a b : ByteArray) : (catS [a, b]).size = a.size + b.size := by
  show ((a.data.toList ++ (b.data.toList ++ []) : List UInt8).toArray).size = _
  rw [List.size_toArray, List.append_nil, List.length_append, Array.length_toList, Array.length_toList]; rfl
theorem mkB_size (m : UInt8) (s : ByteArray) : (mkB m ++ s).size = 1 + s.size := by
  rw [ByteArray.size_append]; rfl
attribute [local irreducible] WC WL WX POp Then Again Fn NX W1 WA WO QL RP RA Yld LoopAt HC HL HX HN H1 HA HO HQ HB HP A.blk A.grow A.rd A.obj A.mp AgainH CutH
attribute [local irreducible] sumS
theorem marked_fn (m : ByteArray) (w : World) : Fn Tryz.prog 209 #[.string m] w fun v w' => ∃ b : Nat, True ∧ v = .func (.func 222) #[] #[.pointer (some ⟨b, 0, none⟩)] ∧ Mm w [A.blk b [.string m] 9] w' := by
  refine enterH (l := [_]) rfl Tryz.ntmps209 rfl ?_
  refine hwDI ?_
  refine HL.one (H1.box rfl rfl rfl (fun b1 => ?_))
  refine hwDI ?_
  exact HX.ret1 rfl rfl fun w' hM => ⟨b1, trivial, rfl, hM⟩
theorem marked1_fn {b1 b2 : Nat} (m : UInt8) (l : List ByteArray) (w : World) (hG : RoundG w) (h1 : w.cell? ⟨b1, 0, none⟩ = some (.string (mkB m))) (h2 : Rd w (.slice (some ⟨b2, 0, none⟩) l.length l.length) (strs l)) (hb : b2 < w.heap.size) (hl : l.length ≤ 100) (hs : (catS l).size ≤ 800000) :
    Fn Tryz.prog 222 #[.slice (some ⟨b2, 0, none⟩) l.length l.length, .pointer (some ⟨b1, 0, none⟩)] w fun v w' => v = .string (markS m l) ∧ Ext w w' := by
  have hsz := mkB_size m (catS l)
  have hm1 : (mkB m).size = 1 := rfl
  refine enterH (l := [_, _]) rfl Tryz.ntmps222 rfl ?_
  refine hwDI ?_
  refine HC.quietS [(some 4, [1], []), (some 5, [0], []), (some 6, [5], [1]), (some 7, [4, 6], [0, 2]), (some 8, [7], [3, 2]), (some 3, [8], [4, 4, 0, 1, 2, 3, 4])] (by kernel_rfl) (by kernel_rfl) (by kernel_rfl) ?_
  refine HQ.ld rfl (fun w' hM => cell_ext hM.ext h1) rfl ?_
  repeat' (first | refine HQ.pa ?_ | refine HQ.ga rfl ?_ | refine HQ.na rfl ?_ | refine HQ.nu rfl ?_ | refine HQ.ldb rfl memA rfl rfl ?_)
  refine HQ.call (vs := [.slice (some ⟨b2, 0, none⟩) l.length l.length, .string (ByteArray.mk #[])]) rfl rfl (fun w' hM => joinB_fn _ _ _ l w' (h2.ext hM.ext) (Nat.lt_of_lt_of_le hb hM.ext.size) hl (Nat.le_refl _) (by omega)) ?_
  repeat' (first | refine HQ.pa ?_ | refine HQ.ga rfl ?_ | refine HQ.na rfl ?_ | refine HQ.nu rfl ?_ | refine HQ.ldb rfl memA rfl rfl ?_)
  refine HQ.call (vs := [_]) rfl rfl (fun w' hM => sum_fn (mkB m ++ catS l) (by omega) w' (hG.ext hM.ext)) ?_
  repeat' (first | refine HQ.pa ?_ | refine HQ.ga rfl ?_ | refine HQ.na rfl ?_ | refine HQ.nu rfl ?_ | refine HQ.ldb rfl memA rfl rfl ?_)
  refine HQ.nil ?_
  refine hwDI ?_
  exact HX.ret1 rfl rfl fun w' hM => ⟨rfl, hM.ext⟩
theorem chain_fn (h r : ByteArray) (hs : h.size + r.size ≤ 800000) (w : World) (hG : RoundG w) : Fn Tryz.prog 182 #[.string h, .string r] w fun v w' => v = .string (chainS h r) ∧ Ext w w' := by
  have hc := catS_2 h r
  refine enterH (l := [_, _]) rfl Tryz.ntmps182 rfl ?_
  refine hwDI ?_
  refine HL.one (H1.callz1 (vs := [.string (mkB 2)]) rfl rfl (fun w' _ => marked_fn (mkB 2) w') ?_)
  rintro b1 -
  refine hwDI ?_
  refine HL.one (H1.lit (cs := strs [h, r]) rfl rfl rfl rfl rfl rfl (fun b2 => ?_))
  refine hwDI ?_
  refine HL.one (H1.callv0 (f := 222) (u := .string (chainS h r)) (cap := [.pointer (some ⟨b1, 0, none⟩)]) (vs := [.slice (some ⟨b2, 0, none⟩) 2 2]) rfl rfl rfl (fun w' hM => ?_) ?_)
  · have hb2 : Blk w' b2 (strs [h, r]) 9 := hM.blk memA
    exact marked1_fn 2 [h, r] w' (hG.ext hM.ext) ((hM.blk (e := 9) (cs := [.string (mkB 2)]) memA).cell rfl) (blk_rd hb2 rfl) (Array.getElem?_eq_some_iff.1 hb2).1 (by simp) (by omega)
  refine hwDI ?_
  exact HX.ret1 rfl rfl fun w' hM => ⟨rfl, hM.ext⟩
end Go.Sx
/- Plain, chapters 1 and 26: numbers and strings that are read back; a journal's content. -/
namespace Go.Sx
open Go
def unz (z : Nat) : Int := if z % 2 = 0 then ((z / 2 : Nat) : Int) else -((z / 2 : Nat) : Int) - 1
/-- A number that begins at p, from its byte i on; z: what was read before. -/
def decG (s : List UInt8) (p i z : Nat) : Option (Nat × Nat) :=
  if h : i < 9 then
    if p + i < s.length then
      if 128 ≤ (s.getD (p + i) 0).toNat then decG s p (i + 1) (z + (s.getD (p + i) 0).toNat % 128 * 2 ^ (7 * i))
      else if ((s.getD (p + i) 0).toNat = 0 ∧ 0 < i) ∨ unz (z + (s.getD (p + i) 0).toNat % 128 * 2 ^ (7 * i)) < -4611686018427387903 then none
      else some (z + (s.getD (p + i) 0).toNat % 128 * 2 ^ (7 * i), p + i + 1)
    else none
  else none
termination_by 9 - i
theorem decG_9 (s : List UInt8) (p z : Nat) : decG s p 9 z = none := by rw [decG, dif_neg (by decide)]
theorem decG_end {s : List UInt8} {p i z : Nat} (h : ¬ p + i < s.length) : decG s p i z = none := by
  rw [decG]
  by_cases hi : i < 9
  · rw [dif_pos hi, if_neg h]
  · rw [dif_neg hi]
theorem decG_on {s : List UInt8} {p i z : Nat} (hi : i < 9) (h : p + i < s.length) (hb : 128 ≤ (s.getD (p + i) 0).toNat) : decG s p i z = decG s p (i + 1) (z + (s.getD (p + i) 0).toNat % 128 * 2 ^ (7 * i)) := by
  rw [decG, dif_pos hi, if_pos h, if_pos hb]
theorem decG_no {s : List UInt8} {p i z : Nat} (hi : i < 9) (h : p + i < s.length) (hb : ¬ 128 ≤ (s.getD (p + i) 0).toNat)
    (hn : ((s.getD (p + i) 0).toNat = 0 ∧ 0 < i) ∨ unz (z + (s.getD (p + i) 0).toNat % 128 * 2 ^ (7 * i)) < -4611686018427387903) : decG s p i z = none := by
  rw [decG, dif_pos hi, if_pos h, if_neg hb, if_pos hn]
theorem decG_yes {s : List UInt8} {p i z : Nat} (hi : i < 9) (h : p + i < s.length) (hb : ¬ 128 ≤ (s.getD (p + i) 0).toNat)
    (hn : ¬ (((s.getD (p + i) 0).toNat = 0 ∧ 0 < i) ∨ unz (z + (s.getD (p + i) 0).toNat % 128 * 2 ^ (7 * i)) < -4611686018427387903)) : decG s p i z = some (z + (s.getD (p + i) 0).toNat % 128 * 2 ^ (7 * i), p + i + 1) := by
  rw [decG, dif_pos hi, if_pos h, if_neg hb, if_neg hn]
theorem decG_le {s : List UInt8} {p : Nat} : ∀ (k i z : Nat), 9 - i ≤ k → ∀ {x : Nat × Nat}, decG s p i z = some x → p < x.2 ∧ x.2 ≤ s.length
  | 0, i, z, hk, x, h => by
    rw [decG, dif_neg (by omega)] at h; cases h
  | k + 1, i, z, hk, x, h => by
    rw [decG] at h
    split at h
    · split at h
      · split at h
        · exact decG_le k (i + 1) _ (by omega) h
        · split at h
          · cases h
          · simp only [Option.some.injEq] at h
            subst h
            exact ⟨by show p < p + i + 1; omega, by show p + i + 1 ≤ _; omega⟩
      · cases h
    · cases h
def decI (s : List UInt8) (p : Nat) : Option (Nat × Nat) := decG s p 0 0
/-- A string that begins at p. -/
def decS (s : List UInt8) (p : Nat) : Option (List UInt8 × Nat) :=
  match decI s p with
  | none => none
  | some (z, q) => if unz z < 0 ∨ unz z > 65536 ∨ unz z > ((s.length : Nat) : Int) - (q : Int) then none else some ((s.drop q).take (unz z).toNat, q + (unz z).toNat)
theorem decS_le {s : List UInt8} {p : Nat} {r : List UInt8} {q : Nat} (h : decS s p = some (r, q)) : p < q ∧ q ≤ s.length ∧ r.length ≤ 65536 := by
  unfold decS at h
  cases hd : decI s p with
  | none => rw [hd] at h; cases h
  | some x =>
    obtain ⟨z, q0⟩ := x
    rw [hd] at h
    simp only at h
    have hq := decG_le 9 0 0 (by omega) hd
    simp only at hq
    split at h
    · cases h
    · rename_i hn
      simp only [Option.some.injEq, Prod.mk.injEq] at h
      obtain ⟨rfl, rfl⟩ := h
      rw [List.length_take]
      omega
/-- What is kept of a journal: its records, its head, how much it takes. -/
structure Tp where
  recs : List ByteArray
  head : ByteArray
  size : Nat
/-- A record as it is stored. -/
def outL (h r : ByteArray) : List UInt8 := 1 :: (putN r.size ++ r.data.toList ++ (chainS h r).data.toList)
def outB (h r : ByteArray) : ByteArray := ⟨(outL h r).toArray⟩
def Tp.add (t : Tp) (r : ByteArray) : Tp := ⟨t.recs ++ [r], chainS t.head r, t.size + (outL t.head r).length⟩
def mkBA (l : List UInt8) : ByteArray := ⟨l.toArray⟩
theorem outL_pos (h r : ByteArray) : 0 < (outL h r).length := by unfold outL; rw [List.length_cons]; omega
/-- A content that is read; none: it is damaged. -/
def loadF (s : List UInt8) (t : Tp) : Option Tp :=
  if _h : t.size < s.length ∧ s.getD t.size 0 ≠ 0 then
    if s.getD t.size 0 = 1 then
      match decS s (t.size + 1) with
      | none => none
      | some (r, q) => if q + 32 ≤ s.length ∧ outL t.head (mkBA r) = (s.drop t.size).take (q + 32 - t.size) then loadF s (t.add (mkBA r)) else none
    else none
  else some t
termination_by s.length - t.size
decreasing_by
  have := outL_pos t.head (mkBA r)
  show s.length - (t.size + (outL t.head (mkBA r)).length) < _
  omega
theorem loadF_end {s : List UInt8} {t : Tp} (h : ¬ (t.size < s.length ∧ s.getD t.size 0 ≠ 0)) : loadF s t = some t := by rw [loadF, dif_neg h]
theorem loadF_bad {s : List UInt8} {t : Tp} (h : t.size < s.length ∧ s.getD t.size 0 ≠ 0) (h1 : s.getD t.size 0 ≠ 1) : loadF s t = none := by rw [loadF, dif_pos h, if_neg h1]
theorem loadF_none {s : List UInt8} {t : Tp} (h : t.size < s.length ∧ s.getD t.size 0 ≠ 0) (hd : decS s (t.size + 1) = none) : loadF s t = none := by
  rw [loadF, dif_pos h]
  split
  · rw [hd]
  · rfl
theorem loadF_no {s : List UInt8} {t : Tp} {r : List UInt8} {q : Nat} (h : t.size < s.length ∧ s.getD t.size 0 ≠ 0) (hd : decS s (t.size + 1) = some (r, q))
    (hn : ¬ (q + 32 ≤ s.length ∧ outL t.head (mkBA r) = (s.drop t.size).take (q + 32 - t.size))) : loadF s t = none := by
  rw [loadF, dif_pos h]
  split
  · rw [hd]; simp only; rw [if_neg hn]
  · rfl
theorem loadF_step {s : List UInt8} {t : Tp} {r : List UInt8} {q : Nat} (h : t.size < s.length ∧ s.getD t.size 0 ≠ 0) (h1 : s.getD t.size 0 = 1) (hd : decS s (t.size + 1) = some (r, q))
    (hn : q + 32 ≤ s.length ∧ outL t.head (mkBA r) = (s.drop t.size).take (q + 32 - t.size)) : loadF s t = loadF s (t.add (mkBA r)) := by
  rw [loadF, dif_pos h, if_pos h1, hd]
  simp only
  rw [if_pos hn]
end Go.Sx
/- Plain, chapters 1 and 26: what was stored is read back. -/
namespace Go.Sx
open Go
theorem getD_drop {s r : List UInt8} {p : Nat} {b : UInt8} (h : s.drop p = b :: r) : p < s.length ∧ s.getD p 0 = b ∧ s.drop (p + 1) = r := by
  have h1 : p < s.length := by
    rcases Nat.lt_or_ge p s.length with h2 | h2
    · exact h2
    · rw [List.drop_of_length_le h2] at h; cases h
  rw [List.drop_eq_getElem_cons h1] at h
  injection h with h2 h3
  refine ⟨h1, ?_, h3⟩
  rw [List.getD_eq_getElem?_getD, List.getElem?_eq_getElem h1]
  exact h2
theorem drop_app {s a r : List UInt8} {p : Nat} (h : s.drop p = a ++ r) : s.drop (p + a.length) = r := by
  rw [← List.drop_drop, h, List.drop_left]
theorem drop_len {s a r : List UInt8} {p : Nat} (h : s.drop p = a ++ r) (ha : 0 < a.length) : s.length = p + a.length + r.length := by
  have := congrArg List.length h
  rw [List.length_drop, List.length_append] at this
  omega
theorem u8_nat {a : Nat} (h : a < 256) : (UInt8.ofNat a).toNat = a := by simp; omega
theorem decG_vint : ∀ (n v i z : Nat), v < 128 ^ (n + 1) → i + n < 9 → (0 < i → 0 < v) → ∀ {s rest : List UInt8} {p : Nat}, s.drop (p + i) = vint v ++ rest → 0 ≤ unz (z + v * 2 ^ (7 * i)) →
    decG s p i z = some (z + v * 2 ^ (7 * i), p + i + (vint v).length)
  | n, v, i, z, hv, hi, h0, s, rest, p, hs, hu => by
    by_cases h : v < 128
    · rw [vint_lt h] at hs ⊢
      obtain ⟨h1, h2, h3⟩ := getD_drop hs
      have h4 := u8_nat (show v < 256 by omega)
      have e : (s.getD (p + i) 0).toNat = v := by rw [h2, h4]
      have hmod : v % 128 = v := Nat.mod_eq_of_lt h
      rw [decG_yes (by omega) h1 (by omega) (by rw [e, hmod]; omega), e, hmod]; rfl
    · match n, hv, hi with
      | 0, hv, hi => omega
      | n + 1, hv, hi =>
        rw [vint_ge h] at hs ⊢
        obtain ⟨h1, h2, h3⟩ := getD_drop hs
        have h4 := u8_nat (show v % 128 + 128 < 256 by omega)
        have e : (s.getD (p + i) 0).toNat = v % 128 + 128 := by rw [h2, h4]
        have hmod : (v % 128 + 128) % 128 = v % 128 := by omega
        have hz : z + v % 128 * 2 ^ (7 * i) + v / 128 * 2 ^ (7 * (i + 1)) = z + v * 2 ^ (7 * i) := by
          have e2 : 2 ^ (7 * (i + 1)) = 128 * 2 ^ (7 * i) := by rw [Nat.mul_add, Nat.pow_add, Nat.mul_comm]
          rw [e2, Nat.add_assoc, ← Nat.mul_assoc, ← Nat.add_mul]
          congr 2
          omega
        rw [decG_on (by omega) h1 (by omega), e, hmod, decG_vint n (v / 128) (i + 1) _ (by rw [Nat.pow_succ] at hv; omega) (by omega) (by omega) h3 (by rw [hz]; exact hu), hz, List.length_cons]
        congr 2; omega
theorem unz_even (n : Nat) : unz (2 * n) = (n : Int) := by
  unfold unz
  rw [if_pos (by omega)]
  omega
theorem decI_putN {n : Nat} (hn : n ≤ 1099511627776) {s rest : List UInt8} {p : Nat} (h : s.drop p = putN n ++ rest) : decI s p = some (2 * n, p + (putN n).length) := by
  have := decG_vint 8 (2 * n) 0 0 (by omega) (by omega) (fun h => by omega) (s := s) (rest := rest) (p := p) h (by rw [Nat.mul_zero, Nat.pow_zero, Nat.mul_one, Nat.zero_add, unz_even]; omega)
  unfold decI
  rw [this, Nat.mul_zero, Nat.pow_zero, Nat.mul_one, Nat.zero_add]; rfl
theorem decS_putN {r : List UInt8} (hr : r.length ≤ 65536) {s rest : List UInt8} {p : Nat} (h : s.drop p = putN r.length ++ r ++ rest) : decS s p = some (r, p + (putN r.length).length + r.length) := by
  rw [List.append_assoc] at h
  have hd := decI_putN (by omega) h
  have h2 := drop_app h
  have hl := congrArg List.length h2
  rw [List.length_drop, List.length_append] at hl
  have hp : 0 < (putN r.length).length := by
    unfold putN; unfold vint; split <;> simp
  have hq := drop_len h hp
  rw [List.length_append] at hq
  unfold decS
  rw [hd]
  simp only [unz_even]
  rw [if_neg (by omega), h2, Int.toNat_natCast]
  simp
/-- Records as they are stored, behind one another. -/
def outsL (h : ByteArray) : List ByteArray → List UInt8
  | [] => []
  | r :: l => outL h r ++ outsL (chainS h r) l
def adds (t : Tp) (l : List ByteArray) : Tp := l.foldl Tp.add t
theorem adds_nil (t : Tp) : adds t [] = t := rfl
theorem adds_cons (t : Tp) (r : ByteArray) (l : List ByteArray) : adds t (r :: l) = adds (t.add r) l := rfl
theorem adds_app (t : Tp) (l m : List ByteArray) : adds t (l ++ m) = adds (adds t l) m := by unfold adds; rw [List.foldl_append]
theorem adds_recs : ∀ (l : List ByteArray) (t : Tp), (adds t l).recs = t.recs ++ l
  | [], t => by rw [adds_nil, List.append_nil]
  | r :: l, t => by
    rw [adds_cons, adds_recs l]
    show t.recs ++ [r] ++ l = _
    rw [List.append_assoc]; rfl
theorem adds_size : ∀ (l : List ByteArray) (t : Tp), (adds t l).size = t.size + (outsL t.head l).length
  | [], t => rfl
  | r :: l, t => by
    rw [adds_cons, adds_size l]
    show t.size + (outL t.head r).length + (outsL (chainS t.head r) l).length = t.size + (outL t.head r ++ outsL (chainS t.head r) l).length
    rw [List.length_append]; omega
theorem outsL_app : ∀ (l m : List ByteArray) (t : Tp), outsL t.head (l ++ m) = outsL t.head l ++ outsL (adds t l).head m
  | [], m, t => rfl
  | r :: l, m, t => by
    show outL t.head r ++ outsL (t.add r).head (l ++ m) = outL t.head r ++ outsL (t.add r).head l ++ _
    rw [outsL_app l m (t.add r), List.append_assoc]; rfl
theorem loadF_add {s rest : List UInt8} {t : Tp} {r : ByteArray} (hr : r.size ≤ 65536) (h : s.drop t.size = outL t.head r ++ rest) : loadF s t = loadF s (t.add r) := by
  have hrl : r.data.toList.length = r.size := by rw [Array.length_toList]; rfl
  have hcl : (chainS t.head r).data.toList.length = 32 := by rw [Array.length_toList]; exact chainS_size t.head r
  have hout : outL t.head r = 1 :: (putN r.size ++ r.data.toList ++ (chainS t.head r).data.toList) := rfl
  have hmk : mkBA r.data.toList = r := by cases r; rfl
  rw [hout, List.cons_append] at h
  obtain ⟨h1, h2, h3⟩ := getD_drop h
  have h3' : s.drop (t.size + 1) = putN r.data.toList.length ++ r.data.toList ++ ((chainS t.head r).data.toList ++ rest) := by rw [h3, hrl]; simp
  have hd := decS_putN (by omega) h3'
  have hpr : (putN r.data.toList.length).length = (putN r.size).length := by rw [hrl]
  have hlen := congrArg List.length h3
  simp only [List.length_drop, List.length_append] at hlen
  have hol : (outL t.head r).length = 1 + (putN r.size).length + r.size + 32 := by rw [hout]; simp only [List.length_cons, List.length_append]; omega
  have hstep := loadF_step (t := t) ⟨h1, by rw [h2]; decide⟩ h2 hd ⟨by omega, ?_⟩
  · rw [hmk] at hstep; exact hstep
  · rw [hmk, h, ← List.cons_append, ← hout, show t.size + 1 + (putN r.data.toList.length).length + r.data.toList.length + 32 - t.size = (outL t.head r).length from by rw [hol, hrl]; omega, List.take_left]
theorem loadF_adds : ∀ (l : List ByteArray) (t : Tp) {s rest : List UInt8}, (∀ r ∈ l, r.size ≤ 65536) → s.drop t.size = outsL t.head l ++ rest → loadF s t = loadF s (adds t l)
  | [], t, s, rest, _, _ => rfl
  | r :: l, t, s, rest, hr, h => by
    have h' : s.drop t.size = outL t.head r ++ (outsL (chainS t.head r) l ++ rest) := by rw [h]; simp [outsL]
    rw [loadF_add (hr r (List.mem_cons_self ..)) h', adds_cons]
    exact loadF_adds l (t.add r) (fun r h => hr r (List.mem_cons_of_mem _ h)) (drop_app h')
theorem loadF_zero {s : List UInt8} {t : Tp} {m : Nat} (h : s.drop t.size = List.replicate m 0) : loadF s t = some t := by
  refine loadF_end fun h1 => h1.2 ?_
  cases m with
  | zero =>
    have := congrArg List.length h
    rw [List.length_drop] at this
    simp at this
    omega
  | succ m =>
    rw [List.replicate_succ] at h
    exact (getD_drop h).2.1
/-- What was stored, and nothing behind it, is read back. -/
theorem loadF_all {l : List ByteArray} {t : Tp} {s : List UInt8} {m : Nat} (hr : ∀ r ∈ l, r.size ≤ 65536) (h : s.drop t.size = outsL t.head l ++ List.replicate m 0) : loadF s t = some (adds t l) := by
  rw [loadF_adds l t hr h]
  refine loadF_zero (m := m) ?_
  rw [adds_size]
  exact drop_app h
def isZero (l : List UInt8) : Bool := l.all (· == 0)
theorem isZero_rep {l : List UInt8} (h : isZero l = true) : l = List.replicate l.length 0 := by
  refine List.eq_replicate_iff.2 ⟨rfl, fun b hb => ?_⟩
  have := List.all_eq_true.1 h b hb
  simpa using this
theorem rep_isZero (m : Nat) : isZero (List.replicate m 0) = true := by
  refine List.all_eq_true.2 fun b hb => ?_
  rw [(List.mem_replicate.1 hb).2]; rfl
theorem dropWhile_zero {l : List UInt8} : l.dropWhile (· == 0) = [] ↔ isZero l = true := by
  induction l with
  | nil => exact ⟨fun _ => rfl, fun _ => rfl⟩
  | cons b l ih =>
    rw [List.dropWhile_cons]
    show _ ↔ ((b == 0) && isZero l) = true
    cases b == 0
    · simp
    · simpa using ih
theorem isZero_reverse (l : List UInt8) : isZero l.reverse = isZero l := by unfold isZero; rw [List.all_reverse]
theorem dropWhile_dropWhile_zero {l : List UInt8} : (l.reverse.dropWhile (· == 0)).reverse.dropWhile (· == 0) = [] ↔ isZero l = true := by
  rw [dropWhile_zero, isZero_reverse]
  constructor
  · intro h
    have e : l.reverse.dropWhile (· == 0) = [] := by
      cases hd : l.reverse.dropWhile (· == 0) with
      | nil => rfl
      | cons b m =>
        have hb : (b == 0) = false := by
          have := List.head?_dropWhile_not (p := (· == (0 : UInt8))) (l := l.reverse)
          rw [hd] at this
          simpa using this
        rw [hd] at h
        unfold isZero at h
        rw [List.all_cons, hb] at h
        cases h
    rw [← isZero_reverse]
    exact dropWhile_zero.1 e
  · intro h
    rw [← isZero_reverse] at h
    rw [dropWhile_zero.2 h]; rfl
end Go.Sx
/- Chapter 1: the encoding of a string: the walk. -/
namespace Go.Sx
open Go Go.Proofs Go.RowKit
theorem hwDW {G G2 : Prop} (x : G2) (hwq : Hold G2 → G := by
    intro hQq
    repeat' (first | apply HL.fold | apply HA.fold | apply HL.nil | apply HX.n_then | apply HC.seq | apply HC.region | refine HL.pa ?_ | refine HL.ga rfl ?_ | refine HL.na rfl ?_ | refine HL.nu rfl rfl ?_ | apply HC.block | apply HC.skip | apply HC.exit | apply HC.ret | apply HX.e_block | refine HX.e_other rfl ?_ | apply HX.e_then | apply HX.e_again | apply HX.n_block | apply HX.r_then | apply HX.r_block | apply HX.r_again | refine HC.cond_yes rfl ?_ | refine HC.cond_no rfl ?_ | refine HL.one (H1.ldb rfl memA rfl rfl ?_) | refine HC.cond rfl (fun hc => ?_) (fun hc => ?_) | refine HC.cond_b rfl (fun hc => ?_) (fun hc => ?_))
    exact hQq.get) : G := hwq ⟨x⟩
theorem strN_size {n : Nat} (h : n ≤ 1099511627776) : (strN n).size ≤ 9 := by
  show (putN n).length ≤ 9
  exact vint_len 8 (2 * n) (by omega)
attribute [local irreducible] WC WL WX POp Then Again Fn NX W1 WA WO QL RP RA Yld LoopAt HC HL HX HN H1 HA HO HQ HB HP A.blk A.grow A.rd A.obj A.mp AgainH CutH
theorem putString_fn (s : ByteArray) (hs : s.size ≤ 65536) (w : World) : Fn Tryz.prog 43 #[.string s] w fun v w' => v = .tuple #[.string (strN s.size ++ s), .int .i64 0] ∧ Ext w w' := by
  have hz := strN_size (n := s.size) (by omega)
  refine enterH (l := [_]) rfl Tryz.ntmps43 rfl ?_
  refine hwDW ?_
  refine HL.one (H1.callx (vs := [zv (s.size : Int)]) rfl rfl (fun w' _ => putInt_fn s.size (by omega) w') ?_)
  refine hwDW ?_
  exact HX.ret2 rfl rfl rfl fun w' hM => ⟨rfl, hM.ext⟩
end Go.Sx
/- Chapter 1: numbers and strings that are read back: the walks. -/
namespace Go.Sx
open Go Go.Proofs Go.RowKit
theorem bits_and_u8 (a b : Nat) (ha : a < 256) (hb : b < 256) : bits .and .u8 (a : Int) (b : Int) = ((a &&& b : Nat) : Int) := by
  show IntKind.u8.wrap (((BitVec.ofInt 8 a &&& BitVec.ofInt 8 b).toNat : Nat) : Int) = _
  have h1 : (BitVec.ofInt 8 (a : Int)).toNat = a := by simp; omega
  have h2 : (BitVec.ofInt 8 (b : Int)).toNat = b := by simp; omega
  have h3 : a &&& b < 256 := Nat.lt_of_le_of_lt Nat.and_le_left ha
  rw [BitVec.toNat_and, h1, h2]
  exact wrap_u8 (by omega) (by omega)
theorem POp.and8 {P : Program} {N : Nat} {ds : List Deferred} {E : Env} {t t' ty : TypeId} {x y : Operand} {m n : Int} {a b : Nat} (hx : Env.ev E x = some (.int .u8 m)) (hy : Env.ev E y = some (.int .u8 n)) (em : m = (a : Int)) (en : n = (b : Int)) (h1 : a < 256) (h2 : b < 256) :
    POp P N ds E (.binOp .and t x y t') ty (.int .u8 ((a &&& b : Nat) : Int)) := POp.bin hx hy guard_int fun w => by
  subst em; subst en
  rw [binOp_and, intBits_and, bits_and_u8 a b h1 h2]; rfl
theorem bits_zz {a : Nat} (ha : a < 9223372036854775808) : bits .xor .i64 (a : Int) (-1) = -(a : Int) - 1 := by
  show IntKind.i64.wrap (((BitVec.ofInt 64 a ^^^ BitVec.ofInt 64 (-1)).toNat : Nat) : Int) = _
  rw [show BitVec.ofInt 64 (-1) = BitVec.allOnes 64 from by decide, BitVec.xor_allOnes]
  have h1 : (BitVec.ofInt 64 (a : Int)).toNat = a := ofInt_toNat a (by omega)
  rw [BitVec.toNat_not, h1]
  simp [IntKind.wrap, IntKind.bits, IntKind.signed]
  omega
theorem POp.zz {P : Program} {N : Nat} {ds : List Deferred} {E : Env} {t t' ty : TypeId} {x y : Operand} {z : Nat} (hx : Env.ev E x = some (zv ((z / 2 : Nat) : Int))) (hy : Env.ev E y = some (zv (-((z % 2 : Nat) : Int)))) (hz : z < 18446744073709551616) :
    POp P N ds E (.binOp .xor t x y t') ty (zv (unz z)) := POp.bin hx hy guard_int fun w => by
  unfold unz
  by_cases h : z % 2 = 0
  · rw [if_pos h, h]
    have e : bits .xor .i64 ((z / 2 : Nat) : Int) (-((0 : Nat) : Int)) = ((z / 2 : Nat) : Int) := by
      have := bits_xor_nat (z / 2) 0 (by omega) (by omega)
      rw [Nat.xor_zero] at this
      exact this
    rw [binOp_xor, intBits_xor, e]; rfl
  · have h1 : z % 2 = 1 := by omega
    rw [if_neg h, h1]
    have e : bits .xor .i64 ((z / 2 : Nat) : Int) (-((1 : Nat) : Int)) = -((z / 2 : Nat) : Int) - 1 := bits_zz (by omega)
    rw [binOp_xor, intBits_xor, e]; rfl
theorem or_shl {z g k : Nat} (h : z < 2 ^ k) : z ||| (g <<< k) = z + g * 2 ^ k := by
  have e := Nat.two_pow_add_eq_or_of_lt (i := k) (b := z) h g
  rw [Nat.shiftLeft_eq, Nat.or_comm, Nat.mul_comm g, ← e, Nat.add_comm]
def intV : Option (Nat × Nat) → Value
  | some (z, q) => .tuple #[zv (unz z), zv (q : Int), zv 0]
  | none => .tuple #[zv 0, zv 0, zv 10]
def strV : Option (List UInt8 × Nat) → Value
  | some (r, q) => .tuple #[.string (mkBA r), zv (q : Int), zv 0]
  | none => .tuple #[.string (mkBA []), zv 0, zv 10]
theorem WX.ret3 {P : Program} {N : Nat} {E : Env} {w : World} {fn : Func} {t1 t2 t3 : Nat} {v1 v2 v3 : Value} {R : Value → World → Prop} (hr : fn.results = #[.tmp t1, .tmp t2, .tmp t3]) (h1 : Env.g E t1 = some v1) (h2 : Env.g E t2 = some v2) (h3 : Env.g E t3 = some v3) (h : R (.tuple #[v1, v2, v3]) w) :
    WX N [] .ret (bodyPost P fn (RetP R)) E w := fun a ha => by
  refine ⟨ha.defers, .tuple #[v1, v2, v3], ?_, ⟨_, rfl, h⟩⟩
  have e1 : a.tmps.getD t1 undef = v1 := by rw [Array.getD_eq_getD_getElem?, ha.get _ _ h1]; rfl
  have e2 : a.tmps.getD t2 undef = v2 := by rw [Array.getD_eq_getD_getElem?, ha.get _ _ h2]; rfl
  have e3 : a.tmps.getD t3 undef = v3 := by rw [Array.getD_eq_getD_getElem?, ha.get _ _ h3]; rfl
  have e1' : a.tmps[t1]?.getD undef = v1 := by simpa using e1
  have e2' : a.tmps[t2]?.getD undef = v2 := by simpa using e2
  have e3' : a.tmps[t3]?.getD undef = v3 := by simpa using e3
  simp [results, hr, e1', e2', e3']
attribute [local irreducible] WC WL WX POp Then Again Fn NX W1 WA WO QL RP RA Yld LoopAt HC HL HX HN H1 HA HO HQ HB HP A.blk A.grow A.rd A.obj A.mp AgainH CutH
attribute [local irreducible] unz
set_option maxHeartbeats 4000000 in
theorem int_fn (s : ByteArray) (p : Nat) (hp : p ≤ s.size) (hs : s.size ≤ 5000000) (w : World) : Fn Tryz.prog 161 #[.string s, zv (p : Int)] w fun v w' => v = intV (decI s.data.toList p) ∧ w = w' := by
  have hlen : s.data.toList.length = s.size := by rw [Array.length_toList]; rfl
  refine enter (l := [_, _]) rfl Tryz.ntmps161 rfl ?_
  repeat' (first | apply WL.fold | apply WA.fold | apply WL.nil | apply WX.n_then | apply WC.seq | apply WC.region | refine WL.pa ?_ | refine WL.ga rfl ?_ | refine WL.na rfl ?_ | refine WL.nu rfl rfl ?_ | apply WC.block | apply WC.skip | apply WC.exit | apply WC.ret | apply WX.e_block | refine WX.e_other rfl ?_ | apply WX.e_then | apply WX.e_again | apply WX.n_block | apply WX.r_then | apply WX.r_block | apply WX.r_again | refine WC.cond_yes rfl ?_ | refine WC.cond_no rfl ?_ | refine WC.cond rfl (fun hc => ?_) (fun hc => ?_) | refine WC.cond_b rfl (fun hc => ?_) (fun hc => ?_))
  refine WC.loop (α := Nat × Nat) (fun x => [(0, .string s), (1, zv (p : Int)), (7, .int .u64 (x.2 : Int)), (19, zv (x.1 : Int))])
    (fun x w' => w' = w ∧ x.1 ≤ 9 ∧ x.2 < 2 ^ (7 * x.1) ∧ decG s.data.toList p x.1 x.2 = decI s.data.toList p) (fun x => 9 - x.1) (0, 0) esA ⟨rfl, by omega, by decide, rfl⟩ ?_
  rintro ⟨i, z⟩ w' ⟨rfl, hi, hz, hd⟩
  dsimp only at hi hz hd ⊢
  by_cases hlt : i < 9
  · by_cases hin : p + i < s.size
    · have hin' : p + i < s.data.toList.length := by omega
      have hge : ¬ ((s.size : Int) ≤ (p : Int) + (i : Int)) := by omega
      obtain ⟨b, hb⟩ : ∃ b, b = (s.data.toList.getD (p + i) 0).toNat := ⟨_, rfl⟩
      have hbl : b < 256 := by rw [hb]; exact UInt8.toNat_lt _
      have hsb : sb s (p + i) = b := hb.symm
      have hpw : 2 ^ (7 * i) ≤ 2 ^ 56 := Nat.pow_le_pow_right (by decide) (by omega)
      have hmul : b % 128 * 2 ^ (7 * i) ≤ 127 * 2 ^ 56 := Nat.mul_le_mul (by omega) hpw
      have hand : b &&& 127 = b % 128 := Nat.and_two_pow_sub_one_eq_mod b 7
      have hor : z ||| (b % 128) <<< (7 * i) = z + b % 128 * 2 ^ (7 * i) := or_shl hz
      have hz2 : z + b % 128 * 2 ^ (7 * i) < 2 ^ (7 * (i + 1)) := by
        have e : 2 ^ (7 * (i + 1)) = 128 * 2 ^ (7 * i) := by rw [Nat.mul_add, Nat.pow_add, Nat.mul_comm]
        have h2 : b % 128 * 2 ^ (7 * i) ≤ 127 * 2 ^ (7 * i) := Nat.mul_le_mul_right _ (by omega)
        omega
      have hz3 : z + b % 128 * 2 ^ (7 * i) < 9223372036854775808 := by
        have h2 : 2 ^ (7 * (i + 1)) ≤ 2 ^ 63 := Nat.pow_le_pow_right (by decide) (by omega)
        omega
      have hshl : (b % 128) <<< (7 * i) < 18446744073709551616 := by rw [Nat.shiftLeft_eq]; omega
      have on := decG_on (s := s.data.toList) (p := p) (z := z) hlt hin'
      have no := decG_no (s := s.data.toList) (p := p) (z := z) hlt hin'
      have yes := decG_yes (s := s.data.toList) (p := p) (z := z) hlt hin'
      rw [← hb] at on no yes
      generalize hz' : z + b % 128 * 2 ^ (7 * i) = z' at hor hz2 hz3 on no yes
      repeat' (first | apply WL.fold | apply WA.fold | apply WL.nil | apply WX.n_then | apply WC.seq | apply WC.region | refine WL.pa ?_ | refine WL.ga rfl ?_ | refine WL.na rfl ?_ | refine WL.nu rfl rfl ?_ | apply WC.block | apply WC.skip | apply WC.exit | apply WC.ret | apply WX.e_block | refine WX.e_other rfl ?_ | apply WX.e_then | apply WX.e_again | apply WX.n_block | apply WX.r_then | apply WX.r_block | apply WX.r_again | refine WC.cond_yes rfl ?_ | refine WC.cond_no rfl ?_ | refine WC.cond rfl (fun hc => ?_) (fun hc => ?_) | refine WC.cond_b rfl (fun hc => ?_) (fun hc => ?_))
      rw [hsb]
      refine WL.pa ?_ (POp.and8 (a := b) (b := 127) rfl rfl rfl rfl hbl (by decide))
      rw [hand]
      repeat' (first | apply WL.fold | apply WA.fold | apply WL.nil | apply WX.n_then | apply WC.seq | apply WC.region | refine WL.pa ?_ | refine WL.ga rfl ?_ | refine WL.na rfl ?_ | refine WL.nu rfl rfl ?_ | apply WC.block | apply WC.skip | apply WC.exit | apply WC.ret | apply WX.e_block | refine WX.e_other rfl ?_ | apply WX.e_then | apply WX.e_again | apply WX.n_block | apply WX.r_then | apply WX.r_block | apply WX.r_again | refine WC.cond_yes rfl ?_ | refine WC.cond_no rfl ?_ | refine WC.cond rfl (fun hc => ?_) (fun hc => ?_) | refine WC.cond_b rfl (fun hc => ?_) (fun hc => ?_))
      refine WL.pa ?_ ((POp.conv (k' := .u64) rfl).of (v' := .int .u64 ((b % 128 : Nat) : Int)) (by rw [wrap_u64 (by omega)]))
      repeat' (first | apply WL.fold | apply WA.fold | apply WL.nil | apply WX.n_then | apply WC.seq | apply WC.region | refine WL.pa ?_ | refine WL.ga rfl ?_ | refine WL.na rfl ?_ | refine WL.nu rfl rfl ?_ | apply WC.block | apply WC.skip | apply WC.exit | apply WC.ret | apply WX.e_block | refine WX.e_other rfl ?_ | apply WX.e_then | apply WX.e_again | apply WX.n_block | apply WX.r_then | apply WX.r_block | apply WX.r_again | refine WC.cond_yes rfl ?_ | refine WC.cond_no rfl ?_ | refine WC.cond rfl (fun hc => ?_) (fun hc => ?_) | refine WC.cond_b rfl (fun hc => ?_) (fun hc => ?_))
      refine WL.pa ?_ (POp.shl64 (a := b % 128) (b := 7 * i) rfl rfl rfl (by omega) (by omega) hshl)
      repeat' (first | apply WL.fold | apply WA.fold | apply WL.nil | apply WX.n_then | apply WC.seq | apply WC.region | refine WL.pa ?_ | refine WL.ga rfl ?_ | refine WL.na rfl ?_ | refine WL.nu rfl rfl ?_ | apply WC.block | apply WC.skip | apply WC.exit | apply WC.ret | apply WX.e_block | refine WX.e_other rfl ?_ | apply WX.e_then | apply WX.e_again | apply WX.n_block | apply WX.r_then | apply WX.r_block | apply WX.r_again | refine WC.cond_yes rfl ?_ | refine WC.cond_no rfl ?_ | refine WC.cond rfl (fun hc => ?_) (fun hc => ?_) | refine WC.cond_b rfl (fun hc => ?_) (fun hc => ?_))
      refine WL.pa ?_ (POp.or64 (a := z) (b := (b % 128) <<< (7 * i)) rfl rfl rfl rfl (by omega) hshl)
      rw [hor]
      by_cases h128 : 128 ≤ b
      · have h128' : (128 : Int) ≤ (b : Int) := by omega
        repeat' (first | apply WL.fold | apply WA.fold | apply WL.nil | apply WX.n_then | apply WC.seq | apply WC.region | refine WL.pa ?_ | refine WL.ga rfl ?_ | refine WL.na rfl ?_ | refine WL.nu rfl rfl ?_ | apply WC.block | apply WC.skip | apply WC.exit | apply WC.ret | apply WX.e_block | refine WX.e_other rfl ?_ | apply WX.e_then | apply WX.e_again | apply WX.n_block | apply WX.r_then | apply WX.r_block | apply WX.r_again | refine WC.cond_yes rfl ?_ | refine WC.cond_no rfl ?_ | refine WC.cond rfl (fun hc => ?_) (fun hc => ?_) | refine WC.cond_b rfl (fun hc => ?_) (fun hc => ?_))
        exact WX.again (i + 1, z') ⟨rfl, hlt, hz2, by rw [← on h128]; exact hd⟩ (by show 9 - (i + 1) < 9 - i; omega) esA
      · have h128' : ¬ (128 : Int) ≤ (b : Int) := by omega
        have hand1 : z' &&& 1 = z' % 2 := Nat.and_two_pow_sub_one_eq_mod z' 1
        have hshr : z' >>> 1 = z' / 2 := Nat.shiftRight_eq_div_pow z' 1
        repeat' (first | apply WL.fold | apply WA.fold | apply WL.nil | apply WX.n_then | apply WC.seq | apply WC.region | refine WL.pa ?_ | refine WL.ga rfl ?_ | refine WL.na rfl ?_ | refine WL.nu rfl rfl ?_ | apply WC.block | apply WC.skip | apply WC.exit | apply WC.ret | apply WX.e_block | refine WX.e_other rfl ?_ | apply WX.e_then | apply WX.e_again | apply WX.n_block | apply WX.r_then | apply WX.r_block | apply WX.r_again | refine WC.cond_yes rfl ?_ | refine WC.cond_no rfl ?_ | refine WC.cond rfl (fun hc => ?_) (fun hc => ?_) | refine WC.cond_b rfl (fun hc => ?_) (fun hc => ?_))
        refine WL.pa ?_ (POp.shr64 (a := z') (b := 1) rfl rfl rfl rfl (by decide))
        rw [hshr]
        repeat' (first | apply WL.fold | apply WA.fold | apply WL.nil | apply WX.n_then | apply WC.seq | apply WC.region | refine WL.pa ?_ | refine WL.ga rfl ?_ | refine WL.na rfl ?_ | refine WL.nu rfl rfl ?_ | apply WC.block | apply WC.skip | apply WC.exit | apply WC.ret | apply WX.e_block | refine WX.e_other rfl ?_ | apply WX.e_then | apply WX.e_again | apply WX.n_block | apply WX.r_then | apply WX.r_block | apply WX.r_again | refine WC.cond_yes rfl ?_ | refine WC.cond_no rfl ?_ | refine WC.cond rfl (fun hc => ?_) (fun hc => ?_) | refine WC.cond_b rfl (fun hc => ?_) (fun hc => ?_))
        refine WL.pa ?_ (POp.and64 (a := z') (b := 1) rfl rfl rfl rfl (by omega) (by decide))
        rw [hand1]
        repeat' (first | apply WL.fold | apply WA.fold | apply WL.nil | apply WX.n_then | apply WC.seq | apply WC.region | refine WL.pa ?_ | refine WL.ga rfl ?_ | refine WL.na rfl ?_ | refine WL.nu rfl rfl ?_ | apply WC.block | apply WC.skip | apply WC.exit | apply WC.ret | apply WX.e_block | refine WX.e_other rfl ?_ | apply WX.e_then | apply WX.e_again | apply WX.n_block | apply WX.r_then | apply WX.r_block | apply WX.r_again | refine WC.cond_yes rfl ?_ | refine WC.cond_no rfl ?_ | refine WC.cond rfl (fun hc => ?_) (fun hc => ?_) | refine WC.cond_b rfl (fun hc => ?_) (fun hc => ?_))
        refine WL.pa ?_ (POp.zz (z := z') rfl rfl (by omega))
        by_cases hb0 : (b : Int) = 0
        · by_cases hi0 : (0 : Int) < (i : Int)
          · have hno := no h128 (.inl ⟨by omega, by omega⟩)
            repeat' (first | apply WL.fold | apply WA.fold | apply WL.nil | apply WX.n_then | apply WC.seq | apply WC.region | refine WL.pa ?_ | refine WL.ga rfl ?_ | refine WL.na rfl ?_ | refine WL.nu rfl rfl ?_ | apply WC.block | apply WC.skip | apply WC.exit | apply WC.ret | apply WX.e_block | refine WX.e_other rfl ?_ | apply WX.e_then | apply WX.e_again | apply WX.n_block | apply WX.r_then | apply WX.r_block | apply WX.r_again | refine WC.cond_yes rfl ?_ | refine WC.cond_no rfl ?_ | refine WC.cond rfl (fun hc => ?_) (fun hc => ?_) | refine WC.cond_b rfl (fun hc => ?_) (fun hc => ?_))
            exact WX.ret3 (P := Tryz.prog) rfl rfl rfl rfl ⟨by rw [← hd, hno]; rfl, rfl⟩
          · by_cases hu : unz z' < -4611686018427387903
            · have hno := no h128 (.inr hu)
              repeat' (first | apply WL.fold | apply WA.fold | apply WL.nil | apply WX.n_then | apply WC.seq | apply WC.region | refine WL.pa ?_ | refine WL.ga rfl ?_ | refine WL.na rfl ?_ | refine WL.nu rfl rfl ?_ | apply WC.block | apply WC.skip | apply WC.exit | apply WC.ret | apply WX.e_block | refine WX.e_other rfl ?_ | apply WX.e_then | apply WX.e_again | apply WX.n_block | apply WX.r_then | apply WX.r_block | apply WX.r_again | refine WC.cond_yes rfl ?_ | refine WC.cond_no rfl ?_ | refine WC.cond rfl (fun hc => ?_) (fun hc => ?_) | refine WC.cond_b rfl (fun hc => ?_) (fun hc => ?_))
              exact WX.ret3 (P := Tryz.prog) rfl rfl rfl rfl ⟨by rw [← hd, hno]; rfl, rfl⟩
            · have hyes := yes h128 (by omega)
              repeat' (first | apply WL.fold | apply WA.fold | apply WL.nil | apply WX.n_then | apply WC.seq | apply WC.region | refine WL.pa ?_ | refine WL.ga rfl ?_ | refine WL.na rfl ?_ | refine WL.nu rfl rfl ?_ | apply WC.block | apply WC.skip | apply WC.exit | apply WC.ret | apply WX.e_block | refine WX.e_other rfl ?_ | apply WX.e_then | apply WX.e_again | apply WX.n_block | apply WX.r_then | apply WX.r_block | apply WX.r_again | refine WC.cond_yes rfl ?_ | refine WC.cond_no rfl ?_ | refine WC.cond rfl (fun hc => ?_) (fun hc => ?_) | refine WC.cond_b rfl (fun hc => ?_) (fun hc => ?_))
              exact WX.ret3 (P := Tryz.prog) rfl rfl rfl rfl ⟨by rw [← hd, hyes]; rfl, rfl⟩
        · by_cases hu : unz z' < -4611686018427387903
          · have hno := no h128 (.inr hu)
            repeat' (first | apply WL.fold | apply WA.fold | apply WL.nil | apply WX.n_then | apply WC.seq | apply WC.region | refine WL.pa ?_ | refine WL.ga rfl ?_ | refine WL.na rfl ?_ | refine WL.nu rfl rfl ?_ | apply WC.block | apply WC.skip | apply WC.exit | apply WC.ret | apply WX.e_block | refine WX.e_other rfl ?_ | apply WX.e_then | apply WX.e_again | apply WX.n_block | apply WX.r_then | apply WX.r_block | apply WX.r_again | refine WC.cond_yes rfl ?_ | refine WC.cond_no rfl ?_ | refine WC.cond rfl (fun hc => ?_) (fun hc => ?_) | refine WC.cond_b rfl (fun hc => ?_) (fun hc => ?_))
            exact WX.ret3 (P := Tryz.prog) rfl rfl rfl rfl ⟨by rw [← hd, hno]; rfl, rfl⟩
          · have hyes := yes h128 (by omega)
            repeat' (first | apply WL.fold | apply WA.fold | apply WL.nil | apply WX.n_then | apply WC.seq | apply WC.region | refine WL.pa ?_ | refine WL.ga rfl ?_ | refine WL.na rfl ?_ | refine WL.nu rfl rfl ?_ | apply WC.block | apply WC.skip | apply WC.exit | apply WC.ret | apply WX.e_block | refine WX.e_other rfl ?_ | apply WX.e_then | apply WX.e_again | apply WX.n_block | apply WX.r_then | apply WX.r_block | apply WX.r_again | refine WC.cond_yes rfl ?_ | refine WC.cond_no rfl ?_ | refine WC.cond rfl (fun hc => ?_) (fun hc => ?_) | refine WC.cond_b rfl (fun hc => ?_) (fun hc => ?_))
            exact WX.ret3 (P := Tryz.prog) rfl rfl rfl rfl ⟨by rw [← hd, hyes]; rfl, rfl⟩
    · have hge : ((s.size : Int) ≤ (p : Int) + (i : Int)) := by omega
      have hno := decG_end (s := s.data.toList) (p := p) (i := i) (z := z) (by omega)
      repeat' (first | apply WL.fold | apply WA.fold | apply WL.nil | apply WX.n_then | apply WC.seq | apply WC.region | refine WL.pa ?_ | refine WL.ga rfl ?_ | refine WL.na rfl ?_ | refine WL.nu rfl rfl ?_ | apply WC.block | apply WC.skip | apply WC.exit | apply WC.ret | apply WX.e_block | refine WX.e_other rfl ?_ | apply WX.e_then | apply WX.e_again | apply WX.n_block | apply WX.r_then | apply WX.r_block | apply WX.r_again | refine WC.cond_yes rfl ?_ | refine WC.cond_no rfl ?_ | refine WC.cond rfl (fun hc => ?_) (fun hc => ?_) | refine WC.cond_b rfl (fun hc => ?_) (fun hc => ?_))
      exact WX.ret3 (P := Tryz.prog) rfl rfl rfl rfl ⟨by rw [← hd, hno]; rfl, rfl⟩
  · obtain rfl : i = 9 := by omega
    have hno := decG_9 s.data.toList p z
    repeat' (first | apply WL.fold | apply WA.fold | apply WL.nil | apply WX.n_then | apply WC.seq | apply WC.region | refine WL.pa ?_ | refine WL.ga rfl ?_ | refine WL.na rfl ?_ | refine WL.nu rfl rfl ?_ | apply WC.block | apply WC.skip | apply WC.exit | apply WC.ret | apply WX.e_block | refine WX.e_other rfl ?_ | apply WX.e_then | apply WX.e_again | apply WX.n_block | apply WX.r_then | apply WX.r_block | apply WX.r_again | refine WC.cond_yes rfl ?_ | refine WC.cond_no rfl ?_ | refine WC.cond rfl (fun hc => ?_) (fun hc => ?_) | refine WC.cond_b rfl (fun hc => ?_) (fun hc => ?_))
    exact WX.ret3 (P := Tryz.prog) rfl rfl rfl rfl ⟨by rw [← hd, hno]; rfl, rfl⟩
end Go.Sx
/- Chapter 1: a string that is read back: the walk. -/
namespace Go.Sx
open Go Go.Proofs Go.RowKit
theorem ba_ext {s t : ByteArray} (h : s.data.toList = t.data.toList) : s = t := by
  cases s; cases t
  congr 1
  exact Array.toList_inj.1 h
theorem extract_L (s : ByteArray) (a b : Nat) : (s.extract a b).data.toList = (s.data.toList.drop a).take (b - a) := by
  rw [ByteArray.data_extract, Array.toList_extract]
theorem extract_mk (s : ByteArray) (a b : Nat) : s.extract a b = mkBA ((s.data.toList.drop a).take (b - a)) := ba_ext (by rw [extract_L]; rfl)
attribute [local irreducible] WC WL WX POp Then Again Fn NX W1 WA WO QL RP RA Yld LoopAt HC HL HX HN H1 HA HO HQ HB HP A.blk A.grow A.rd A.obj A.mp AgainH CutH
attribute [local irreducible] unz
set_option maxHeartbeats 2000000 in
theorem string_fn (s : ByteArray) (p : Nat) (hp : p ≤ s.size) (hs : s.size ≤ 5000000) (w : World) : Fn Tryz.prog 162 #[.string s, zv (p : Int)] w fun v w' => v = strV (decS s.data.toList p) ∧ w = w' := by
  have hlen : s.data.toList.length = s.size := by rw [Array.length_toList]; rfl
  have hint := int_fn s p hp hs w
  refine enter (l := [_, _]) rfl Tryz.ntmps162 rfl ?_
  unfold decS
  cases hd : decI s.data.toList p with
  | none =>
    rw [hd] at hint
    repeat' (first | apply WL.fold | apply WA.fold | apply WL.nil | apply WX.n_then | apply WC.seq | apply WC.region | refine WL.pa ?_ | refine WL.ga rfl ?_ | refine WL.na rfl ?_ | refine WL.nu rfl rfl ?_ | apply WC.block | apply WC.skip | apply WC.exit | apply WC.ret | apply WX.e_block | refine WX.e_other rfl ?_ | apply WX.e_then | apply WX.e_again | apply WX.n_block | apply WX.r_then | apply WX.r_block | apply WX.r_again | refine WC.cond_yes rfl ?_ | refine WC.cond_no rfl ?_ | refine WC.cond rfl (fun hc => ?_) (fun hc => ?_) | refine WC.cond_b rfl (fun hc => ?_) (fun hc => ?_))
    refine WL.call rfl rfl hint ?_
    rintro v w' ⟨rfl, rfl⟩
    unfold intV
    repeat' (first | apply WL.fold | apply WA.fold | apply WL.nil | apply WX.n_then | apply WC.seq | apply WC.region | refine WL.pa ?_ | refine WL.ga rfl ?_ | refine WL.na rfl ?_ | refine WL.nu rfl rfl ?_ | apply WC.block | apply WC.skip | apply WC.exit | apply WC.ret | apply WX.e_block | refine WX.e_other rfl ?_ | apply WX.e_then | apply WX.e_again | apply WX.n_block | apply WX.r_then | apply WX.r_block | apply WX.r_again | refine WC.cond_yes rfl ?_ | refine WC.cond_no rfl ?_ | refine WC.cond rfl (fun hc => ?_) (fun hc => ?_) | refine WC.cond_b rfl (fun hc => ?_) (fun hc => ?_))
    exact WX.ret3 (P := Tryz.prog) rfl rfl rfl rfl ⟨rfl, rfl⟩
  | some x =>
    obtain ⟨z, q⟩ := x
    rw [hd] at hint
    have hq := decG_le 9 0 0 (by omega) hd
    simp only at hq
    rw [hlen] at hq ⊢
    dsimp only
    repeat' (first | apply WL.fold | apply WA.fold | apply WL.nil | apply WX.n_then | apply WC.seq | apply WC.region | refine WL.pa ?_ | refine WL.ga rfl ?_ | refine WL.na rfl ?_ | refine WL.nu rfl rfl ?_ | apply WC.block | apply WC.skip | apply WC.exit | apply WC.ret | apply WX.e_block | refine WX.e_other rfl ?_ | apply WX.e_then | apply WX.e_again | apply WX.n_block | apply WX.r_then | apply WX.r_block | apply WX.r_again | refine WC.cond_yes rfl ?_ | refine WC.cond_no rfl ?_ | refine WC.cond rfl (fun hc => ?_) (fun hc => ?_) | refine WC.cond_b rfl (fun hc => ?_) (fun hc => ?_))
    refine WL.call rfl rfl hint ?_
    rintro v w' ⟨rfl, rfl⟩
    unfold intV
    obtain ⟨u, hu⟩ : ∃ u, u = unz z := ⟨_, rfl⟩
    rw [← hu]
    by_cases h1 : u < 0
    · rw [if_pos (.inl h1)]
      repeat' (first | apply WL.fold | apply WA.fold | apply WL.nil | apply WX.n_then | apply WC.seq | apply WC.region | refine WL.pa ?_ | refine WL.ga rfl ?_ | refine WL.na rfl ?_ | refine WL.nu rfl rfl ?_ | apply WC.block | apply WC.skip | apply WC.exit | apply WC.ret | apply WX.e_block | refine WX.e_other rfl ?_ | apply WX.e_then | apply WX.e_again | apply WX.n_block | apply WX.r_then | apply WX.r_block | apply WX.r_again | refine WC.cond_yes rfl ?_ | refine WC.cond_no rfl ?_ | refine WC.cond rfl (fun hc => ?_) (fun hc => ?_) | refine WC.cond_b rfl (fun hc => ?_) (fun hc => ?_))
      exact WX.ret3 (P := Tryz.prog) rfl rfl rfl rfl ⟨rfl, rfl⟩
    · by_cases h2 : u > 65536
      · rw [if_pos (.inr (.inl h2))]
        repeat' (first | apply WL.fold | apply WA.fold | apply WL.nil | apply WX.n_then | apply WC.seq | apply WC.region | refine WL.pa ?_ | refine WL.ga rfl ?_ | refine WL.na rfl ?_ | refine WL.nu rfl rfl ?_ | apply WC.block | apply WC.skip | apply WC.exit | apply WC.ret | apply WX.e_block | refine WX.e_other rfl ?_ | apply WX.e_then | apply WX.e_again | apply WX.n_block | apply WX.r_then | apply WX.r_block | apply WX.r_again | refine WC.cond_yes rfl ?_ | refine WC.cond_no rfl ?_ | refine WC.cond rfl (fun hc => ?_) (fun hc => ?_) | refine WC.cond_b rfl (fun hc => ?_) (fun hc => ?_))
        exact WX.ret3 (P := Tryz.prog) rfl rfl rfl rfl ⟨rfl, rfl⟩
      · by_cases h3 : u > (s.size : Int) - (q : Int)
        · rw [if_pos (.inr (.inr h3))]
          repeat' (first | apply WL.fold | apply WA.fold | apply WL.nil | apply WX.n_then | apply WC.seq | apply WC.region | refine WL.pa ?_ | refine WL.ga rfl ?_ | refine WL.na rfl ?_ | refine WL.nu rfl rfl ?_ | apply WC.block | apply WC.skip | apply WC.exit | apply WC.ret | apply WX.e_block | refine WX.e_other rfl ?_ | apply WX.e_then | apply WX.e_again | apply WX.n_block | apply WX.r_then | apply WX.r_block | apply WX.r_again | refine WC.cond_yes rfl ?_ | refine WC.cond_no rfl ?_ | refine WC.cond rfl (fun hc => ?_) (fun hc => ?_) | refine WC.cond_b rfl (fun hc => ?_) (fun hc => ?_))
          exact WX.ret3 (P := Tryz.prog) rfl rfl rfl rfl ⟨rfl, rfl⟩
        · rw [if_neg (by omega)]
          obtain ⟨n, rfl⟩ := Int.eq_ofNat_of_zero_le (show 0 ≤ u by omega)
          have e1 : ((q : Int) + (n : Int)).toNat = q + n := by omega
          have e2 := extract_mk s q (q + n)
          rw [show q + n - q = n from by omega] at e2
          repeat' (first | apply WL.fold | apply WA.fold | apply WL.nil | apply WX.n_then | apply WC.seq | apply WC.region | refine WL.pa ?_ | refine WL.ga rfl ?_ | refine WL.na rfl ?_ | refine WL.nu rfl rfl ?_ | apply WC.block | apply WC.skip | apply WC.exit | apply WC.ret | apply WX.e_block | refine WX.e_other rfl ?_ | apply WX.e_then | apply WX.e_again | apply WX.n_block | apply WX.r_then | apply WX.r_block | apply WX.r_again | refine WC.cond_yes rfl ?_ | refine WC.cond_no rfl ?_ | refine WC.cond rfl (fun hc => ?_) (fun hc => ?_) | refine WC.cond_b rfl (fun hc => ?_) (fun hc => ?_))
          refine WX.ret3 (P := Tryz.prog) rfl rfl rfl rfl ⟨?_, rfl⟩
          rw [← hu, e1, Int.toNat_natCast, Int.toNat_natCast, e2]
          rfl
end Go.Sx
