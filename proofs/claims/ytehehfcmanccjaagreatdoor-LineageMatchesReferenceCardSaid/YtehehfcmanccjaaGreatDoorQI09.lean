/- Chapter 24: Delete: the walk. -/
import Derived.Test.YtehehfcmanccjaaGreatDoorQI08
namespace Go.Sx
open Go Go.Proofs Go.RowKit
section
variable {P : Program} {r : Option Nat} {N : Nat} {ds : List Deferred} {ol rest : List Oper} {Q : Post} {E : Env} {w0 : World} {H : List Atom} {d : Nat} {t ty : TypeId} {pos : String} {af : Array Edge} {x : Operand}
theorem HQ.ldAgg {b off : Nat} {vs : List Value} {z : Value} {n bb : Nat} [ha : ATy P t true] [hi : ITy P t z n bb] (hx : Env.ev E x = some (.pointer (some ⟨b, off, none⟩))) (hn : vs.length = n)
  (hc : ∀ w, Mm w0 H w → ∀ i v, vs[i]? = some v → w.cell? ⟨b, off + i, none⟩ = some v) (hd : Nat.blt d N = true) (h : HQ P r N ds ol rest Q ((d, .agg vs.toArray) :: E) w0 H) :
  HQ P r N ds ol (⟨some d, .load t x, ty, pos, af, none⟩ :: rest) Q E w0 H := fun w hM => QL.step hd (fun b' hb w' hw' => by
  have hc' := run_loadVarAgg (P := P) (w := w') (t := t) (b := b) (off := off) hn fun i v hv => hc w' (hM.more hw') i v hv
  have : (execOp b'.eval ⟨some d, .load t x, ty, pos, af, none⟩).run P w' = .ok (.value (.agg vs.toArray)) w' := by
   simp only [execOp, hb.ev hx, Instr.loadAt, Instr.sureAddr, Sem.run_bind, Sem.run_pure]
   simp [hc', Result.andThen]
  unfold Oper.quietAtIn; rw [this]; exact ⟨rfl, rfl⟩) (h w hM)
end
section
variable {P : Program} {r : Option Nat} {N : Nat} {ds : List Deferred} {Q : Post} {E : Env} {w0 : World} {H : List Atom} {next : Act → World → Prop} {g : Option (Nat × Bool)} {d : Nat} {t ty : TypeId} {pos : String} {af : Array Edge} {x : Operand}
theorem H1.setlen {b : Nat} {k e : TypeId} {m : List Int} [ht : UTy P t (.map k e)] (hx : Env.ev E x = some (.map (some b))) (hm : ∀ w, Mm w0 H w → SetW w b m) (hd : Nat.blt d N = true)
  (h : HN N ds next ((d, .int .i64 (m.length : Int)) :: E) w0 H) : H1 P r N ds next ⟨some d, .call ⟨.builtin .len, #[x], #[t]⟩, ty, pos, af, g⟩ Q E w0 H := fun w hM => by
 obtain ⟨o, hb, es, clk, rfl, hes⟩ := hm w hM
 have hlen : es.size = m.length := by have := congrArg List.length hes.ents; simpa [liftS] using this
 refine W1.run (v := .int .i64 (m.length : Int)) (w' := w) (fun a ha => ?_) rfl hd (h w hM)
 simp [execOp, ha.ev hx, resolve, invoke, Go.builtin, Builtin.len_, run_underlying ht.is, run_getMap hb, goInt, Sem.run_bind, Result.andThen, hlen]
end
def ordF (L : List Rc) (o : Int) : Option Rc := L.find? fun r => decide (r.id = o)
def heldN (B : Nat → List Rc) (d : Int) (n : Nd) : Bool := decide (0 < (heldL (B 4) (B 5) n.pack d).length)
def delQ (B : Nat → List Rc) (l : List Nd) (D : List ByteArray) (o d : Int) : Option Int :=
 match ordF (B 7) o with
 | none => none
 | some r => if okS l D = true ∧ r.start ≤ d ∧ 0 ≤ d ∧ d ≤ 100000 ∧ goneL l r.pack ≠ [] ∧ ¬ (ndsP (prN l D (goneL l r.pack) true)).any (heldN B d) = true then some r.pack else none
theorem take_find {l : List Rc} {p : Rc → Bool} {j : Nat} {r : Rc} (h : (l.take j).any p = false) (hr : l[j]? = some r) (hp : p r = true) : l.find? p = some r := by
 rw [List.find?_eq_some_iff_append]
 have hlt := (List.getElem?_eq_some_iff.1 hr).1
 refine ⟨hp, l.take j, l.drop (j + 1), ?_, fun a ha => ?_⟩
 ·rw [← (List.getElem?_eq_some_iff.1 hr).2, ← List.drop_eq_getElem_cons hlt, List.take_append_drop]
 ·have := List.any_eq_false.1 h a ha
  simpa using this
attribute [local irreducible] WC WL WX POp Then Again Fn NX W1 WA WO QL RP RA Yld LoopAt HC HL HX HN H1 HA HO HQ HB HP A.blk A.grow A.rd A.obj A.mp AgainH CutH
attribute [local irreducible] A.mq A.mit A.all
theorem indexR_fn (a : Option Addr) (c : Nat) (l : List Rc) (p : Rc → Bool) (fv : Value) (hl : l.length ≤ 1000000) (w : World) (hR : RdR w (.slice a l.length c) l) (hp : Pr Tryz.prog w fv l p) :
  Fn Tryz.prog 50 #[.slice a l.length c, fv] w fun v w' => ∃ k : Int, ((k = -1 ∧ l.find? p = none) ∨ ∃ (j : Nat) (r : Rc), k = (j : Int) ∧ l[j]? = some r ∧ l.find? p = some r) ∧ v = zv k ∧ Ext w w' := by
 refine enterH (l := [_, _]) rfl Tryz.ntmps50 rfl ?_
 refine hwNB ?_
 refine HC.loop (α := Nat) (fun j => [(0, .slice a l.length c), (1, fv), (7, zv (l.length : Int)), (8, zv (j : Int))]) (fun _ => []) (fun j => j ≤ l.length ∧ (l.take j).any p = false) (fun j => l.length - j) 0 ⟨Nat.zero_le _, rfl⟩ esA (Hs.refl _) ?_
 rintro j ⟨hj, hI⟩
 by_cases hlt : j < l.length
 ·obtain ⟨r, hr⟩ : ∃ r, l[j]? = some r := ⟨_, List.getElem?_eq_getElem hlt⟩
  have hrm := List.mem_of_getElem? hr
  have htk : l.take (j + 1) = l.take j ++ [r] := by rw [List.take_add_one, hr]; rfl
  obtain ⟨bl, off, rfl, -, hcell⟩ := hR.at (fun e => by rw [e] at hlt; exact absurd hlt (Nat.not_lt_zero _))
  have hcl := hcell j r hr
  clear hcell
  refine hwNB ?_
  refine HL.one (H1.ldAggw (vs := rcells r) rfl rfl (fun w' hM i v hv => cell_ext hM.ext (hcl i v hv)) rfl ?_)
  refine hwNB ?_
  refine HL.one (H1.callpr (y := .tmp 15) (fun w' hM => hp.ext hM.ext) hrm rfl rfl rfl ?_)
  cases hpr : p r
  ·refine hwNB ?_
   exact HX.again (j + 1) ⟨hlt, by rw [htk, List.any_append, hI]; simp [hpr]⟩ (by omega) esA (Hs.refl _)
  ·refine hwNB ?_
   exact HX.ret1 rfl rfl fun w' hM => ⟨j, .inr ⟨j, r, rfl, hr, take_find hI hr hpr⟩, rfl, hM.ext⟩
 obtain rfl : j = l.length := by omega
 rw [List.take_length] at hI
 refine hwNB ?_
 exact HX.ret1 rfl rfl fun w' hM => ⟨-1, .inl ⟨rfl, List.find?_eq_none.2 fun x hx => by simpa using List.any_eq_false.1 hI x hx⟩, rfl, hM.ext⟩
theorem del1_fn (r : Rc) (b : Nat) (o : Int) (w : World) (hb : w.cell? ⟨b, 0, none⟩ = some (zv o)) :
  Fn Tryz.prog 51 #[recV r, .pointer (some ⟨b, 0, none⟩)] w fun u w' => u = .bool (decide (r.id = o)) ∧ Ext w w' := by
 refine enterH (l := [_, _]) rfl Tryz.ntmps51 rfl ?_
 refine hwNB ?_
 refine HL.one (H1.boxAgg (cs := rcells r) rfl rfl (fun b2 => ?_))
 refine hwNB ?_
 refine HL.one (H1.ld0 rfl hb rfl ?_)
 refine hwNB ?_
 exact HX.ret1 rfl rfl fun w' hM => ⟨rfl, hM.ext⟩
theorem del2_fn (n : Nd) (v : Value) (b : Nat) (pk : Int) (w : World) (hb : w.cell? ⟨b, 0, none⟩ = some (zv pk)) :
  Fn Tryz.prog 52 #[ndV n v, .pointer (some ⟨b, 0, none⟩)] w fun u w' => u = .bool (decide (n.pack = pk)) ∧ Ext w w' := by
 refine enterH (l := [_, _]) rfl Tryz.ntmps52 rfl ?_
 unfold ndV
 refine hwNB ?_
 refine HL.one (H1.boxAgg (cs := [zv n.id, zv n.kind, zv n.pack, v]) rfl rfl (fun b2 => ?_))
 refine hwNB ?_
 refine HL.one (H1.ld0 rfl hb rfl ?_)
 refine hwNB ?_
 exact HX.ret1 rfl rfl fun w' hM => ⟨rfl, hM.ext⟩
theorem del3_fn {B : Nat → List Rc} {s : Nat → Value} (n : Nd) (v : Value) (b5 b9 : Nat) (d : Int) (w : World) (h5 : ∀ i v, (row 8 s)[i]? = some v → w.cell? ⟨b5, i, none⟩ = some v) (h9 : w.cell? ⟨b9, 0, none⟩ = some (zv d)) (hB : BaseV w (.agg (row 8 s).toArray) B) (hl : (B 4).length ≤ 1000000) (hl5 : (B 5).length ≤ 1000000) :
  Fn Tryz.prog 54 #[ndV n v, .pointer (some ⟨b5, 0, none⟩), .pointer (some ⟨b9, 0, none⟩)] w fun u w' => u = .bool (heldN B d n) ∧ Ext w w' := by
 refine enterH (l := [_, _, _]) rfl Tryz.ntmps54 rfl ?_
 unfold ndV
 refine hwNB ?_
 refine HL.one (H1.boxAgg (cs := [zv n.id, zv n.kind, zv n.pack, v]) rfl rfl (fun b2 => ?_))
 refine hwNB ?_
 refine HL.one (H1.ldAggw (vs := row 8 s) rfl rfl (fun w' hM i v hv => cell_ext hM.ext (by rw [Nat.zero_add]; exact h5 i v hv)) rfl ?_)
 refine hwNB ?_
 refine HL.one (H1.ld0 rfl h9 rfl ?_)
 refine hwNB ?_
 refine HL.one (H1.callz (α := Option Addr × Nat) (V := fun z => .slice z.1 (heldL (B 4) (B 5) n.pack d).length z.2) (Hn := fun z => [A.grow 3 1 z.1 z.2 (heldL (B 4) (B 5) n.pack d).length (ints (heldL (B 4) (B 5) n.pack d))]) (I := fun _ => True) (vs := [_, _, _]) rfl rfl (fun w' hM => Held_fn n.pack d w' (hB.ext hM.ext) hl hl5) ?_)
 rintro ⟨az, cz⟩ -
 refine hwNB ?_
 exact HX.ret1 rfl rfl fun w' hM => ⟨by unfold heldN; simp, hM.ext⟩
def tomb0 : List Value := [zv 0, zv 0, .string ⟨#[]⟩, .string ⟨#[]⟩, .slice none 0 0, .slice none 0 0]
def delNo : Value := .tuple #[.slice none 0 0, .slice none 0 0, .agg tomb0.toArray, zv 240]
structure DelZ where
 left : List NdZ
 a1 : Option Addr
 c1 : Nat
 a2 : Option Addr
 c2 : Nat
 ai : Option Addr
 ci : Nat
 ad : Option Addr
 cd : Nat
def tombV (o d : Int) (l : List Nd) (D : List ByteArray) (pk : Int) (z : DelZ) : List Value :=
 [zv o, zv d, .string (rootP (l.zip D)), .string (rootP (prN l D (goneL l pk) false)), .slice z.ai (goneL l pk).length z.ci, .slice z.ad (goneL l pk).length z.cd]
def delYes (o d : Int) (l : List Nd) (D : List ByteArray) (pk : Int) (z : DelZ) : Value := .tuple #[.slice z.a1 z.left.length z.c1, .slice z.a2 z.left.length z.c2, .agg (tombV o d l D pk z).toArray, zv 0]
def delH (l : List Nd) (D : List ByteArray) (pk : Int) (z : DelZ) : List Atom :=
 [A.grow 31 4 z.a1 z.c1 z.left.length (ndsV z.left), A.grow 9 1 z.a2 z.c2 z.left.length (strs (digP (prN l D (goneL l pk) false))), A.all (rowsA z.left), A.grow 3 1 z.ai z.ci (goneL l pk).length (ints (srtI (goneL l pk))), A.grow 9 1 z.ad z.cd (goneL l pk).length (strs (digP (prN l D (goneL l pk) true)))]
theorem any_ids {l : List Nd} (f : Nd → Bool) : anyN l.length (fun i => f (ndAt l i)) = l.any f := by
 rw [Bool.eq_iff_iff]
 unfold anyN
 rw [List.any_eq_true, List.any_eq_true]
 constructor
 ·rintro ⟨i, hi, h⟩
  exact ⟨_, mem_nd.2 ⟨i, List.mem_range.1 hi, rfl⟩, h⟩
 ·rintro ⟨n, hn, h⟩
  obtain ⟨i, hi, rfl⟩ := mem_nd.1 hn
  exact ⟨i, List.mem_range.2 hi, h⟩
theorem delQ_no {B : Nat → List Rc} {l : List Nd} {D : List ByteArray} {o d : Int} (h : ¬ (okS l D = true ∧ ∃ r, ordF (B 7) o = some r ∧ r.start ≤ d ∧ 0 ≤ d ∧ d ≤ 100000)) : delQ B l D o d = none := by
 unfold delQ
 split
 ·rfl
 ·rename_i r hr
  rw [if_neg fun h2 => h ⟨h2.1, r, hr, h2.2.1, h2.2.2.1, h2.2.2.2.1⟩]
theorem delQ_in {B : Nat → List Rc} {l : List Nd} {D : List ByteArray} {o d : Int} {r : Rc} (h0 : okS l D = true) (h1 : ordF (B 7) o = some r) (h2 : r.start ≤ d) (h3 : 0 ≤ d) (h4 : d ≤ 100000) : delQ B l D o d = if goneL l r.pack ≠ [] ∧ ¬ (ndsP (prN l D (goneL l r.pack) true)).any (heldN B d) = true then some r.pack else none := by
 unfold delQ
 rw [h1]
 dsimp only
 by_cases h : goneL l r.pack ≠ [] ∧ ¬ (ndsP (prN l D (goneL l r.pack) true)).any (heldN B d) = true
 ·rw [if_pos h, if_pos ⟨h0, h2, h3, h4, h.1, h.2⟩]
 ·rw [if_neg h, if_neg fun hh => h ⟨hh.2.2.2.2.1, hh.2.2.2.2.2⟩]
set_option maxHeartbeats 8000000 in
theorem delete_fn {vb v g : Value} {B : Nat → List Rc} {l : List Nd} {D : List ByteArray} {U : Nat → Value} (o d : Int) (hl : l.length ≤ 400000) (hls : ∀ i, i < l.length → (ndAt l i).src.length ≤ 1000000) (hD : D.length ≤ 1000000) (hDs : ∀ d ∈ D, d.size ≤ 1000) (hB7 : (B 7).length ≤ 1000000) (hB4 : (B 4).length ≤ 1000000) (hB5 : (B 5).length ≤ 1000000) (w : World) (hG : RoundG w) (hB : BaseV w vb B) (hR : RdN w v l U) (hS : Rd w g (strs D)) :
  Fn Tryz.prog 22 #[vb, v, g, zv o, zv d] w fun u w' => (delQ B l D o d = none ∧ u = delNo ∧ Ext w w') ∨ ∃ pk, delQ B l D o d = some pk ∧ ∃ z : DelZ, ndsZ z.left = ndsP (prN l D (goneL l pk) false) ∧ u = delYes o d l D pk z ∧ Mm w (delH l D pk z) w' := by
 obtain ⟨s, rfl, hs⟩ := id hB
 obtain ⟨a, c, rfl, hc, -⟩ := id hR.shape
 obtain ⟨a2, c2, rfl, hc2⟩ : ∃ a c, g = .slice a D.length c ∧ D.length ≤ c := by
  obtain ⟨a, c, h1, h2, -⟩ := id hS
  rw [strs_len] at h1 h2
  exact ⟨a, c, h1, h2⟩
 have h7 := hs 7 (by decide)
 obtain ⟨a7, c7, e7, -⟩ := h7.shape
 have h7' : RdR w (.slice a7 (B 7).length c7) (B 7) := by rw [← e7]; exact h7
 have hS14 : ∀ {i : Nat} {u : Value}, [Value.slice a l.length c, .slice a2 D.length c2][i]? = some u → [Value.slice a l.length c, .slice a2 D.length c2][0 + i]? = some u := fun {i u} h => by rwa [Nat.zero_add]
 refine enterH (l := [_, _, _, _, _]) rfl Tryz.ntmps22 rfl ?_
 refine hwNB ?_
 refine HL.one (H1.boxAgg (cs := row 8 s) rfl rfl (fun b5 => ?_))
 refine hwNB ?_
 refine HL.one (H1.box rfl rfl rfl (fun b8 => ?_))
 refine hwNB ?_
 refine HL.one (H1.box rfl rfl rfl (fun b9 => ?_))
 refine hwNB ?_
 refine HL.one (H1.alloc (cs := tomb0) rfl rfl (fun b12 => ?_))
 refine hwNB ?_
 refine HL.build (cs := [.slice a l.length c, .slice a2 D.length c2]) rfl rfl rfl ?_
 refine hwNB ?_
 refine HL.one (H1.alloc (cs := [.slice none 0 0, .slice none 0 0]) rfl rfl (fun b14 => ?_))
 refine hwNB ?_
 refine HL.one (H1.stAgg (b := b14) (cs := [.slice none 0 0, .slice none 0 0]) (vs := [.slice a l.length c, .slice a2 D.length c2]) rfl rfl rfl (by intro v hv; simp only [List.mem_cons, List.not_mem_nil, or_false] at hv; rcases hv with rfl | rfl <;> rfl) rplA rfl ?_)
 refine hwNB ?_
 refine HL.one (H1.callp (α := Int) (V := fun k => zv k) (I := fun k => (k = -1 ∧ ordF (B 7) o = none) ∨ ∃ (j : Nat) (r : Rc), k = (j : Int) ∧ (B 7)[j]? = some r ∧ ordF (B 7) o = some r) (vs := [s 7, _]) rfl rfl (fun w' hM => by
  rw [e7]
  exact indexR_fn a7 c7 (B 7) (fun r => decide (r.id = o)) _ hB7 w' (h7'.ext hM.ext) ⟨_, [], [.pointer (some ⟨b8, 0, none⟩)], rfl, inferInstance, fun w2 hx r _ => del1_fn r b8 o w2 (cell_ext hx ((hM.blk (b := b8) (cs := [zv o]) memA).cell (i := 0) rfl))⟩) ?_)
 rintro k hk
 refine hwNB ?_
 refine HC.cut (α := Bool) (fun c3 => [(1, .slice a l.length c), (5, .pointer (some ⟨b5, 0, none⟩)), (8, .pointer (some ⟨b8, 0, none⟩)), (9, .pointer (some ⟨b9, 0, none⟩)), (10, .slice none 0 0), (11, .slice none 0 0), (12, .pointer (some ⟨b12, 0, none⟩)), (13, zv 0), (14, .pointer (some ⟨b14, 0, none⟩)), (15, zv k), (54, .bool c3)])
  (fun _ => [A.blk b14 [.slice a l.length c, .slice a2 D.length c2] 84, A.blk b12 tomb0 51, A.blk b9 [zv d] 3, A.blk b8 [zv o] 3, A.blk b5 (row 8 s) 49]) (fun c3 => c3 = true ↔ ¬ (okS l D = true ∧ ∃ r, ordF (B 7) o = some r ∧ r.start ≤ d ∧ 0 ≤ d ∧ d ≤ 100000)) ?_ ?_
 ·cases hok : okS l D with
  | false =>
   refine HC.quietS [(some 29, [14], []), (some 30, [29], [0]), (some 31, [30], [1]), (some 32, [31], [2, 1]), (some 33, [15, 32], [3]), (some 34, [33, 32], [4, 3]), (some 35, [32, 34], [3, 5]), (some 36, [35], [6, 3]), (some 37, [5, 36], [7]), (some 38, [37, 36], [8, 7]), (some 39, [15, 36], [7]), (some 40, [39, 36], [10, 7]), (some 41, [38, 40, 36], [9, 11, 7]), (some 42, [41, 36], [12, 7]), (some 43, [42, 36], [13, 7]), (some 44, [9, 36], [7]), (some 45, [43, 44, 36], [14, 15, 7]), (some 46, [36, 45], [7, 16]), (some 47, [46], [17, 7]), (some 48, [9, 47], [18]), (some 49, [48, 47], [19, 18]), (some 50, [47, 49], [18, 20]), (some 51, [50], [21, 18]), (some 52, [9, 51], [22]), (some 53, [52, 51], [23, 22]), (some 54, [51, 53], [22, 24])] (by kernel_rfl) (by kernel_rfl) (by kernel_rfl) ?_
   refine HQ.ldAgg (b := b14) (off := 0) (vs := [.slice a l.length c, .slice a2 D.length c2]) rfl rfl (fun w' hM i v hv => (hM.blk (b := b14) memA).cell (hS14 hv)) rfl ?_
   refine qwA ?_
   refine HQ.call (vs := [_]) rfl rfl (fun w' hM => stValid_fn hl hls hD (fun d hd => by have := hDs d hd; omega) w' (hR.ext hM.ext) (hS.ext hM.ext)) ?_
   rw [hok]
   refine qwA ?_
   refine HQ.nil ?_
   exact HX.cut true (by simp) esA (by repeat (first | exact Hs.nil _ | (refine Hs.cons pickA ?_)))
  | true =>
   rcases hk with ⟨rfl, hk⟩ | ⟨j, r, rfl, hj, hk⟩
   ·refine HC.quietS [(some 29, [14], []), (some 30, [29], [0]), (some 31, [30], [1]), (some 32, [31], [2, 1]), (some 33, [15, 32], [3]), (some 34, [33, 32], [4, 3]), (some 35, [32, 34], [3, 5]), (some 36, [35], [6, 3]), (some 37, [5, 36], [7]), (some 38, [37, 36], [8, 7]), (some 39, [15, 36], [7]), (some 40, [39, 36], [10, 7]), (some 41, [38, 40, 36], [9, 11, 7]), (some 42, [41, 36], [12, 7]), (some 43, [42, 36], [13, 7]), (some 44, [9, 36], [7]), (some 45, [43, 44, 36], [14, 15, 7]), (some 46, [36, 45], [7, 16]), (some 47, [46], [17, 7]), (some 48, [9, 47], [18]), (some 49, [48, 47], [19, 18]), (some 50, [47, 49], [18, 20]), (some 51, [50], [21, 18]), (some 52, [9, 51], [22]), (some 53, [52, 51], [23, 22]), (some 54, [51, 53], [22, 24])] (by kernel_rfl) (by kernel_rfl) (by kernel_rfl) ?_
    refine HQ.ldAgg (b := b14) (off := 0) (vs := [.slice a l.length c, .slice a2 D.length c2]) rfl rfl (fun w' hM i v hv => (hM.blk (b := b14) memA).cell (hS14 hv)) rfl ?_
    refine qwA ?_
    refine HQ.call (vs := [_]) rfl rfl (fun w' hM => stValid_fn hl hls hD (fun d hd => by have := hDs d hd; omega) w' (hR.ext hM.ext) (hS.ext hM.ext)) ?_
    rw [hok]
    refine qwA ?_
    refine HQ.nil ?_
    exact HX.cut true (by rw [hk]; simp) esA (by repeat (first | exact Hs.nil _ | (refine Hs.cons pickA ?_)))
   obtain ⟨b7, off7, rfl, -, hcell⟩ := h7'.at (fun e => by rw [e] at hj; cases hj)
   have hr5 := hcell j r hj 5 (zv r.start) rfl
   have hjl := (List.getElem?_eq_some_iff.1 hj).1
   have hj0 : ¬ ((j : Nat) : Int) < 0 := by omega
   have hmax : (max (j : Int) 0).toNat = j := by omega
   refine HC.quietS [(some 29, [14], []), (some 30, [29], [0]), (some 31, [30], [1]), (some 32, [31], [2, 1]), (some 33, [15, 32], [3]), (some 34, [33, 32], [4, 3]), (some 35, [32, 34], [3, 5]), (some 36, [35], [6, 3]), (some 37, [5, 36], [7]), (some 38, [37, 36], [8, 7]), (some 39, [15, 36], [7]), (some 40, [39, 36], [10, 7]), (some 41, [38, 40, 36], [9, 11, 7]), (some 42, [41, 36], [12, 7]), (some 43, [42, 36], [13, 7]), (some 44, [9, 36], [7]), (some 45, [43, 44, 36], [14, 15, 7]), (some 46, [36, 45], [7, 16]), (some 47, [46], [17, 7]), (some 48, [9, 47], [18]), (some 49, [48, 47], [19, 18]), (some 50, [47, 49], [18, 20]), (some 51, [50], [21, 18]), (some 52, [9, 51], [22]), (some 53, [52, 51], [23, 22]), (some 54, [51, 53], [22, 24])] (by kernel_rfl) (by kernel_rfl) (by kernel_rfl) ?_
   refine HQ.ldAgg (b := b14) (off := 0) (vs := [.slice a l.length c, .slice a2 D.length c2]) rfl rfl (fun w' hM i v hv => (hM.blk (b := b14) memA).cell (hS14 hv)) rfl ?_
   refine qwA ?_
   refine HQ.call (vs := [_]) rfl rfl (fun w' hM => stValid_fn hl hls hD (fun d hd => by have := hDs d hd; omega) w' (hR.ext hM.ext) (hS.ext hM.ext)) ?_
   rw [hok]
   refine qwA ?_
   rw [e7]
   refine qwA ?_
   refine HQ.ld (a := ⟨b7, off7 + j * 15 + 5, none⟩) (by show some (Value.pointer (some ⟨b7, off7 + (max (j : Int) 0).toNat * 15 + 5, none⟩)) = _; rw [hmax]) (fun w' hM => cell_ext hM.ext hr5) rfl ?_
   by_cases hd1 : r.start ≤ d
   rotate_left
   ·have hd1' : d < r.start := by omega
    refine qwA ?_
    refine HQ.nil ?_
    exact HX.cut true (by rw [hk]; simp [hd1]) esA (by repeat (first | exact Hs.nil _ | (refine Hs.cons pickA ?_)))
   have hd1' : ¬ d < r.start := by omega
   by_cases hd2 : 0 ≤ d
   rotate_left
   ·have hd2' : d < 0 := by omega
    refine qwA ?_
    refine HQ.nil ?_
    exact HX.cut true (by rw [hk]; simp [hd2]) esA (by repeat (first | exact Hs.nil _ | (refine Hs.cons pickA ?_)))
   have hd2' : ¬ d < 0 := by omega
   by_cases hd3 : d ≤ 100000
   ·have hd3' : ¬ 100000 < d := by omega
    refine qwA ?_
    refine HQ.nil ?_
    exact HX.cut false (by rw [hk]; simp [hd1, hd2, hd3]) (by refine ⟨rfl, rfl, rfl, rfl, rfl, rfl, rfl, rfl, rfl, rfl, ?_, trivial⟩; show some (Value.bool (decide (100000 < d))) = _; rw [decide_eq_false hd3']) (by repeat (first | exact Hs.nil _ | (refine Hs.cons pickA ?_)))
   ·have hd3' : 100000 < d := by omega
    refine qwA ?_
    refine HQ.nil ?_
    exact HX.cut true (by rw [hk]; simp [hd3]) (by refine ⟨rfl, rfl, rfl, rfl, rfl, rfl, rfl, rfl, rfl, rfl, ?_, trivial⟩; show some (Value.bool (decide (100000 < d))) = _; rw [decide_eq_true hd3']) (by repeat (first | exact Hs.nil _ | (refine Hs.cons pickA ?_)))
 rintro c3 hc3
 cases c3 with
 | true =>
  have hno := delQ_no (hc3.1 rfl)
  refine hwNB ?_
  refine HL.build (parts := []) (pv := []) (cs := tomb0) rfl rfl rfl ?_
  refine hwNB ?_
  refine HL.one (H1.stAgg (b := b12) (cs := tomb0) (vs := tomb0) rfl rfl rfl (by intro v hv; simp only [tomb0, List.mem_cons, List.not_mem_nil, or_false] at hv; rcases hv with rfl | rfl | rfl | rfl | rfl | rfl <;> rfl) rplA rfl ?_)
  refine hwNB ?_
  exact HX.retG (rs := [.tmp 10, .tmp 11, .cell 12 51, .tmp 13]) (vs := [.slice none 0 0, .slice none 0 0, .agg tomb0.toArray, zv 240]) rfl rfl (fun w' hM => ⟨rfl, rfl, ⟨_, rfl, loadVar_agg (b := b12) hM memA rfl⟩, rfl, trivial⟩) fun w' hM => .inl ⟨hno, rfl, hM.ext⟩
 | false =>
  have hyes := Classical.not_not.1 fun h => absurd (hc3.2 h) (by decide)
  obtain ⟨hok, r, hk2, hd1, hd2, hd3⟩ := hyes
  obtain ⟨j, rfl, hj⟩ : ∃ j : Nat, k = (j : Int) ∧ (B 7)[j]? = some r := by
   rcases hk with ⟨-, h⟩ | ⟨j, r', h1, h2, h3⟩
   ·rw [h] at hk2; cases hk2
   ·rw [hk2] at h3; cases h3; exact ⟨j, h1, h2⟩
  have hq := delQ_in hok hk2 hd1 hd2 hd3
  obtain ⟨b7, off7, rfl, -, hcell⟩ := h7'.at (fun e => by rw [e] at hj; cases hj)
  have hr7 := hcell j r hj 7 (zv r.pack) rfl
  have hjl := (List.getElem?_eq_some_iff.1 hj).1
  clear hcell hc3 hk
  refine hwNB ?_
  rw [e7]
  refine hwNB ?_
  refine HL.one (H1.ld0 rfl hr7 rfl ?_)
  refine hwNB ?_
  refine HL.one (H1.alloc (cs := [zv 0]) rfl rfl (fun b16 => ?_))
  refine hwNB ?_
  refine HL.one (H1.st (b := b16) (i := 0) rfl rfl (by intro _ h; cases h) (by intro _ h; cases h) rplA (by exact Nat.zero_lt_one) ?_)
  refine hwNB ?_
  refine HL.one (H1.callz (vs := [_, _]) rfl rfl (fun w' hM => derived_fn (p := fun q => decide (q.1.pack = r.pack)) (by omega) hls w' (hR.ext hM.ext) ⟨_, [], [.pointer (some ⟨b16, 0, none⟩)], rfl, inferInstance, fun w2 hx q _ => del2_fn q.1 q.2 b16 r.pack w2 (cell_ext hx ((hM.blk (b := b16) (cs := [zv r.pack]) memA).cell (i := 0) rfl))⟩) ?_)
  rintro bm -
  dsimp only
  have hgone : derL l (fun i => decide ((ndAt l i).pack = r.pack)) l.length = goneL l r.pack := rfl
  rw [hgone]
  have hlD := (okS_facts hok).2.1
  refine hbDE ?_
  refine HC.cut (α := (Nat × Nat) × (List NdZ × (Option Addr × Nat) × (Option Addr × Nat)) × (List NdZ × (Option Addr × Nat) × (Option Addr × Nat))) (fun q => [(5, .pointer (some ⟨b5, 0, none⟩)), (8, .pointer (some ⟨b8, 0, none⟩)), (9, .pointer (some ⟨b9, 0, none⟩)), (10, .slice none 0 0), (11, .slice none 0 0), (12, .pointer (some ⟨b12, 0, none⟩)), (13, zv 0), (14, .pointer (some ⟨b14, 0, none⟩)), (17, .map (some bm)), (18, .pointer (some ⟨q.1.1, 0, none⟩)), (19, .pointer (some ⟨q.1.2, 0, none⟩))])
   (fun q => [A.blk b14 [.slice a l.length c, .slice a2 D.length c2] 84, A.blk b12 tomb0 51, A.blk b9 [zv d] 3, A.blk b8 [zv o] 3, A.blk b5 (row 8 s) 49, A.mq bm .i64 (liftS (goneL l r.pack)), A.blk q.1.1 [.slice q.2.1.2.1.1 q.2.1.1.length q.2.1.2.1.2, .slice q.2.1.2.2.1 q.2.1.1.length q.2.1.2.2.2] 84, A.blk q.1.2 [.slice q.2.2.2.1.1 q.2.2.1.length q.2.2.2.1.2, .slice q.2.2.2.2.1 q.2.2.1.length q.2.2.2.2.2] 84, A.grow 31 4 q.2.1.2.1.1 q.2.1.2.1.2 q.2.1.1.length (ndsV q.2.1.1), A.grow 9 1 q.2.1.2.2.1 q.2.1.2.2.2 q.2.1.1.length (strs (digP (prN l D (goneL l r.pack) true))), A.all (rowsA q.2.1.1), A.grow 31 4 q.2.2.2.1.1 q.2.2.2.1.2 q.2.2.1.length (ndsV q.2.2.1), A.grow 9 1 q.2.2.2.2.1 q.2.2.2.2.2 q.2.2.1.length (strs (digP (prN l D (goneL l r.pack) false))), A.all (rowsA q.2.2.1)]) (fun q => ndsZ q.2.1.1 = ndsP (prN l D (goneL l r.pack) true) ∧ ndsZ q.2.2.1 = ndsP (prN l D (goneL l r.pack) false)) ?_ ?_
  ·refine HC.anyC (cellsA b14 [.slice a l.length c, .slice a2 D.length c2] ++ []) rfl ?_
   refine HB.ldA (vs := [.slice a l.length c, .slice a2 D.length c2]) 0 rfl rfl rfl (fun i v hv => cellsL (cellsA_mem hv)) ?_
   refine HB.pa 1 rfl ?_
   refine HB.ldA (vs := [.slice a l.length c, .slice a2 D.length c2]) 3 rfl rfl rfl (fun i v hv => cellsL (cellsA_mem hv)) ?_
   refine HB.pa 4 rfl ?_
   refine HB.all (by (exact Keep.blkA (b := b14) (vs := [.slice a l.length c, .slice a2 D.length c2]) (e := 84) memD Keep.nil)) [2, 6, 7] (by kernel_rfl) rfl ⟨⟨_, rfl, ?_⟩, ⟨_, rfl, ?_⟩, ⟨_, rfl, ?_⟩, trivial⟩
   ·refine HP.one ?_
    refine H1.callz (vs := [_, _, _]) rfl rfl (fun w' hM => part_fn true hlD hl hls w' (hR.ext hM.ext) (hS.ext hM.ext) (hM.setW (b := bm) memA)) ?_
    rintro z1 hz1
    apply HB.fold
    refine HB.all (by (exact Keep.blkA (b := b14) (vs := [.slice a l.length c, .slice a2 D.length c2]) (e := 84) memD Keep.nil)) [5, 6, 7] (by kernel_rfl) rfl ⟨⟨_, rfl, ?_⟩, ⟨_, rfl, ?_⟩, ⟨_, rfl, ?_⟩, trivial⟩
    ·refine HP.one ?_
     refine H1.callz (vs := [_, _, _]) rfl rfl (fun w' hM => part_fn false hlD hl hls w' (hR.ext hM.ext) (hS.ext hM.ext) (hM.setW (b := bm) memA)) ?_
     rintro z2 hz2
     apply HB.fold
     refine HB.all (by (exact Keep.blkA (b := b14) (vs := [.slice a l.length c, .slice a2 D.length c2]) (e := 84) memD Keep.nil)) [6, 7] (by kernel_rfl) rfl ⟨⟨_, rfl, ?_⟩, ⟨_, rfl, ?_⟩, trivial⟩
     ·refine HP.one ?_
      refine H1.alloc (cs := [.slice none 0 0, .slice none 0 0]) rfl rfl (fun b18 => ?_)
      apply HB.fold
      refine HB.all (by (exact Keep.blkA (b := b14) (vs := [.slice a l.length c, .slice a2 D.length c2]) (e := 84) memD Keep.nil)) [7] (by kernel_rfl) rfl ⟨⟨_, rfl, ?_⟩, trivial⟩
      refine HP.one ?_
      refine H1.alloc (cs := [.slice none 0 0, .slice none 0 0]) rfl rfl (fun b19 => ?_)
      apply HB.fold
      refine HB.all (by (exact Keep.blkA (b := b14) (vs := [.slice a l.length c, .slice a2 D.length c2]) (e := 84) memD Keep.nil)) [8] (by kernel_rfl) rfl ⟨⟨_, rfl, ?_⟩, trivial⟩
      refine HP.one ?_
      refine H1.stAgg (b := b18) (cs := [.slice none 0 0, .slice none 0 0]) (vs := [.slice z1.2.1.1 z1.1.length z1.2.1.2, .slice z1.2.2.1 z1.1.length z1.2.2.2]) rfl rfl rfl (by intro v hv; simp only [List.mem_cons, List.not_mem_nil, or_false] at hv; rcases hv with rfl | rfl <;> rfl) rplA rfl ?_
      apply HB.fold
      refine HB.all (by (exact Keep.blkA (b := b14) (vs := [.slice a l.length c, .slice a2 D.length c2]) (e := 84) memD Keep.nil)) [9] (by kernel_rfl) rfl ⟨⟨_, rfl, ?_⟩, trivial⟩
      refine HP.one ?_
      refine H1.stAgg (b := b19) (cs := [.slice none 0 0, .slice none 0 0]) (vs := [.slice z2.2.1.1 z2.1.length z2.2.1.2, .slice z2.2.2.1 z2.1.length z2.2.2.2]) rfl rfl rfl (by intro v hv; simp only [List.mem_cons, List.not_mem_nil, or_false] at hv; rcases hv with rfl | rfl <;> rfl) rplA rfl ?_
      apply HB.fold
      refine HB.done (by (exact Keep.blkA (b := b14) (vs := [.slice a l.length c, .slice a2 D.length c2]) (e := 84) memD Keep.nil)) (by kernel_rfl) ?_
      exact HX.cut ((b18, b19), z1, z2) ⟨hz1, hz2⟩ esA (by repeat (first | exact Hs.nil _ | (refine Hs.cons pickA ?_)))
     ·refine HP.one ?_
      refine H1.alloc (cs := [.slice none 0 0, .slice none 0 0]) rfl rfl (fun b19 => ?_)
      apply HB.fold
      refine HB.all (by (exact Keep.blkA (b := b14) (vs := [.slice a l.length c, .slice a2 D.length c2]) (e := 84) memD Keep.nil)) [6] (by kernel_rfl) rfl ⟨⟨_, rfl, ?_⟩, trivial⟩
      refine HP.one ?_
      refine H1.alloc (cs := [.slice none 0 0, .slice none 0 0]) rfl rfl (fun b18 => ?_)
      apply HB.fold
      refine HB.all (by (exact Keep.blkA (b := b14) (vs := [.slice a l.length c, .slice a2 D.length c2]) (e := 84) memD Keep.nil)) [8] (by kernel_rfl) rfl ⟨⟨_, rfl, ?_⟩, trivial⟩
      refine HP.one ?_
      refine H1.stAgg (b := b18) (cs := [.slice none 0 0, .slice none 0 0]) (vs := [.slice z1.2.1.1 z1.1.length z1.2.1.2, .slice z1.2.2.1 z1.1.length z1.2.2.2]) rfl rfl rfl (by intro v hv; simp only [List.mem_cons, List.not_mem_nil, or_false] at hv; rcases hv with rfl | rfl <;> rfl) rplA rfl ?_
      apply HB.fold
      refine HB.all (by (exact Keep.blkA (b := b14) (vs := [.slice a l.length c, .slice a2 D.length c2]) (e := 84) memD Keep.nil)) [9] (by kernel_rfl) rfl ⟨⟨_, rfl, ?_⟩, trivial⟩
      refine HP.one ?_
      refine H1.stAgg (b := b19) (cs := [.slice none 0 0, .slice none 0 0]) (vs := [.slice z2.2.1.1 z2.1.length z2.2.1.2, .slice z2.2.2.1 z2.1.length z2.2.2.2]) rfl rfl rfl (by intro v hv; simp only [List.mem_cons, List.not_mem_nil, or_false] at hv; rcases hv with rfl | rfl <;> rfl) rplA rfl ?_
      apply HB.fold
      refine HB.done (by (exact Keep.blkA (b := b14) (vs := [.slice a l.length c, .slice a2 D.length c2]) (e := 84) memD Keep.nil)) (by kernel_rfl) ?_
      exact HX.cut ((b18, b19), z1, z2) ⟨hz1, hz2⟩ esA (by repeat (first | exact Hs.nil _ | (refine Hs.cons pickA ?_)))
    ·refine HP.one ?_
     refine H1.alloc (cs := [.slice none 0 0, .slice none 0 0]) rfl rfl (fun b18 => ?_)
     apply HB.fold
     refine HB.all (by (exact Keep.blkA (b := b14) (vs := [.slice a l.length c, .slice a2 D.length c2]) (e := 84) memD Keep.nil)) [5, 7] (by kernel_rfl) rfl ⟨⟨_, rfl, ?_⟩, ⟨_, rfl, ?_⟩, trivial⟩
     ·refine HP.one ?_
      refine H1.callz (vs := [_, _, _]) rfl rfl (fun w' hM => part_fn false hlD hl hls w' (hR.ext hM.ext) (hS.ext hM.ext) (hM.setW (b := bm) memA)) ?_
      rintro z2 hz2
      apply HB.fold
      refine HB.all (by (exact Keep.blkA (b := b14) (vs := [.slice a l.length c, .slice a2 D.length c2]) (e := 84) memD Keep.nil)) [7] (by kernel_rfl) rfl ⟨⟨_, rfl, ?_⟩, trivial⟩
      refine HP.one ?_
      refine H1.alloc (cs := [.slice none 0 0, .slice none 0 0]) rfl rfl (fun b19 => ?_)
      apply HB.fold
      refine HB.all (by (exact Keep.blkA (b := b14) (vs := [.slice a l.length c, .slice a2 D.length c2]) (e := 84) memD Keep.nil)) [8] (by kernel_rfl) rfl ⟨⟨_, rfl, ?_⟩, trivial⟩
      refine HP.one ?_
      refine H1.stAgg (b := b18) (cs := [.slice none 0 0, .slice none 0 0]) (vs := [.slice z1.2.1.1 z1.1.length z1.2.1.2, .slice z1.2.2.1 z1.1.length z1.2.2.2]) rfl rfl rfl (by intro v hv; simp only [List.mem_cons, List.not_mem_nil, or_false] at hv; rcases hv with rfl | rfl <;> rfl) rplA rfl ?_
      apply HB.fold
      refine HB.all (by (exact Keep.blkA (b := b14) (vs := [.slice a l.length c, .slice a2 D.length c2]) (e := 84) memD Keep.nil)) [9] (by kernel_rfl) rfl ⟨⟨_, rfl, ?_⟩, trivial⟩
      refine HP.one ?_
      refine H1.stAgg (b := b19) (cs := [.slice none 0 0, .slice none 0 0]) (vs := [.slice z2.2.1.1 z2.1.length z2.2.1.2, .slice z2.2.2.1 z2.1.length z2.2.2.2]) rfl rfl rfl (by intro v hv; simp only [List.mem_cons, List.not_mem_nil, or_false] at hv; rcases hv with rfl | rfl <;> rfl) rplA rfl ?_
      apply HB.fold
      refine HB.done (by (exact Keep.blkA (b := b14) (vs := [.slice a l.length c, .slice a2 D.length c2]) (e := 84) memD Keep.nil)) (by kernel_rfl) ?_
      exact HX.cut ((b18, b19), z1, z2) ⟨hz1, hz2⟩ esA (by repeat (first | exact Hs.nil _ | (refine Hs.cons pickA ?_)))
     ·refine HP.one ?_
      refine H1.alloc (cs := [.slice none 0 0, .slice none 0 0]) rfl rfl (fun b19 => ?_)
      apply HB.fold
      refine HB.all (by (exact Keep.blkA (b := b14) (vs := [.slice a l.length c, .slice a2 D.length c2]) (e := 84) memD Keep.nil)) [5] (by kernel_rfl) rfl ⟨⟨_, rfl, ?_⟩, trivial⟩
      refine HP.one ?_
      refine H1.callz (vs := [_, _, _]) rfl rfl (fun w' hM => part_fn false hlD hl hls w' (hR.ext hM.ext) (hS.ext hM.ext) (hM.setW (b := bm) memA)) ?_
      rintro z2 hz2
      apply HB.fold
      refine HB.all (by (exact Keep.blkA (b := b14) (vs := [.slice a l.length c, .slice a2 D.length c2]) (e := 84) memD Keep.nil)) [8] (by kernel_rfl) rfl ⟨⟨_, rfl, ?_⟩, trivial⟩
      refine HP.one ?_
      refine H1.stAgg (b := b18) (cs := [.slice none 0 0, .slice none 0 0]) (vs := [.slice z1.2.1.1 z1.1.length z1.2.1.2, .slice z1.2.2.1 z1.1.length z1.2.2.2]) rfl rfl rfl (by intro v hv; simp only [List.mem_cons, List.not_mem_nil, or_false] at hv; rcases hv with rfl | rfl <;> rfl) rplA rfl ?_
      apply HB.fold
      refine HB.all (by (exact Keep.blkA (b := b14) (vs := [.slice a l.length c, .slice a2 D.length c2]) (e := 84) memD Keep.nil)) [9] (by kernel_rfl) rfl ⟨⟨_, rfl, ?_⟩, trivial⟩
      refine HP.one ?_
      refine H1.stAgg (b := b19) (cs := [.slice none 0 0, .slice none 0 0]) (vs := [.slice z2.2.1.1 z2.1.length z2.2.1.2, .slice z2.2.2.1 z2.1.length z2.2.2.2]) rfl rfl rfl (by intro v hv; simp only [List.mem_cons, List.not_mem_nil, or_false] at hv; rcases hv with rfl | rfl <;> rfl) rplA rfl ?_
      apply HB.fold
      refine HB.done (by (exact Keep.blkA (b := b14) (vs := [.slice a l.length c, .slice a2 D.length c2]) (e := 84) memD Keep.nil)) (by kernel_rfl) ?_
      exact HX.cut ((b18, b19), z1, z2) ⟨hz1, hz2⟩ esA (by repeat (first | exact Hs.nil _ | (refine Hs.cons pickA ?_)))
    ·refine HP.one ?_
     refine H1.alloc (cs := [.slice none 0 0, .slice none 0 0]) rfl rfl (fun b19 => ?_)
     apply HB.fold
     refine HB.all (by (exact Keep.blkA (b := b14) (vs := [.slice a l.length c, .slice a2 D.length c2]) (e := 84) memD Keep.nil)) [5, 6] (by kernel_rfl) rfl ⟨⟨_, rfl, ?_⟩, ⟨_, rfl, ?_⟩, trivial⟩
     ·refine HP.one ?_
      refine H1.callz (vs := [_, _, _]) rfl rfl (fun w' hM => part_fn false hlD hl hls w' (hR.ext hM.ext) (hS.ext hM.ext) (hM.setW (b := bm) memA)) ?_
      rintro z2 hz2
      apply HB.fold
      refine HB.all (by (exact Keep.blkA (b := b14) (vs := [.slice a l.length c, .slice a2 D.length c2]) (e := 84) memD Keep.nil)) [6] (by kernel_rfl) rfl ⟨⟨_, rfl, ?_⟩, trivial⟩
      refine HP.one ?_
      refine H1.alloc (cs := [.slice none 0 0, .slice none 0 0]) rfl rfl (fun b18 => ?_)
      apply HB.fold
      refine HB.all (by (exact Keep.blkA (b := b14) (vs := [.slice a l.length c, .slice a2 D.length c2]) (e := 84) memD Keep.nil)) [8] (by kernel_rfl) rfl ⟨⟨_, rfl, ?_⟩, trivial⟩
      refine HP.one ?_
      refine H1.stAgg (b := b18) (cs := [.slice none 0 0, .slice none 0 0]) (vs := [.slice z1.2.1.1 z1.1.length z1.2.1.2, .slice z1.2.2.1 z1.1.length z1.2.2.2]) rfl rfl rfl (by intro v hv; simp only [List.mem_cons, List.not_mem_nil, or_false] at hv; rcases hv with rfl | rfl <;> rfl) rplA rfl ?_
      apply HB.fold
      refine HB.all (by (exact Keep.blkA (b := b14) (vs := [.slice a l.length c, .slice a2 D.length c2]) (e := 84) memD Keep.nil)) [9] (by kernel_rfl) rfl ⟨⟨_, rfl, ?_⟩, trivial⟩
      refine HP.one ?_
      refine H1.stAgg (b := b19) (cs := [.slice none 0 0, .slice none 0 0]) (vs := [.slice z2.2.1.1 z2.1.length z2.2.1.2, .slice z2.2.2.1 z2.1.length z2.2.2.2]) rfl rfl rfl (by intro v hv; simp only [List.mem_cons, List.not_mem_nil, or_false] at hv; rcases hv with rfl | rfl <;> rfl) rplA rfl ?_
      apply HB.fold
      refine HB.done (by (exact Keep.blkA (b := b14) (vs := [.slice a l.length c, .slice a2 D.length c2]) (e := 84) memD Keep.nil)) (by kernel_rfl) ?_
      exact HX.cut ((b18, b19), z1, z2) ⟨hz1, hz2⟩ esA (by repeat (first | exact Hs.nil _ | (refine Hs.cons pickA ?_)))
     ·refine HP.one ?_
      refine H1.alloc (cs := [.slice none 0 0, .slice none 0 0]) rfl rfl (fun b18 => ?_)
      apply HB.fold
      refine HB.all (by (exact Keep.blkA (b := b14) (vs := [.slice a l.length c, .slice a2 D.length c2]) (e := 84) memD Keep.nil)) [5] (by kernel_rfl) rfl ⟨⟨_, rfl, ?_⟩, trivial⟩
      refine HP.one ?_
      refine H1.callz (vs := [_, _, _]) rfl rfl (fun w' hM => part_fn false hlD hl hls w' (hR.ext hM.ext) (hS.ext hM.ext) (hM.setW (b := bm) memA)) ?_
      rintro z2 hz2
      apply HB.fold
      refine HB.all (by (exact Keep.blkA (b := b14) (vs := [.slice a l.length c, .slice a2 D.length c2]) (e := 84) memD Keep.nil)) [8] (by kernel_rfl) rfl ⟨⟨_, rfl, ?_⟩, trivial⟩
      refine HP.one ?_
      refine H1.stAgg (b := b18) (cs := [.slice none 0 0, .slice none 0 0]) (vs := [.slice z1.2.1.1 z1.1.length z1.2.1.2, .slice z1.2.2.1 z1.1.length z1.2.2.2]) rfl rfl rfl (by intro v hv; simp only [List.mem_cons, List.not_mem_nil, or_false] at hv; rcases hv with rfl | rfl <;> rfl) rplA rfl ?_
      apply HB.fold
      refine HB.all (by (exact Keep.blkA (b := b14) (vs := [.slice a l.length c, .slice a2 D.length c2]) (e := 84) memD Keep.nil)) [9] (by kernel_rfl) rfl ⟨⟨_, rfl, ?_⟩, trivial⟩
      refine HP.one ?_
      refine H1.stAgg (b := b19) (cs := [.slice none 0 0, .slice none 0 0]) (vs := [.slice z2.2.1.1 z2.1.length z2.2.1.2, .slice z2.2.2.1 z2.1.length z2.2.2.2]) rfl rfl rfl (by intro v hv; simp only [List.mem_cons, List.not_mem_nil, or_false] at hv; rcases hv with rfl | rfl <;> rfl) rplA rfl ?_
      apply HB.fold
      refine HB.done (by (exact Keep.blkA (b := b14) (vs := [.slice a l.length c, .slice a2 D.length c2]) (e := 84) memD Keep.nil)) (by kernel_rfl) ?_
      exact HX.cut ((b18, b19), z1, z2) ⟨hz1, hz2⟩ esA (by repeat (first | exact Hs.nil _ | (refine Hs.cons pickA ?_)))
   ·refine HP.one ?_
    refine H1.alloc (cs := [.slice none 0 0, .slice none 0 0]) rfl rfl (fun b18 => ?_)
    apply HB.fold
    refine HB.all (by (exact Keep.blkA (b := b14) (vs := [.slice a l.length c, .slice a2 D.length c2]) (e := 84) memD Keep.nil)) [2, 7] (by kernel_rfl) rfl ⟨⟨_, rfl, ?_⟩, ⟨_, rfl, ?_⟩, trivial⟩
    ·refine HP.one ?_
     refine H1.callz (vs := [_, _, _]) rfl rfl (fun w' hM => part_fn true hlD hl hls w' (hR.ext hM.ext) (hS.ext hM.ext) (hM.setW (b := bm) memA)) ?_
     rintro z1 hz1
     apply HB.fold
     refine HB.all (by (exact Keep.blkA (b := b14) (vs := [.slice a l.length c, .slice a2 D.length c2]) (e := 84) memD Keep.nil)) [5, 7] (by kernel_rfl) rfl ⟨⟨_, rfl, ?_⟩, ⟨_, rfl, ?_⟩, trivial⟩
     ·refine HP.one ?_
      refine H1.callz (vs := [_, _, _]) rfl rfl (fun w' hM => part_fn false hlD hl hls w' (hR.ext hM.ext) (hS.ext hM.ext) (hM.setW (b := bm) memA)) ?_
      rintro z2 hz2
      apply HB.fold
      refine HB.all (by (exact Keep.blkA (b := b14) (vs := [.slice a l.length c, .slice a2 D.length c2]) (e := 84) memD Keep.nil)) [7] (by kernel_rfl) rfl ⟨⟨_, rfl, ?_⟩, trivial⟩
      refine HP.one ?_
      refine H1.alloc (cs := [.slice none 0 0, .slice none 0 0]) rfl rfl (fun b19 => ?_)
      apply HB.fold
      refine HB.all (by (exact Keep.blkA (b := b14) (vs := [.slice a l.length c, .slice a2 D.length c2]) (e := 84) memD Keep.nil)) [8] (by kernel_rfl) rfl ⟨⟨_, rfl, ?_⟩, trivial⟩
      refine HP.one ?_
      refine H1.stAgg (b := b18) (cs := [.slice none 0 0, .slice none 0 0]) (vs := [.slice z1.2.1.1 z1.1.length z1.2.1.2, .slice z1.2.2.1 z1.1.length z1.2.2.2]) rfl rfl rfl (by intro v hv; simp only [List.mem_cons, List.not_mem_nil, or_false] at hv; rcases hv with rfl | rfl <;> rfl) rplA rfl ?_
      apply HB.fold
      refine HB.all (by (exact Keep.blkA (b := b14) (vs := [.slice a l.length c, .slice a2 D.length c2]) (e := 84) memD Keep.nil)) [9] (by kernel_rfl) rfl ⟨⟨_, rfl, ?_⟩, trivial⟩
      refine HP.one ?_
      refine H1.stAgg (b := b19) (cs := [.slice none 0 0, .slice none 0 0]) (vs := [.slice z2.2.1.1 z2.1.length z2.2.1.2, .slice z2.2.2.1 z2.1.length z2.2.2.2]) rfl rfl rfl (by intro v hv; simp only [List.mem_cons, List.not_mem_nil, or_false] at hv; rcases hv with rfl | rfl <;> rfl) rplA rfl ?_
      apply HB.fold
      refine HB.done (by (exact Keep.blkA (b := b14) (vs := [.slice a l.length c, .slice a2 D.length c2]) (e := 84) memD Keep.nil)) (by kernel_rfl) ?_
      exact HX.cut ((b18, b19), z1, z2) ⟨hz1, hz2⟩ esA (by repeat (first | exact Hs.nil _ | (refine Hs.cons pickA ?_)))
     ·refine HP.one ?_
      refine H1.alloc (cs := [.slice none 0 0, .slice none 0 0]) rfl rfl (fun b19 => ?_)
      apply HB.fold
      refine HB.all (by (exact Keep.blkA (b := b14) (vs := [.slice a l.length c, .slice a2 D.length c2]) (e := 84) memD Keep.nil)) [5] (by kernel_rfl) rfl ⟨⟨_, rfl, ?_⟩, trivial⟩
      refine HP.one ?_
      refine H1.callz (vs := [_, _, _]) rfl rfl (fun w' hM => part_fn false hlD hl hls w' (hR.ext hM.ext) (hS.ext hM.ext) (hM.setW (b := bm) memA)) ?_
      rintro z2 hz2
      apply HB.fold
      refine HB.all (by (exact Keep.blkA (b := b14) (vs := [.slice a l.length c, .slice a2 D.length c2]) (e := 84) memD Keep.nil)) [8] (by kernel_rfl) rfl ⟨⟨_, rfl, ?_⟩, trivial⟩
      refine HP.one ?_
      refine H1.stAgg (b := b18) (cs := [.slice none 0 0, .slice none 0 0]) (vs := [.slice z1.2.1.1 z1.1.length z1.2.1.2, .slice z1.2.2.1 z1.1.length z1.2.2.2]) rfl rfl rfl (by intro v hv; simp only [List.mem_cons, List.not_mem_nil, or_false] at hv; rcases hv with rfl | rfl <;> rfl) rplA rfl ?_
      apply HB.fold
      refine HB.all (by (exact Keep.blkA (b := b14) (vs := [.slice a l.length c, .slice a2 D.length c2]) (e := 84) memD Keep.nil)) [9] (by kernel_rfl) rfl ⟨⟨_, rfl, ?_⟩, trivial⟩
      refine HP.one ?_
      refine H1.stAgg (b := b19) (cs := [.slice none 0 0, .slice none 0 0]) (vs := [.slice z2.2.1.1 z2.1.length z2.2.1.2, .slice z2.2.2.1 z2.1.length z2.2.2.2]) rfl rfl rfl (by intro v hv; simp only [List.mem_cons, List.not_mem_nil, or_false] at hv; rcases hv with rfl | rfl <;> rfl) rplA rfl ?_
      apply HB.fold
      refine HB.done (by (exact Keep.blkA (b := b14) (vs := [.slice a l.length c, .slice a2 D.length c2]) (e := 84) memD Keep.nil)) (by kernel_rfl) ?_
      exact HX.cut ((b18, b19), z1, z2) ⟨hz1, hz2⟩ esA (by repeat (first | exact Hs.nil _ | (refine Hs.cons pickA ?_)))
    ·refine HP.one ?_
     refine H1.alloc (cs := [.slice none 0 0, .slice none 0 0]) rfl rfl (fun b19 => ?_)
     apply HB.fold
     refine HB.all (by (exact Keep.blkA (b := b14) (vs := [.slice a l.length c, .slice a2 D.length c2]) (e := 84) memD Keep.nil)) [2] (by kernel_rfl) rfl ⟨⟨_, rfl, ?_⟩, trivial⟩
     refine HP.one ?_
     refine H1.callz (vs := [_, _, _]) rfl rfl (fun w' hM => part_fn true hlD hl hls w' (hR.ext hM.ext) (hS.ext hM.ext) (hM.setW (b := bm) memA)) ?_
     rintro z1 hz1
     apply HB.fold
     refine HB.all (by (exact Keep.blkA (b := b14) (vs := [.slice a l.length c, .slice a2 D.length c2]) (e := 84) memD Keep.nil)) [5] (by kernel_rfl) rfl ⟨⟨_, rfl, ?_⟩, trivial⟩
     refine HP.one ?_
     refine H1.callz (vs := [_, _, _]) rfl rfl (fun w' hM => part_fn false hlD hl hls w' (hR.ext hM.ext) (hS.ext hM.ext) (hM.setW (b := bm) memA)) ?_
     rintro z2 hz2
     apply HB.fold
     refine HB.all (by (exact Keep.blkA (b := b14) (vs := [.slice a l.length c, .slice a2 D.length c2]) (e := 84) memD Keep.nil)) [8] (by kernel_rfl) rfl ⟨⟨_, rfl, ?_⟩, trivial⟩
     refine HP.one ?_
     refine H1.stAgg (b := b18) (cs := [.slice none 0 0, .slice none 0 0]) (vs := [.slice z1.2.1.1 z1.1.length z1.2.1.2, .slice z1.2.2.1 z1.1.length z1.2.2.2]) rfl rfl rfl (by intro v hv; simp only [List.mem_cons, List.not_mem_nil, or_false] at hv; rcases hv with rfl | rfl <;> rfl) rplA rfl ?_
     apply HB.fold
     refine HB.all (by (exact Keep.blkA (b := b14) (vs := [.slice a l.length c, .slice a2 D.length c2]) (e := 84) memD Keep.nil)) [9] (by kernel_rfl) rfl ⟨⟨_, rfl, ?_⟩, trivial⟩
     refine HP.one ?_
     refine H1.stAgg (b := b19) (cs := [.slice none 0 0, .slice none 0 0]) (vs := [.slice z2.2.1.1 z2.1.length z2.2.1.2, .slice z2.2.2.1 z2.1.length z2.2.2.2]) rfl rfl rfl (by intro v hv; simp only [List.mem_cons, List.not_mem_nil, or_false] at hv; rcases hv with rfl | rfl <;> rfl) rplA rfl ?_
     apply HB.fold
     refine HB.done (by (exact Keep.blkA (b := b14) (vs := [.slice a l.length c, .slice a2 D.length c2]) (e := 84) memD Keep.nil)) (by kernel_rfl) ?_
     exact HX.cut ((b18, b19), z1, z2) ⟨hz1, hz2⟩ esA (by repeat (first | exact Hs.nil _ | (refine Hs.cons pickA ?_)))
   ·refine HP.one ?_
    refine H1.alloc (cs := [.slice none 0 0, .slice none 0 0]) rfl rfl (fun b19 => ?_)
    apply HB.fold
    refine HB.all (by (exact Keep.blkA (b := b14) (vs := [.slice a l.length c, .slice a2 D.length c2]) (e := 84) memD Keep.nil)) [2, 6] (by kernel_rfl) rfl ⟨⟨_, rfl, ?_⟩, ⟨_, rfl, ?_⟩, trivial⟩
    ·refine HP.one ?_
     refine H1.callz (vs := [_, _, _]) rfl rfl (fun w' hM => part_fn true hlD hl hls w' (hR.ext hM.ext) (hS.ext hM.ext) (hM.setW (b := bm) memA)) ?_
     rintro z1 hz1
     apply HB.fold
     refine HB.all (by (exact Keep.blkA (b := b14) (vs := [.slice a l.length c, .slice a2 D.length c2]) (e := 84) memD Keep.nil)) [5, 6] (by kernel_rfl) rfl ⟨⟨_, rfl, ?_⟩, ⟨_, rfl, ?_⟩, trivial⟩
     ·refine HP.one ?_
      refine H1.callz (vs := [_, _, _]) rfl rfl (fun w' hM => part_fn false hlD hl hls w' (hR.ext hM.ext) (hS.ext hM.ext) (hM.setW (b := bm) memA)) ?_
      rintro z2 hz2
      apply HB.fold
      refine HB.all (by (exact Keep.blkA (b := b14) (vs := [.slice a l.length c, .slice a2 D.length c2]) (e := 84) memD Keep.nil)) [6] (by kernel_rfl) rfl ⟨⟨_, rfl, ?_⟩, trivial⟩
      refine HP.one ?_
      refine H1.alloc (cs := [.slice none 0 0, .slice none 0 0]) rfl rfl (fun b18 => ?_)
      apply HB.fold
      refine HB.all (by (exact Keep.blkA (b := b14) (vs := [.slice a l.length c, .slice a2 D.length c2]) (e := 84) memD Keep.nil)) [8] (by kernel_rfl) rfl ⟨⟨_, rfl, ?_⟩, trivial⟩
      refine HP.one ?_
      refine H1.stAgg (b := b18) (cs := [.slice none 0 0, .slice none 0 0]) (vs := [.slice z1.2.1.1 z1.1.length z1.2.1.2, .slice z1.2.2.1 z1.1.length z1.2.2.2]) rfl rfl rfl (by intro v hv; simp only [List.mem_cons, List.not_mem_nil, or_false] at hv; rcases hv with rfl | rfl <;> rfl) rplA rfl ?_
      apply HB.fold
      refine HB.all (by (exact Keep.blkA (b := b14) (vs := [.slice a l.length c, .slice a2 D.length c2]) (e := 84) memD Keep.nil)) [9] (by kernel_rfl) rfl ⟨⟨_, rfl, ?_⟩, trivial⟩
      refine HP.one ?_
      refine H1.stAgg (b := b19) (cs := [.slice none 0 0, .slice none 0 0]) (vs := [.slice z2.2.1.1 z2.1.length z2.2.1.2, .slice z2.2.2.1 z2.1.length z2.2.2.2]) rfl rfl rfl (by intro v hv; simp only [List.mem_cons, List.not_mem_nil, or_false] at hv; rcases hv with rfl | rfl <;> rfl) rplA rfl ?_
      apply HB.fold
      refine HB.done (by (exact Keep.blkA (b := b14) (vs := [.slice a l.length c, .slice a2 D.length c2]) (e := 84) memD Keep.nil)) (by kernel_rfl) ?_
      exact HX.cut ((b18, b19), z1, z2) ⟨hz1, hz2⟩ esA (by repeat (first | exact Hs.nil _ | (refine Hs.cons pickA ?_)))
     ·refine HP.one ?_
      refine H1.alloc (cs := [.slice none 0 0, .slice none 0 0]) rfl rfl (fun b18 => ?_)
      apply HB.fold
      refine HB.all (by (exact Keep.blkA (b := b14) (vs := [.slice a l.length c, .slice a2 D.length c2]) (e := 84) memD Keep.nil)) [5] (by kernel_rfl) rfl ⟨⟨_, rfl, ?_⟩, trivial⟩
      refine HP.one ?_
      refine H1.callz (vs := [_, _, _]) rfl rfl (fun w' hM => part_fn false hlD hl hls w' (hR.ext hM.ext) (hS.ext hM.ext) (hM.setW (b := bm) memA)) ?_
      rintro z2 hz2
      apply HB.fold
      refine HB.all (by (exact Keep.blkA (b := b14) (vs := [.slice a l.length c, .slice a2 D.length c2]) (e := 84) memD Keep.nil)) [8] (by kernel_rfl) rfl ⟨⟨_, rfl, ?_⟩, trivial⟩
      refine HP.one ?_
      refine H1.stAgg (b := b18) (cs := [.slice none 0 0, .slice none 0 0]) (vs := [.slice z1.2.1.1 z1.1.length z1.2.1.2, .slice z1.2.2.1 z1.1.length z1.2.2.2]) rfl rfl rfl (by intro v hv; simp only [List.mem_cons, List.not_mem_nil, or_false] at hv; rcases hv with rfl | rfl <;> rfl) rplA rfl ?_
      apply HB.fold
      refine HB.all (by (exact Keep.blkA (b := b14) (vs := [.slice a l.length c, .slice a2 D.length c2]) (e := 84) memD Keep.nil)) [9] (by kernel_rfl) rfl ⟨⟨_, rfl, ?_⟩, trivial⟩
      refine HP.one ?_
      refine H1.stAgg (b := b19) (cs := [.slice none 0 0, .slice none 0 0]) (vs := [.slice z2.2.1.1 z2.1.length z2.2.1.2, .slice z2.2.2.1 z2.1.length z2.2.2.2]) rfl rfl rfl (by intro v hv; simp only [List.mem_cons, List.not_mem_nil, or_false] at hv; rcases hv with rfl | rfl <;> rfl) rplA rfl ?_
      apply HB.fold
      refine HB.done (by (exact Keep.blkA (b := b14) (vs := [.slice a l.length c, .slice a2 D.length c2]) (e := 84) memD Keep.nil)) (by kernel_rfl) ?_
      exact HX.cut ((b18, b19), z1, z2) ⟨hz1, hz2⟩ esA (by repeat (first | exact Hs.nil _ | (refine Hs.cons pickA ?_)))
    ·refine HP.one ?_
     refine H1.alloc (cs := [.slice none 0 0, .slice none 0 0]) rfl rfl (fun b18 => ?_)
     apply HB.fold
     refine HB.all (by (exact Keep.blkA (b := b14) (vs := [.slice a l.length c, .slice a2 D.length c2]) (e := 84) memD Keep.nil)) [2] (by kernel_rfl) rfl ⟨⟨_, rfl, ?_⟩, trivial⟩
     refine HP.one ?_
     refine H1.callz (vs := [_, _, _]) rfl rfl (fun w' hM => part_fn true hlD hl hls w' (hR.ext hM.ext) (hS.ext hM.ext) (hM.setW (b := bm) memA)) ?_
     rintro z1 hz1
     apply HB.fold
     refine HB.all (by (exact Keep.blkA (b := b14) (vs := [.slice a l.length c, .slice a2 D.length c2]) (e := 84) memD Keep.nil)) [5] (by kernel_rfl) rfl ⟨⟨_, rfl, ?_⟩, trivial⟩
     refine HP.one ?_
     refine H1.callz (vs := [_, _, _]) rfl rfl (fun w' hM => part_fn false hlD hl hls w' (hR.ext hM.ext) (hS.ext hM.ext) (hM.setW (b := bm) memA)) ?_
     rintro z2 hz2
     apply HB.fold
     refine HB.all (by (exact Keep.blkA (b := b14) (vs := [.slice a l.length c, .slice a2 D.length c2]) (e := 84) memD Keep.nil)) [8] (by kernel_rfl) rfl ⟨⟨_, rfl, ?_⟩, trivial⟩
     refine HP.one ?_
     refine H1.stAgg (b := b18) (cs := [.slice none 0 0, .slice none 0 0]) (vs := [.slice z1.2.1.1 z1.1.length z1.2.1.2, .slice z1.2.2.1 z1.1.length z1.2.2.2]) rfl rfl rfl (by intro v hv; simp only [List.mem_cons, List.not_mem_nil, or_false] at hv; rcases hv with rfl | rfl <;> rfl) rplA rfl ?_
     apply HB.fold
     refine HB.all (by (exact Keep.blkA (b := b14) (vs := [.slice a l.length c, .slice a2 D.length c2]) (e := 84) memD Keep.nil)) [9] (by kernel_rfl) rfl ⟨⟨_, rfl, ?_⟩, trivial⟩
     refine HP.one ?_
     refine H1.stAgg (b := b19) (cs := [.slice none 0 0, .slice none 0 0]) (vs := [.slice z2.2.1.1 z2.1.length z2.2.1.2, .slice z2.2.2.1 z2.1.length z2.2.2.2]) rfl rfl rfl (by intro v hv; simp only [List.mem_cons, List.not_mem_nil, or_false] at hv; rcases hv with rfl | rfl <;> rfl) rplA rfl ?_
     apply HB.fold
     refine HB.done (by (exact Keep.blkA (b := b14) (vs := [.slice a l.length c, .slice a2 D.length c2]) (e := 84) memD Keep.nil)) (by kernel_rfl) ?_
     exact HX.cut ((b18, b19), z1, z2) ⟨hz1, hz2⟩ esA (by repeat (first | exact Hs.nil _ | (refine Hs.cons pickA ?_)))
  rintro ⟨⟨b18, b19⟩, z1, z2⟩ ⟨hz1, hz2⟩
  dsimp only at hz1 hz2 ⊢
  refine hwNB ?_
  refine HL.one (H1.setlen (m := goneL l r.pack) rfl (fun w' hM => hM.setW memA) rfl ?_)
  have hz1l : z1.1.length = (goneL l r.pack).length := by
   rw [← ndsZ_len, hz1, ndsP_len]; exact lost_len hok _
  have hz2l : z2.1.length = (prN l D (goneL l r.pack) false).length := by rw [← ndsZ_len, hz2, ndsP_len]
  have hgl : (goneL l r.pack).length ≤ l.length := derL_len _ _ _
  have hlft : (prN l D (goneL l r.pack) false).length ≤ l.length := Nat.le_trans (List.length_filter_le _ _) (by rw [List.length_zip]; omega)
  by_cases hg0 : goneL l r.pack = []
  ·have hg1 : (((goneL l r.pack).length : Nat) : Int) = 0 := by rw [hg0]; rfl
   have hno : delQ B l D o d = none := by rw [hq, if_neg fun h => h.1 hg0]
   refine hwNB ?_
   refine HL.build (parts := []) (pv := []) (cs := tomb0) rfl rfl rfl ?_
   refine hwNB ?_
   refine HL.one (H1.stAgg (b := b12) (cs := tomb0) (vs := tomb0) rfl rfl rfl (by intro v hv; simp only [tomb0, List.mem_cons, List.not_mem_nil, or_false] at hv; rcases hv with rfl | rfl | rfl | rfl | rfl | rfl <;> rfl) rplA rfl ?_)
   refine hwNB ?_
   exact HX.retG (rs := [.tmp 10, .tmp 11, .cell 12 51, .tmp 13]) (vs := [.slice none 0 0, .slice none 0 0, .agg tomb0.toArray, zv 240]) rfl rfl (fun w' hM => ⟨rfl, rfl, ⟨_, rfl, loadVar_agg (b := b12) hM memA rfl⟩, rfl, trivial⟩) fun w' hM => .inl ⟨hno, rfl, hM.ext⟩
  have hg1 : ¬ (((goneL l r.pack).length : Nat) : Int) = 0 := fun h => hg0 (List.length_eq_zero_iff.1 (by omega))
  refine hwNB ?_
  refine HL.one (H1.callx (u := .bool ((ndsP (prN l D (goneL l r.pack) true)).any (heldN B d))) (vs := [.slice z1.2.1.1 z1.1.length z1.2.1.2, _]) rfl rfl (fun w' hM => by
   have h : Fn Tryz.prog 55 #[.slice z1.2.1.1 (ndsZ z1.1).length z1.2.1.2, .func (.func 54) #[] #[.pointer (some ⟨b5, 0, none⟩), .pointer (some ⟨b9, 0, none⟩)]] w' fun u w'' => u = .bool (anyN (ndsZ z1.1).length fun i => heldN B d (ndAt (ndsZ z1.1) i)) ∧ Ext w' w'' := contN_fn (l := ndsZ z1.1) (U := adrZ z1.1) (p := fun q => heldN B d q.1) (by rw [ndsZ_len]; omega) w' (by
     have := hM.rdN (a := z1.2.1.1) (c := z1.2.1.2) (z := z1.1) memA memA
     rwa [← ndsZ_len] at this) ⟨_, [], [.pointer (some ⟨b5, 0, none⟩), .pointer (some ⟨b9, 0, none⟩)], rfl, inferInstance, fun w2 hx q _ => del3_fn (s := s) q.1 q.2 b5 b9 d w2 (fun i v hv => cell_ext hx ((hM.blk (b := b5) (cs := row 8 s) memA).cell hv)) (cell_ext hx ((hM.blk (b := b9) (cs := [zv d]) memA).cell (i := 0) rfl)) (hB.ext (hM.ext.trans hx)) hB4 hB5⟩
   rw [any_ids (heldN B d), hz1] at h
   rw [ndsP_len, ← ndsP_len, ← hz1, ndsZ_len] at h
   rw [hz1] at h
   exact h) ?_)
  cases hheld : (ndsP (prN l D (goneL l r.pack) true)).any (heldN B d) with
  | true =>
   have hno : delQ B l D o d = none := by rw [hq, if_neg fun h => h.2 hheld]
   refine hwNB ?_
   refine HL.build (parts := []) (pv := []) (cs := tomb0) rfl rfl rfl ?_
   refine hwNB ?_
   refine HL.one (H1.stAgg (b := b12) (cs := tomb0) (vs := tomb0) rfl rfl rfl (by intro v hv; simp only [tomb0, List.mem_cons, List.not_mem_nil, or_false] at hv; rcases hv with rfl | rfl | rfl | rfl | rfl | rfl <;> rfl) rplA rfl ?_)
   refine hwNB ?_
   exact HX.retG (rs := [.tmp 10, .tmp 11, .cell 12 51, .tmp 13]) (vs := [.slice none 0 0, .slice none 0 0, .agg tomb0.toArray, zv 240]) rfl rfl (fun w' hM => ⟨rfl, rfl, ⟨_, rfl, loadVar_agg (b := b12) hM memA rfl⟩, rfl, trivial⟩) fun w' hM => .inl ⟨hno, rfl, hM.ext⟩
  | false =>
   have hpk : delQ B l D o d = some r.pack := by rw [hq, if_pos ⟨hg0, by rw [hheld]; decide⟩]
   have hv := okS_valid hok
   have hlok := left_ok hok (fun i => decide ((ndAt l i).pack = r.pack))
   rw [hgone] at hlok
   have hv2 := okS_valid hlok
   have hids := lost_idsP hok (fun i => decide ((ndAt l i).pack = r.pack))
   rw [hgone] at hids
   refine hbDE ?_
   rw [hz1l]
   refine HC.cut (α := Nat × Option Addr × Nat) (fun q => [(12, .pointer (some ⟨b12, 0, none⟩)), (19, .pointer (some ⟨b19, 0, none⟩)), (21, .pointer (some ⟨q.1, 0, none⟩))])
    (fun q => [A.blk b12 tomb0 51, A.blk b19 [.slice z2.2.1.1 z2.1.length z2.2.1.2, .slice z2.2.2.1 z2.1.length z2.2.2.2] 84, A.blk q.1 [zv o, zv d, .string (rootP (l.zip D)), .string (rootP (prN l D (goneL l r.pack) false)), .slice q.2.1 (goneL l r.pack).length q.2.2, .slice z1.2.2.1 (goneL l r.pack).length z1.2.2.2] 51, A.grow 3 1 q.2.1 q.2.2 (goneL l r.pack).length (ints (srtI (goneL l r.pack))), A.grow 9 1 z1.2.2.1 z1.2.2.2 (goneL l r.pack).length (strs (digP (prN l D (goneL l r.pack) true))), A.grow 31 4 z2.2.1.1 z2.2.1.2 z2.1.length (ndsV z2.1), A.grow 9 1 z2.2.2.1 z2.2.2.2 z2.1.length (strs (digP (prN l D (goneL l r.pack) false))), A.all (rowsA z2.1)]) (fun _ => True) ?_ ?_
   ·refine HC.anyC (cellsA b14 [.slice a l.length c, .slice a2 D.length c2] ++ (cellsA b19 [.slice z2.2.1.1 z2.1.length z2.2.1.2, .slice z2.2.2.1 z2.1.length z2.2.2.2] ++ (cellsA b18 [.slice z1.2.1.1 (goneL l r.pack).length z1.2.1.2, .slice z1.2.2.1 (goneL l r.pack).length z1.2.2.2] ++ [(⟨b8, 0, none⟩, zv o), (⟨b9, 0, none⟩, zv d)]))) rfl ?_
    refine HB.ld 0 rfl rfl (cellsR (cellsR (cellsR (.head _)))) ?_
    refine HB.ld 1 rfl rfl (cellsR (cellsR (cellsR (.tail _ (.head _))))) ?_
    refine HB.ldA (vs := [.slice a l.length c, .slice a2 D.length c2]) 2 rfl rfl rfl (fun i v hv => cellsL (cellsA_mem hv)) ?_
    refine HB.ldA (vs := [.slice z2.2.1.1 z2.1.length z2.2.1.2, .slice z2.2.2.1 z2.1.length z2.2.2.2]) 4 rfl rfl rfl (fun i v hv => cellsR (cellsL (cellsA_mem hv))) ?_
    refine HB.ldA (vs := [.slice z1.2.1.1 (goneL l r.pack).length z1.2.1.2, .slice z1.2.2.1 (goneL l r.pack).length z1.2.2.2]) 6 rfl rfl rfl (fun i v hv => cellsR (cellsR (cellsL (cellsA_mem hv)))) ?_
    refine HB.pa 8 rfl ?_
    refine HB.ld 9 rfl rfl (cellsR (cellsR (cellsL (cellsA_mem (i := 1) rfl)))) ?_
    refine HB.all (by (exact Keep.blkA (b := b14) (e := 84) memD (Keep.blkA (b := b19) (e := 84) memD (Keep.blkA (b := b18) (e := 84) memD (Keep.blk (b := b8) (cs := [zv o]) (e := 3) memD rfl (Keep.blk (b := b9) (cs := [zv d]) (e := 3) memD rfl Keep.nil)))))) [3, 11] (by kernel_rfl) rfl ⟨⟨_, rfl, ?_⟩, ⟨_, rfl, ?_⟩, trivial⟩
    ·refine HP.one ?_
     refine H1.callx (u := .string (rootP (l.zip D))) (vs := [_]) rfl rfl (fun w' hM => stRoot_fn hlD hv.len (fun i hi => nd_ok hv hi) hDs w' (hG.ext hM.ext) (hR.ext hM.ext) (hS.ext hM.ext)) ?_
     apply HB.fold
     refine HB.all (by (exact Keep.blkA (b := b14) (e := 84) memD (Keep.blkA (b := b19) (e := 84) memD (Keep.blkA (b := b18) (e := 84) memD (Keep.blk (b := b8) (cs := [zv o]) (e := 3) memD rfl (Keep.blk (b := b9) (cs := [zv d]) (e := 3) memD rfl Keep.nil)))))) [5, 11] (by kernel_rfl) rfl ⟨⟨_, rfl, ?_⟩, ⟨_, rfl, ?_⟩, trivial⟩
     ·refine HP.one ?_
      refine H1.callx (u := .string (rootP (prN l D (goneL l r.pack) false))) (vs := [_]) rfl rfl (fun w' hM => by
       have h := stRoot_fn (l := ndsZ z2.1) (D := digP (prN l D (goneL l r.pack) false)) (v := .slice z2.2.1.1 z2.1.length z2.2.1.2) (g := .slice z2.2.2.1 z2.1.length z2.2.2.2) (by rw [hz2, ndsP_len, digP_len]) (by rw [hz2]; exact hv2.len) (fun i hi => by rw [hz2] at hi ⊢; exact nd_ok hv2 hi) (fun d hd => hDs d (prN_dig hd)) w' (hG.ext hM.ext) (hM.rdN memA memA) (hM.gr memA)
       rw [hz2, zip_back] at h
       exact h) ?_
      apply HB.fold
      refine HB.all (by (exact Keep.blkA (b := b14) (e := 84) memD (Keep.blkA (b := b19) (e := 84) memD (Keep.blkA (b := b18) (e := 84) memD (Keep.blk (b := b8) (cs := [zv o]) (e := 3) memD rfl (Keep.blk (b := b9) (cs := [zv d]) (e := 3) memD rfl Keep.nil)))))) [7, 11] (by kernel_rfl) rfl ⟨⟨_, rfl, ?_⟩, ⟨_, rfl, ?_⟩, trivial⟩
      ·refine HP.one ?_
       refine H1.callz (α := Option Addr × Nat) (V := fun z => .slice z.1 (goneL l r.pack).length z.2) (Hn := fun z => [A.grow 3 1 z.1 z.2 (goneL l r.pack).length (ints (srtI (goneL l r.pack)))]) (I := fun _ => True) (vs := [_]) rfl rfl (fun w' hM => by
        have h := ids_fn (l := ndsZ z1.1) (v := .slice z1.2.1.1 z1.1.length z1.2.1.2) (g := .slice z1.2.2.1 (goneL l r.pack).length z1.2.2.2) (by rw [ndsZ_len]; omega) w' (hM.rdN (by rw [hz1l]; first | ((repeat (first | with_reducible exact mem_hd | with_reducible apply mem_tl)); done) | (repeat (first | exact List.Mem.head _ | apply List.Mem.tail))) memA) rfl
        rw [ndsZ_len, hz1l, hz1, hids] at h
        exact h) ?_
       rintro ⟨ai, ci⟩ -
       dsimp only
       apply HB.fold
       refine HB.pa 10 rfl ?_ (POp.build (cs := [zv o, zv d, .string (rootP (l.zip D)), .string (rootP (prN l D (goneL l r.pack) false)), .slice ai (goneL l r.pack).length ci, .slice z1.2.2.1 (goneL l r.pack).length z1.2.2.2]) rfl rfl)
       refine HB.all (by (exact Keep.blkA (b := b14) (e := 84) memD (Keep.blkA (b := b19) (e := 84) memD (Keep.blkA (b := b18) (e := 84) memD (Keep.blk (b := b8) (cs := [zv o]) (e := 3) memD rfl (Keep.blk (b := b9) (cs := [zv d]) (e := 3) memD rfl Keep.nil)))))) [11] (by kernel_rfl) rfl ⟨⟨_, rfl, ?_⟩, trivial⟩
       refine HP.one ?_
       refine H1.alloc (cs := tomb0) rfl rfl (fun b21 => ?_)
       apply HB.fold
       refine HB.all (by (exact Keep.blkA (b := b14) (e := 84) memD (Keep.blkA (b := b19) (e := 84) memD (Keep.blkA (b := b18) (e := 84) memD (Keep.blk (b := b8) (cs := [zv o]) (e := 3) memD rfl (Keep.blk (b := b9) (cs := [zv d]) (e := 3) memD rfl Keep.nil)))))) [12] (by kernel_rfl) rfl ⟨⟨_, rfl, ?_⟩, trivial⟩
       refine HP.one ?_
       refine H1.stAgg (b := b21) (cs := tomb0) (vs := [zv o, zv d, .string (rootP (l.zip D)), .string (rootP (prN l D (goneL l r.pack) false)), .slice ai (goneL l r.pack).length ci, .slice z1.2.2.1 (goneL l r.pack).length z1.2.2.2]) rfl rfl rfl (by intro v hv; simp only [List.mem_cons, List.not_mem_nil, or_false] at hv; rcases hv with rfl | rfl | rfl | rfl | rfl | rfl <;> rfl) rplA rfl ?_
       apply HB.fold
       refine HB.done (by (exact Keep.blkA (b := b14) (e := 84) memD (Keep.blkA (b := b19) (e := 84) memD (Keep.blkA (b := b18) (e := 84) memD (Keep.blk (b := b8) (cs := [zv o]) (e := 3) memD rfl (Keep.blk (b := b9) (cs := [zv d]) (e := 3) memD rfl Keep.nil)))))) (by kernel_rfl) ?_
       exact HX.cut (b21, ai, ci) trivial esA (by repeat (first | exact Hs.nil _ | (refine Hs.cons pickA ?_)))
      ·refine HP.one ?_
       refine H1.alloc (cs := tomb0) rfl rfl (fun b21 => ?_)
       apply HB.fold
       refine HB.all (by (exact Keep.blkA (b := b14) (e := 84) memD (Keep.blkA (b := b19) (e := 84) memD (Keep.blkA (b := b18) (e := 84) memD (Keep.blk (b := b8) (cs := [zv o]) (e := 3) memD rfl (Keep.blk (b := b9) (cs := [zv d]) (e := 3) memD rfl Keep.nil)))))) [7] (by kernel_rfl) rfl ⟨⟨_, rfl, ?_⟩, trivial⟩
       refine HP.one ?_
       refine H1.callz (α := Option Addr × Nat) (V := fun z => .slice z.1 (goneL l r.pack).length z.2) (Hn := fun z => [A.grow 3 1 z.1 z.2 (goneL l r.pack).length (ints (srtI (goneL l r.pack)))]) (I := fun _ => True) (vs := [_]) rfl rfl (fun w' hM => by
        have h := ids_fn (l := ndsZ z1.1) (v := .slice z1.2.1.1 z1.1.length z1.2.1.2) (g := .slice z1.2.2.1 (goneL l r.pack).length z1.2.2.2) (by rw [ndsZ_len]; omega) w' (hM.rdN (by rw [hz1l]; first | ((repeat (first | with_reducible exact mem_hd | with_reducible apply mem_tl)); done) | (repeat (first | exact List.Mem.head _ | apply List.Mem.tail))) memA) rfl
        rw [ndsZ_len, hz1l, hz1, hids] at h
        exact h) ?_
       rintro ⟨ai, ci⟩ -
       dsimp only
       apply HB.fold
       refine HB.pa 10 rfl ?_ (POp.build (cs := [zv o, zv d, .string (rootP (l.zip D)), .string (rootP (prN l D (goneL l r.pack) false)), .slice ai (goneL l r.pack).length ci, .slice z1.2.2.1 (goneL l r.pack).length z1.2.2.2]) rfl rfl)
       refine HB.all (by (exact Keep.blkA (b := b14) (e := 84) memD (Keep.blkA (b := b19) (e := 84) memD (Keep.blkA (b := b18) (e := 84) memD (Keep.blk (b := b8) (cs := [zv o]) (e := 3) memD rfl (Keep.blk (b := b9) (cs := [zv d]) (e := 3) memD rfl Keep.nil)))))) [12] (by kernel_rfl) rfl ⟨⟨_, rfl, ?_⟩, trivial⟩
       refine HP.one ?_
       refine H1.stAgg (b := b21) (cs := tomb0) (vs := [zv o, zv d, .string (rootP (l.zip D)), .string (rootP (prN l D (goneL l r.pack) false)), .slice ai (goneL l r.pack).length ci, .slice z1.2.2.1 (goneL l r.pack).length z1.2.2.2]) rfl rfl rfl (by intro v hv; simp only [List.mem_cons, List.not_mem_nil, or_false] at hv; rcases hv with rfl | rfl | rfl | rfl | rfl | rfl <;> rfl) rplA rfl ?_
       apply HB.fold
       refine HB.done (by (exact Keep.blkA (b := b14) (e := 84) memD (Keep.blkA (b := b19) (e := 84) memD (Keep.blkA (b := b18) (e := 84) memD (Keep.blk (b := b8) (cs := [zv o]) (e := 3) memD rfl (Keep.blk (b := b9) (cs := [zv d]) (e := 3) memD rfl Keep.nil)))))) (by kernel_rfl) ?_
       exact HX.cut (b21, ai, ci) trivial esA (by repeat (first | exact Hs.nil _ | (refine Hs.cons pickA ?_)))
     ·refine HP.one ?_
      refine H1.alloc (cs := tomb0) rfl rfl (fun b21 => ?_)
      apply HB.fold
      refine HB.all (by (exact Keep.blkA (b := b14) (e := 84) memD (Keep.blkA (b := b19) (e := 84) memD (Keep.blkA (b := b18) (e := 84) memD (Keep.blk (b := b8) (cs := [zv o]) (e := 3) memD rfl (Keep.blk (b := b9) (cs := [zv d]) (e := 3) memD rfl Keep.nil)))))) [5] (by kernel_rfl) rfl ⟨⟨_, rfl, ?_⟩, trivial⟩
      refine HP.one ?_
      refine H1.callx (u := .string (rootP (prN l D (goneL l r.pack) false))) (vs := [_]) rfl rfl (fun w' hM => by
       have h := stRoot_fn (l := ndsZ z2.1) (D := digP (prN l D (goneL l r.pack) false)) (v := .slice z2.2.1.1 z2.1.length z2.2.1.2) (g := .slice z2.2.2.1 z2.1.length z2.2.2.2) (by rw [hz2, ndsP_len, digP_len]) (by rw [hz2]; exact hv2.len) (fun i hi => by rw [hz2] at hi ⊢; exact nd_ok hv2 hi) (fun d hd => hDs d (prN_dig hd)) w' (hG.ext hM.ext) (hM.rdN memA memA) (hM.gr memA)
       rw [hz2, zip_back] at h
       exact h) ?_
      apply HB.fold
      refine HB.all (by (exact Keep.blkA (b := b14) (e := 84) memD (Keep.blkA (b := b19) (e := 84) memD (Keep.blkA (b := b18) (e := 84) memD (Keep.blk (b := b8) (cs := [zv o]) (e := 3) memD rfl (Keep.blk (b := b9) (cs := [zv d]) (e := 3) memD rfl Keep.nil)))))) [7] (by kernel_rfl) rfl ⟨⟨_, rfl, ?_⟩, trivial⟩
      refine HP.one ?_
      refine H1.callz (α := Option Addr × Nat) (V := fun z => .slice z.1 (goneL l r.pack).length z.2) (Hn := fun z => [A.grow 3 1 z.1 z.2 (goneL l r.pack).length (ints (srtI (goneL l r.pack)))]) (I := fun _ => True) (vs := [_]) rfl rfl (fun w' hM => by
       have h := ids_fn (l := ndsZ z1.1) (v := .slice z1.2.1.1 z1.1.length z1.2.1.2) (g := .slice z1.2.2.1 (goneL l r.pack).length z1.2.2.2) (by rw [ndsZ_len]; omega) w' (hM.rdN (by rw [hz1l]; first | ((repeat (first | with_reducible exact mem_hd | with_reducible apply mem_tl)); done) | (repeat (first | exact List.Mem.head _ | apply List.Mem.tail))) memA) rfl
       rw [ndsZ_len, hz1l, hz1, hids] at h
       exact h) ?_
      rintro ⟨ai, ci⟩ -
      dsimp only
      apply HB.fold
      refine HB.pa 10 rfl ?_ (POp.build (cs := [zv o, zv d, .string (rootP (l.zip D)), .string (rootP (prN l D (goneL l r.pack) false)), .slice ai (goneL l r.pack).length ci, .slice z1.2.2.1 (goneL l r.pack).length z1.2.2.2]) rfl rfl)
      refine HB.all (by (exact Keep.blkA (b := b14) (e := 84) memD (Keep.blkA (b := b19) (e := 84) memD (Keep.blkA (b := b18) (e := 84) memD (Keep.blk (b := b8) (cs := [zv o]) (e := 3) memD rfl (Keep.blk (b := b9) (cs := [zv d]) (e := 3) memD rfl Keep.nil)))))) [12] (by kernel_rfl) rfl ⟨⟨_, rfl, ?_⟩, trivial⟩
      refine HP.one ?_
      refine H1.stAgg (b := b21) (cs := tomb0) (vs := [zv o, zv d, .string (rootP (l.zip D)), .string (rootP (prN l D (goneL l r.pack) false)), .slice ai (goneL l r.pack).length ci, .slice z1.2.2.1 (goneL l r.pack).length z1.2.2.2]) rfl rfl rfl (by intro v hv; simp only [List.mem_cons, List.not_mem_nil, or_false] at hv; rcases hv with rfl | rfl | rfl | rfl | rfl | rfl <;> rfl) rplA rfl ?_
      apply HB.fold
      refine HB.done (by (exact Keep.blkA (b := b14) (e := 84) memD (Keep.blkA (b := b19) (e := 84) memD (Keep.blkA (b := b18) (e := 84) memD (Keep.blk (b := b8) (cs := [zv o]) (e := 3) memD rfl (Keep.blk (b := b9) (cs := [zv d]) (e := 3) memD rfl Keep.nil)))))) (by kernel_rfl) ?_
      exact HX.cut (b21, ai, ci) trivial esA (by repeat (first | exact Hs.nil _ | (refine Hs.cons pickA ?_)))
    ·refine HP.one ?_
     refine H1.alloc (cs := tomb0) rfl rfl (fun b21 => ?_)
     apply HB.fold
     refine HB.all (by (exact Keep.blkA (b := b14) (e := 84) memD (Keep.blkA (b := b19) (e := 84) memD (Keep.blkA (b := b18) (e := 84) memD (Keep.blk (b := b8) (cs := [zv o]) (e := 3) memD rfl (Keep.blk (b := b9) (cs := [zv d]) (e := 3) memD rfl Keep.nil)))))) [3] (by kernel_rfl) rfl ⟨⟨_, rfl, ?_⟩, trivial⟩
     refine HP.one ?_
     refine H1.callx (u := .string (rootP (l.zip D))) (vs := [_]) rfl rfl (fun w' hM => stRoot_fn hlD hv.len (fun i hi => nd_ok hv hi) hDs w' (hG.ext hM.ext) (hR.ext hM.ext) (hS.ext hM.ext)) ?_
     apply HB.fold
     refine HB.all (by (exact Keep.blkA (b := b14) (e := 84) memD (Keep.blkA (b := b19) (e := 84) memD (Keep.blkA (b := b18) (e := 84) memD (Keep.blk (b := b8) (cs := [zv o]) (e := 3) memD rfl (Keep.blk (b := b9) (cs := [zv d]) (e := 3) memD rfl Keep.nil)))))) [5] (by kernel_rfl) rfl ⟨⟨_, rfl, ?_⟩, trivial⟩
     refine HP.one ?_
     refine H1.callx (u := .string (rootP (prN l D (goneL l r.pack) false))) (vs := [_]) rfl rfl (fun w' hM => by
      have h := stRoot_fn (l := ndsZ z2.1) (D := digP (prN l D (goneL l r.pack) false)) (v := .slice z2.2.1.1 z2.1.length z2.2.1.2) (g := .slice z2.2.2.1 z2.1.length z2.2.2.2) (by rw [hz2, ndsP_len, digP_len]) (by rw [hz2]; exact hv2.len) (fun i hi => by rw [hz2] at hi ⊢; exact nd_ok hv2 hi) (fun d hd => hDs d (prN_dig hd)) w' (hG.ext hM.ext) (hM.rdN memA memA) (hM.gr memA)
      rw [hz2, zip_back] at h
      exact h) ?_
     apply HB.fold
     refine HB.all (by (exact Keep.blkA (b := b14) (e := 84) memD (Keep.blkA (b := b19) (e := 84) memD (Keep.blkA (b := b18) (e := 84) memD (Keep.blk (b := b8) (cs := [zv o]) (e := 3) memD rfl (Keep.blk (b := b9) (cs := [zv d]) (e := 3) memD rfl Keep.nil)))))) [7] (by kernel_rfl) rfl ⟨⟨_, rfl, ?_⟩, trivial⟩
     refine HP.one ?_
     refine H1.callz (α := Option Addr × Nat) (V := fun z => .slice z.1 (goneL l r.pack).length z.2) (Hn := fun z => [A.grow 3 1 z.1 z.2 (goneL l r.pack).length (ints (srtI (goneL l r.pack)))]) (I := fun _ => True) (vs := [_]) rfl rfl (fun w' hM => by
      have h := ids_fn (l := ndsZ z1.1) (v := .slice z1.2.1.1 z1.1.length z1.2.1.2) (g := .slice z1.2.2.1 (goneL l r.pack).length z1.2.2.2) (by rw [ndsZ_len]; omega) w' (hM.rdN (by rw [hz1l]; first | ((repeat (first | with_reducible exact mem_hd | with_reducible apply mem_tl)); done) | (repeat (first | exact List.Mem.head _ | apply List.Mem.tail))) memA) rfl
      rw [ndsZ_len, hz1l, hz1, hids] at h
      exact h) ?_
     rintro ⟨ai, ci⟩ -
     dsimp only
     apply HB.fold
     refine HB.pa 10 rfl ?_ (POp.build (cs := [zv o, zv d, .string (rootP (l.zip D)), .string (rootP (prN l D (goneL l r.pack) false)), .slice ai (goneL l r.pack).length ci, .slice z1.2.2.1 (goneL l r.pack).length z1.2.2.2]) rfl rfl)
     refine HB.all (by (exact Keep.blkA (b := b14) (e := 84) memD (Keep.blkA (b := b19) (e := 84) memD (Keep.blkA (b := b18) (e := 84) memD (Keep.blk (b := b8) (cs := [zv o]) (e := 3) memD rfl (Keep.blk (b := b9) (cs := [zv d]) (e := 3) memD rfl Keep.nil)))))) [12] (by kernel_rfl) rfl ⟨⟨_, rfl, ?_⟩, trivial⟩
     refine HP.one ?_
     refine H1.stAgg (b := b21) (cs := tomb0) (vs := [zv o, zv d, .string (rootP (l.zip D)), .string (rootP (prN l D (goneL l r.pack) false)), .slice ai (goneL l r.pack).length ci, .slice z1.2.2.1 (goneL l r.pack).length z1.2.2.2]) rfl rfl rfl (by intro v hv; simp only [List.mem_cons, List.not_mem_nil, or_false] at hv; rcases hv with rfl | rfl | rfl | rfl | rfl | rfl <;> rfl) rplA rfl ?_
     apply HB.fold
     refine HB.done (by (exact Keep.blkA (b := b14) (e := 84) memD (Keep.blkA (b := b19) (e := 84) memD (Keep.blkA (b := b18) (e := 84) memD (Keep.blk (b := b8) (cs := [zv o]) (e := 3) memD rfl (Keep.blk (b := b9) (cs := [zv d]) (e := 3) memD rfl Keep.nil)))))) (by kernel_rfl) ?_
     exact HX.cut (b21, ai, ci) trivial esA (by repeat (first | exact Hs.nil _ | (refine Hs.cons pickA ?_)))
   rintro ⟨b21, ai, ci⟩ -
   dsimp only
   repeat refine HC.seq ?_
   refine HC.anyC (cellsA b19 [.slice z2.2.1.1 z2.1.length z2.2.1.2, .slice z2.2.2.1 z2.1.length z2.2.2.2] ++ (cellsA b21 [zv o, zv d, .string (rootP (l.zip D)), .string (rootP (prN l D (goneL l r.pack) false)), .slice ai (goneL l r.pack).length ci, .slice z1.2.2.1 (goneL l r.pack).length z1.2.2.2] ++ [])) rfl ?_
   refine HB.pa 0 rfl ?_
   refine HB.ld 1 rfl rfl (cellsL (cellsA_mem (i := 0) rfl)) ?_
   refine HB.pa 2 rfl ?_
   refine HB.ld 3 rfl rfl (cellsL (cellsA_mem (i := 1) rfl)) ?_
   refine HB.ldA (vs := [zv o, zv d, .string (rootP (l.zip D)), .string (rootP (prN l D (goneL l r.pack) false)), .slice ai (goneL l r.pack).length ci, .slice z1.2.2.1 (goneL l r.pack).length z1.2.2.2]) 4 rfl rfl rfl (fun i v hv => cellsR (cellsL (cellsA_mem hv))) ?_
   refine HB.pa 5 rfl ?_
   refine HB.pa 6 rfl ?_
   refine HB.all (by (exact Keep.blkA (b := b19) (e := 84) memD (Keep.blkA (b := b21) (e := 51) memD Keep.nil))) [7] (by kernel_rfl) rfl ⟨⟨_, rfl, ?_⟩, trivial⟩
   refine HP.one ?_
   refine H1.stAgg (b := b12) (cs := tomb0) (vs := [zv o, zv d, .string (rootP (l.zip D)), .string (rootP (prN l D (goneL l r.pack) false)), .slice ai (goneL l r.pack).length ci, .slice z1.2.2.1 (goneL l r.pack).length z1.2.2.2]) rfl rfl rfl (by intro v hv; simp only [List.mem_cons, List.not_mem_nil, or_false] at hv; rcases hv with rfl | rfl | rfl | rfl | rfl | rfl <;> rfl) rplA rfl ?_
   apply HB.fold
   refine HB.pa 8 rfl ?_
   refine HB.done (by (exact Keep.blkA (b := b19) (e := 84) memD (Keep.blkA (b := b21) (e := 51) memD Keep.nil))) (by kernel_rfl) ?_
   refine hwNB ?_
   exact HX.retG (rs := [.tmp 10, .tmp 11, .cell 12 51, .tmp 13]) (vs := [.slice z2.2.1.1 z2.1.length z2.2.1.2, .slice z2.2.2.1 z2.1.length z2.2.2.2, .agg ([zv o, zv d, .string (rootP (l.zip D)), .string (rootP (prN l D (goneL l r.pack) false)), .slice ai (goneL l r.pack).length ci, .slice z1.2.2.1 (goneL l r.pack).length z1.2.2.2] : List Value).toArray, zv 0]) rfl rfl (fun w' hM => ⟨rfl, rfl, ⟨_, rfl, loadVar_agg (b := b12) hM memA rfl⟩, rfl, trivial⟩) fun w' hM => .inr ⟨r.pack, hpk, (⟨z2.1, z2.2.1.1, z2.2.1.2, z2.2.2.1, z2.2.2.2, ai, ci, z1.2.2.1, z1.2.2.2⟩ : DelZ), hz2, rfl, hM.sub (by repeat (first | exact Hs.nil _ | (refine Hs.cons pickA ?_)))⟩
end Go.Sx
/- Plain, chapter 24: tombstones that are not true. -/
namespace Go.Sx
open Go Go.RowKit
structure ChkF (bef aft : ByteArray) (ns : List Int) (ds : List ByteArray) (l : List Nd) (D : List ByteArray) (l2 : List Nd) (D2 : List ByteArray) : Prop where
 ok1 : okS l D = true
 ok2 : okS l2 D2 = true
 ne : ns.length ≠ 0
 bef : bef = rootP (l.zip D)
 aft : aft = rootP (l2.zip D2)
 der : derA l ns = ns
 dig : digP (prN l D ns true) = ds
 nds : ndsP (prN l D ns false) = l2
 kept : digP (prN l D ns false) = D2
theorem chkP_iff {bef aft : ByteArray} {ns : List Int} {ds : List ByteArray} {l : List Nd} {D : List ByteArray} {l2 : List Nd} {D2 : List ByteArray} : chkP bef aft ns ds l D l2 D2 = true ↔ ChkF bef aft ns ds l D l2 D2 := by
 unfold chkP
 simp only [Bool.and_eq_true, decide_eq_true_eq, eqNs_iff]
 exact ⟨fun ⟨⟨⟨⟨⟨⟨⟨a, b⟩, c⟩, d⟩, e⟩, f⟩, g⟩, h, i⟩ => ⟨a, b, c, d, e, f, g, h, i⟩, fun ⟨a, b, c, d, e, f, g, h, i⟩ => ⟨⟨⟨⟨⟨⟨⟨a, b⟩, c⟩, d⟩, e⟩, f⟩, g⟩, h, i⟩⟩
theorem chkP_no {bef aft : ByteArray} {ns : List Int} {ds : List ByteArray} {l : List Nd} {D : List ByteArray} {l2 : List Nd} {D2 : List ByteArray} (h : ChkF bef aft ns ds l D l2 D2 → False) : chkP bef aft ns ds l D l2 D2 = false := by
 rw [← Bool.not_eq_true, chkP_iff]; exact h
theorem tomb_left {l : List Nd} {D : List ByteArray} {bef aft : ByteArray} {ns : List Int} {ds : List ByteArray} {l2 : List Nd} {D2 : List ByteArray} (h2 : l2.length ≠ (prN l D ns false).length) : chkP bef aft ns ds l D l2 D2 = false := chkP_no fun h => by
 have h3 := congrArg List.length h.nds
 rw [ndsP_len] at h3
 exact h2 h3.symm
end Go.Sx
/- Chapter 24: Check: the walk. -/
namespace Go.Sx
open Go Go.Proofs Go.RowKit
theorem derA_len (l : List Nd) (f : List Int) : (derA l f).length ≤ l.length := by
 unfold derA
 split
 ·rw [srtI_len]; exact derL_len _ _ _
 ·exact Nat.zero_le _
attribute [local irreducible] WC WL WX POp Then Again Fn NX W1 WA WO QL RP RA Yld LoopAt HC HL HX HN H1 HA HO HQ HB HP A.blk A.grow A.rd A.obj A.mp AgainH CutH
attribute [local irreducible] A.mq A.mit A.all
set_option maxHeartbeats 8000000 in
theorem check_fn {v g v2 g2 vN vD : Value} {l l2 : List Nd} {D D2 ds : List ByteArray} {U U2 : Nat → Value} {ns : List Int} (o d : Int) (bef aft : ByteArray) (hl : l.length ≤ 400000) (hls : ∀ i, i < l.length → (ndAt l i).src.length ≤ 1000000) (hD : D.length ≤ 1000000) (hDs : ∀ d ∈ D, d.size ≤ 1000)
  (hl2 : l2.length ≤ 400000) (hls2 : ∀ i, i < l2.length → (ndAt l2 i).src.length ≤ 1000000) (hD2 : D2.length ≤ 1000000) (hDs2 : ∀ d ∈ D2, d.size ≤ 1000) (hns : ns.length ≤ 1000000) (hds : ds.length ≤ 1000000) (w : World) (hG : RoundG w) (hR : RdN w v l U) (hS : Rd w g (strs D)) (hR2 : RdN w v2 l2 U2) (hS2 : Rd w g2 (strs D2)) (hN : Rd w vN (ints ns)) (hV : Rd w vD (strs ds)) :
  Fn Tryz.prog 31 #[.agg #[zv o, zv d, .string bef, .string aft, vN, vD], v, g, v2, g2] w fun u w' => u = .bool (chkP bef aft ns ds l D l2 D2) ∧ Ext w w' := by
 have shape : ∀ {g : Value} {D : List ByteArray}, Rd w g (strs D) → ∃ a c, g = .slice a D.length c := fun {g D} h => by
  obtain ⟨a, c, h1, h2, -⟩ := id h
  rw [strs_len] at h1
  exact ⟨a, c, h1⟩
 obtain ⟨a, c, rfl, hc, -⟩ := id hR.shape
 obtain ⟨a3, c3, rfl, hc3, -⟩ := id hR2.shape
 obtain ⟨a2, c2, rfl⟩ := shape hS
 obtain ⟨a4, c4, rfl⟩ := shape hS2
 obtain ⟨aD, cD, rfl⟩ := shape hV
 obtain ⟨aN, cN, rfl, -⟩ := hN.isInts
 refine enterH (l := [_, _, _, _, _]) rfl Tryz.ntmps31 rfl ?_
 refine hwNB ?_
 refine HL.one (H1.boxAgg (cs := [zv o, zv d, .string bef, .string aft, .slice aN ns.length cN, .slice aD ds.length cD]) rfl rfl (fun b5 => ?_))
 refine hwNB ?_
 refine HL.build (cs := [.slice a l.length c, .slice a2 D.length c2]) rfl rfl rfl ?_
 refine hwNB ?_
 refine HL.build (cs := [.slice a3 l2.length c3, .slice a4 D2.length c4]) rfl rfl rfl ?_
 refine hwNB ?_
 refine HL.one (H1.alloc (cs := [.slice none 0 0, .slice none 0 0]) rfl rfl (fun b11 => ?_))
 refine hwNB ?_
 refine HL.one (H1.alloc (cs := [.slice none 0 0, .slice none 0 0]) rfl rfl (fun b12 => ?_))
 refine hwNB ?_
 refine HL.one (H1.stAgg (b := b11) (cs := [.slice none 0 0, .slice none 0 0]) (vs := [.slice a l.length c, .slice a2 D.length c2]) rfl rfl rfl (by intro v hv; simp only [List.mem_cons, List.not_mem_nil, or_false] at hv; rcases hv with rfl | rfl <;> rfl) rplA rfl ?_)
 refine hwNB ?_
 refine HL.one (H1.stAgg (b := b12) (cs := [.slice none 0 0, .slice none 0 0]) (vs := [.slice a3 l2.length c3, .slice a4 D2.length c4]) rfl rfl rfl (by intro v hv; simp only [List.mem_cons, List.not_mem_nil, or_false] at hv; rcases hv with rfl | rfl <;> rfl) rplA rfl ?_)
 refine hbDE ?_
 refine HC.cut (α := Bool) (fun q => [(1, .slice a l.length c), (5, .pointer (some ⟨b5, 0, none⟩)), (10, .bool false), (11, .pointer (some ⟨b11, 0, none⟩)), (12, .pointer (some ⟨b12, 0, none⟩)), (48, .bool q)])
  (fun _ => [A.blk b12 [.slice a3 l2.length c3, .slice a4 D2.length c4] 84, A.blk b11 [.slice a l.length c, .slice a2 D.length c2] 84, A.blk b5 [zv o, zv d, .string bef, .string aft, .slice aN ns.length cN, .slice aD ds.length cD] 51]) (fun q => q = true ↔ ¬ (okS l D = true ∧ okS l2 D2 = true ∧ ns.length ≠ 0 ∧ bef = rootP (l.zip D) ∧ aft = rootP (l2.zip D2))) ?_ ?_
 ·cases ok1 : okS l D with
  | false =>
   refine HC.quietS [(some 21, [11], []), (some 22, [21], [0]), (some 23, [22], [1]), (some 24, [23], [2, 1]), (some 25, [12, 24], [3]), (some 26, [25, 24], [4, 3, 3]), (some 27, [26, 24], [5, 3]), (some 28, [24, 27], [3, 6]), (some 29, [28], [7, 5]), (some 30, [5, 29], [8]), (some 31, [30, 29], [9, 8]), (some 32, [31, 29], [10, 8]), (some 33, [32, 29], [11, 8]), (some 34, [29, 33], [8, 12]), (some 35, [34], [13, 8]), (some 36, [5, 35], [14]), (some 37, [36, 35], [15, 14]), (some 38, [11, 35], [14]), (some 39, [38, 35], [17, 14, 14]), (some 40, [37, 39, 35], [16, 18, 14]), (some 41, [35, 40], [14, 19]), (some 42, [41], [20, 18]), (some 43, [5, 42], [21]), (some 44, [43, 42], [22, 21]), (some 45, [12, 42], [21]), (some 46, [45, 42], [24, 21, 21]), (some 47, [44, 46, 42], [23, 25, 21]), (some 48, [42, 47], [21, 26])] (by kernel_rfl) (by kernel_rfl) (by kernel_rfl) ?_
   refine HQ.ldAgg (b := b11) (off := 0) (vs := [.slice a l.length c, .slice a2 D.length c2]) rfl rfl (fun w' hM i v hv => (hM.blk (b := b11) memA).cell (by rwa [Nat.zero_add])) rfl ?_
   refine qwA ?_
   refine HQ.call (vs := [_]) rfl rfl (fun w' hM => stValid_fn hl hls hD (fun d hd => by have := hDs d hd; omega) w' (hR.ext hM.ext) (hS.ext hM.ext)) ?_
   rw [ok1]
   refine qwA ?_
   refine HQ.nil ?_
   exact HX.cut true (by simp) esA (by repeat (first | exact Hs.nil _ | (refine Hs.cons pickA ?_)))
  | true =>
   refine HC.quietS [(some 21, [11], []), (some 22, [21], [0]), (some 23, [22], [1]), (some 24, [23], [2, 1]), (some 25, [12, 24], [3]), (some 26, [25, 24], [4, 3, 3]), (some 27, [26, 24], [5, 3]), (some 28, [24, 27], [3, 6]), (some 29, [28], [7, 5]), (some 30, [5, 29], [8]), (some 31, [30, 29], [9, 8]), (some 32, [31, 29], [10, 8]), (some 33, [32, 29], [11, 8]), (some 34, [29, 33], [8, 12]), (some 35, [34], [13, 8]), (some 36, [5, 35], [14]), (some 37, [36, 35], [15, 14]), (some 38, [11, 35], [14]), (some 39, [38, 35], [17, 14, 14]), (some 40, [37, 39, 35], [16, 18, 14]), (some 41, [35, 40], [14, 19]), (some 42, [41], [20, 18]), (some 43, [5, 42], [21]), (some 44, [43, 42], [22, 21]), (some 45, [12, 42], [21]), (some 46, [45, 42], [24, 21, 21]), (some 47, [44, 46, 42], [23, 25, 21]), (some 48, [42, 47], [21, 26])] (by kernel_rfl) (by kernel_rfl) (by kernel_rfl) ?_
   refine HQ.ldAgg (b := b11) (off := 0) (vs := [.slice a l.length c, .slice a2 D.length c2]) rfl rfl (fun w' hM i v hv => (hM.blk (b := b11) memA).cell (by rwa [Nat.zero_add])) rfl ?_
   refine qwA ?_
   refine HQ.call (vs := [_]) rfl rfl (fun w' hM => stValid_fn hl hls hD (fun d hd => by have := hDs d hd; omega) w' (hR.ext hM.ext) (hS.ext hM.ext)) ?_
   rw [ok1]
   refine HQ.pa ?_
   refine HQ.pa ?_
   refine HQ.ga rfl ?_
   refine HQ.ldAgg (b := b12) (off := 0) (vs := [.slice a3 l2.length c3, .slice a4 D2.length c4]) rfl rfl (fun w' hM i v hv => (hM.blk (b := b12) memA).cell (by rwa [Nat.zero_add])) rfl ?_
   refine qwA ?_
   refine HQ.call (vs := [_]) rfl rfl (fun w' hM => stValid_fn hl2 hls2 hD2 (fun d hd => by have := hDs2 d hd; omega) w' (hR2.ext hM.ext) (hS2.ext hM.ext)) ?_
   cases ok2 : okS l2 D2 with
   | false =>
    refine qwA ?_
    refine HQ.nil ?_
    exact HX.cut true (by simp) esA (by repeat (first | exact Hs.nil _ | (refine Hs.cons pickA ?_)))
   | true =>
    by_cases h0 : ns.length = 0
    ·have h0' : ((ns.length : Nat) : Int) = 0 := by omega
     refine qwA ?_
     refine HQ.nil ?_
     exact HX.cut true (by simp [h0]) esA (by repeat (first | exact Hs.nil _ | (refine Hs.cons pickA ?_)))
    have h0' : ¬ ((ns.length : Nat) : Int) = 0 := by omega
    iterate 19 (first | refine HQ.pa ?_ | refine HQ.ga rfl ?_ | refine HQ.ldb rfl memA rfl rfl ?_)
    refine HQ.ldAgg (b := b11) (off := 0) (vs := [.slice a l.length c, .slice a2 D.length c2]) rfl rfl (fun w' hM i v hv => (hM.blk (b := b11) memA).cell (by rwa [Nat.zero_add])) rfl ?_
    refine HQ.ga rfl ?_
    refine HQ.call (vs := [_]) rfl rfl (fun w' hM => stRoot_fn (okS_facts ok1).2.1 (okS_valid ok1).len (fun i hi => nd_ok (okS_valid ok1) hi) hDs w' (hG.ext hM.ext) (hR.ext hM.ext) (hS.ext hM.ext)) ?_
    by_cases hb : bef = rootP (l.zip D)
    rotate_left
    ·refine qwA ?_
     refine HQ.nil ?_
     exact HX.cut true (by simp [hb]) esA (by repeat (first | exact Hs.nil _ | (refine Hs.cons pickA ?_)))
    have hb' : (decide ¬ bef = rootP (l.zip D)) = false := by simp [hb]
    iterate 9 (first | refine HQ.pa ?_ | refine HQ.ga rfl ?_ | refine HQ.ldb rfl memA rfl rfl ?_)
    refine HQ.ldAgg (b := b12) (off := 0) (vs := [.slice a3 l2.length c3, .slice a4 D2.length c4]) rfl rfl (fun w' hM i v hv => (hM.blk (b := b12) memA).cell (by rwa [Nat.zero_add])) rfl ?_
    refine HQ.ga rfl ?_
    refine HQ.call (vs := [_]) rfl rfl (fun w' hM => stRoot_fn (okS_facts ok2).2.1 (okS_valid ok2).len (fun i hi => nd_ok (okS_valid ok2) hi) hDs2 w' (hG.ext hM.ext) (hR2.ext hM.ext) (hS2.ext hM.ext)) ?_
    by_cases ha : aft = rootP (l2.zip D2)
    ·have ha' : (decide ¬ aft = rootP (l2.zip D2)) = false := by simp [ha]
     refine qwA ?_
     refine HQ.nil ?_
     exact HX.cut false (by simp [h0, ← hb, ← ha]) (by refine ⟨rfl, rfl, rfl, rfl, rfl, ?_, trivial⟩; show some (Value.bool (decide ¬ aft = rootP (l2.zip D2))) = _; rw [ha']) (by repeat (first | exact Hs.nil _ | (refine Hs.cons pickA ?_)))
    ·have ha' : (decide ¬ aft = rootP (l2.zip D2)) = true := by simp [ha]
     refine qwA ?_
     refine HQ.nil ?_
     exact HX.cut true (by simp [ha]) (by refine ⟨rfl, rfl, rfl, rfl, rfl, ?_, trivial⟩; show some (Value.bool (decide ¬ aft = rootP (l2.zip D2))) = _; rw [ha']) (by repeat (first | exact Hs.nil _ | (refine Hs.cons pickA ?_)))
 rintro q hq
 cases q with
 | true =>
  have hno : chkP bef aft ns ds l D l2 D2 = false := chkP_no fun h => hq.1 rfl ⟨h.ok1, h.ok2, h.ne, h.bef, h.aft⟩
  refine hwNB ?_
  exact HX.ret1 rfl rfl fun w' hM => ⟨by rw [hno], hM.ext⟩
 | false =>
  have hyes := Classical.not_not.1 fun h => absurd (hq.2 h) (by decide)
  obtain ⟨ok1, ok2, h0, hb, ha⟩ := hyes
  have hlD := (okS_facts ok1).2.1
  have hset : ∀ b, prN l D (setL ns ns.length) b = prN l D ns b := prN_congr fun x => mem_setA
  have hpl : ∀ b, (prN l D ns b).length ≤ l.length := fun b => Nat.le_trans (List.length_filter_le _ _) (by rw [List.length_zip]; omega)
  clear hq
  refine hwNB ?_
  refine HL.one (H1.callz (vs := [_]) rfl rfl (fun w' hM => setOf_fn hns w' (hN.ext hM.ext)) ?_)
  rintro bm -
  refine hwNB ?_
  refine HL.one (H1.ldAgg (b := b11) (vs := [.slice a l.length c, .slice a2 D.length c2]) rfl memA rfl (fun i v h => by rwa [Nat.zero_add]) rfl ?_)
  refine hwNB ?_
  refine HL.one (H1.callz (vs := [_, _, _]) rfl rfl (fun w' hM => by
   have h := part_fn true hlD hl hls w' (hR.ext hM.ext) (hS.ext hM.ext) (hM.setW (b := bm) memA)
   rw [hset] at h
   exact h) ?_)
  rintro z1 hz1
  have hz1l : z1.1.length = (prN l D ns true).length := by rw [← ndsZ_len, hz1, ndsP_len]
  have hp1 := hpl true
  have hp2 := hpl false
  refine hwNB ?_
  refine HL.one (H1.alloc (cs := [.slice none 0 0, .slice none 0 0]) rfl rfl (fun b14 => ?_))
  refine hwNB ?_
  refine HL.one (H1.stAgg (b := b14) (cs := [.slice none 0 0, .slice none 0 0]) (vs := [.slice z1.2.1.1 z1.1.length z1.2.1.2, .slice z1.2.2.1 z1.1.length z1.2.2.2]) rfl rfl rfl (by intro v hv; simp only [List.mem_cons, List.not_mem_nil, or_false] at hv; rcases hv with rfl | rfl <;> rfl) rplA rfl ?_)
  refine hbDE ?_
  cases q1 : decide (derA l ns = ns) with
  | false =>
   have hno : chkP bef aft ns ds l D l2 D2 = false := chkP_no fun h => by rw [decide_eq_true h.der] at q1; cases q1
   refine HC.anyC (cellsA b14 [.slice z1.2.1.1 z1.1.length z1.2.1.2, .slice z1.2.2.1 z1.1.length z1.2.2.2] ++ (cellsA b12 [.slice a3 l2.length c3, .slice a4 D2.length c4] ++ (cellsA b11 [.slice a l.length c, .slice a2 D.length c2] ++ [(⟨b5, 4, none⟩, .slice aN ns.length cN), (⟨b5, 5, none⟩, .slice aD ds.length cD)]))) rfl ?_
   refine HB.pa 0 rfl ?_
   refine HB.pa 1 rfl ?_
   refine HB.ld 2 rfl rfl (cellsR (cellsR (cellsR (.head _)))) ?_
   refine HB.pa 4 rfl ?_
   refine HB.ld 5 rfl rfl (cellsR (cellsR (cellsR (.head _)))) ?_
   refine HB.all (by (exact Keep.blkA (b := b14) (e := 84) memD (Keep.blkA (b := b12) (e := 84) memD (Keep.blkA (b := b11) (e := 84) memD (Keep.blk (b := b5) (cs := [zv o, zv d, .string bef, .string aft, .slice aN ns.length cN, .slice aD ds.length cD]) (e := 51) memD rfl (Keep.blk (b := b5) (cs := [zv o, zv d, .string bef, .string aft, .slice aN ns.length cN, .slice aD ds.length cD]) (e := 51) memD rfl Keep.nil)))))) [3] (by kernel_rfl) rfl ⟨⟨_, rfl, ?_⟩, trivial⟩
   refine HP.one ?_
   refine H1.callz (vs := [_, _]) rfl rfl (fun w' hM => derivedA_fn hl hls hns w' (hR.ext hM.ext) (hN.ext hM.ext)) ?_
   rintro ⟨az, cz⟩ -
   dsimp only
   apply HB.fold
   refine HB.all (by (exact Keep.blkA (b := b14) (e := 84) memD (Keep.blkA (b := b12) (e := 84) memD (Keep.blkA (b := b11) (e := 84) memD (Keep.blk (b := b5) (cs := [zv o, zv d, .string bef, .string aft, .slice aN ns.length cN, .slice aD ds.length cD]) (e := 51) memD rfl (Keep.blk (b := b5) (cs := [zv o, zv d, .string bef, .string aft, .slice aN ns.length cN, .slice aD ds.length cD]) (e := 51) memD rfl Keep.nil)))))) [6] (by kernel_rfl) rfl ⟨⟨_, rfl, ?_⟩, trivial⟩
   refine HP.one ?_
   refine H1.callx (vs := [_, _]) rfl rfl (fun w' hM => equal_fn _ _ (derA l ns) ns (by have := derA_len l ns; omega) hns w' (hM.gr (a := az) (c := cz) memA) (hN.ext hM.ext)) ?_
   rw [q1]
   apply HB.fold
   refine HB.pa 7 rfl ?_
   first | refine HB.ga 8 rfl rfl ?_ | refine HB.na 8 rfl rfl ?_ | refine HB.nu 8 rfl rfl ?_
   first | refine HB.ga 9 rfl rfl ?_ | refine HB.na 9 rfl rfl ?_ | refine HB.nu 9 rfl rfl ?_
   first | refine HB.ga 10 rfl rfl ?_ | refine HB.na 10 rfl rfl ?_ | refine HB.nu 10 rfl rfl ?_
   first | refine HB.ga 11 rfl rfl ?_ | refine HB.na 11 rfl rfl ?_ | refine HB.nu 11 rfl rfl ?_
   refine HB.all (by (exact Keep.blkA (b := b14) (e := 84) memD (Keep.blkA (b := b12) (e := 84) memD (Keep.blkA (b := b11) (e := 84) memD (Keep.blk (b := b5) (cs := [zv o, zv d, .string bef, .string aft, .slice aN ns.length cN, .slice aD ds.length cD]) (e := 51) memD rfl (Keep.blk (b := b5) (cs := [zv o, zv d, .string bef, .string aft, .slice aN ns.length cN, .slice aD ds.length cD]) (e := 51) memD rfl Keep.nil)))))) [12] (by kernel_rfl) rfl ⟨⟨_, rfl, ?_⟩, trivial⟩
   refine HP.drop_a rfl ?_
   refine HB.pa 13 rfl ?_
   refine HB.pa 14 rfl ?_
   first | refine HB.ga 15 rfl rfl ?_ | refine HB.na 15 rfl rfl ?_ | refine HB.nu 15 rfl rfl ?_
   first | refine HB.ga 16 rfl rfl ?_ | refine HB.na 16 rfl rfl ?_ | refine HB.nu 16 rfl rfl ?_
   first | refine HB.ga 18 rfl rfl ?_ | refine HB.na 18 rfl rfl ?_ | refine HB.nu 18 rfl rfl ?_
   refine HB.all (by (exact Keep.blkA (b := b14) (e := 84) memD (Keep.blkA (b := b12) (e := 84) memD (Keep.blkA (b := b11) (e := 84) memD (Keep.blk (b := b5) (cs := [zv o, zv d, .string bef, .string aft, .slice aN ns.length cN, .slice aD ds.length cD]) (e := 51) memD rfl (Keep.blk (b := b5) (cs := [zv o, zv d, .string bef, .string aft, .slice aN ns.length cN, .slice aD ds.length cD]) (e := 51) memD rfl Keep.nil)))))) [17] (by kernel_rfl) rfl ⟨⟨_, rfl, ?_⟩, trivial⟩
   refine HP.drop_a rfl ?_
   refine HB.all (by (exact Keep.blkA (b := b14) (e := 84) memD (Keep.blkA (b := b12) (e := 84) memD (Keep.blkA (b := b11) (e := 84) memD (Keep.blk (b := b5) (cs := [zv o, zv d, .string bef, .string aft, .slice aN ns.length cN, .slice aD ds.length cD]) (e := 51) memD rfl (Keep.blk (b := b5) (cs := [zv o, zv d, .string bef, .string aft, .slice aN ns.length cN, .slice aD ds.length cD]) (e := 51) memD rfl Keep.nil)))))) [19] (by kernel_rfl) rfl ⟨⟨_, rfl, ?_⟩, trivial⟩
   refine HP.drop_a rfl ?_
   refine HB.pa 20 rfl ?_
   refine HB.pa 21 rfl ?_
   refine HB.done (by (exact Keep.blkA (b := b14) (e := 84) memD (Keep.blkA (b := b12) (e := 84) memD (Keep.blkA (b := b11) (e := 84) memD (Keep.blk (b := b5) (cs := [zv o, zv d, .string bef, .string aft, .slice aN ns.length cN, .slice aD ds.length cD]) (e := 51) memD rfl (Keep.blk (b := b5) (cs := [zv o, zv d, .string bef, .string aft, .slice aN ns.length cN, .slice aD ds.length cD]) (e := 51) memD rfl Keep.nil)))))) (by kernel_rfl) ?_
   refine hwNB ?_
   exact HX.ret1 rfl rfl fun w' hM => ⟨by rw [hno], hM.ext⟩
  | true =>
   cases q2 : decide (digP (prN l D ns true) = ds) with
   | false =>
    have hno : chkP bef aft ns ds l D l2 D2 = false := chkP_no fun h => by rw [decide_eq_true h.dig] at q2; cases q2
    refine HC.anyC (cellsA b14 [.slice z1.2.1.1 z1.1.length z1.2.1.2, .slice z1.2.2.1 z1.1.length z1.2.2.2] ++ (cellsA b12 [.slice a3 l2.length c3, .slice a4 D2.length c4] ++ (cellsA b11 [.slice a l.length c, .slice a2 D.length c2] ++ [(⟨b5, 4, none⟩, .slice aN ns.length cN), (⟨b5, 5, none⟩, .slice aD ds.length cD)]))) rfl ?_
    refine HB.pa 0 rfl ?_
    refine HB.pa 1 rfl ?_
    refine HB.ld 2 rfl rfl (cellsR (cellsR (cellsR (.head _)))) ?_
    refine HB.pa 4 rfl ?_
    refine HB.ld 5 rfl rfl (cellsR (cellsR (cellsR (.head _)))) ?_
    refine HB.all (by (exact Keep.blkA (b := b14) (e := 84) memD (Keep.blkA (b := b12) (e := 84) memD (Keep.blkA (b := b11) (e := 84) memD (Keep.blk (b := b5) (cs := [zv o, zv d, .string bef, .string aft, .slice aN ns.length cN, .slice aD ds.length cD]) (e := 51) memD rfl (Keep.blk (b := b5) (cs := [zv o, zv d, .string bef, .string aft, .slice aN ns.length cN, .slice aD ds.length cD]) (e := 51) memD rfl Keep.nil)))))) [3] (by kernel_rfl) rfl ⟨⟨_, rfl, ?_⟩, trivial⟩
    refine HP.one ?_
    refine H1.callz (vs := [_, _]) rfl rfl (fun w' hM => derivedA_fn hl hls hns w' (hR.ext hM.ext) (hN.ext hM.ext)) ?_
    rintro ⟨az, cz⟩ -
    dsimp only
    apply HB.fold
    refine HB.all (by (exact Keep.blkA (b := b14) (e := 84) memD (Keep.blkA (b := b12) (e := 84) memD (Keep.blkA (b := b11) (e := 84) memD (Keep.blk (b := b5) (cs := [zv o, zv d, .string bef, .string aft, .slice aN ns.length cN, .slice aD ds.length cD]) (e := 51) memD rfl (Keep.blk (b := b5) (cs := [zv o, zv d, .string bef, .string aft, .slice aN ns.length cN, .slice aD ds.length cD]) (e := 51) memD rfl Keep.nil)))))) [6] (by kernel_rfl) rfl ⟨⟨_, rfl, ?_⟩, trivial⟩
    refine HP.one ?_
    refine H1.callx (vs := [_, _]) rfl rfl (fun w' hM => equal_fn _ _ (derA l ns) ns (by have := derA_len l ns; omega) hns w' (hM.gr (a := az) (c := cz) memA) (hN.ext hM.ext)) ?_
    rw [q1]
    apply HB.fold
    refine HB.pa 7 rfl ?_
    first | refine HB.ga 8 rfl rfl ?_ | refine HB.na 8 rfl rfl ?_ | refine HB.nu 8 rfl rfl ?_
    refine HB.ldg 9 rfl rfl rfl (cellsL (cellsA_mem (i := 1) rfl)) ?_
    first | refine HB.ga 10 rfl rfl ?_ | refine HB.na 10 rfl rfl ?_ | refine HB.nu 10 rfl rfl ?_
    refine HB.ldg 11 rfl rfl rfl (cellsR (cellsR (cellsR (.tail _ (.head _))))) ?_
    refine HB.all (by (exact Keep.blkA (b := b14) (e := 84) memD (Keep.blkA (b := b12) (e := 84) memD (Keep.blkA (b := b11) (e := 84) memD (Keep.blk (b := b5) (cs := [zv o, zv d, .string bef, .string aft, .slice aN ns.length cN, .slice aD ds.length cD]) (e := 51) memD rfl (Keep.blk (b := b5) (cs := [zv o, zv d, .string bef, .string aft, .slice aN ns.length cN, .slice aD ds.length cD]) (e := 51) memD rfl Keep.nil)))))) [12] (by kernel_rfl) rfl ⟨⟨_, rfl, ?_⟩, trivial⟩
    refine HP.one_a rfl ?_
    refine H1.callx (vs := [_, _]) rfl rfl (fun w' hM => by
     have h := equalS_fn (.slice z1.2.2.1 z1.1.length z1.2.2.2) _ (digP (prN l D ns true)) ds (by rw [digP_len]; omega) hds w' (hM.gr memA) (hV.ext hM.ext)
     exact h) ?_
    rw [q2]
    apply HB.fold
    refine HB.pa 13 rfl ?_
    refine HB.pa 14 rfl ?_
    first | refine HB.ga 15 rfl rfl ?_ | refine HB.na 15 rfl rfl ?_ | refine HB.nu 15 rfl rfl ?_
    first | refine HB.ga 16 rfl rfl ?_ | refine HB.na 16 rfl rfl ?_ | refine HB.nu 16 rfl rfl ?_
    first | refine HB.ga 18 rfl rfl ?_ | refine HB.na 18 rfl rfl ?_ | refine HB.nu 18 rfl rfl ?_
    refine HB.all (by (exact Keep.blkA (b := b14) (e := 84) memD (Keep.blkA (b := b12) (e := 84) memD (Keep.blkA (b := b11) (e := 84) memD (Keep.blk (b := b5) (cs := [zv o, zv d, .string bef, .string aft, .slice aN ns.length cN, .slice aD ds.length cD]) (e := 51) memD rfl (Keep.blk (b := b5) (cs := [zv o, zv d, .string bef, .string aft, .slice aN ns.length cN, .slice aD ds.length cD]) (e := 51) memD rfl Keep.nil)))))) [17] (by kernel_rfl) rfl ⟨⟨_, rfl, ?_⟩, trivial⟩
    refine HP.drop_a rfl ?_
    refine HB.all (by (exact Keep.blkA (b := b14) (e := 84) memD (Keep.blkA (b := b12) (e := 84) memD (Keep.blkA (b := b11) (e := 84) memD (Keep.blk (b := b5) (cs := [zv o, zv d, .string bef, .string aft, .slice aN ns.length cN, .slice aD ds.length cD]) (e := 51) memD rfl (Keep.blk (b := b5) (cs := [zv o, zv d, .string bef, .string aft, .slice aN ns.length cN, .slice aD ds.length cD]) (e := 51) memD rfl Keep.nil)))))) [19] (by kernel_rfl) rfl ⟨⟨_, rfl, ?_⟩, trivial⟩
    refine HP.drop_a rfl ?_
    refine HB.pa 20 rfl ?_
    refine HB.pa 21 rfl ?_
    refine HB.done (by (exact Keep.blkA (b := b14) (e := 84) memD (Keep.blkA (b := b12) (e := 84) memD (Keep.blkA (b := b11) (e := 84) memD (Keep.blk (b := b5) (cs := [zv o, zv d, .string bef, .string aft, .slice aN ns.length cN, .slice aD ds.length cD]) (e := 51) memD rfl (Keep.blk (b := b5) (cs := [zv o, zv d, .string bef, .string aft, .slice aN ns.length cN, .slice aD ds.length cD]) (e := 51) memD rfl Keep.nil)))))) (by kernel_rfl) ?_
    refine hwNB ?_
    exact HX.ret1 rfl rfl fun w' hM => ⟨by rw [hno], hM.ext⟩
   | true =>
    have hyes : chkP bef aft ns ds l D l2 D2 = (eqNs (ndsP (prN l D ns false)) l2 && decide (digP (prN l D ns false) = D2)) := by
     unfold chkP
     rw [ok1, ok2, q1, q2, decide_eq_true h0, decide_eq_true hb, decide_eq_true ha]
     rfl
    refine HC.anyC (cellsA b14 [.slice z1.2.1.1 z1.1.length z1.2.1.2, .slice z1.2.2.1 z1.1.length z1.2.2.2] ++ (cellsA b12 [.slice a3 l2.length c3, .slice a4 D2.length c4] ++ (cellsA b11 [.slice a l.length c, .slice a2 D.length c2] ++ [(⟨b5, 4, none⟩, .slice aN ns.length cN), (⟨b5, 5, none⟩, .slice aD ds.length cD)]))) rfl ?_
    refine HB.pa 0 rfl ?_
    refine HB.pa 1 rfl ?_
    refine HB.ld 2 rfl rfl (cellsR (cellsR (cellsR (.head _)))) ?_
    refine HB.pa 4 rfl ?_
    refine HB.ld 5 rfl rfl (cellsR (cellsR (cellsR (.head _)))) ?_
    refine HB.all (by (exact Keep.blkA (b := b14) (e := 84) memD (Keep.blkA (b := b12) (e := 84) memD (Keep.blkA (b := b11) (e := 84) memD (Keep.blk (b := b5) (cs := [zv o, zv d, .string bef, .string aft, .slice aN ns.length cN, .slice aD ds.length cD]) (e := 51) memD rfl (Keep.blk (b := b5) (cs := [zv o, zv d, .string bef, .string aft, .slice aN ns.length cN, .slice aD ds.length cD]) (e := 51) memD rfl Keep.nil)))))) [3] (by kernel_rfl) rfl ⟨⟨_, rfl, ?_⟩, trivial⟩
    refine HP.one ?_
    refine H1.callz (vs := [_, _]) rfl rfl (fun w' hM => derivedA_fn hl hls hns w' (hR.ext hM.ext) (hN.ext hM.ext)) ?_
    rintro ⟨az, cz⟩ -
    dsimp only
    apply HB.fold
    refine HB.all (by (exact Keep.blkA (b := b14) (e := 84) memD (Keep.blkA (b := b12) (e := 84) memD (Keep.blkA (b := b11) (e := 84) memD (Keep.blk (b := b5) (cs := [zv o, zv d, .string bef, .string aft, .slice aN ns.length cN, .slice aD ds.length cD]) (e := 51) memD rfl (Keep.blk (b := b5) (cs := [zv o, zv d, .string bef, .string aft, .slice aN ns.length cN, .slice aD ds.length cD]) (e := 51) memD rfl Keep.nil)))))) [6] (by kernel_rfl) rfl ⟨⟨_, rfl, ?_⟩, trivial⟩
    refine HP.one ?_
    refine H1.callx (vs := [_, _]) rfl rfl (fun w' hM => equal_fn _ _ (derA l ns) ns (by have := derA_len l ns; omega) hns w' (hM.gr (a := az) (c := cz) memA) (hN.ext hM.ext)) ?_
    rw [q1]
    apply HB.fold
    refine HB.pa 7 rfl ?_
    first | refine HB.ga 8 rfl rfl ?_ | refine HB.na 8 rfl rfl ?_ | refine HB.nu 8 rfl rfl ?_
    refine HB.ldg 9 rfl rfl rfl (cellsL (cellsA_mem (i := 1) rfl)) ?_
    first | refine HB.ga 10 rfl rfl ?_ | refine HB.na 10 rfl rfl ?_ | refine HB.nu 10 rfl rfl ?_
    refine HB.ldg 11 rfl rfl rfl (cellsR (cellsR (cellsR (.tail _ (.head _))))) ?_
    refine HB.all (by (exact Keep.blkA (b := b14) (e := 84) memD (Keep.blkA (b := b12) (e := 84) memD (Keep.blkA (b := b11) (e := 84) memD (Keep.blk (b := b5) (cs := [zv o, zv d, .string bef, .string aft, .slice aN ns.length cN, .slice aD ds.length cD]) (e := 51) memD rfl (Keep.blk (b := b5) (cs := [zv o, zv d, .string bef, .string aft, .slice aN ns.length cN, .slice aD ds.length cD]) (e := 51) memD rfl Keep.nil)))))) [12] (by kernel_rfl) rfl ⟨⟨_, rfl, ?_⟩, trivial⟩
    refine HP.one_a rfl ?_
    refine H1.callx (vs := [_, _]) rfl rfl (fun w' hM => by
     have h := equalS_fn (.slice z1.2.2.1 z1.1.length z1.2.2.2) _ (digP (prN l D ns true)) ds (by rw [digP_len]; omega) hds w' (hM.gr memA) (hV.ext hM.ext)
     exact h) ?_
    rw [q2]
    apply HB.fold
    refine HB.pa 13 rfl ?_
    refine HB.pa 14 rfl ?_
    refine HB.ldAg (vs := [.slice a l.length c, .slice a2 D.length c2]) 15 rfl rfl rfl rfl (fun i v hv => cellsR (cellsR (cellsL (cellsA_mem hv)))) ?_
    first | refine HB.ga 16 rfl rfl ?_ | refine HB.na 16 rfl rfl ?_ | refine HB.nu 16 rfl rfl ?_
    refine HB.ldAg (vs := [.slice a3 l2.length c3, .slice a4 D2.length c4]) 18 rfl rfl rfl rfl (fun i v hv => cellsR (cellsL (cellsA_mem hv))) ?_
    refine HB.all (by (exact Keep.blkA (b := b14) (e := 84) memD (Keep.blkA (b := b12) (e := 84) memD (Keep.blkA (b := b11) (e := 84) memD (Keep.blk (b := b5) (cs := [zv o, zv d, .string bef, .string aft, .slice aN ns.length cN, .slice aD ds.length cD]) (e := 51) memD rfl (Keep.blk (b := b5) (cs := [zv o, zv d, .string bef, .string aft, .slice aN ns.length cN, .slice aD ds.length cD]) (e := 51) memD rfl Keep.nil)))))) [17] (by kernel_rfl) rfl ⟨⟨_, rfl, ?_⟩, trivial⟩
    refine HP.one_a rfl ?_
    refine H1.callz (vs := [_, _, _]) rfl rfl (fun w' hM => by
     have h := part_fn false hlD hl hls w' (hR.ext hM.ext) (hS.ext hM.ext) (hM.setW (b := bm) memA)
     rw [hset] at h
     exact h) ?_
    rintro z2 hz2
    apply HB.fold
    refine HB.all (by (exact Keep.blkA (b := b14) (e := 84) memD (Keep.blkA (b := b12) (e := 84) memD (Keep.blkA (b := b11) (e := 84) memD (Keep.blk (b := b5) (cs := [zv o, zv d, .string bef, .string aft, .slice aN ns.length cN, .slice aD ds.length cD]) (e := 51) memD rfl (Keep.blk (b := b5) (cs := [zv o, zv d, .string bef, .string aft, .slice aN ns.length cN, .slice aD ds.length cD]) (e := 51) memD rfl Keep.nil)))))) [19] (by kernel_rfl) rfl ⟨⟨_, rfl, ?_⟩, trivial⟩
    refine HP.one_a rfl ?_
    refine H1.callx (u := .bool (eqNs (ndsP (prN l D ns false)) l2 && decide (digP (prN l D ns false) = D2))) (vs := [_, _]) rfl rfl (fun w' hM => by
     have hz2l : z2.1.length = (prN l D ns false).length := by rw [← ndsZ_len, hz2, ndsP_len]
     have h := isSame_fn (l := ndsZ z2.1) (D := digP (prN l D ns false)) (v := .slice z2.2.1.1 z2.1.length z2.2.1.2) (g := .slice z2.2.2.1 z2.1.length z2.2.2.2) (by rw [ndsZ_len]; omega) hl2 (fun i hi => by
      rw [hz2] at hi ⊢
      rw [prN_nds hlD] at hi ⊢
      obtain ⟨k, hk, e⟩ := mem_nd.1 (List.mem_filter.1 (mem_nd.2 ⟨i, hi, rfl⟩)).1
      rw [e]; exact hls k hk) hls2 (by rw [digP_len]; omega) hD2 w' (hM.rdN memA memA) (hR2.ext hM.ext) (hM.gr memA) (hS2.ext hM.ext)
     rw [hz2] at h
     exact h) ?_
    apply HB.fold
    refine HB.pa 20 rfl ?_
    refine HB.pa 21 rfl ?_
    refine HB.done (by (exact Keep.blkA (b := b14) (e := 84) memD (Keep.blkA (b := b12) (e := 84) memD (Keep.blkA (b := b11) (e := 84) memD (Keep.blk (b := b5) (cs := [zv o, zv d, .string bef, .string aft, .slice aN ns.length cN, .slice aD ds.length cD]) (e := 51) memD rfl (Keep.blk (b := b5) (cs := [zv o, zv d, .string bef, .string aft, .slice aN ns.length cN, .slice aD ds.length cD]) (e := 51) memD rfl Keep.nil)))))) (by kernel_rfl) ?_
    refine hwNB ?_
    exact HX.ret1 rfl rfl fun w' hM => ⟨by rw [hyes], hM.ext⟩
end Go.Sx
/- Plain, chapter 24: the chapter's examples. -/
namespace Go.Sx
open Go Go.RowKit
def exN : List Nd := [⟨1, 1, 7, []⟩, ⟨2, 1, 8, []⟩, ⟨3, 2, 7, [1]⟩, ⟨4, 5, 8, [2, 3]⟩, ⟨5, 4, 8, [2]⟩]
def exdg (i : Nat) : ByteArray := sumS ⟨#[UInt8.ofNat i]⟩
def exD : List ByteArray := [exdg 0, exdg 1, exdg 2, exdg 3, exdg 4]
def exOrd : Rc := ⟨8, 3, 1, 0, false, 10, 0, 7, 0, 0, 0, 1, false, 0, ⟨#[]⟩⟩
def exHold : Rc := ⟨5, 1, 1, 0, false, 0, 100, 8, 0, 0, 0, 0, false, 0, ⟨#[]⟩⟩
def exB (i : Nat) : List Rc := if i = 7 then [exOrd] else []
def exB2 (i : Nat) : List Rc := if i = 7 then [exOrd] else if i = 4 then [exHold] else []
theorem exdg_size (i : Nat) : (exdg i).size = 32 := sumS_size _
theorem exN_ok : validN exN = true := by decide
theorem exS_ok : okS exN exD = true := okS_of (validN_iff.1 exN_ok) rfl (by
 intro d hd
 simp only [exD, List.mem_cons, List.not_mem_nil, or_false] at hd
 rcases hd with rfl | rfl | rfl | rfl | rfl <;> exact exdg_size _)
theorem exGone : goneL exN 7 = [1, 3, 4] := by decide
theorem srt_asc {l : List Int} (h : AscI l) : srtI l = l := ascI_ext (srtI_asc (ascI_nodup h)) h fun _ => mem_srtI
theorem exSrt : srtI (goneL exN 7) = [1, 3, 4] := by rw [exGone]; exact srt_asc (by decide)
theorem exDer : derA exN [5, 9] = [5] := by
 rw [derA_eq (validN_iff.1 exN_ok), show derL exN (fun i => decide ((ndAt exN i).id ∈ [5, 9])) exN.length = [5] by decide]
 exact srt_asc (by decide)
theorem exLeft : ndsP (prN exN exD (goneL exN 7) false) = [⟨2, 1, 8, []⟩, ⟨5, 4, 8, [2]⟩] := by rw [prN_nds rfl, exGone]; rfl
theorem exLost : ndsP (prN exN exD (goneL exN 7) true) = [⟨1, 1, 7, []⟩, ⟨3, 2, 7, [1]⟩, ⟨4, 5, 8, [2, 3]⟩] := by rw [prN_nds rfl, exGone]; rfl
theorem exKept : digP (prN exN exD (goneL exN 7) false) = [exdg 1, exdg 4] := by rw [exGone]; rfl
theorem exLostD : digP (prN exN exD (goneL exN 7) true) = [exdg 0, exdg 2, exdg 3] := by rw [exGone]; rfl
theorem heldL_nil (rel : List Rc) (a d : Int) : heldL [] rel a d = [] := by
 unfold heldL numL
 have : srtI [] = [] := srt_asc (by decide)
 simp only [List.filter_nil, List.map_nil]
 rw [this]; rfl
theorem heldL_pos {L rel : List Rc} {a d : Int} {r : Rc} (hr : r ∈ L) (h : heldB rel a d r = true) : 0 < (heldL L rel a d).length := by
 refine List.length_pos_of_mem (a := r.id) ?_
 unfold heldL numL
 rw [compact_mem, mem_srtI]
 exact List.mem_map.2 ⟨r, List.mem_filter.2 ⟨hr, h⟩, rfl⟩
theorem exDel1 : delQ exB exN exD 3 20 = some 7 := by
 rw [delQ_in (r := exOrd) exS_ok rfl (by decide) (by decide) (by decide), if_pos]
 ·rfl
 ·refine ⟨by rw [show exOrd.pack = 7 from rfl, exGone]; decide, fun h => ?_⟩
  obtain ⟨n, -, h⟩ := List.any_eq_true.1 h
  unfold heldN at h
  rw [show exB 4 = [] from rfl, heldL_nil] at h
  cases h
theorem exDel2 : delQ exB exN exD 3 9 = none := delQ_no fun ⟨_, r, h1, h2, _⟩ => by
 have : ordF (exB 7) 3 = some exOrd := rfl
 rw [this] at h1
 cases h1
 exact absurd h2 (by decide)
theorem exDel3 : delQ exB2 exN exD 3 20 = none := by
 rw [delQ_in (r := exOrd) exS_ok rfl (by decide) (by decide) (by decide), if_neg]
 rintro ⟨-, h⟩
 refine h (List.any_eq_true.2 ⟨⟨4, 5, 8, [2, 3]⟩, by rw [show exOrd.pack = 7 from rfl, exLost]; simp, ?_⟩)
 unfold heldN
 exact decide_eq_true (heldL_pos (r := exHold) (List.Mem.head _) (by decide))
theorem exChk1 : chkP (rootP (exN.zip exD)) (rootP (prN exN exD (goneL exN 7) false)) (srtI (goneL exN 7)) (digP (prN exN exD (goneL exN 7) true)) exN exD (ndsP (prN exN exD (goneL exN 7) false)) (digP (prN exN exD (goneL exN 7) false)) = true := tomb_true exS_ok _ (by
 intro h
 have h2 : goneL exN 7 = [] := h
 rw [exGone] at h2; cases h2)
theorem exChk2 (b a : ByteArray) (ds : List ByteArray) : chkP b a (srtI (goneL exN 7)) ds exN exD exN exD = false := tomb_left (by
 have h : prN exN exD (srtI (goneL exN 7)) false = prN exN exD (goneL exN 7) false := prN_congr (fun x => mem_srtI) false
 rw [h, ← ndsP_len, exLeft]
 decide)
end Go.Sx
