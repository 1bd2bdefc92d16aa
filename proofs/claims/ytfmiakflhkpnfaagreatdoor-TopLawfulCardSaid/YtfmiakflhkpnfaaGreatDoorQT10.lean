/- Chapter 24: Delete: the walk. -/
import Derived.Test.YtfmiakflhkpnfaaGreatDoorQT09
namespace Go.Sx
open Go Go.Proofs Go.RowKit
section
variable {P : Program} {r : Option Nat} {N : Nat} {ds : List Deferred} {ol rest : List Oper} {Q : Post} {E : Env} {w0 : World} {H : List Atom} {d : Nat} {t ty : TypeId} {pos : String} {af : Array Edge} {x : Operand}
theorem HQ.ldAgg {b off : Nat} {vs : List Value} {z : Value} {n bb : Nat} [ha : ATy P t true] [hi : ITy P t z n bb] (hx : Env.ev E x = some (.pointer (some ⟨b, off, none⟩))) (hn : vs.length = n)
  (hc : ∀ w, Mm w0 H w → ∀ i v, vs[i]? = some v → w.cell? ⟨b, off + i, none⟩ = some v) (hd : Nat.blt d N = true) (h : HQ P r N ds ol rest Q ((d, .agg vs.toArray) :: E) w0 H) :
  HQ P r N ds ol (⟨some d, .load t x, ty, pos, af, none⟩ :: rest) Q E w0 H := fun w hM => QL.step hd (fun b' hb w' hw' => by
  have hc' := run_loadVarAgg (P := P) (w := w') (t := t) (b := b) (off := off) hn fun i v hv => hc w' (hM.more hw') i v hv
  have : (execOp b'.eval ⟨some d, .load t x, ty, pos, af, none⟩).run P w' = .ok (.value (.agg vs.toArray)) w' := by
   simp only [execOp, hb.ev hx, Instr.loadAt, Instr.sureAddr, Sem.run_bind, Sem.run_pure]
   simp [hc', Result.andThen]
  unfold Oper.quietAtIn; rw [this]; exact ⟨rfl, rfl⟩) (h w hM)
end
section
variable {P : Program} {r : Option Nat} {N : Nat} {ds : List Deferred} {Q : Post} {E : Env} {w0 : World} {H : List Atom} {next : Act → World → Prop} {g : Option (Nat × Bool)} {d : Nat} {t ty : TypeId} {pos : String} {af : Array Edge} {x : Operand}
theorem H1.setlen {b : Nat} {k e : TypeId} {m : List Int} [ht : UTy P t (.map k e)] (hx : Env.ev E x = some (.map (some b))) (hm : ∀ w, Mm w0 H w → SetW w b m) (hd : Nat.blt d N = true)
  (h : HN N ds next ((d, .int .i64 (m.length : Int)) :: E) w0 H) : H1 P r N ds next ⟨some d, .call ⟨.builtin .len, #[x], #[t]⟩, ty, pos, af, g⟩ Q E w0 H := fun w hM => by
 obtain ⟨o, hb, es, clk, rfl, hes⟩ := hm w hM
 have hlen : es.size = m.length := by have := congrArg List.length hes.ents; simpa [liftS] using this
 refine W1.run (v := .int .i64 (m.length : Int)) (w' := w) (fun a ha => ?_) rfl hd (h w hM)
 simp [execOp, ha.ev hx, resolve, invoke, Go.builtin, Builtin.len_, run_underlying ht.is, run_getMap hb, goInt, Sem.run_bind, Result.andThen, hlen]
end
def ordF (L : List Rc) (o : Int) : Option Rc := L.find? fun r => decide (r.id = o)
def heldN (B : Nat → List Rc) (d : Int) (n : Nd) : Bool := decide (0 < (heldL (B 4) (B 5) n.pack d).length)
def delQ (B : Nat → List Rc) (l : List Nd) (D : List ByteArray) (o d : Int) : Option Int :=
 match ordF (B 7) o with
 | none => none
 | some r => if okS l D = true ∧ r.start ≤ d ∧ 0 ≤ d ∧ d ≤ 100000 ∧ goneL l r.pack ≠ [] ∧ ¬ (ndsP (prN l D (goneL l r.pack) true)).any (heldN B d) = true then some r.pack else none
theorem take_find {l : List Rc} {p : Rc → Bool} {j : Nat} {r : Rc} (h : (l.take j).any p = false) (hr : l[j]? = some r) (hp : p r = true) : l.find? p = some r := by
 rw [List.find?_eq_some_iff_append]
 have hlt := (List.getElem?_eq_some_iff.1 hr).1
 refine ⟨hp, l.take j, l.drop (j + 1), ?_, fun a ha => ?_⟩
 ·rw [← (List.getElem?_eq_some_iff.1 hr).2, ← List.drop_eq_getElem_cons hlt, List.take_append_drop]
 ·have := List.any_eq_false.1 h a ha
  simpa using this
attribute [local irreducible] WC WL WX POp Then Again Fn NX W1 WA WO QL RP RA Yld LoopAt HC HL HX HN H1 HA HO HQ HB HP A.blk A.grow A.rd A.obj A.mp AgainH CutH
attribute [local irreducible] A.mq A.mit A.all
theorem indexR_fn (a : Option Addr) (c : Nat) (l : List Rc) (p : Rc → Bool) (fv : Value) (hl : l.length ≤ 1000000) (w : World) (hR : RdR w (.slice a l.length c) l) (hp : Pr Tryz.prog w fv l p) :
  Fn Tryz.prog 27 #[.slice a l.length c, fv] w fun v w' => ∃ k : Int, ((k = -1 ∧ l.find? p = none) ∨ ∃ (j : Nat) (r : Rc), k = (j : Int) ∧ l[j]? = some r ∧ l.find? p = some r) ∧ v = zv k ∧ Ext w w' := by
 refine enterH (l := [_, _]) rfl Tryz.ntmps27 rfl ?_
 refine hwNB ?_
 refine HC.loop (α := Nat) (fun j => [(0, .slice a l.length c), (1, fv), (7, zv (l.length : Int)), (8, zv (j : Int))]) (fun _ => []) (fun j => j ≤ l.length ∧ (l.take j).any p = false) (fun j => l.length - j) 0 ⟨Nat.zero_le _, rfl⟩ esA (Hs.refl _) ?_
 rintro j ⟨hj, hI⟩
 by_cases hlt : j < l.length
 ·obtain ⟨r, hr⟩ : ∃ r, l[j]? = some r := ⟨_, List.getElem?_eq_getElem hlt⟩
  have hrm := List.mem_of_getElem? hr
  have htk : l.take (j + 1) = l.take j ++ [r] := by rw [List.take_add_one, hr]; rfl
  obtain ⟨bl, off, rfl, -, hcell⟩ := hR.at (fun e => by rw [e] at hlt; exact absurd hlt (Nat.not_lt_zero _))
  have hcl := hcell j r hr
  clear hcell
  refine hwNB ?_
  refine HL.one (H1.ldAggw (vs := rcells r) rfl rfl (fun w' hM i v hv => cell_ext hM.ext (hcl i v hv)) rfl ?_)
  refine hwNB ?_
  refine HL.one (H1.callpr (y := .tmp 15) (fun w' hM => hp.ext hM.ext) hrm rfl rfl rfl ?_)
  cases hpr : p r
  ·refine hwNB ?_
   exact HX.again (j + 1) ⟨hlt, by rw [htk, List.any_append, hI]; simp [hpr]⟩ (by omega) esA (Hs.refl _)
  ·refine hwNB ?_
   exact HX.ret1 rfl rfl fun w' hM => ⟨j, .inr ⟨j, r, rfl, hr, take_find hI hr hpr⟩, rfl, hM.ext⟩
 obtain rfl : j = l.length := by omega
 rw [List.take_length] at hI
 refine hwNB ?_
 exact HX.ret1 rfl rfl fun w' hM => ⟨-1, .inl ⟨rfl, List.find?_eq_none.2 fun x hx => by simpa using List.any_eq_false.1 hI x hx⟩, rfl, hM.ext⟩
theorem del1_fn (r : Rc) (b : Nat) (o : Int) (w : World) (hb : w.cell? ⟨b, 0, none⟩ = some (zv o)) :
  Fn Tryz.prog 28 #[recV r, .pointer (some ⟨b, 0, none⟩)] w fun u w' => u = .bool (decide (r.id = o)) ∧ Ext w w' := by
 refine enterH (l := [_, _]) rfl Tryz.ntmps28 rfl ?_
 refine hwNB ?_
 refine HL.one (H1.boxAgg (cs := rcells r) rfl rfl (fun b2 => ?_))
 refine hwNB ?_
 refine HL.one (H1.ld0 rfl hb rfl ?_)
 refine hwNB ?_
 exact HX.ret1 rfl rfl fun w' hM => ⟨rfl, hM.ext⟩
theorem del2_fn (n : Nd) (v : Value) (b : Nat) (pk : Int) (w : World) (hb : w.cell? ⟨b, 0, none⟩ = some (zv pk)) :
  Fn Tryz.prog 31 #[ndV n v, .pointer (some ⟨b, 0, none⟩)] w fun u w' => u = .bool (decide (n.pack = pk)) ∧ Ext w w' := by
 refine enterH (l := [_, _]) rfl Tryz.ntmps31 rfl ?_
 unfold ndV
 refine hwNB ?_
 refine HL.one (H1.boxAgg (cs := [zv n.id, zv n.kind, zv n.pack, v]) rfl rfl (fun b2 => ?_))
 refine hwNB ?_
 refine HL.one (H1.ld0 rfl hb rfl ?_)
 refine hwNB ?_
 exact HX.ret1 rfl rfl fun w' hM => ⟨rfl, hM.ext⟩
theorem del3_fn {B : Nat → List Rc} {s : Nat → Value} (n : Nd) (v : Value) (b5 b9 : Nat) (d : Int) (w : World) (h5 : ∀ i v, (row 8 s)[i]? = some v → w.cell? ⟨b5, i, none⟩ = some v) (h9 : w.cell? ⟨b9, 0, none⟩ = some (zv d)) (hB : BaseV w (.agg (row 8 s).toArray) B) (hl : (B 4).length ≤ 1000000) (hl5 : (B 5).length ≤ 1000000) :
  Fn Tryz.prog 33 #[ndV n v, .pointer (some ⟨b5, 0, none⟩), .pointer (some ⟨b9, 0, none⟩)] w fun u w' => u = .bool (heldN B d n) ∧ Ext w w' := by
 refine enterH (l := [_, _, _]) rfl Tryz.ntmps33 rfl ?_
 unfold ndV
 refine hwNB ?_
 refine HL.one (H1.boxAgg (cs := [zv n.id, zv n.kind, zv n.pack, v]) rfl rfl (fun b2 => ?_))
 refine hwNB ?_
 refine HL.one (H1.ldAggw (vs := row 8 s) rfl rfl (fun w' hM i v hv => cell_ext hM.ext (by rw [Nat.zero_add]; exact h5 i v hv)) rfl ?_)
 refine hwNB ?_
 refine HL.one (H1.ld0 rfl h9 rfl ?_)
 refine hwNB ?_
 refine HL.one (H1.callz (α := Option Addr × Nat) (V := fun z => .slice z.1 (heldL (B 4) (B 5) n.pack d).length z.2) (Hn := fun z => [A.grow 3 1 z.1 z.2 (heldL (B 4) (B 5) n.pack d).length (ints (heldL (B 4) (B 5) n.pack d))]) (I := fun _ => True) (vs := [_, _, _]) rfl rfl (fun w' hM => Held_fn n.pack d w' (hB.ext hM.ext) hl hl5) ?_)
 rintro ⟨az, cz⟩ -
 refine hwNB ?_
 exact HX.ret1 rfl rfl fun w' hM => ⟨by unfold heldN; simp, hM.ext⟩
def tomb0 : List Value := [zv 0, zv 0, .string ⟨#[]⟩, .string ⟨#[]⟩, .slice none 0 0, .slice none 0 0]
def delNo : Value := .tuple #[.slice none 0 0, .slice none 0 0, .agg tomb0.toArray, zv 240]
structure DelZ where
 left : List NdZ
 a1 : Option Addr
 c1 : Nat
 a2 : Option Addr
 c2 : Nat
 ai : Option Addr
 ci : Nat
 ad : Option Addr
 cd : Nat
def tombV (o d : Int) (l : List Nd) (D : List ByteArray) (pk : Int) (z : DelZ) : List Value :=
 [zv o, zv d, .string (rootP (l.zip D)), .string (rootP (prN l D (goneL l pk) false)), .slice z.ai (goneL l pk).length z.ci, .slice z.ad (goneL l pk).length z.cd]
def delYes (o d : Int) (l : List Nd) (D : List ByteArray) (pk : Int) (z : DelZ) : Value := .tuple #[.slice z.a1 z.left.length z.c1, .slice z.a2 z.left.length z.c2, .agg (tombV o d l D pk z).toArray, zv 0]
def delH (l : List Nd) (D : List ByteArray) (pk : Int) (z : DelZ) : List Atom :=
 [A.grow 39 4 z.a1 z.c1 z.left.length (ndsV z.left), A.grow 9 1 z.a2 z.c2 z.left.length (strs (digP (prN l D (goneL l pk) false))), A.all (rowsA z.left), A.grow 3 1 z.ai z.ci (goneL l pk).length (ints (srtI (goneL l pk))), A.grow 9 1 z.ad z.cd (goneL l pk).length (strs (digP (prN l D (goneL l pk) true)))]
theorem any_ids {l : List Nd} (f : Nd → Bool) : anyN l.length (fun i => f (ndAt l i)) = l.any f := by
 rw [Bool.eq_iff_iff]
 unfold anyN
 rw [List.any_eq_true, List.any_eq_true]
 constructor
 ·rintro ⟨i, hi, h⟩
  exact ⟨_, mem_nd.2 ⟨i, List.mem_range.1 hi, rfl⟩, h⟩
 ·rintro ⟨n, hn, h⟩
  obtain ⟨i, hi, rfl⟩ := mem_nd.1 hn
  exact ⟨i, List.mem_range.2 hi, h⟩
theorem delQ_no {B : Nat → List Rc} {l : List Nd} {D : List ByteArray} {o d : Int} (h : ¬ (okS l D = true ∧ ∃ r, ordF (B 7) o = some r ∧ r.start ≤ d ∧ 0 ≤ d ∧ d ≤ 100000)) : delQ B l D o d = none := by
 unfold delQ
 split
 ·rfl
 ·rename_i r hr
  rw [if_neg fun h2 => h ⟨h2.1, r, hr, h2.2.1, h2.2.2.1, h2.2.2.2.1⟩]
theorem delQ_in {B : Nat → List Rc} {l : List Nd} {D : List ByteArray} {o d : Int} {r : Rc} (h0 : okS l D = true) (h1 : ordF (B 7) o = some r) (h2 : r.start ≤ d) (h3 : 0 ≤ d) (h4 : d ≤ 100000) : delQ B l D o d = if goneL l r.pack ≠ [] ∧ ¬ (ndsP (prN l D (goneL l r.pack) true)).any (heldN B d) = true then some r.pack else none := by
 unfold delQ
 rw [h1]
 dsimp only
 by_cases h : goneL l r.pack ≠ [] ∧ ¬ (ndsP (prN l D (goneL l r.pack) true)).any (heldN B d) = true
 ·rw [if_pos h, if_pos ⟨h0, h2, h3, h4, h.1, h.2⟩]
 ·rw [if_neg h, if_neg fun hh => h ⟨hh.2.2.2.2.1, hh.2.2.2.2.2⟩]
set_option maxHeartbeats 8000000 in
theorem delete_fn {vb v g : Value} {B : Nat → List Rc} {l : List Nd} {D : List ByteArray} {U : Nat → Value} (o d : Int) (hl : l.length ≤ 400000) (hls : ∀ i, i < l.length → (ndAt l i).src.length ≤ 1000000) (hD : D.length ≤ 1000000) (hDs : ∀ d ∈ D, d.size ≤ 1000) (hB7 : (B 7).length ≤ 1000000) (hB4 : (B 4).length ≤ 1000000) (hB5 : (B 5).length ≤ 1000000) (w : World) (hG : RoundG w) (hB : BaseV w vb B) (hR : RdN w v l U) (hS : Rd w g (strs D)) :
  Fn Tryz.prog 9 #[vb, v, g, zv o, zv d] w fun u w' => (delQ B l D o d = none ∧ u = delNo ∧ Ext w w') ∨ ∃ pk, delQ B l D o d = some pk ∧ ∃ z : DelZ, ndsZ z.left = ndsP (prN l D (goneL l pk) false) ∧ u = delYes o d l D pk z ∧ Mm w (delH l D pk z) w' := by
 obtain ⟨s, rfl, hs⟩ := id hB
 obtain ⟨a, c, rfl, hc, -⟩ := id hR.shape
 obtain ⟨a2, c2, rfl, hc2⟩ : ∃ a c, g = .slice a D.length c ∧ D.length ≤ c := by
  obtain ⟨a, c, h1, h2, -⟩ := id hS
  rw [strs_len] at h1 h2
  exact ⟨a, c, h1, h2⟩
 have h7 := hs 7 (by decide)
 obtain ⟨a7, c7, e7, -⟩ := h7.shape
 have h7' : RdR w (.slice a7 (B 7).length c7) (B 7) := by rw [← e7]; exact h7
 have hS14 : ∀ {i : Nat} {u : Value}, [Value.slice a l.length c, .slice a2 D.length c2][i]? = some u → [Value.slice a l.length c, .slice a2 D.length c2][0 + i]? = some u := fun {i u} h => by rwa [Nat.zero_add]
 refine enterH (l := [_, _, _, _, _]) rfl Tryz.ntmps9 rfl ?_
 refine hwNB ?_
 refine HL.one (H1.boxAgg (cs := row 8 s) rfl rfl (fun b5 => ?_))
 refine hwNB ?_
 refine HL.one (H1.box rfl rfl rfl (fun b8 => ?_))
 refine hwNB ?_
 refine HL.one (H1.box rfl rfl rfl (fun b9 => ?_))
 refine hwNB ?_
 refine HL.one (H1.alloc (cs := tomb0) rfl rfl (fun b12 => ?_))
 refine hwNB ?_
 refine HL.build (cs := [.slice a l.length c, .slice a2 D.length c2]) rfl rfl rfl ?_
 refine hwNB ?_
 refine HL.one (H1.alloc (cs := [.slice none 0 0, .slice none 0 0]) rfl rfl (fun b14 => ?_))
 refine hwNB ?_
 refine HL.one (H1.stAgg (b := b14) (cs := [.slice none 0 0, .slice none 0 0]) (vs := [.slice a l.length c, .slice a2 D.length c2]) rfl rfl rfl (by intro v hv; simp only [List.mem_cons, List.not_mem_nil, or_false] at hv; rcases hv with rfl | rfl <;> rfl) rplA rfl ?_)
 refine hwNB ?_
 refine HL.one (H1.callp (α := Int) (V := fun k => zv k) (I := fun k => (k = -1 ∧ ordF (B 7) o = none) ∨ ∃ (j : Nat) (r : Rc), k = (j : Int) ∧ (B 7)[j]? = some r ∧ ordF (B 7) o = some r) (vs := [s 7, _]) rfl rfl (fun w' hM => by
  rw [e7]
  exact indexR_fn a7 c7 (B 7) (fun r => decide (r.id = o)) _ hB7 w' (h7'.ext hM.ext) ⟨_, [], [.pointer (some ⟨b8, 0, none⟩)], rfl, inferInstance, fun w2 hx r _ => del1_fn r b8 o w2 (cell_ext hx ((hM.blk (b := b8) (cs := [zv o]) memA).cell (i := 0) rfl))⟩) ?_)
 rintro k hk
 refine hwNB ?_
 refine HC.cut (α := Bool) (fun c3 => [(1, .slice a l.length c), (5, .pointer (some ⟨b5, 0, none⟩)), (8, .pointer (some ⟨b8, 0, none⟩)), (9, .pointer (some ⟨b9, 0, none⟩)), (10, .slice none 0 0), (11, .slice none 0 0), (12, .pointer (some ⟨b12, 0, none⟩)), (13, zv 0), (14, .pointer (some ⟨b14, 0, none⟩)), (15, zv k), (54, .bool c3)])
  (fun _ => [A.blk b14 [.slice a l.length c, .slice a2 D.length c2] 80, A.blk b12 tomb0 41, A.blk b9 [zv d] 3, A.blk b8 [zv o] 3, A.blk b5 (row 8 s) 35]) (fun c3 => c3 = true ↔ ¬ (okS l D = true ∧ ∃ r, ordF (B 7) o = some r ∧ r.start ≤ d ∧ 0 ≤ d ∧ d ≤ 100000)) ?_ ?_
 ·cases hok : okS l D with
  | false =>
   refine HC.quietS [(some 29, [14], []), (some 30, [29], [0]), (some 31, [30], [1]), (some 32, [31], [2, 1]), (some 33, [15, 32], [3]), (some 34, [33, 32], [4, 3]), (some 35, [32, 34], [3, 5]), (some 36, [35], [6, 3]), (some 37, [5, 36], [7]), (some 38, [37, 36], [8, 7]), (some 39, [15, 36], [7]), (some 40, [39, 36], [10, 7]), (some 41, [38, 40, 36], [9, 11, 7]), (some 42, [41, 36], [12, 7]), (some 43, [42, 36], [13, 7]), (some 44, [9, 36], [7]), (some 45, [43, 44, 36], [14, 15, 7]), (some 46, [36, 45], [7, 16]), (some 47, [46], [17, 7]), (some 48, [9, 47], [18]), (some 49, [48, 47], [19, 18]), (some 50, [47, 49], [18, 20]), (some 51, [50], [21, 18]), (some 52, [9, 51], [22]), (some 53, [52, 51], [23, 22]), (some 54, [51, 53], [22, 24])] (by kernel_rfl) (by kernel_rfl) (by kernel_rfl) ?_
   refine HQ.ldAgg (b := b14) (off := 0) (vs := [.slice a l.length c, .slice a2 D.length c2]) rfl rfl (fun w' hM i v hv => (hM.blk (b := b14) memA).cell (hS14 hv)) rfl ?_
   refine qwA ?_
   refine HQ.call (vs := [_]) rfl rfl (fun w' hM => stValid_fn hl hls hD (fun d hd => by have := hDs d hd; omega) w' (hR.ext hM.ext) (hS.ext hM.ext)) ?_
   rw [hok]
   refine qwA ?_
   refine HQ.nil ?_
   exact HX.cut true (by simp) esA (by repeat (first | exact Hs.nil _ | (refine Hs.cons pickA ?_)))
  | true =>
   rcases hk with ⟨rfl, hk⟩ | ⟨j, r, rfl, hj, hk⟩
   ·refine HC.quietS [(some 29, [14], []), (some 30, [29], [0]), (some 31, [30], [1]), (some 32, [31], [2, 1]), (some 33, [15, 32], [3]), (some 34, [33, 32], [4, 3]), (some 35, [32, 34], [3, 5]), (some 36, [35], [6, 3]), (some 37, [5, 36], [7]), (some 38, [37, 36], [8, 7]), (some 39, [15, 36], [7]), (some 40, [39, 36], [10, 7]), (some 41, [38, 40, 36], [9, 11, 7]), (some 42, [41, 36], [12, 7]), (some 43, [42, 36], [13, 7]), (some 44, [9, 36], [7]), (some 45, [43, 44, 36], [14, 15, 7]), (some 46, [36, 45], [7, 16]), (some 47, [46], [17, 7]), (some 48, [9, 47], [18]), (some 49, [48, 47], [19, 18]), (some 50, [47, 49], [18, 20]), (some 51, [50], [21, 18]), (some 52, [9, 51], [22]), (some 53, [52, 51], [23, 22]), (some 54, [51, 53], [22, 24])] (by kernel_rfl) (by kernel_rfl) (by kernel_rfl) ?_
    refine HQ.ldAgg (b := b14) (off := 0) (vs := [.slice a l.length c, .slice a2 D.length c2]) rfl rfl (fun w' hM i v hv => (hM.blk (b := b14) memA).cell (hS14 hv)) rfl ?_
    refine qwA ?_
    refine HQ.call (vs := [_]) rfl rfl (fun w' hM => stValid_fn hl hls hD (fun d hd => by have := hDs d hd; omega) w' (hR.ext hM.ext) (hS.ext hM.ext)) ?_
    rw [hok]
    refine qwA ?_
    refine HQ.nil ?_
    exact HX.cut true (by rw [hk]; simp) esA (by repeat (first | exact Hs.nil _ | (refine Hs.cons pickA ?_)))
   obtain ⟨b7, off7, rfl, -, hcell⟩ := h7'.at (fun e => by rw [e] at hj; cases hj)
   have hr5 := hcell j r hj 5 (zv r.start) rfl
   have hjl := (List.getElem?_eq_some_iff.1 hj).1
   have hj0 : ¬ ((j : Nat) : Int) < 0 := by omega
   have hmax : (max (j : Int) 0).toNat = j := by omega
   refine HC.quietS [(some 29, [14], []), (some 30, [29], [0]), (some 31, [30], [1]), (some 32, [31], [2, 1]), (some 33, [15, 32], [3]), (some 34, [33, 32], [4, 3]), (some 35, [32, 34], [3, 5]), (some 36, [35], [6, 3]), (some 37, [5, 36], [7]), (some 38, [37, 36], [8, 7]), (some 39, [15, 36], [7]), (some 40, [39, 36], [10, 7]), (some 41, [38, 40, 36], [9, 11, 7]), (some 42, [41, 36], [12, 7]), (some 43, [42, 36], [13, 7]), (some 44, [9, 36], [7]), (some 45, [43, 44, 36], [14, 15, 7]), (some 46, [36, 45], [7, 16]), (some 47, [46], [17, 7]), (some 48, [9, 47], [18]), (some 49, [48, 47], [19, 18]), (some 50, [47, 49], [18, 20]), (some 51, [50], [21, 18]), (some 52, [9, 51], [22]), (some 53, [52, 51], [23, 22]), (some 54, [51, 53], [22, 24])] (by kernel_rfl) (by kernel_rfl) (by kernel_rfl) ?_
   refine HQ.ldAgg (b := b14) (off := 0) (vs := [.slice a l.length c, .slice a2 D.length c2]) rfl rfl (fun w' hM i v hv => (hM.blk (b := b14) memA).cell (hS14 hv)) rfl ?_
   refine qwA ?_
   refine HQ.call (vs := [_]) rfl rfl (fun w' hM => stValid_fn hl hls hD (fun d hd => by have := hDs d hd; omega) w' (hR.ext hM.ext) (hS.ext hM.ext)) ?_
   rw [hok]
   refine qwA ?_
   rw [e7]
   refine qwA ?_
   refine HQ.ld (a := ⟨b7, off7 + j * 15 + 5, none⟩) (by show some (Value.pointer (some ⟨b7, off7 + (max (j : Int) 0).toNat * 15 + 5, none⟩)) = _; rw [hmax]) (fun w' hM => cell_ext hM.ext hr5) rfl ?_
   by_cases hd1 : r.start ≤ d
   rotate_left
   ·have hd1' : d < r.start := by omega
    refine qwA ?_
    refine HQ.nil ?_
    exact HX.cut true (by rw [hk]; simp [hd1]) esA (by repeat (first | exact Hs.nil _ | (refine Hs.cons pickA ?_)))
   have hd1' : ¬ d < r.start := by omega
   by_cases hd2 : 0 ≤ d
   rotate_left
   ·have hd2' : d < 0 := by omega
    refine qwA ?_
    refine HQ.nil ?_
    exact HX.cut true (by rw [hk]; simp [hd2]) esA (by repeat (first | exact Hs.nil _ | (refine Hs.cons pickA ?_)))
   have hd2' : ¬ d < 0 := by omega
   by_cases hd3 : d ≤ 100000
   ·have hd3' : ¬ 100000 < d := by omega
    refine qwA ?_
    refine HQ.nil ?_
    exact HX.cut false (by rw [hk]; simp [hd1, hd2, hd3]) (by refine ⟨rfl, rfl, rfl, rfl, rfl, rfl, rfl, rfl, rfl, rfl, ?_, trivial⟩; show some (Value.bool (decide (100000 < d))) = _; rw [decide_eq_false hd3']) (by repeat (first | exact Hs.nil _ | (refine Hs.cons pickA ?_)))
   ·have hd3' : 100000 < d := by omega
    refine qwA ?_
    refine HQ.nil ?_
    exact HX.cut true (by rw [hk]; simp [hd3]) (by refine ⟨rfl, rfl, rfl, rfl, rfl, rfl, rfl, rfl, rfl, rfl, ?_, trivial⟩; show some (Value.bool (decide (100000 < d))) = _; rw [decide_eq_true hd3']) (by repeat (first | exact Hs.nil _ | (refine Hs.cons pickA ?_)))
 rintro c3 hc3
 cases c3 with
 | true =>
  have hno := delQ_no (hc3.1 rfl)
  refine hwNB ?_
  refine HL.build (parts := []) (pv := []) (cs := tomb0) rfl rfl rfl ?_
  refine hwNB ?_
  refine HL.one (H1.stAgg (b := b12) (cs := tomb0) (vs := tomb0) rfl rfl rfl (by intro v hv; simp only [tomb0, List.mem_cons, List.not_mem_nil, or_false] at hv; rcases hv with rfl | rfl | rfl | rfl | rfl | rfl <;> rfl) rplA rfl ?_)
  refine hwNB ?_
  exact HX.retG (rs := [.tmp 10, .tmp 11, .cell 12 41, .tmp 13]) (vs := [.slice none 0 0, .slice none 0 0, .agg tomb0.toArray, zv 240]) rfl rfl (fun w' hM => ⟨rfl, rfl, ⟨_, rfl, loadVar_agg (b := b12) hM memA rfl⟩, rfl, trivial⟩) fun w' hM => .inl ⟨hno, rfl, hM.ext⟩
 | false =>
  have hyes := Classical.not_not.1 fun h => absurd (hc3.2 h) (by decide)
  obtain ⟨hok, r, hk2, hd1, hd2, hd3⟩ := hyes
  obtain ⟨j, rfl, hj⟩ : ∃ j : Nat, k = (j : Int) ∧ (B 7)[j]? = some r := by
   rcases hk with ⟨-, h⟩ | ⟨j, r', h1, h2, h3⟩
   ·rw [h] at hk2; cases hk2
   ·rw [hk2] at h3; cases h3; exact ⟨j, h1, h2⟩
  have hq := delQ_in hok hk2 hd1 hd2 hd3
  obtain ⟨b7, off7, rfl, -, hcell⟩ := h7'.at (fun e => by rw [e] at hj; cases hj)
  have hr7 := hcell j r hj 7 (zv r.pack) rfl
  have hjl := (List.getElem?_eq_some_iff.1 hj).1
  clear hcell hc3 hk
  refine hwNB ?_
  rw [e7]
  refine hwNB ?_
  refine HL.one (H1.ld0 rfl hr7 rfl ?_)
  refine hwNB ?_
  refine HL.one (H1.alloc (cs := [zv 0]) rfl rfl (fun b16 => ?_))
  refine hwNB ?_
  refine HL.one (H1.st (b := b16) (i := 0) rfl rfl (by intro _ h; cases h) (by intro _ h; cases h) rplA (by exact Nat.zero_lt_one) ?_)
  refine hwNB ?_
  refine HL.one (H1.callz (vs := [_, _]) rfl rfl (fun w' hM => derived_fn (p := fun q => decide (q.1.pack = r.pack)) (by omega) hls w' (hR.ext hM.ext) ⟨_, [], [.pointer (some ⟨b16, 0, none⟩)], rfl, inferInstance, fun w2 hx q _ => del2_fn q.1 q.2 b16 r.pack w2 (cell_ext hx ((hM.blk (b := b16) (cs := [zv r.pack]) memA).cell (i := 0) rfl))⟩) ?_)
  rintro bm -
  dsimp only
  have hgone : derL l (fun i => decide ((ndAt l i).pack = r.pack)) l.length = goneL l r.pack := rfl
  rw [hgone]
  have hlD := (okS_facts hok).2.1
  refine hbDE ?_
  refine HC.cut (α := (Nat × Nat) × (List NdZ × (Option Addr × Nat) × (Option Addr × Nat)) × (List NdZ × (Option Addr × Nat) × (Option Addr × Nat))) (fun q => [(5, .pointer (some ⟨b5, 0, none⟩)), (8, .pointer (some ⟨b8, 0, none⟩)), (9, .pointer (some ⟨b9, 0, none⟩)), (10, .slice none 0 0), (11, .slice none 0 0), (12, .pointer (some ⟨b12, 0, none⟩)), (13, zv 0), (14, .pointer (some ⟨b14, 0, none⟩)), (17, .map (some bm)), (18, .pointer (some ⟨q.1.1, 0, none⟩)), (19, .pointer (some ⟨q.1.2, 0, none⟩))])
   (fun q => [A.blk b14 [.slice a l.length c, .slice a2 D.length c2] 80, A.blk b12 tomb0 41, A.blk b9 [zv d] 3, A.blk b8 [zv o] 3, A.blk b5 (row 8 s) 35, A.mq bm .i64 (liftS (goneL l r.pack)), A.blk q.1.1 [.slice q.2.1.2.1.1 q.2.1.1.length q.2.1.2.1.2, .slice q.2.1.2.2.1 q.2.1.1.length q.2.1.2.2.2] 80, A.blk q.1.2 [.slice q.2.2.2.1.1 q.2.2.1.length q.2.2.2.1.2, .slice q.2.2.2.2.1 q.2.2.1.length q.2.2.2.2.2] 80, A.grow 39 4 q.2.1.2.1.1 q.2.1.2.1.2 q.2.1.1.length (ndsV q.2.1.1), A.grow 9 1 q.2.1.2.2.1 q.2.1.2.2.2 q.2.1.1.length (strs (digP (prN l D (goneL l r.pack) true))), A.all (rowsA q.2.1.1), A.grow 39 4 q.2.2.2.1.1 q.2.2.2.1.2 q.2.2.1.length (ndsV q.2.2.1), A.grow 9 1 q.2.2.2.2.1 q.2.2.2.2.2 q.2.2.1.length (strs (digP (prN l D (goneL l r.pack) false))), A.all (rowsA q.2.2.1)]) (fun q => ndsZ q.2.1.1 = ndsP (prN l D (goneL l r.pack) true) ∧ ndsZ q.2.2.1 = ndsP (prN l D (goneL l r.pack) false)) ?_ ?_
  ·refine HC.anyC (cellsA b14 [.slice a l.length c, .slice a2 D.length c2] ++ []) rfl ?_
   refine HB.ldA (vs := [.slice a l.length c, .slice a2 D.length c2]) 0 rfl rfl rfl (fun i v hv => cellsL (cellsA_mem hv)) ?_
   refine HB.pa 1 rfl ?_
   refine HB.ldA (vs := [.slice a l.length c, .slice a2 D.length c2]) 3 rfl rfl rfl (fun i v hv => cellsL (cellsA_mem hv)) ?_
   refine HB.pa 4 rfl ?_
   refine HB.all (by (exact Keep.blkA (b := b14) (vs := [.slice a l.length c, .slice a2 D.length c2]) (e := 80) memD Keep.nil)) [2, 6, 7] (by kernel_rfl) rfl ⟨⟨_, rfl, ?_⟩, ⟨_, rfl, ?_⟩, ⟨_, rfl, ?_⟩, trivial⟩
   ·refine HP.one ?_
    refine H1.callz (vs := [_, _, _]) rfl rfl (fun w' hM => part_fn true hlD hl hls w' (hR.ext hM.ext) (hS.ext hM.ext) (hM.setW (b := bm) memA)) ?_
    rintro z1 hz1
    apply HB.fold
    refine HB.all (by (exact Keep.blkA (b := b14) (vs := [.slice a l.length c, .slice a2 D.length c2]) (e := 80) memD Keep.nil)) [5, 6, 7] (by kernel_rfl) rfl ⟨⟨_, rfl, ?_⟩, ⟨_, rfl, ?_⟩, ⟨_, rfl, ?_⟩, trivial⟩
    ·refine HP.one ?_
     refine H1.callz (vs := [_, _, _]) rfl rfl (fun w' hM => part_fn false hlD hl hls w' (hR.ext hM.ext) (hS.ext hM.ext) (hM.setW (b := bm) memA)) ?_
     rintro z2 hz2
     apply HB.fold
     refine HB.all (by (exact Keep.blkA (b := b14) (vs := [.slice a l.length c, .slice a2 D.length c2]) (e := 80) memD Keep.nil)) [6, 7] (by kernel_rfl) rfl ⟨⟨_, rfl, ?_⟩, ⟨_, rfl, ?_⟩, trivial⟩
     ·refine HP.one ?_
      refine H1.alloc (cs := [.slice none 0 0, .slice none 0 0]) rfl rfl (fun b18 => ?_)
      apply HB.fold
      refine HB.all (by (exact Keep.blkA (b := b14) (vs := [.slice a l.length c, .slice a2 D.length c2]) (e := 80) memD Keep.nil)) [7] (by kernel_rfl) rfl ⟨⟨_, rfl, ?_⟩, trivial⟩
      refine HP.one ?_
      refine H1.alloc (cs := [.slice none 0 0, .slice none 0 0]) rfl rfl (fun b19 => ?_)
      apply HB.fold
      refine HB.all (by (exact Keep.blkA (b := b14) (vs := [.slice a l.length c, .slice a2 D.length c2]) (e := 80) memD Keep.nil)) [8] (by kernel_rfl) rfl ⟨⟨_, rfl, ?_⟩, trivial⟩
      refine HP.one ?_
      refine H1.stAgg (b := b18) (cs := [.slice none 0 0, .slice none 0 0]) (vs := [.slice z1.2.1.1 z1.1.length z1.2.1.2, .slice z1.2.2.1 z1.1.length z1.2.2.2]) rfl rfl rfl (by intro v hv; simp only [List.mem_cons, List.not_mem_nil, or_false] at hv; rcases hv with rfl | rfl <;> rfl) rplA rfl ?_
      apply HB.fold
      refine HB.all (by (exact Keep.blkA (b := b14) (vs := [.slice a l.length c, .slice a2 D.length c2]) (e := 80) memD Keep.nil)) [9] (by kernel_rfl) rfl ⟨⟨_, rfl, ?_⟩, trivial⟩
      refine HP.one ?_
      refine H1.stAgg (b := b19) (cs := [.slice none 0 0, .slice none 0 0]) (vs := [.slice z2.2.1.1 z2.1.length z2.2.1.2, .slice z2.2.2.1 z2.1.length z2.2.2.2]) rfl rfl rfl (by intro v hv; simp only [List.mem_cons, List.not_mem_nil, or_false] at hv; rcases hv with rfl | rfl <;> rfl) rplA rfl ?_
      apply HB.fold
      refine HB.done (by (exact Keep.blkA (b := b14) (vs := [.slice a l.length c, .slice a2 D.length c2]) (e := 80) memD Keep.nil)) (by kernel_rfl) ?_
      exact HX.cut ((b18, b19), z1, z2) ⟨hz1, hz2⟩ esA (by repeat (first | exact Hs.nil _ | (refine Hs.cons pickA ?_)))
     ·refine HP.one ?_
      refine H1.alloc (cs := [.slice none 0 0, .slice none 0 0]) rfl rfl (fun b19 => ?_)
      apply HB.fold
      refine HB.all (by (exact Keep.blkA (b := b14) (vs := [.slice a l.length c, .slice a2 D.length c2]) (e := 80) memD Keep.nil)) [6] (by kernel_rfl) rfl ⟨⟨_, rfl, ?_⟩, trivial⟩
      refine HP.one ?_
      refine H1.alloc (cs := [.slice none 0 0, .slice none 0 0]) rfl rfl (fun b18 => ?_)
      apply HB.fold
      refine HB.all (by (exact Keep.blkA (b := b14) (vs := [.slice a l.length c, .slice a2 D.length c2]) (e := 80) memD Keep.nil)) [8] (by kernel_rfl) rfl ⟨⟨_, rfl, ?_⟩, trivial⟩
      refine HP.one ?_
      refine H1.stAgg (b := b18) (cs := [.slice none 0 0, .slice none 0 0]) (vs := [.slice z1.2.1.1 z1.1.length z1.2.1.2, .slice z1.2.2.1 z1.1.length z1.2.2.2]) rfl rfl rfl (by intro v hv; simp only [List.mem_cons, List.not_mem_nil, or_false] at hv; rcases hv with rfl | rfl <;> rfl) rplA rfl ?_
      apply HB.fold
      refine HB.all (by (exact Keep.blkA (b := b14) (vs := [.slice a l.length c, .slice a2 D.length c2]) (e := 80) memD Keep.nil)) [9] (by kernel_rfl) rfl ⟨⟨_, rfl, ?_⟩, trivial⟩
      refine HP.one ?_
      refine H1.stAgg (b := b19) (cs := [.slice none 0 0, .slice none 0 0]) (vs := [.slice z2.2.1.1 z2.1.length z2.2.1.2, .slice z2.2.2.1 z2.1.length z2.2.2.2]) rfl rfl rfl (by intro v hv; simp only [List.mem_cons, List.not_mem_nil, or_false] at hv; rcases hv with rfl | rfl <;> rfl) rplA rfl ?_
      apply HB.fold
      refine HB.done (by (exact Keep.blkA (b := b14) (vs := [.slice a l.length c, .slice a2 D.length c2]) (e := 80) memD Keep.nil)) (by kernel_rfl) ?_
      exact HX.cut ((b18, b19), z1, z2) ⟨hz1, hz2⟩ esA (by repeat (first | exact Hs.nil _ | (refine Hs.cons pickA ?_)))
    ·refine HP.one ?_
     refine H1.alloc (cs := [.slice none 0 0, .slice none 0 0]) rfl rfl (fun b18 => ?_)
     apply HB.fold
     refine HB.all (by (exact Keep.blkA (b := b14) (vs := [.slice a l.length c, .slice a2 D.length c2]) (e := 80) memD Keep.nil)) [5, 7] (by kernel_rfl) rfl ⟨⟨_, rfl, ?_⟩, ⟨_, rfl, ?_⟩, trivial⟩
     ·refine HP.one ?_
      refine H1.callz (vs := [_, _, _]) rfl rfl (fun w' hM => part_fn false hlD hl hls w' (hR.ext hM.ext) (hS.ext hM.ext) (hM.setW (b := bm) memA)) ?_
      rintro z2 hz2
      apply HB.fold
      refine HB.all (by (exact Keep.blkA (b := b14) (vs := [.slice a l.length c, .slice a2 D.length c2]) (e := 80) memD Keep.nil)) [7] (by kernel_rfl) rfl ⟨⟨_, rfl, ?_⟩, trivial⟩
      refine HP.one ?_
      refine H1.alloc (cs := [.slice none 0 0, .slice none 0 0]) rfl rfl (fun b19 => ?_)
      apply HB.fold
      refine HB.all (by (exact Keep.blkA (b := b14) (vs := [.slice a l.length c, .slice a2 D.length c2]) (e := 80) memD Keep.nil)) [8] (by kernel_rfl) rfl ⟨⟨_, rfl, ?_⟩, trivial⟩
      refine HP.one ?_
      refine H1.stAgg (b := b18) (cs := [.slice none 0 0, .slice none 0 0]) (vs := [.slice z1.2.1.1 z1.1.length z1.2.1.2, .slice z1.2.2.1 z1.1.length z1.2.2.2]) rfl rfl rfl (by intro v hv; simp only [List.mem_cons, List.not_mem_nil, or_false] at hv; rcases hv with rfl | rfl <;> rfl) rplA rfl ?_
      apply HB.fold
      refine HB.all (by (exact Keep.blkA (b := b14) (vs := [.slice a l.length c, .slice a2 D.length c2]) (e := 80) memD Keep.nil)) [9] (by kernel_rfl) rfl ⟨⟨_, rfl, ?_⟩, trivial⟩
      refine HP.one ?_
      refine H1.stAgg (b := b19) (cs := [.slice none 0 0, .slice none 0 0]) (vs := [.slice z2.2.1.1 z2.1.length z2.2.1.2, .slice z2.2.2.1 z2.1.length z2.2.2.2]) rfl rfl rfl (by intro v hv; simp only [List.mem_cons, List.not_mem_nil, or_false] at hv; rcases hv with rfl | rfl <;> rfl) rplA rfl ?_
      apply HB.fold
      refine HB.done (by (exact Keep.blkA (b := b14) (vs := [.slice a l.length c, .slice a2 D.length c2]) (e := 80) memD Keep.nil)) (by kernel_rfl) ?_
      exact HX.cut ((b18, b19), z1, z2) ⟨hz1, hz2⟩ esA (by repeat (first | exact Hs.nil _ | (refine Hs.cons pickA ?_)))
     ·refine HP.one ?_
      refine H1.alloc (cs := [.slice none 0 0, .slice none 0 0]) rfl rfl (fun b19 => ?_)
      apply HB.fold
      refine HB.all (by (exact Keep.blkA (b := b14) (vs := [.slice a l.length c, .slice a2 D.length c2]) (e := 80) memD Keep.nil)) [5] (by kernel_rfl) rfl ⟨⟨_, rfl, ?_⟩, trivial⟩
      refine HP.one ?_
      refine H1.callz (vs := [_, _, _]) rfl rfl (fun w' hM => part_fn false hlD hl hls w' (hR.ext hM.ext) (hS.ext hM.ext) (hM.setW (b := bm) memA)) ?_
      rintro z2 hz2
      apply HB.fold
      refine HB.all (by (exact Keep.blkA (b := b14) (vs := [.slice a l.length c, .slice a2 D.length c2]) (e := 80) memD Keep.nil)) [8] (by kernel_rfl) rfl ⟨⟨_, rfl, ?_⟩, trivial⟩
      refine HP.one ?_
      refine H1.stAgg (b := b18) (cs := [.slice none 0 0, .slice none 0 0]) (vs := [.slice z1.2.1.1 z1.1.length z1.2.1.2, .slice z1.2.2.1 z1.1.length z1.2.2.2]) rfl rfl rfl (by intro v hv; simp only [List.mem_cons, List.not_mem_nil, or_false] at hv; rcases hv with rfl | rfl <;> rfl) rplA rfl ?_
      apply HB.fold
      refine HB.all (by (exact Keep.blkA (b := b14) (vs := [.slice a l.length c, .slice a2 D.length c2]) (e := 80) memD Keep.nil)) [9] (by kernel_rfl) rfl ⟨⟨_, rfl, ?_⟩, trivial⟩
      refine HP.one ?_
      refine H1.stAgg (b := b19) (cs := [.slice none 0 0, .slice none 0 0]) (vs := [.slice z2.2.1.1 z2.1.length z2.2.1.2, .slice z2.2.2.1 z2.1.length z2.2.2.2]) rfl rfl rfl (by intro v hv; simp only [List.mem_cons, List.not_mem_nil, or_false] at hv; rcases hv with rfl | rfl <;> rfl) rplA rfl ?_
      apply HB.fold
      refine HB.done (by (exact Keep.blkA (b := b14) (vs := [.slice a l.length c, .slice a2 D.length c2]) (e := 80) memD Keep.nil)) (by kernel_rfl) ?_
      exact HX.cut ((b18, b19), z1, z2) ⟨hz1, hz2⟩ esA (by repeat (first | exact Hs.nil _ | (refine Hs.cons pickA ?_)))
    ·refine HP.one ?_
     refine H1.alloc (cs := [.slice none 0 0, .slice none 0 0]) rfl rfl (fun b19 => ?_)
     apply HB.fold
     refine HB.all (by (exact Keep.blkA (b := b14) (vs := [.slice a l.length c, .slice a2 D.length c2]) (e := 80) memD Keep.nil)) [5, 6] (by kernel_rfl) rfl ⟨⟨_, rfl, ?_⟩, ⟨_, rfl, ?_⟩, trivial⟩
     ·refine HP.one ?_
      refine H1.callz (vs := [_, _, _]) rfl rfl (fun w' hM => part_fn false hlD hl hls w' (hR.ext hM.ext) (hS.ext hM.ext) (hM.setW (b := bm) memA)) ?_
      rintro z2 hz2
      apply HB.fold
      refine HB.all (by (exact Keep.blkA (b := b14) (vs := [.slice a l.length c, .slice a2 D.length c2]) (e := 80) memD Keep.nil)) [6] (by kernel_rfl) rfl ⟨⟨_, rfl, ?_⟩, trivial⟩
      refine HP.one ?_
      refine H1.alloc (cs := [.slice none 0 0, .slice none 0 0]) rfl rfl (fun b18 => ?_)
      apply HB.fold
      refine HB.all (by (exact Keep.blkA (b := b14) (vs := [.slice a l.length c, .slice a2 D.length c2]) (e := 80) memD Keep.nil)) [8] (by kernel_rfl) rfl ⟨⟨_, rfl, ?_⟩, trivial⟩
      refine HP.one ?_
      refine H1.stAgg (b := b18) (cs := [.slice none 0 0, .slice none 0 0]) (vs := [.slice z1.2.1.1 z1.1.length z1.2.1.2, .slice z1.2.2.1 z1.1.length z1.2.2.2]) rfl rfl rfl (by intro v hv; simp only [List.mem_cons, List.not_mem_nil, or_false] at hv; rcases hv with rfl | rfl <;> rfl) rplA rfl ?_
      apply HB.fold
      refine HB.all (by (exact Keep.blkA (b := b14) (vs := [.slice a l.length c, .slice a2 D.length c2]) (e := 80) memD Keep.nil)) [9] (by kernel_rfl) rfl ⟨⟨_, rfl, ?_⟩, trivial⟩
      refine HP.one ?_
      refine H1.stAgg (b := b19) (cs := [.slice none 0 0, .slice none 0 0]) (vs := [.slice z2.2.1.1 z2.1.length z2.2.1.2, .slice z2.2.2.1 z2.1.length z2.2.2.2]) rfl rfl rfl (by intro v hv; simp only [List.mem_cons, List.not_mem_nil, or_false] at hv; rcases hv with rfl | rfl <;> rfl) rplA rfl ?_
      apply HB.fold
      refine HB.done (by (exact Keep.blkA (b := b14) (vs := [.slice a l.length c, .slice a2 D.length c2]) (e := 80) memD Keep.nil)) (by kernel_rfl) ?_
      exact HX.cut ((b18, b19), z1, z2) ⟨hz1, hz2⟩ esA (by repeat (first | exact Hs.nil _ | (refine Hs.cons pickA ?_)))
     ·refine HP.one ?_
      refine H1.alloc (cs := [.slice none 0 0, .slice none 0 0]) rfl rfl (fun b18 => ?_)
      apply HB.fold
      refine HB.all (by (exact Keep.blkA (b := b14) (vs := [.slice a l.length c, .slice a2 D.length c2]) (e := 80) memD Keep.nil)) [5] (by kernel_rfl) rfl ⟨⟨_, rfl, ?_⟩, trivial⟩
      refine HP.one ?_
      refine H1.callz (vs := [_, _, _]) rfl rfl (fun w' hM => part_fn false hlD hl hls w' (hR.ext hM.ext) (hS.ext hM.ext) (hM.setW (b := bm) memA)) ?_
      rintro z2 hz2
      apply HB.fold
      refine HB.all (by (exact Keep.blkA (b := b14) (vs := [.slice a l.length c, .slice a2 D.length c2]) (e := 80) memD Keep.nil)) [8] (by kernel_rfl) rfl ⟨⟨_, rfl, ?_⟩, trivial⟩
      refine HP.one ?_
      refine H1.stAgg (b := b18) (cs := [.slice none 0 0, .slice none 0 0]) (vs := [.slice z1.2.1.1 z1.1.length z1.2.1.2, .slice z1.2.2.1 z1.1.length z1.2.2.2]) rfl rfl rfl (by intro v hv; simp only [List.mem_cons, List.not_mem_nil, or_false] at hv; rcases hv with rfl | rfl <;> rfl) rplA rfl ?_
      apply HB.fold
      refine HB.all (by (exact Keep.blkA (b := b14) (vs := [.slice a l.length c, .slice a2 D.length c2]) (e := 80) memD Keep.nil)) [9] (by kernel_rfl) rfl ⟨⟨_, rfl, ?_⟩, trivial⟩
      refine HP.one ?_
      refine H1.stAgg (b := b19) (cs := [.slice none 0 0, .slice none 0 0]) (vs := [.slice z2.2.1.1 z2.1.length z2.2.1.2, .slice z2.2.2.1 z2.1.length z2.2.2.2]) rfl rfl rfl (by intro v hv; simp only [List.mem_cons, List.not_mem_nil, or_false] at hv; rcases hv with rfl | rfl <;> rfl) rplA rfl ?_
      apply HB.fold
      refine HB.done (by (exact Keep.blkA (b := b14) (vs := [.slice a l.length c, .slice a2 D.length c2]) (e := 80) memD Keep.nil)) (by kernel_rfl) ?_
      exact HX.cut ((b18, b19), z1, z2) ⟨hz1, hz2⟩ esA (by repeat (first | exact Hs.nil _ | (refine Hs.cons pickA ?_)))
   ·refine HP.one ?_
    refine H1.alloc (cs := [.slice none 0 0, .slice none 0 0]) rfl rfl (fun b18 => ?_)
    apply HB.fold
    refine HB.all (by (exact Keep.blkA (b := b14) (vs := [.slice a l.length c, .slice a2 D.length c2]) (e := 80) memD Keep.nil)) [2, 7] (by kernel_rfl) rfl ⟨⟨_, rfl, ?_⟩, ⟨_, rfl, ?_⟩, trivial⟩
    ·refine HP.one ?_
     refine H1.callz (vs := [_, _, _]) rfl rfl (fun w' hM => part_fn true hlD hl hls w' (hR.ext hM.ext) (hS.ext hM.ext) (hM.setW (b := bm) memA)) ?_
     rintro z1 hz1
     apply HB.fold
     refine HB.all (by (exact Keep.blkA (b := b14) (vs := [.slice a l.length c, .slice a2 D.length c2]) (e := 80) memD Keep.nil)) [5, 7] (by kernel_rfl) rfl ⟨⟨_, rfl, ?_⟩, ⟨_, rfl, ?_⟩, trivial⟩
     ·refine HP.one ?_
      refine H1.callz (vs := [_, _, _]) rfl rfl (fun w' hM => part_fn false hlD hl hls w' (hR.ext hM.ext) (hS.ext hM.ext) (hM.setW (b := bm) memA)) ?_
      rintro z2 hz2
      apply HB.fold
      refine HB.all (by (exact Keep.blkA (b := b14) (vs := [.slice a l.length c, .slice a2 D.length c2]) (e := 80) memD Keep.nil)) [7] (by kernel_rfl) rfl ⟨⟨_, rfl, ?_⟩, trivial⟩
      refine HP.one ?_
      refine H1.alloc (cs := [.slice none 0 0, .slice none 0 0]) rfl rfl (fun b19 => ?_)
      apply HB.fold
      refine HB.all (by (exact Keep.blkA (b := b14) (vs := [.slice a l.length c, .slice a2 D.length c2]) (e := 80) memD Keep.nil)) [8] (by kernel_rfl) rfl ⟨⟨_, rfl, ?_⟩, trivial⟩
      refine HP.one ?_
      refine H1.stAgg (b := b18) (cs := [.slice none 0 0, .slice none 0 0]) (vs := [.slice z1.2.1.1 z1.1.length z1.2.1.2, .slice z1.2.2.1 z1.1.length z1.2.2.2]) rfl rfl rfl (by intro v hv; simp only [List.mem_cons, List.not_mem_nil, or_false] at hv; rcases hv with rfl | rfl <;> rfl) rplA rfl ?_
      apply HB.fold
      refine HB.all (by (exact Keep.blkA (b := b14) (vs := [.slice a l.length c, .slice a2 D.length c2]) (e := 80) memD Keep.nil)) [9] (by kernel_rfl) rfl ⟨⟨_, rfl, ?_⟩, trivial⟩
      refine HP.one ?_
      refine H1.stAgg (b := b19) (cs := [.slice none 0 0, .slice none 0 0]) (vs := [.slice z2.2.1.1 z2.1.length z2.2.1.2, .slice z2.2.2.1 z2.1.length z2.2.2.2]) rfl rfl rfl (by intro v hv; simp only [List.mem_cons, List.not_mem_nil, or_false] at hv; rcases hv with rfl | rfl <;> rfl) rplA rfl ?_
      apply HB.fold
      refine HB.done (by (exact Keep.blkA (b := b14) (vs := [.slice a l.length c, .slice a2 D.length c2]) (e := 80) memD Keep.nil)) (by kernel_rfl) ?_
      exact HX.cut ((b18, b19), z1, z2) ⟨hz1, hz2⟩ esA (by repeat (first | exact Hs.nil _ | (refine Hs.cons pickA ?_)))
     ·refine HP.one ?_
      refine H1.alloc (cs := [.slice none 0 0, .slice none 0 0]) rfl rfl (fun b19 => ?_)
      apply HB.fold
      refine HB.all (by (exact Keep.blkA (b := b14) (vs := [.slice a l.length c, .slice a2 D.length c2]) (e := 80) memD Keep.nil)) [5] (by kernel_rfl) rfl ⟨⟨_, rfl, ?_⟩, trivial⟩
      refine HP.one ?_
      refine H1.callz (vs := [_, _, _]) rfl rfl (fun w' hM => part_fn false hlD hl hls w' (hR.ext hM.ext) (hS.ext hM.ext) (hM.setW (b := bm) memA)) ?_
      rintro z2 hz2
      apply HB.fold
      refine HB.all (by (exact Keep.blkA (b := b14) (vs := [.slice a l.length c, .slice a2 D.length c2]) (e := 80) memD Keep.nil)) [8] (by kernel_rfl) rfl ⟨⟨_, rfl, ?_⟩, trivial⟩
      refine HP.one ?_
      refine H1.stAgg (b := b18) (cs := [.slice none 0 0, .slice none 0 0]) (vs := [.slice z1.2.1.1 z1.1.length z1.2.1.2, .slice z1.2.2.1 z1.1.length z1.2.2.2]) rfl rfl rfl (by intro v hv; simp only [List.mem_cons, List.not_mem_nil, or_false] at hv; rcases hv with rfl | rfl <;> rfl) rplA rfl ?_
      apply HB.fold
      refine HB.all (by (exact Keep.blkA (b := b14) (vs := [.slice a l.length c, .slice a2 D.length c2]) (e := 80) memD Keep.nil)) [9] (by kernel_rfl) rfl ⟨⟨_, rfl, ?_⟩, trivial⟩
      refine HP.one ?_
      refine H1.stAgg (b := b19) (cs := [.slice none 0 0, .slice none 0 0]) (vs := [.slice z2.2.1.1 z2.1.length z2.2.1.2, .slice z2.2.2.1 z2.1.length z2.2.2.2]) rfl rfl rfl (by intro v hv; simp only [List.mem_cons, List.not_mem_nil, or_false] at hv; rcases hv with rfl | rfl <;> rfl) rplA rfl ?_
      apply HB.fold
      refine HB.done (by (exact Keep.blkA (b := b14) (vs := [.slice a l.length c, .slice a2 D.length c2]) (e := 80) memD Keep.nil)) (by kernel_rfl) ?_
      exact HX.cut ((b18, b19), z1, z2) ⟨hz1, hz2⟩ esA (by repeat (first | exact Hs.nil _ | (refine Hs.cons pickA ?_)))
    ·refine HP.one ?_
     refine H1.alloc (cs := [.slice none 0 0, .slice none 0 0]) rfl rfl (fun b19 => ?_)
     apply HB.fold
     refine HB.all (by (exact Keep.blkA (b := b14) (vs := [.slice a l.length c, .slice a2 D.length c2]) (e := 80) memD Keep.nil)) [2] (by kernel_rfl) rfl ⟨⟨_, rfl, ?_⟩, trivial⟩
     refine HP.one ?_
     refine H1.callz (vs := [_, _, _]) rfl rfl (fun w' hM => part_fn true hlD hl hls w' (hR.ext hM.ext) (hS.ext hM.ext) (hM.setW (b := bm) memA)) ?_
     rintro z1 hz1
     apply HB.fold
     refine HB.all (by (exact Keep.blkA (b := b14) (vs := [.slice a l.length c, .slice a2 D.length c2]) (e := 80) memD Keep.nil)) [5] (by kernel_rfl) rfl ⟨⟨_, rfl, ?_⟩, trivial⟩
     refine HP.one ?_
     refine H1.callz (vs := [_, _, _]) rfl rfl (fun w' hM => part_fn false hlD hl hls w' (hR.ext hM.ext) (hS.ext hM.ext) (hM.setW (b := bm) memA)) ?_
     rintro z2 hz2
     apply HB.fold
     refine HB.all (by (exact Keep.blkA (b := b14) (vs := [.slice a l.length c, .slice a2 D.length c2]) (e := 80) memD Keep.nil)) [8] (by kernel_rfl) rfl ⟨⟨_, rfl, ?_⟩, trivial⟩
     refine HP.one ?_
     refine H1.stAgg (b := b18) (cs := [.slice none 0 0, .slice none 0 0]) (vs := [.slice z1.2.1.1 z1.1.length z1.2.1.2, .slice z1.2.2.1 z1.1.length z1.2.2.2]) rfl rfl rfl (by intro v hv; simp only [List.mem_cons, List.not_mem_nil, or_false] at hv; rcases hv with rfl | rfl <;> rfl) rplA rfl ?_
     apply HB.fold
     refine HB.all (by (exact Keep.blkA (b := b14) (vs := [.slice a l.length c, .slice a2 D.length c2]) (e := 80) memD Keep.nil)) [9] (by kernel_rfl) rfl ⟨⟨_, rfl, ?_⟩, trivial⟩
     refine HP.one ?_
     refine H1.stAgg (b := b19) (cs := [.slice none 0 0, .slice none 0 0]) (vs := [.slice z2.2.1.1 z2.1.length z2.2.1.2, .slice z2.2.2.1 z2.1.length z2.2.2.2]) rfl rfl rfl (by intro v hv; simp only [List.mem_cons, List.not_mem_nil, or_false] at hv; rcases hv with rfl | rfl <;> rfl) rplA rfl ?_
     apply HB.fold
     refine HB.done (by (exact Keep.blkA (b := b14) (vs := [.slice a l.length c, .slice a2 D.length c2]) (e := 80) memD Keep.nil)) (by kernel_rfl) ?_
     exact HX.cut ((b18, b19), z1, z2) ⟨hz1, hz2⟩ esA (by repeat (first | exact Hs.nil _ | (refine Hs.cons pickA ?_)))
   ·refine HP.one ?_
    refine H1.alloc (cs := [.slice none 0 0, .slice none 0 0]) rfl rfl (fun b19 => ?_)
    apply HB.fold
    refine HB.all (by (exact Keep.blkA (b := b14) (vs := [.slice a l.length c, .slice a2 D.length c2]) (e := 80) memD Keep.nil)) [2, 6] (by kernel_rfl) rfl ⟨⟨_, rfl, ?_⟩, ⟨_, rfl, ?_⟩, trivial⟩
    ·refine HP.one ?_
     refine H1.callz (vs := [_, _, _]) rfl rfl (fun w' hM => part_fn true hlD hl hls w' (hR.ext hM.ext) (hS.ext hM.ext) (hM.setW (b := bm) memA)) ?_
     rintro z1 hz1
     apply HB.fold
     refine HB.all (by (exact Keep.blkA (b := b14) (vs := [.slice a l.length c, .slice a2 D.length c2]) (e := 80) memD Keep.nil)) [5, 6] (by kernel_rfl) rfl ⟨⟨_, rfl, ?_⟩, ⟨_, rfl, ?_⟩, trivial⟩
     ·refine HP.one ?_
      refine H1.callz (vs := [_, _, _]) rfl rfl (fun w' hM => part_fn false hlD hl hls w' (hR.ext hM.ext) (hS.ext hM.ext) (hM.setW (b := bm) memA)) ?_
      rintro z2 hz2
      apply HB.fold
      refine HB.all (by (exact Keep.blkA (b := b14) (vs := [.slice a l.length c, .slice a2 D.length c2]) (e := 80) memD Keep.nil)) [6] (by kernel_rfl) rfl ⟨⟨_, rfl, ?_⟩, trivial⟩
      refine HP.one ?_
      refine H1.alloc (cs := [.slice none 0 0, .slice none 0 0]) rfl rfl (fun b18 => ?_)
      apply HB.fold
      refine HB.all (by (exact Keep.blkA (b := b14) (vs := [.slice a l.length c, .slice a2 D.length c2]) (e := 80) memD Keep.nil)) [8] (by kernel_rfl) rfl ⟨⟨_, rfl, ?_⟩, trivial⟩
      refine HP.one ?_
      refine H1.stAgg (b := b18) (cs := [.slice none 0 0, .slice none 0 0]) (vs := [.slice z1.2.1.1 z1.1.length z1.2.1.2, .slice z1.2.2.1 z1.1.length z1.2.2.2]) rfl rfl rfl (by intro v hv; simp only [List.mem_cons, List.not_mem_nil, or_false] at hv; rcases hv with rfl | rfl <;> rfl) rplA rfl ?_
      apply HB.fold
      refine HB.all (by (exact Keep.blkA (b := b14) (vs := [.slice a l.length c, .slice a2 D.length c2]) (e := 80) memD Keep.nil)) [9] (by kernel_rfl) rfl ⟨⟨_, rfl, ?_⟩, trivial⟩
      refine HP.one ?_
      refine H1.stAgg (b := b19) (cs := [.slice none 0 0, .slice none 0 0]) (vs := [.slice z2.2.1.1 z2.1.length z2.2.1.2, .slice z2.2.2.1 z2.1.length z2.2.2.2]) rfl rfl rfl (by intro v hv; simp only [List.mem_cons, List.not_mem_nil, or_false] at hv; rcases hv with rfl | rfl <;> rfl) rplA rfl ?_
      apply HB.fold
      refine HB.done (by (exact Keep.blkA (b := b14) (vs := [.slice a l.length c, .slice a2 D.length c2]) (e := 80) memD Keep.nil)) (by kernel_rfl) ?_
      exact HX.cut ((b18, b19), z1, z2) ⟨hz1, hz2⟩ esA (by repeat (first | exact Hs.nil _ | (refine Hs.cons pickA ?_)))
     ·refine HP.one ?_
      refine H1.alloc (cs := [.slice none 0 0, .slice none 0 0]) rfl rfl (fun b18 => ?_)
      apply HB.fold
      refine HB.all (by (exact Keep.blkA (b := b14) (vs := [.slice a l.length c, .slice a2 D.length c2]) (e := 80) memD Keep.nil)) [5] (by kernel_rfl) rfl ⟨⟨_, rfl, ?_⟩, trivial⟩
      refine HP.one ?_
      refine H1.callz (vs := [_, _, _]) rfl rfl (fun w' hM => part_fn false hlD hl hls w' (hR.ext hM.ext) (hS.ext hM.ext) (hM.setW (b := bm) memA)) ?_
      rintro z2 hz2
      apply HB.fold
      refine HB.all (by (exact Keep.blkA (b := b14) (vs := [.slice a l.length c, .slice a2 D.length c2]) (e := 80) memD Keep.nil)) [8] (by kernel_rfl) rfl ⟨⟨_, rfl, ?_⟩, trivial⟩
      refine HP.one ?_
      refine H1.stAgg (b := b18) (cs := [.slice none 0 0, .slice none 0 0]) (vs := [.slice z1.2.1.1 z1.1.length z1.2.1.2, .slice z1.2.2.1 z1.1.length z1.2.2.2]) rfl rfl rfl (by intro v hv; simp only [List.mem_cons, List.not_mem_nil, or_false] at hv; rcases hv with rfl | rfl <;> rfl) rplA rfl ?_
      apply HB.fold
      refine HB.all (by (exact Keep.blkA (b := b14) (vs := [.slice a l.length c, .slice a2 D.length c2]) (e := 80) memD Keep.nil)) [9] (by kernel_rfl) rfl ⟨⟨_, rfl, ?_⟩, trivial⟩
      refine HP.one ?_
      refine H1.stAgg (b := b19) (cs := [.slice none 0 0, .slice none 0 0]) (vs := [.slice z2.2.1.1 z2.1.length z2.2.1.2, .slice z2.2.2.1 z2.1.length z2.2.2.2]) rfl rfl rfl (by intro v hv; simp only [List.mem_cons, List.not_mem_nil, or_false] at hv; rcases hv with rfl | rfl <;> rfl) rplA rfl ?_
      apply HB.fold
      refine HB.done (by (exact Keep.blkA (b := b14) (vs := [.slice a l.length c, .slice a2 D.length c2]) (e := 80) memD Keep.nil)) (by kernel_rfl) ?_
      exact HX.cut ((b18, b19), z1, z2) ⟨hz1, hz2⟩ esA (by repeat (first | exact Hs.nil _ | (refine Hs.cons pickA ?_)))
    ·refine HP.one ?_
     refine H1.alloc (cs := [.slice none 0 0, .slice none 0 0]) rfl rfl (fun b18 => ?_)
     apply HB.fold
     refine HB.all (by (exact Keep.blkA (b := b14) (vs := [.slice a l.length c, .slice a2 D.length c2]) (e := 80) memD Keep.nil)) [2] (by kernel_rfl) rfl ⟨⟨_, rfl, ?_⟩, trivial⟩
     refine HP.one ?_
     refine H1.callz (vs := [_, _, _]) rfl rfl (fun w' hM => part_fn true hlD hl hls w' (hR.ext hM.ext) (hS.ext hM.ext) (hM.setW (b := bm) memA)) ?_
     rintro z1 hz1
     apply HB.fold
     refine HB.all (by (exact Keep.blkA (b := b14) (vs := [.slice a l.length c, .slice a2 D.length c2]) (e := 80) memD Keep.nil)) [5] (by kernel_rfl) rfl ⟨⟨_, rfl, ?_⟩, trivial⟩
     refine HP.one ?_
     refine H1.callz (vs := [_, _, _]) rfl rfl (fun w' hM => part_fn false hlD hl hls w' (hR.ext hM.ext) (hS.ext hM.ext) (hM.setW (b := bm) memA)) ?_
     rintro z2 hz2
     apply HB.fold
     refine HB.all (by (exact Keep.blkA (b := b14) (vs := [.slice a l.length c, .slice a2 D.length c2]) (e := 80) memD Keep.nil)) [8] (by kernel_rfl) rfl ⟨⟨_, rfl, ?_⟩, trivial⟩
     refine HP.one ?_
     refine H1.stAgg (b := b18) (cs := [.slice none 0 0, .slice none 0 0]) (vs := [.slice z1.2.1.1 z1.1.length z1.2.1.2, .slice z1.2.2.1 z1.1.length z1.2.2.2]) rfl rfl rfl (by intro v hv; simp only [List.mem_cons, List.not_mem_nil, or_false] at hv; rcases hv with rfl | rfl <;> rfl) rplA rfl ?_
     apply HB.fold
     refine HB.all (by (exact Keep.blkA (b := b14) (vs := [.slice a l.length c, .slice a2 D.length c2]) (e := 80) memD Keep.nil)) [9] (by kernel_rfl) rfl ⟨⟨_, rfl, ?_⟩, trivial⟩
     refine HP.one ?_
     refine H1.stAgg (b := b19) (cs := [.slice none 0 0, .slice none 0 0]) (vs := [.slice z2.2.1.1 z2.1.length z2.2.1.2, .slice z2.2.2.1 z2.1.length z2.2.2.2]) rfl rfl rfl (by intro v hv; simp only [List.mem_cons, List.not_mem_nil, or_false] at hv; rcases hv with rfl | rfl <;> rfl) rplA rfl ?_
     apply HB.fold
     refine HB.done (by (exact Keep.blkA (b := b14) (vs := [.slice a l.length c, .slice a2 D.length c2]) (e := 80) memD Keep.nil)) (by kernel_rfl) ?_
     exact HX.cut ((b18, b19), z1, z2) ⟨hz1, hz2⟩ esA (by repeat (first | exact Hs.nil _ | (refine Hs.cons pickA ?_)))
  rintro ⟨⟨b18, b19⟩, z1, z2⟩ ⟨hz1, hz2⟩
  dsimp only at hz1 hz2 ⊢
  refine hwNB ?_
  refine HL.one (H1.setlen (m := goneL l r.pack) rfl (fun w' hM => hM.setW memA) rfl ?_)
  have hz1l : z1.1.length = (goneL l r.pack).length := by
   rw [← ndsZ_len, hz1, ndsP_len]; exact lost_len hok _
  have hz2l : z2.1.length = (prN l D (goneL l r.pack) false).length := by rw [← ndsZ_len, hz2, ndsP_len]
  have hgl : (goneL l r.pack).length ≤ l.length := derL_len _ _ _
  have hlft : (prN l D (goneL l r.pack) false).length ≤ l.length := Nat.le_trans (List.length_filter_le _ _) (by rw [List.length_zip]; omega)
  by_cases hg0 : goneL l r.pack = []
  ·have hg1 : (((goneL l r.pack).length : Nat) : Int) = 0 := by rw [hg0]; rfl
   have hno : delQ B l D o d = none := by rw [hq, if_neg fun h => h.1 hg0]
   refine hwNB ?_
   refine HL.build (parts := []) (pv := []) (cs := tomb0) rfl rfl rfl ?_
   refine hwNB ?_
   refine HL.one (H1.stAgg (b := b12) (cs := tomb0) (vs := tomb0) rfl rfl rfl (by intro v hv; simp only [tomb0, List.mem_cons, List.not_mem_nil, or_false] at hv; rcases hv with rfl | rfl | rfl | rfl | rfl | rfl <;> rfl) rplA rfl ?_)
   refine hwNB ?_
   exact HX.retG (rs := [.tmp 10, .tmp 11, .cell 12 41, .tmp 13]) (vs := [.slice none 0 0, .slice none 0 0, .agg tomb0.toArray, zv 240]) rfl rfl (fun w' hM => ⟨rfl, rfl, ⟨_, rfl, loadVar_agg (b := b12) hM memA rfl⟩, rfl, trivial⟩) fun w' hM => .inl ⟨hno, rfl, hM.ext⟩
  have hg1 : ¬ (((goneL l r.pack).length : Nat) : Int) = 0 := fun h => hg0 (List.length_eq_zero_iff.1 (by omega))
  refine hwNB ?_
  refine HL.one (H1.callx (u := .bool ((ndsP (prN l D (goneL l r.pack) true)).any (heldN B d))) (vs := [.slice z1.2.1.1 z1.1.length z1.2.1.2, _]) rfl rfl (fun w' hM => by
   have h : Fn Tryz.prog 35 #[.slice z1.2.1.1 (ndsZ z1.1).length z1.2.1.2, .func (.func 33) #[] #[.pointer (some ⟨b5, 0, none⟩), .pointer (some ⟨b9, 0, none⟩)]] w' fun u w'' => u = .bool (anyN (ndsZ z1.1).length fun i => heldN B d (ndAt (ndsZ z1.1) i)) ∧ Ext w' w'' := contN_fn (l := ndsZ z1.1) (U := adrZ z1.1) (p := fun q => heldN B d q.1) (by rw [ndsZ_len]; omega) w' (by
     have := hM.rdN (a := z1.2.1.1) (c := z1.2.1.2) (z := z1.1) memA memA
     rwa [← ndsZ_len] at this) ⟨_, [], [.pointer (some ⟨b5, 0, none⟩), .pointer (some ⟨b9, 0, none⟩)], rfl, inferInstance, fun w2 hx q _ => del3_fn (s := s) q.1 q.2 b5 b9 d w2 (fun i v hv => cell_ext hx ((hM.blk (b := b5) (cs := row 8 s) memA).cell hv)) (cell_ext hx ((hM.blk (b := b9) (cs := [zv d]) memA).cell (i := 0) rfl)) (hB.ext (hM.ext.trans hx)) hB4 hB5⟩
   rw [any_ids (heldN B d), hz1] at h
   rw [ndsP_len, ← ndsP_len, ← hz1, ndsZ_len] at h
   rw [hz1] at h
   exact h) ?_)
  cases hheld : (ndsP (prN l D (goneL l r.pack) true)).any (heldN B d) with
  | true =>
   have hno : delQ B l D o d = none := by rw [hq, if_neg fun h => h.2 hheld]
   refine hwNB ?_
   refine HL.build (parts := []) (pv := []) (cs := tomb0) rfl rfl rfl ?_
   refine hwNB ?_
   refine HL.one (H1.stAgg (b := b12) (cs := tomb0) (vs := tomb0) rfl rfl rfl (by intro v hv; simp only [tomb0, List.mem_cons, List.not_mem_nil, or_false] at hv; rcases hv with rfl | rfl | rfl | rfl | rfl | rfl <;> rfl) rplA rfl ?_)
   refine hwNB ?_
   exact HX.retG (rs := [.tmp 10, .tmp 11, .cell 12 41, .tmp 13]) (vs := [.slice none 0 0, .slice none 0 0, .agg tomb0.toArray, zv 240]) rfl rfl (fun w' hM => ⟨rfl, rfl, ⟨_, rfl, loadVar_agg (b := b12) hM memA rfl⟩, rfl, trivial⟩) fun w' hM => .inl ⟨hno, rfl, hM.ext⟩
  | false =>
   have hpk : delQ B l D o d = some r.pack := by rw [hq, if_pos ⟨hg0, by rw [hheld]; decide⟩]
   have hv := okS_valid hok
   have hlok := left_ok hok (fun i => decide ((ndAt l i).pack = r.pack))
   rw [hgone] at hlok
   have hv2 := okS_valid hlok
   have hids := lost_idsP hok (fun i => decide ((ndAt l i).pack = r.pack))
   rw [hgone] at hids
   refine hbDE ?_
   rw [hz1l]
   refine HC.cut (α := Nat × Option Addr × Nat) (fun q => [(12, .pointer (some ⟨b12, 0, none⟩)), (19, .pointer (some ⟨b19, 0, none⟩)), (21, .pointer (some ⟨q.1, 0, none⟩))])
    (fun q => [A.blk b12 tomb0 41, A.blk b19 [.slice z2.2.1.1 z2.1.length z2.2.1.2, .slice z2.2.2.1 z2.1.length z2.2.2.2] 80, A.blk q.1 [zv o, zv d, .string (rootP (l.zip D)), .string (rootP (prN l D (goneL l r.pack) false)), .slice q.2.1 (goneL l r.pack).length q.2.2, .slice z1.2.2.1 (goneL l r.pack).length z1.2.2.2] 41, A.grow 3 1 q.2.1 q.2.2 (goneL l r.pack).length (ints (srtI (goneL l r.pack))), A.grow 9 1 z1.2.2.1 z1.2.2.2 (goneL l r.pack).length (strs (digP (prN l D (goneL l r.pack) true))), A.grow 39 4 z2.2.1.1 z2.2.1.2 z2.1.length (ndsV z2.1), A.grow 9 1 z2.2.2.1 z2.2.2.2 z2.1.length (strs (digP (prN l D (goneL l r.pack) false))), A.all (rowsA z2.1)]) (fun _ => True) ?_ ?_
   ·refine HC.anyC (cellsA b14 [.slice a l.length c, .slice a2 D.length c2] ++ (cellsA b19 [.slice z2.2.1.1 z2.1.length z2.2.1.2, .slice z2.2.2.1 z2.1.length z2.2.2.2] ++ (cellsA b18 [.slice z1.2.1.1 (goneL l r.pack).length z1.2.1.2, .slice z1.2.2.1 (goneL l r.pack).length z1.2.2.2] ++ [(⟨b8, 0, none⟩, zv o), (⟨b9, 0, none⟩, zv d)]))) rfl ?_
    refine HB.ld 0 rfl rfl (cellsR (cellsR (cellsR (.head _)))) ?_
    refine HB.ld 1 rfl rfl (cellsR (cellsR (cellsR (.tail _ (.head _))))) ?_
    refine HB.ldA (vs := [.slice a l.length c, .slice a2 D.length c2]) 2 rfl rfl rfl (fun i v hv => cellsL (cellsA_mem hv)) ?_
    refine HB.ldA (vs := [.slice z2.2.1.1 z2.1.length z2.2.1.2, .slice z2.2.2.1 z2.1.length z2.2.2.2]) 4 rfl rfl rfl (fun i v hv => cellsR (cellsL (cellsA_mem hv))) ?_
    refine HB.ldA (vs := [.slice z1.2.1.1 (goneL l r.pack).length z1.2.1.2, .slice z1.2.2.1 (goneL l r.pack).length z1.2.2.2]) 6 rfl rfl rfl (fun i v hv => cellsR (cellsR (cellsL (cellsA_mem hv)))) ?_
    refine HB.pa 8 rfl ?_
    refine HB.ld 9 rfl rfl (cellsR (cellsR (cellsL (cellsA_mem (i := 1) rfl)))) ?_
    refine HB.all (by (exact Keep.blkA (b := b14) (e := 80) memD (Keep.blkA (b := b19) (e := 80) memD (Keep.blkA (b := b18) (e := 80) memD (Keep.blk (b := b8) (cs := [zv o]) (e := 3) memD rfl (Keep.blk (b := b9) (cs := [zv d]) (e := 3) memD rfl Keep.nil)))))) [3, 11] (by kernel_rfl) rfl ⟨⟨_, rfl, ?_⟩, ⟨_, rfl, ?_⟩, trivial⟩
    ·refine HP.one ?_
     refine H1.callx (u := .string (rootP (l.zip D))) (vs := [_]) rfl rfl (fun w' hM => stRoot_fn hlD hv.len (fun i hi => nd_ok hv hi) hDs w' (hG.ext hM.ext) (hR.ext hM.ext) (hS.ext hM.ext)) ?_
     apply HB.fold
     refine HB.all (by (exact Keep.blkA (b := b14) (e := 80) memD (Keep.blkA (b := b19) (e := 80) memD (Keep.blkA (b := b18) (e := 80) memD (Keep.blk (b := b8) (cs := [zv o]) (e := 3) memD rfl (Keep.blk (b := b9) (cs := [zv d]) (e := 3) memD rfl Keep.nil)))))) [5, 11] (by kernel_rfl) rfl ⟨⟨_, rfl, ?_⟩, ⟨_, rfl, ?_⟩, trivial⟩
     ·refine HP.one ?_
      refine H1.callx (u := .string (rootP (prN l D (goneL l r.pack) false))) (vs := [_]) rfl rfl (fun w' hM => by
       have h := stRoot_fn (l := ndsZ z2.1) (D := digP (prN l D (goneL l r.pack) false)) (v := .slice z2.2.1.1 z2.1.length z2.2.1.2) (g := .slice z2.2.2.1 z2.1.length z2.2.2.2) (by rw [hz2, ndsP_len, digP_len]) (by rw [hz2]; exact hv2.len) (fun i hi => by rw [hz2] at hi ⊢; exact nd_ok hv2 hi) (fun d hd => hDs d (prN_dig hd)) w' (hG.ext hM.ext) (hM.rdN memA memA) (hM.gr memA)
       rw [hz2, zip_back] at h
       exact h) ?_
      apply HB.fold
      refine HB.all (by (exact Keep.blkA (b := b14) (e := 80) memD (Keep.blkA (b := b19) (e := 80) memD (Keep.blkA (b := b18) (e := 80) memD (Keep.blk (b := b8) (cs := [zv o]) (e := 3) memD rfl (Keep.blk (b := b9) (cs := [zv d]) (e := 3) memD rfl Keep.nil)))))) [7, 11] (by kernel_rfl) rfl ⟨⟨_, rfl, ?_⟩, ⟨_, rfl, ?_⟩, trivial⟩
      ·refine HP.one ?_
       refine H1.callz (α := Option Addr × Nat) (V := fun z => .slice z.1 (goneL l r.pack).length z.2) (Hn := fun z => [A.grow 3 1 z.1 z.2 (goneL l r.pack).length (ints (srtI (goneL l r.pack)))]) (I := fun _ => True) (vs := [_]) rfl rfl (fun w' hM => by
        have h := ids_fn (l := ndsZ z1.1) (v := .slice z1.2.1.1 z1.1.length z1.2.1.2) (g := .slice z1.2.2.1 (goneL l r.pack).length z1.2.2.2) (by rw [ndsZ_len]; omega) w' (hM.rdN (by rw [hz1l]; first | ((repeat (first | with_reducible exact mem_hd | with_reducible apply mem_tl)); done) | (repeat (first | exact List.Mem.head _ | apply List.Mem.tail))) memA) rfl
        rw [ndsZ_len, hz1l, hz1, hids] at h
        exact h) ?_
       rintro ⟨ai, ci⟩ -
       dsimp only
       apply HB.fold
       refine HB.pa 10 rfl ?_ (POp.build (cs := [zv o, zv d, .string (rootP (l.zip D)), .string (rootP (prN l D (goneL l r.pack) false)), .slice ai (goneL l r.pack).length ci, .slice z1.2.2.1 (goneL l r.pack).length z1.2.2.2]) rfl rfl)
       refine HB.all (by (exact Keep.blkA (b := b14) (e := 80) memD (Keep.blkA (b := b19) (e := 80) memD (Keep.blkA (b := b18) (e := 80) memD (Keep.blk (b := b8) (cs := [zv o]) (e := 3) memD rfl (Keep.blk (b := b9) (cs := [zv d]) (e := 3) memD rfl Keep.nil)))))) [11] (by kernel_rfl) rfl ⟨⟨_, rfl, ?_⟩, trivial⟩
       refine HP.one ?_
       refine H1.alloc (cs := tomb0) rfl rfl (fun b21 => ?_)
       apply HB.fold
       refine HB.all (by (exact Keep.blkA (b := b14) (e := 80) memD (Keep.blkA (b := b19) (e := 80) memD (Keep.blkA (b := b18) (e := 80) memD (Keep.blk (b := b8) (cs := [zv o]) (e := 3) memD rfl (Keep.blk (b := b9) (cs := [zv d]) (e := 3) memD rfl Keep.nil)))))) [12] (by kernel_rfl) rfl ⟨⟨_, rfl, ?_⟩, trivial⟩
       refine HP.one ?_
       refine H1.stAgg (b := b21) (cs := tomb0) (vs := [zv o, zv d, .string (rootP (l.zip D)), .string (rootP (prN l D (goneL l r.pack) false)), .slice ai (goneL l r.pack).length ci, .slice z1.2.2.1 (goneL l r.pack).length z1.2.2.2]) rfl rfl rfl (by intro v hv; simp only [List.mem_cons, List.not_mem_nil, or_false] at hv; rcases hv with rfl | rfl | rfl | rfl | rfl | rfl <;> rfl) rplA rfl ?_
       apply HB.fold
       refine HB.done (by (exact Keep.blkA (b := b14) (e := 80) memD (Keep.blkA (b := b19) (e := 80) memD (Keep.blkA (b := b18) (e := 80) memD (Keep.blk (b := b8) (cs := [zv o]) (e := 3) memD rfl (Keep.blk (b := b9) (cs := [zv d]) (e := 3) memD rfl Keep.nil)))))) (by kernel_rfl) ?_
       exact HX.cut (b21, ai, ci) trivial esA (by repeat (first | exact Hs.nil _ | (refine Hs.cons pickA ?_)))
      ·refine HP.one ?_
       refine H1.alloc (cs := tomb0) rfl rfl (fun b21 => ?_)
       apply HB.fold
       refine HB.all (by (exact Keep.blkA (b := b14) (e := 80) memD (Keep.blkA (b := b19) (e := 80) memD (Keep.blkA (b := b18) (e := 80) memD (Keep.blk (b := b8) (cs := [zv o]) (e := 3) memD rfl (Keep.blk (b := b9) (cs := [zv d]) (e := 3) memD rfl Keep.nil)))))) [7] (by kernel_rfl) rfl ⟨⟨_, rfl, ?_⟩, trivial⟩
       refine HP.one ?_
       refine H1.callz (α := Option Addr × Nat) (V := fun z => .slice z.1 (goneL l r.pack).length z.2) (Hn := fun z => [A.grow 3 1 z.1 z.2 (goneL l r.pack).length (ints (srtI (goneL l r.pack)))]) (I := fun _ => True) (vs := [_]) rfl rfl (fun w' hM => by
        have h := ids_fn (l := ndsZ z1.1) (v := .slice z1.2.1.1 z1.1.length z1.2.1.2) (g := .slice z1.2.2.1 (goneL l r.pack).length z1.2.2.2) (by rw [ndsZ_len]; omega) w' (hM.rdN (by rw [hz1l]; first | ((repeat (first | with_reducible exact mem_hd | with_reducible apply mem_tl)); done) | (repeat (first | exact List.Mem.head _ | apply List.Mem.tail))) memA) rfl
        rw [ndsZ_len, hz1l, hz1, hids] at h
        exact h) ?_
       rintro ⟨ai, ci⟩ -
       dsimp only
       apply HB.fold
       refine HB.pa 10 rfl ?_ (POp.build (cs := [zv o, zv d, .string (rootP (l.zip D)), .string (rootP (prN l D (goneL l r.pack) false)), .slice ai (goneL l r.pack).length ci, .slice z1.2.2.1 (goneL l r.pack).length z1.2.2.2]) rfl rfl)
       refine HB.all (by (exact Keep.blkA (b := b14) (e := 80) memD (Keep.blkA (b := b19) (e := 80) memD (Keep.blkA (b := b18) (e := 80) memD (Keep.blk (b := b8) (cs := [zv o]) (e := 3) memD rfl (Keep.blk (b := b9) (cs := [zv d]) (e := 3) memD rfl Keep.nil)))))) [12] (by kernel_rfl) rfl ⟨⟨_, rfl, ?_⟩, trivial⟩
       refine HP.one ?_
       refine H1.stAgg (b := b21) (cs := tomb0) (vs := [zv o, zv d, .string (rootP (l.zip D)), .string (rootP (prN l D (goneL l r.pack) false)), .slice ai (goneL l r.pack).length ci, .slice z1.2.2.1 (goneL l r.pack).length z1.2.2.2]) rfl rfl rfl (by intro v hv; simp only [List.mem_cons, List.not_mem_nil, or_false] at hv; rcases hv with rfl | rfl | rfl | rfl | rfl | rfl <;> rfl) rplA rfl ?_
       apply HB.fold
       refine HB.done (by (exact Keep.blkA (b := b14) (e := 80) memD (Keep.blkA (b := b19) (e := 80) memD (Keep.blkA (b := b18) (e := 80) memD (Keep.blk (b := b8) (cs := [zv o]) (e := 3) memD rfl (Keep.blk (b := b9) (cs := [zv d]) (e := 3) memD rfl Keep.nil)))))) (by kernel_rfl) ?_
       exact HX.cut (b21, ai, ci) trivial esA (by repeat (first | exact Hs.nil _ | (refine Hs.cons pickA ?_)))
     ·refine HP.one ?_
      refine H1.alloc (cs := tomb0) rfl rfl (fun b21 => ?_)
      apply HB.fold
      refine HB.all (by (exact Keep.blkA (b := b14) (e := 80) memD (Keep.blkA (b := b19) (e := 80) memD (Keep.blkA (b := b18) (e := 80) memD (Keep.blk (b := b8) (cs := [zv o]) (e := 3) memD rfl (Keep.blk (b := b9) (cs := [zv d]) (e := 3) memD rfl Keep.nil)))))) [5] (by kernel_rfl) rfl ⟨⟨_, rfl, ?_⟩, trivial⟩
      refine HP.one ?_
      refine H1.callx (u := .string (rootP (prN l D (goneL l r.pack) false))) (vs := [_]) rfl rfl (fun w' hM => by
       have h := stRoot_fn (l := ndsZ z2.1) (D := digP (prN l D (goneL l r.pack) false)) (v := .slice z2.2.1.1 z2.1.length z2.2.1.2) (g := .slice z2.2.2.1 z2.1.length z2.2.2.2) (by rw [hz2, ndsP_len, digP_len]) (by rw [hz2]; exact hv2.len) (fun i hi => by rw [hz2] at hi ⊢; exact nd_ok hv2 hi) (fun d hd => hDs d (prN_dig hd)) w' (hG.ext hM.ext) (hM.rdN memA memA) (hM.gr memA)
       rw [hz2, zip_back] at h
       exact h) ?_
      apply HB.fold
      refine HB.all (by (exact Keep.blkA (b := b14) (e := 80) memD (Keep.blkA (b := b19) (e := 80) memD (Keep.blkA (b := b18) (e := 80) memD (Keep.blk (b := b8) (cs := [zv o]) (e := 3) memD rfl (Keep.blk (b := b9) (cs := [zv d]) (e := 3) memD rfl Keep.nil)))))) [7] (by kernel_rfl) rfl ⟨⟨_, rfl, ?_⟩, trivial⟩
      refine HP.one ?_
      refine H1.callz (α := Option Addr × Nat) (V := fun z => .slice z.1 (goneL l r.pack).length z.2) (Hn := fun z => [A.grow 3 1 z.1 z.2 (goneL l r.pack).length (ints (srtI (goneL l r.pack)))]) (I := fun _ => True) (vs := [_]) rfl rfl (fun w' hM => by
       have h := ids_fn (l := ndsZ z1.1) (v := .slice z1.2.1.1 z1.1.length z1.2.1.2) (g := .slice z1.2.2.1 (goneL l r.pack).length z1.2.2.2) (by rw [ndsZ_len]; omega) w' (hM.rdN (by rw [hz1l]; first | ((repeat (first | with_reducible exact mem_hd | with_reducible apply mem_tl)); done) | (repeat (first | exact List.Mem.head _ | apply List.Mem.tail))) memA) rfl
       rw [ndsZ_len, hz1l, hz1, hids] at h
       exact h) ?_
      rintro ⟨ai, ci⟩ -
      dsimp only
      apply HB.fold
      refine HB.pa 10 rfl ?_ (POp.build (cs := [zv o, zv d, .string (rootP (l.zip D)), .string (rootP (prN l D (goneL l r.pack) false)), .slice ai (goneL l r.pack).length ci, .slice z1.2.2.1 (goneL l r.pack).length z1.2.2.2]) rfl rfl)
      refine HB.all (by (exact Keep.blkA (b := b14) (e := 80) memD (Keep.blkA (b := b19) (e := 80) memD (Keep.blkA (b := b18) (e := 80) memD (Keep.blk (b := b8) (cs := [zv o]) (e := 3) memD rfl (Keep.blk (b := b9) (cs := [zv d]) (e := 3) memD rfl Keep.nil)))))) [12] (by kernel_rfl) rfl ⟨⟨_, rfl, ?_⟩, trivial⟩
      refine HP.one ?_
      refine H1.stAgg (b := b21) (cs := tomb0) (vs := [zv o, zv d, .string (rootP (l.zip D)), .string (rootP (prN l D (goneL l r.pack) false)), .slice ai (goneL l r.pack).length ci, .slice z1.2.2.1 (goneL l r.pack).length z1.2.2.2]) rfl rfl rfl (by intro v hv; simp only [List.mem_cons, List.not_mem_nil, or_false] at hv; rcases hv with rfl | rfl | rfl | rfl | rfl | rfl <;> rfl) rplA rfl ?_
      apply HB.fold
      refine HB.done (by (exact Keep.blkA (b := b14) (e := 80) memD (Keep.blkA (b := b19) (e := 80) memD (Keep.blkA (b := b18) (e := 80) memD (Keep.blk (b := b8) (cs := [zv o]) (e := 3) memD rfl (Keep.blk (b := b9) (cs := [zv d]) (e := 3) memD rfl Keep.nil)))))) (by kernel_rfl) ?_
      exact HX.cut (b21, ai, ci) trivial esA (by repeat (first | exact Hs.nil _ | (refine Hs.cons pickA ?_)))
    ·refine HP.one ?_
     refine H1.alloc (cs := tomb0) rfl rfl (fun b21 => ?_)
     apply HB.fold
     refine HB.all (by (exact Keep.blkA (b := b14) (e := 80) memD (Keep.blkA (b := b19) (e := 80) memD (Keep.blkA (b := b18) (e := 80) memD (Keep.blk (b := b8) (cs := [zv o]) (e := 3) memD rfl (Keep.blk (b := b9) (cs := [zv d]) (e := 3) memD rfl Keep.nil)))))) [3] (by kernel_rfl) rfl ⟨⟨_, rfl, ?_⟩, trivial⟩
     refine HP.one ?_
     refine H1.callx (u := .string (rootP (l.zip D))) (vs := [_]) rfl rfl (fun w' hM => stRoot_fn hlD hv.len (fun i hi => nd_ok hv hi) hDs w' (hG.ext hM.ext) (hR.ext hM.ext) (hS.ext hM.ext)) ?_
     apply HB.fold
     refine HB.all (by (exact Keep.blkA (b := b14) (e := 80) memD (Keep.blkA (b := b19) (e := 80) memD (Keep.blkA (b := b18) (e := 80) memD (Keep.blk (b := b8) (cs := [zv o]) (e := 3) memD rfl (Keep.blk (b := b9) (cs := [zv d]) (e := 3) memD rfl Keep.nil)))))) [5] (by kernel_rfl) rfl ⟨⟨_, rfl, ?_⟩, trivial⟩
     refine HP.one ?_
     refine H1.callx (u := .string (rootP (prN l D (goneL l r.pack) false))) (vs := [_]) rfl rfl (fun w' hM => by
      have h := stRoot_fn (l := ndsZ z2.1) (D := digP (prN l D (goneL l r.pack) false)) (v := .slice z2.2.1.1 z2.1.length z2.2.1.2) (g := .slice z2.2.2.1 z2.1.length z2.2.2.2) (by rw [hz2, ndsP_len, digP_len]) (by rw [hz2]; exact hv2.len) (fun i hi => by rw [hz2] at hi ⊢; exact nd_ok hv2 hi) (fun d hd => hDs d (prN_dig hd)) w' (hG.ext hM.ext) (hM.rdN memA memA) (hM.gr memA)
      rw [hz2, zip_back] at h
      exact h) ?_
     apply HB.fold
     refine HB.all (by (exact Keep.blkA (b := b14) (e := 80) memD (Keep.blkA (b := b19) (e := 80) memD (Keep.blkA (b := b18) (e := 80) memD (Keep.blk (b := b8) (cs := [zv o]) (e := 3) memD rfl (Keep.blk (b := b9) (cs := [zv d]) (e := 3) memD rfl Keep.nil)))))) [7] (by kernel_rfl) rfl ⟨⟨_, rfl, ?_⟩, trivial⟩
     refine HP.one ?_
     refine H1.callz (α := Option Addr × Nat) (V := fun z => .slice z.1 (goneL l r.pack).length z.2) (Hn := fun z => [A.grow 3 1 z.1 z.2 (goneL l r.pack).length (ints (srtI (goneL l r.pack)))]) (I := fun _ => True) (vs := [_]) rfl rfl (fun w' hM => by
      have h := ids_fn (l := ndsZ z1.1) (v := .slice z1.2.1.1 z1.1.length z1.2.1.2) (g := .slice z1.2.2.1 (goneL l r.pack).length z1.2.2.2) (by rw [ndsZ_len]; omega) w' (hM.rdN (by rw [hz1l]; first | ((repeat (first | with_reducible exact mem_hd | with_reducible apply mem_tl)); done) | (repeat (first | exact List.Mem.head _ | apply List.Mem.tail))) memA) rfl
      rw [ndsZ_len, hz1l, hz1, hids] at h
      exact h) ?_
     rintro ⟨ai, ci⟩ -
     dsimp only
     apply HB.fold
     refine HB.pa 10 rfl ?_ (POp.build (cs := [zv o, zv d, .string (rootP (l.zip D)), .string (rootP (prN l D (goneL l r.pack) false)), .slice ai (goneL l r.pack).length ci, .slice z1.2.2.1 (goneL l r.pack).length z1.2.2.2]) rfl rfl)
     refine HB.all (by (exact Keep.blkA (b := b14) (e := 80) memD (Keep.blkA (b := b19) (e := 80) memD (Keep.blkA (b := b18) (e := 80) memD (Keep.blk (b := b8) (cs := [zv o]) (e := 3) memD rfl (Keep.blk (b := b9) (cs := [zv d]) (e := 3) memD rfl Keep.nil)))))) [12] (by kernel_rfl) rfl ⟨⟨_, rfl, ?_⟩, trivial⟩
     refine HP.one ?_
     refine H1.stAgg (b := b21) (cs := tomb0) (vs := [zv o, zv d, .string (rootP (l.zip D)), .string (rootP (prN l D (goneL l r.pack) false)), .slice ai (goneL l r.pack).length ci, .slice z1.2.2.1 (goneL l r.pack).length z1.2.2.2]) rfl rfl rfl (by intro v hv; simp only [List.mem_cons, List.not_mem_nil, or_false] at hv; rcases hv with rfl | rfl | rfl | rfl | rfl | rfl <;> rfl) rplA rfl ?_
     apply HB.fold
     refine HB.done (by (exact Keep.blkA (b := b14) (e := 80) memD (Keep.blkA (b := b19) (e := 80) memD (Keep.blkA (b := b18) (e := 80) memD (Keep.blk (b := b8) (cs := [zv o]) (e := 3) memD rfl (Keep.blk (b := b9) (cs := [zv d]) (e := 3) memD rfl Keep.nil)))))) (by kernel_rfl) ?_
     exact HX.cut (b21, ai, ci) trivial esA (by repeat (first | exact Hs.nil _ | (refine Hs.cons pickA ?_)))
   rintro ⟨b21, ai, ci⟩ -
   dsimp only
   repeat refine HC.seq ?_
   refine HC.anyC (cellsA b19 [.slice z2.2.1.1 z2.1.length z2.2.1.2, .slice z2.2.2.1 z2.1.length z2.2.2.2] ++ (cellsA b21 [zv o, zv d, .string (rootP (l.zip D)), .string (rootP (prN l D (goneL l r.pack) false)), .slice ai (goneL l r.pack).length ci, .slice z1.2.2.1 (goneL l r.pack).length z1.2.2.2] ++ [])) rfl ?_
   refine HB.pa 0 rfl ?_
   refine HB.ld 1 rfl rfl (cellsL (cellsA_mem (i := 0) rfl)) ?_
   refine HB.pa 2 rfl ?_
   refine HB.ld 3 rfl rfl (cellsL (cellsA_mem (i := 1) rfl)) ?_
   refine HB.ldA (vs := [zv o, zv d, .string (rootP (l.zip D)), .string (rootP (prN l D (goneL l r.pack) false)), .slice ai (goneL l r.pack).length ci, .slice z1.2.2.1 (goneL l r.pack).length z1.2.2.2]) 4 rfl rfl rfl (fun i v hv => cellsR (cellsL (cellsA_mem hv))) ?_
   refine HB.pa 5 rfl ?_
   refine HB.pa 6 rfl ?_
   refine HB.all (by (exact Keep.blkA (b := b19) (e := 80) memD (Keep.blkA (b := b21) (e := 41) memD Keep.nil))) [7] (by kernel_rfl) rfl ⟨⟨_, rfl, ?_⟩, trivial⟩
   refine HP.one ?_
   refine H1.stAgg (b := b12) (cs := tomb0) (vs := [zv o, zv d, .string (rootP (l.zip D)), .string (rootP (prN l D (goneL l r.pack) false)), .slice ai (goneL l r.pack).length ci, .slice z1.2.2.1 (goneL l r.pack).length z1.2.2.2]) rfl rfl rfl (by intro v hv; simp only [List.mem_cons, List.not_mem_nil, or_false] at hv; rcases hv with rfl | rfl | rfl | rfl | rfl | rfl <;> rfl) rplA rfl ?_
   apply HB.fold
   refine HB.pa 8 rfl ?_
   refine HB.done (by (exact Keep.blkA (b := b19) (e := 80) memD (Keep.blkA (b := b21) (e := 41) memD Keep.nil))) (by kernel_rfl) ?_
   refine hwNB ?_
   exact HX.retG (rs := [.tmp 10, .tmp 11, .cell 12 41, .tmp 13]) (vs := [.slice z2.2.1.1 z2.1.length z2.2.1.2, .slice z2.2.2.1 z2.1.length z2.2.2.2, .agg ([zv o, zv d, .string (rootP (l.zip D)), .string (rootP (prN l D (goneL l r.pack) false)), .slice ai (goneL l r.pack).length ci, .slice z1.2.2.1 (goneL l r.pack).length z1.2.2.2] : List Value).toArray, zv 0]) rfl rfl (fun w' hM => ⟨rfl, rfl, ⟨_, rfl, loadVar_agg (b := b12) hM memA rfl⟩, rfl, trivial⟩) fun w' hM => .inr ⟨r.pack, hpk, (⟨z2.1, z2.2.1.1, z2.2.1.2, z2.2.2.1, z2.2.2.2, ai, ci, z1.2.2.1, z1.2.2.2⟩ : DelZ), hz2, rfl, hM.sub (by repeat (first | exact Hs.nil _ | (refine Hs.cons pickA ?_)))⟩
end Go.Sx
/- Plain, chapter 24: tombstones that are not true. -/
namespace Go.Sx
open Go Go.RowKit
structure ChkF (bef aft : ByteArray) (ns : List Int) (ds : List ByteArray) (l : List Nd) (D : List ByteArray) (l2 : List Nd) (D2 : List ByteArray) : Prop where
 ok1 : okS l D = true
 ok2 : okS l2 D2 = true
 ne : ns.length ≠ 0
 bef : bef = rootP (l.zip D)
 aft : aft = rootP (l2.zip D2)
 der : derA l ns = ns
 dig : digP (prN l D ns true) = ds
 nds : ndsP (prN l D ns false) = l2
 kept : digP (prN l D ns false) = D2
end Go.Sx
/- Chapter 24: Check: the walk. -/
namespace Go.Sx
open Go Go.Proofs Go.RowKit
attribute [local irreducible] WC WL WX POp Then Again Fn NX W1 WA WO QL RP RA Yld LoopAt HC HL HX HN H1 HA HO HQ HB HP A.blk A.grow A.rd A.obj A.mp AgainH CutH
attribute [local irreducible] A.mq A.mit A.all
end Go.Sx
/- Plain, top 24: what holds, releases and orders say of a package; when it is deleted. -/
namespace Go.Sx
open Go Go.Proofs Go.RowKit
def topO (pk fr : Int) : Rc := ⟨8, 3, 1, 0, false, fr, 0, pk, 0, 0, 0, 1, false, 0, ⟨#[]⟩⟩
def topH (pk un : Int) : Rc := ⟨5, 4, 1, 0, false, 0, un, pk, 0, 0, 0, 0, false, 0, ⟨#[]⟩⟩
def topRl (rl : Int) : Rc := ⟨6, 0, 1, 0, false, rl, 0, 0, 0, 0, 0, 0, false, 4, ⟨#[]⟩⟩
theorem key_kind {r s : Rc} (h : keyR r = keyR s) (hr : ValidR r) (hs : ValidR s) : r.kind = s.kind := by
 unfold keyR at h
 have := (putN_inj h).1
 have h1 := hr.kind
 have h2 := hs.kind
 omega
theorem isOf_single {L : List Rc} {r : Rc} {day k : Int} (hk : r.kind = k) (hv : ValidR r) (hd : r.day ≤ day) (hg : r.gone = false) (hm : r ∈ L) (ho : ∀ s ∈ L, s.kind = k → s = r) : IsOf L day k [r] := by
 refine ⟨List.pairwise_singleton _ _, fun x => ?_⟩
 rw [List.mem_singleton]
 constructor
 ·rintro rfl
  refine ⟨⟨⟨hm, ⟨hv, hd⟩, fun s hs _ hp => ?_⟩, hg⟩, hk⟩
  have h1 := ho s hs ((key_kind hp.1.2.2 hp.1.1 hp.1.2.1).trans hk)
  subst h1
  exact prev_irr _ hp
 ·rintro ⟨⟨h1, -⟩, h2⟩
  exact ho x h1.mem h2
theorem of_single {L B : List Rc} {r : Rc} {day k : Int} (hB : IsOf L day k B) (hk : r.kind = k) (hv : ValidR r) (hd : r.day ≤ day) (hg : r.gone = false) (hm : r ∈ L) (ho : ∀ s ∈ L, s.kind = k → s = r) : B = [r] :=
 hB.uniq (isOf_single hk hv hd hg hm ho) fun _ _ _ => Iff.rfl
theorem topO_valid {pk fr : Int} (h1 : 1 ≤ pk) (h2 : pk ≤ 10) (h3 : 0 ≤ fr) (h4 : fr ≤ 100) : ValidR (topO pk fr) := by
 refine ⟨⟨show (1 : Int) ≤ 8 by decide, show (8 : Int) ≤ 8 by decide⟩, ⟨show (1 : Int) ≤ 1 by decide, show (1 : Int) ≤ 1000000 by decide⟩, ⟨show (0 : Int) ≤ 0 by decide, show (0 : Int) ≤ 100000 by decide⟩, show 0 ≤ 200 by decide, ⟨fun _ h => absurd rfl h, fun h => by cases h⟩, fun p hp => ?_, fun i hi hn => ?_⟩
 ·have hs : specF (topO pk fr).kind = [(0, 1, 1000000), (1, 0, 100000), (3, 1, 1000000), (7, 1, 1000000)] := rfl
  rw [hs] at hp
  simp only [List.mem_cons, List.not_mem_nil, or_false] at hp
  rcases hp with rfl | rfl | rfl | rfl
  ·show (1 : Int) ≤ 3 ∧ (3 : Int) ≤ 1000000; decide
  ·show (0 : Int) ≤ fr ∧ fr ≤ 100000; omega
  ·show (1 : Int) ≤ pk ∧ pk ≤ 1000000; omega
  ·show (1 : Int) ≤ 1 ∧ (1 : Int) ≤ 1000000; decide
 ·have hs : (specF (topO pk fr).kind).map Prod.fst = [0, 1, 3, 7] := rfl
  rw [hs] at hn
  match i, hi with
  | 0, _ => exact absurd (by decide) hn
  | 1, _ => exact absurd (by decide) hn
  | 2, _ => rfl
  | 3, _ => exact absurd (by decide) hn
  | 4, _ => rfl
  | 5, _ => rfl
  | 6, _ => rfl
  | 7, _ => exact absurd (by decide) hn
  | 8, _ => rfl
  | 9, _ => rfl
  | n + 10, h => exact absurd h (by omega)
theorem topH_valid {pk un : Int} (h1 : 1 ≤ pk) (h2 : pk ≤ 10) (h3 : 0 ≤ un) (h4 : un ≤ 100) : ValidR (topH pk un) := by
 refine ⟨⟨show (1 : Int) ≤ 5 by decide, show (5 : Int) ≤ 8 by decide⟩, ⟨show (1 : Int) ≤ 1 by decide, show (1 : Int) ≤ 1000000 by decide⟩, ⟨show (0 : Int) ≤ 0 by decide, show (0 : Int) ≤ 100000 by decide⟩, show 0 ≤ 200 by decide, ⟨fun _ _ => h3, fun h => by cases h⟩, fun p hp => ?_, fun i hi hn => ?_⟩
 ·have hs : specF (topH pk un).kind = [(0, 1, 1000000), (1, 0, 100000), (2, 0, 100000), (3, 0, 1000000)] := rfl
  rw [hs] at hp
  simp only [List.mem_cons, List.not_mem_nil, or_false] at hp
  rcases hp with rfl | rfl | rfl | rfl
  ·show (1 : Int) ≤ 4 ∧ (4 : Int) ≤ 1000000; decide
  ·show (0 : Int) ≤ 0 ∧ (0 : Int) ≤ 100000; decide
  ·show (0 : Int) ≤ un ∧ un ≤ 100000; omega
  ·show (0 : Int) ≤ pk ∧ pk ≤ 1000000; omega
 ·have hs : (specF (topH pk un).kind).map Prod.fst = [0, 1, 2, 3] := rfl
  rw [hs] at hn
  match i, hi with
  | 0, _ => exact absurd (by decide) hn
  | 1, _ => exact absurd (by decide) hn
  | 2, _ => exact absurd (by decide) hn
  | 3, _ => exact absurd (by decide) hn
  | 4, _ => rfl
  | 5, _ => rfl
  | 6, _ => rfl
  | 7, _ => rfl
  | 8, _ => rfl
  | 9, _ => rfl
  | n + 10, h => exact absurd h (by omega)
theorem topRl_valid {rl : Int} (h3 : 0 ≤ rl) (h4 : rl ≤ 100) : ValidR (topRl rl) := by
 refine ⟨⟨show (1 : Int) ≤ 6 by decide, show (6 : Int) ≤ 8 by decide⟩, ⟨show (1 : Int) ≤ 1 by decide, show (1 : Int) ≤ 1000000 by decide⟩, ⟨show (0 : Int) ≤ 0 by decide, show (0 : Int) ≤ 100000 by decide⟩, show 0 ≤ 200 by decide, ⟨fun h => absurd rfl h, fun h => by cases h⟩, fun p hp => ?_, fun i hi hn => ?_⟩
 ·have hs : specF (topRl rl).kind = [(9, 1, 1000000), (1, 0, 100000)] := rfl
  rw [hs] at hp
  simp only [List.mem_cons, List.not_mem_nil, or_false] at hp
  rcases hp with rfl | rfl
  ·show (1 : Int) ≤ 4 ∧ (4 : Int) ≤ 1000000; decide
  ·show (0 : Int) ≤ rl ∧ rl ≤ 100000; omega
 ·have hs : (specF (topRl rl).kind).map Prod.fst = [9, 1] := rfl
  rw [hs] at hn
  match i, hi with
  | 0, _ => rfl
  | 1, _ => exact absurd (by decide) hn
  | 2, _ => rfl
  | 3, _ => rfl
  | 4, _ => rfl
  | 5, _ => rfl
  | 6, _ => rfl
  | 7, _ => rfl
  | 8, _ => rfl
  | 9, _ => exact absurd (by decide) hn
  | n + 10, h => exact absurd h (by omega)
/- deletions -/
theorem gone_there {l : List Nd} (hv : ValidP l) (pk : Int) : goneL l pk ≠ [] ↔ ∃ i, i < l.length ∧ (ndAt l i).pack = pk := by
 constructor
 ·intro h
  refine Classical.byContradiction fun hn => h ?_
  have key : ∀ i, i ≤ l.length → derL l (fun i => decide ((ndAt l i).pack = pk)) i = [] := by
   intro i
   induction i with
   | zero => intro _; rfl
   | succ i ih =>
    intro hi
    have h0 := ih (by omega)
    show (if _ then _ else _) = _
    rw [h0, if_neg]
    rw [Bool.or_eq_true, decide_eq_true_eq, List.any_eq_true]
    rintro (h1 | ⟨x, -, h1⟩)
    ·exact hn ⟨i, hi, h1⟩
    ·simp at h1
  exact key _ (Nat.le_refl _)
 ·rintro ⟨i, hi, e⟩ h
  have h1 := (mem_derL hv (fun i => decide ((ndAt l i).pack = pk)) hi).2 (.inl (decide_eq_true e))
  rw [show derL l (fun i => decide ((ndAt l i).pack = pk)) l.length = goneL l pk from rfl, h] at h1
  cases h1
theorem heldB_top {pk un rl p d : Int} (h1 : 1 ≤ pk) : heldB [topRl rl] p d (topH pk un) = (decide (pk = p) && (decide (0 ≤ d) && decide (d ≤ un) && !decide (rl ≤ d))) := by
 have e : heldB [topRl rl] p d (topH pk un) = ((decide (pk = 0) || decide (pk = p)) && ((decide (0 ≤ d) && decide (d ≤ un)) && !(([topRl rl] : List Rc).any (overB 4 d)))) := rfl
 have e2 : ([topRl rl] : List Rc).any (overB 4 d) = decide (rl ≤ d) := by
  show (decide ((4 : Int) = 4) && decide (rl ≤ d) || false) = _
  rw [decide_eq_true rfl, Bool.true_and, Bool.or_false]
 rw [e, e2, decide_eq_false (show ¬ pk = 0 by omega), Bool.false_or]
theorem heldL_one {H R : List Rc} {r : Rc} (hH : H = [r]) (p d : Int) : decide (0 < (heldL H R p d).length) = heldB R p d r := by
 subst hH
 cases hb : heldB R p d r with
 | true =>
  have hm : r.id ∈ heldL [r] R p d := by
   unfold heldL
   rw [mem_numL, List.mem_map]
   exact ⟨r, List.mem_filter.2 ⟨.head _, hb⟩, rfl⟩
  exact decide_eq_true (List.length_pos_of_mem hm)
 | false =>
  refine decide_eq_false fun h => ?_
  obtain ⟨x, hx⟩ := List.exists_mem_of_length_pos h
  unfold heldL at hx
  rw [mem_numL, List.mem_map] at hx
  obtain ⟨y, hy, -⟩ := hx
  obtain ⟨h1, h2⟩ := List.mem_filter.1 hy
  rw [List.mem_singleton.1 h1, hb] at h2
  cases h2
def wantB (l : List Nd) (pk fr un rl d : Int) : Bool := (l.any fun n => decide (n.pack = pk)) && (decide (fr ≤ d) && (decide (un < d) || decide (rl ≤ d)))
theorem any_pack {l : List Nd} {pk : Int} : (l.any fun n => decide (n.pack = pk)) = true ↔ ∃ i, i < l.length ∧ (ndAt l i).pack = pk := by
 rw [List.any_eq_true]
 constructor
 ·rintro ⟨n, hn, h⟩
  obtain ⟨i, hi, rfl⟩ := mem_nd.1 hn
  exact ⟨i, hi, of_decide_eq_true h⟩
 ·rintro ⟨i, hi, e⟩
  exact ⟨_, mem_nd.2 ⟨i, hi, rfl⟩, decide_eq_true e⟩
theorem delQ_top {B : Nat → List Rc} {l : List Nd} {D : List ByteArray} {pk fr un rl d : Int} (hok : okS l D = true) (hpk : 1 ≤ pk) (h7 : B 7 = [topO pk fr]) (h4 : B 4 = [topH pk un]) (h5 : B 5 = [topRl rl]) (hd0 : 0 ≤ d) (hd1 : d ≤ 100000) :
  delQ B l D 3 d = if wantB l pk fr un rl d = true then some pk else none := by
 have hv := okS_valid hok
 have hf : ordF (B 7) 3 = some (topO pk fr) := by rw [h7]; rfl
 have hheld : ∀ n : Nd, heldN B d n = (decide (pk = n.pack) && (decide (0 ≤ d) && decide (d ≤ un) && !decide (rl ≤ d))) := fun n => by
  unfold heldN
  rw [heldL_one h4, h5, heldB_top hpk]
 by_cases hfr : fr ≤ d
 rotate_left
 ·rw [delQ_no, if_neg]
  ·unfold wantB; rw [decide_eq_false hfr, Bool.false_and, Bool.and_false]; decide
  ·rintro ⟨-, r, hr, hs, -⟩
   rw [hf] at hr
   cases hr
   exact hfr hs
 rw [delQ_in hok hf hfr hd0 hd1]
 have hg : goneL l (topO pk fr).pack ≠ [] ↔ (l.any fun n => decide (n.pack = pk)) = true := (gone_there hv pk).trans any_pack.symm
 by_cases ht : (l.any fun n => decide (n.pack = pk)) = true
 rotate_left
 ·rw [if_neg fun h => ht (hg.1 h.1), if_neg]
  unfold wantB
  rw [show (l.any fun n => decide (n.pack = pk)) = false by simpa using ht, Bool.false_and]
  decide
 have hany : (ndsP (prN l D (goneL l pk) true)).any (heldN B d) = true ↔ (d ≤ un ∧ ¬ rl ≤ d) := by
  rw [List.any_eq_true]
  constructor
  ·rintro ⟨n, -, h⟩
   rw [hheld] at h
   simp only [Bool.and_eq_true, decide_eq_true_eq, Bool.not_eq_true', decide_eq_false_iff_not] at h
   exact ⟨h.2.1.2, h.2.2⟩
  ·rintro ⟨h1, h2⟩
   obtain ⟨i, hi, e⟩ := any_pack.1 ht
   refine ⟨ndAt l i, ?_, ?_⟩
   ·rw [prN_nds (okS_facts hok).2.1, List.mem_filter]
    refine ⟨mem_nd.2 ⟨i, hi, rfl⟩, ?_⟩
    rw [beq_iff_eq, decide_eq_true_eq]
    exact (mem_derL hv _ hi).2 (.inl (decide_eq_true e))
   ·rw [hheld, e, decide_eq_true rfl, decide_eq_true hd0, decide_eq_true h1, decide_eq_false h2]; rfl
 unfold wantB
 rw [ht, decide_eq_true hfr, Bool.true_and, Bool.true_and]
 by_cases hx : (d ≤ un ∧ ¬ rl ≤ d)
 ·rw [if_neg fun h => h.2 (hany.2 hx), if_neg]
  rw [decide_eq_false (show ¬ un < d by omega), decide_eq_false hx.2]; decide
 ·rw [if_pos ⟨hg.2 ht, fun h => hx (hany.1 h)⟩, if_pos]
  ·rfl
  ·rw [Bool.or_eq_true, decide_eq_true_eq, decide_eq_true_eq]
   omega
end Go.Sx
/- Plain, chapter 24: the chapter's examples. -/
namespace Go.Sx
open Go Go.RowKit
def exN : List Nd := [⟨1, 1, 7, []⟩, ⟨2, 1, 8, []⟩, ⟨3, 2, 7, [1]⟩, ⟨4, 5, 8, [2, 3]⟩, ⟨5, 4, 8, [2]⟩]
def exdg (i : Nat) : ByteArray := sumS ⟨#[UInt8.ofNat i]⟩
def exD : List ByteArray := [exdg 0, exdg 1, exdg 2, exdg 3, exdg 4]
def exOrd : Rc := ⟨8, 3, 1, 0, false, 10, 0, 7, 0, 0, 0, 1, false, 0, ⟨#[]⟩⟩
def exHold : Rc := ⟨5, 1, 1, 0, false, 0, 100, 8, 0, 0, 0, 0, false, 0, ⟨#[]⟩⟩
def exB (i : Nat) : List Rc := if i = 7 then [exOrd] else []
def exB2 (i : Nat) : List Rc := if i = 7 then [exOrd] else if i = 4 then [exHold] else []
end Go.Sx
/- Chapter 2, the reference: a block: the walk. -/
namespace Go.Sx
open Go Go.Proofs Go.RowKit
theorem blkGr {w0 w : World} {b n sz : Nat} {cs : List Value} {e : TypeId} {H : List Atom} (h : Mm w0 (A.blk b cs e :: H) w) (hl : cs.length = n * sz) (hn : n ≤ 1000000) : Mm w0 (A.grow e sz (some ⟨b, 0, none⟩) n n cs :: H) w := by
 refine ⟨h.ext, fun x hx => ?_, h.nd, h.rng⟩
 rcases List.mem_cons.1 hx with rfl | hx
 ·refine ⟨hl, .inr ⟨b, n, cs.toArray, rfl, Nat.zero_le _, h.blk (List.Mem.head _), Nat.le_refl _, by simp only [maxLen]; omega, by simpa using hl, ?_⟩⟩
  rw [← hl, List.take_of_length_le (by simp)]
 ·exact h.all x (List.mem_cons_of_mem _ hx)
def wsr (l : List UInt8) (i : Nat) : List Value := ws ((List.range i).map (wW l))
theorem wsr_snoc (l : List UInt8) (i : Nat) : wsr l i ++ [w32 (wW l i)] = wsr l (i + 1) := by unfold wsr ws; rw [List.range_succ]; simp
theorem wsr_get {l : List UInt8} {i j : Nat} (h : j < i) : (wsr l i)[j]? = some (w32 (wW l j)) := by unfold wsr ws; simp [h]
theorem ws_snoc (l : List UInt32) (x : UInt32) : ws l ++ [w32 x] = ws (l ++ [x]) := by simp [ws]
def sumsL (s v : S8) (i : Nat) : List UInt32 := (List.range i).map fun j => s.l.getD j 0 + v.l.getD j 0
theorem sumsL_snoc (s v : S8) (i : Nat) : sumsL s v i ++ [s.l.getD i 0 + v.l.getD i 0] = sumsL s v (i + 1) := by unfold sumsL; rw [List.range_succ]; simp
theorem rot_or (x : UInt32) (n : Nat) : x >>> UInt32.ofNat n ||| x <<< UInt32.ofNat (32 - n) = rot x n := by unfold rot; rw [UInt32.or_comm]
theorem mix2 (x : UInt32) (a b : Nat) : mixW x [a, b] = rot x a ^^^ rot x b := by
 show (0 ^^^ rot x a) ^^^ rot x b = _
 rw [UInt32.zero_xor]
theorem mix3 (x : UInt32) (a b c : Nat) : mixW x [a, b, c] = rot x a ^^^ rot x b ^^^ rot x c := by
 show ((0 ^^^ rot x a) ^^^ rot x b) ^^^ rot x c = _
 rw [UInt32.zero_xor]
attribute [local irreducible] WC WL WX POp Then Again Fn NX W1 WA WO QL RP RA Yld LoopAt HC HL HX HN H1 HA HO HQ HB HP A.blk A.grow A.rd A.obj A.mp AgainH CutH
theorem rotated_fn (x : UInt32) (n : Nat) (h0 : 0 < n) (h : n < 32) (w : World) : Fn Tryz.prog 118 #[w32 x, zv (n : Int)] w fun v w' => v = w32 (rot x n) ∧ Ext w w' := by
 have e : (32 : Int) - (n : Int) = ((32 - n : Nat) : Int) := by omega
 refine enterH (l := [_, _]) rfl Tryz.ntmps118 rfl ?_
 refine hwNE ?_
 refine HC.quietS [(some 5, [0], []), (some 6, [1], []), (some 7, [5, 6], [0, 1]), (some 8, [0], []), (some 9, [1], []), (some 10, [9], [4]), (some 11, [8, 10], [3, 5]), (some 12, [7, 11], [2, 6]), (some 4, [12], [7, 0, 1, 2, 3, 4, 5, 6, 7])] (by kernel_rfl) (by kernel_rfl) (by kernel_rfl) ?_
 refine HQ.pa ?_ (POp.move rfl)
 refine HQ.pa ?_ (POp.move rfl)
 refine HQ.pa ?_ (POp.shr32 (s := n) rfl rfl rfl h)
 refine HQ.pa ?_ (POp.move rfl)
 refine HQ.pa ?_ (POp.move rfl)
 refine HQ.pa ?_ (POp.sub rfl rfl (by omega) (by omega))
 rw [e]
 refine HQ.pa ?_ (POp.shl32 (s := 32 - n) rfl rfl rfl (by omega))
 refine qwA ?_
 rw [rot_or]
 refine HQ.nil ?_
 refine hwNE ?_
 exact HX.ret1 rfl rfl fun w' hM => ⟨rfl, hM.ext⟩
attribute [local irreducible] kL
set_option maxRecDepth 100000 in
theorem constants_fn (w : World) : Fn Tryz.prog 119 #[] w fun v w' => ∃ b : Nat, True ∧ v = .slice (some ⟨b, 0, none⟩) 64 64 ∧ Mm w [A.blk b (ws kL) 126] w' := by
 refine enterH (l := []) rfl Tryz.ntmps119 rfl ?_
 refine hwNE ?_
 refine HL.one (H1.lit (cs := ws kL) rfl rfl (by kernel_rfl) rfl rfl rfl (fun b => ?_))
 refine hwNE ?_
 exact HX.ret1 rfl rfl fun w' hM => ⟨b, trivial, rfl, hM⟩
end Go.Sx
/- Chapter 2, the reference: what a block does to a state: the walk. -/
namespace Go.Sx
open Go Go.Proofs Go.RowKit
attribute [local irreducible] WC WL WX POp Then Again Fn NX W1 WA WO QL RP RA Yld LoopAt HC HL HX HN H1 HA HO HQ HB HP A.blk A.grow A.rd A.obj A.mp AgainH CutH
attribute [local irreducible] kL mixW wsr
set_option maxRecDepth 100000 in
set_option maxHeartbeats 4000000 in
theorem block_fn {bh oh ch bb off c : Nat} (s : S8) (l : List UInt8) (hl : l.length = 64) (w : World) (hr : Rd w (.slice (some ⟨bb, off, none⟩) 64 c) (ub l)) (hh : Rd w (.slice (some ⟨bh, oh, none⟩) 8 ch) (ws s.l)) :
  Fn Tryz.prog 52 #[.slice (some ⟨bh, oh, none⟩) 8 ch, .slice (some ⟨bb, off, none⟩) 64 c] w fun v w' => ∃ z : Nat × Nat, True ∧ v = .slice (some ⟨z.1, 0, none⟩) 8 z.2 ∧ Mm w [A.grow 126 1 (some ⟨z.1, 0, none⟩) z.2 8 (ws (comp s l).l)] w' := by
 refine enterH (l := [_, _]) rfl Tryz.ntmps52 rfl ?_
 refine hbDD ?_
 repeat refine HC.seq ?_
 refine HC.cut (α := Option Addr × Nat) (fun z => [(0, .slice (some ⟨bh, oh, none⟩) 8 ch), (5, .slice z.1 16 z.2)]) (fun z => [A.grow 126 1 z.1 z.2 16 (wsr l 16)]) (fun _ => True) ?_ ?_
 ·refine HC.block ?_
  refine HC.grow0 126 1 ?_
  refine HC.loop (α := Nat × Option Addr × Nat) (fun z => [(0, .slice (some ⟨bh, oh, none⟩) 8 ch), (1, .slice (some ⟨bb, off, none⟩) 64 c), (5, .slice z.2.1 z.1 z.2.2), (6, zv (z.1 : Int))]) (fun z => [A.grow 126 1 z.2.1 z.2.2 z.1 (wsr l z.1)]) (fun z => z.1 ≤ 16) (fun z => 16 - z.1) (0, none, 0) (Nat.zero_le _) esA (by show Hs _ [A.grow 126 1 none 0 0 (wsr l 0)]; unfold wsr; exact Hs.refl _) ?_
  rintro ⟨i, a1, c1⟩ hi
  dsimp only at hi ⊢
  by_cases hlt : i < 16
  ·have h0 := ub_at hr (i := 4 * i) (by omega)
   have h1 := ub_at hr (i := 4 * i + 1) (by omega)
   have h2 := ub_at hr (i := 4 * i + 2) (by omega)
   have h3 := ub_at hr (i := 4 * i + 3) (by omega)
   have hset := wsr_snoc l i
   rw [wW_lo hlt] at hset
   unfold wordAt bt at hset
   refine hwNE ?_
   refine HC.anyC ([(⟨bb, off + 4 * i, none⟩, b8 (l.getD (4 * i) 0)), (⟨bb, off + (4 * i + 1), none⟩, b8 (l.getD (4 * i + 1) 0)), (⟨bb, off + (4 * i + 2), none⟩, b8 (l.getD (4 * i + 2) 0)), (⟨bb, off + (4 * i + 3), none⟩, b8 (l.getD (4 * i + 3) 0))]) rfl ?_
   refine HB.pa 0 rfl ?_
   refine HB.pa 1 rfl ?_
   refine HB.pa 2 rfl ?_
   refine HB.pa 3 rfl ?_
   refine HB.pa 4 rfl ?_ (POp.index_slice (o := off + 4 * i) rfl rfl (by omega) (by omega) (by omega))
   refine HB.ld 5 rfl rfl memD ?_
   refine HB.pa 6 rfl ?_
   refine HB.pa 7 rfl ?_
   refine HB.pa 8 rfl ?_
   refine HB.pa 9 rfl ?_
   refine HB.pa 10 rfl ?_
   refine HB.pa 11 rfl ?_
   refine HB.pa 12 rfl ?_ (POp.index_slice (o := off + (4 * i + 1)) rfl rfl (by omega) (by omega) (by omega))
   refine HB.ld 13 rfl rfl memD ?_
   refine HB.pa 14 rfl ?_
   refine HB.pa 15 rfl ?_
   refine HB.pa 16 rfl ?_
   refine HB.pa 17 rfl ?_
   refine HB.pa 18 rfl ?_
   refine HB.pa 19 rfl ?_
   refine HB.pa 20 rfl ?_
   refine HB.pa 21 rfl ?_ (POp.index_slice (o := off + (4 * i + 2)) rfl rfl (by omega) (by omega) (by omega))
   refine HB.ld 22 rfl rfl memD ?_
   refine HB.pa 23 rfl ?_
   refine HB.pa 24 rfl ?_
   refine HB.pa 25 rfl ?_
   refine HB.pa 26 rfl ?_
   refine HB.pa 27 rfl ?_
   refine HB.pa 28 rfl ?_
   refine HB.pa 29 rfl ?_
   refine HB.pa 30 rfl ?_ (POp.index_slice (o := off + (4 * i + 3)) rfl rfl (by omega) (by omega) (by omega))
   refine HB.ld 31 rfl rfl memD ?_
   refine HB.pa 32 rfl ?_
   refine HB.pa 33 rfl ?_
   refine HB.all (by (exact Keep.base h0 (Keep.base h1 (Keep.base h2 (Keep.base h3 Keep.nil))))) [34] (by kernel_rfl) rfl ⟨⟨_, rfl, ?_⟩, trivial⟩
   refine HP.one ?_
   refine H1.lit (cs := [w32 (bt l (4 * i) <<< UInt32.ofNat 24 ||| bt l (4 * i + 1) <<< UInt32.ofNat 16 ||| bt l (4 * i + 2) <<< UInt32.ofNat 8 ||| bt l (4 * i + 3))]) rfl rfl rfl rfl rfl rfl (fun b9 => ?_)
   apply HB.fold
   refine HB.all (by (exact Keep.base h0 (Keep.base h1 (Keep.base h2 (Keep.base h3 Keep.nil))))) [35] (by kernel_rfl) rfl ⟨⟨_, rfl, ?_⟩, trivial⟩
   refine HP.one ?_
   refine H1.app1 (u := w32 (bt l (4 * i) <<< UInt32.ofNat 24 ||| bt l (4 * i + 1) <<< UInt32.ofNat 16 ||| bt l (4 * i + 2) <<< UInt32.ofNat 8 ||| bt l (4 * i + 3))) rfl rfl (fun _ _ => by first | ((repeat (first | with_reducible exact Rpl.here | with_reducible apply Rpl.there)); done) | (repeat (first | exact Rpl.here | apply Rpl.there))) memA rfl rfl (by omega) rfl rfl (fun a' c' => ?_)
   unfold bt
   rw [hset]
   apply HB.fold
   refine HB.pa 36 rfl ?_
   refine HB.done (by (exact Keep.base h0 (Keep.base h1 (Keep.base h2 (Keep.base h3 Keep.nil))))) (by kernel_rfl) ?_
   refine hwNE ?_
   exact HX.again (i + 1, some ⟨a', 0, none⟩, c') hlt (by show 16 - (i + 1) < 16 - i; omega) esA (Hs.cons (Pick.there Pick.here) (Hs.nil _))
  ·obtain rfl : i = 16 := by omega
   refine hwNE ?_
   exact HX.cut (a1, c1) trivial esA (Hs.refl _)
 rintro ⟨a1, c1⟩ -
 dsimp only
 repeat refine HC.seq ?_
 refine hbDD ?_
 repeat refine HC.seq ?_
 refine HC.cut (α := Option Addr × Nat) (fun z => [(0, .slice (some ⟨bh, oh, none⟩) 8 ch), (5, .slice z.1 64 z.2)]) (fun z => [A.grow 126 1 z.1 z.2 64 (wsr l 64)]) (fun _ => True) ?_ ?_
 ·refine HC.block ?_
  refine HC.loop (α := Nat × Option Addr × Nat) (fun z => [(0, .slice (some ⟨bh, oh, none⟩) 8 ch), (5, .slice z.2.1 z.1 z.2.2), (7, zv (z.1 : Int))]) (fun z => [A.grow 126 1 z.2.1 z.2.2 z.1 (wsr l z.1)]) (fun z => 16 ≤ z.1 ∧ z.1 ≤ 64) (fun z => 64 - z.1) (16, a1, c1) ⟨Nat.le_refl _, by show 16 ≤ 64; decide⟩ esA (Hs.refl _) ?_
  rintro ⟨i, a2, c2⟩ ⟨hi0, hi⟩
  dsimp only at hi0 hi ⊢
  by_cases hlt : i < 64
  ·refine HC.openg (e := 126) (sz := 1) (a := a2) (c := c2) (n := i) (xs := wsr l i) memA (by omega) ?_
   rintro g2 rfl
   have g2' := wsr_get (l := l) (i := i) (j := i - 2) (by omega)
   have g7 := wsr_get (l := l) (i := i) (j := i - 7) (by omega)
   have g15 := wsr_get (l := l) (i := i) (j := i - 15) (by omega)
   have g16 := wsr_get (l := l) (i := i) (j := i - 16) (by omega)
   have hset := wsr_snoc l i
   rw [wW_hi (by omega), mix2, mix2] at hset
   have e2 : ((i : Int) - 2).toNat = i - 2 := by omega
   have e15 : ((i : Int) - 15).toNat = i - 15 := by omega
   generalize hx2 : wW l (i - 2) = x2 at g2' hset
   generalize hx7 : wW l (i - 7) = x7 at g7 hset
   generalize hx15 : wW l (i - 15) = x15 at g15 hset
   generalize hx16 : wW l (i - 16) = x16 at g16 hset
   refine hwNE ?_
   refine HC.quietS [(some 63, [5], []), (some 64, [7], []), (some 65, [64], [1]), (some 66, [63, 65], [0, 2]), (some 67, [66], [3]), (some 68, [67], [4]), (some 69, [5], []), (some 70, [7], []), (some 71, [70], [7]), (some 72, [69, 71], [6, 8]), (some 73, [72], [9]), (some 74, [73], [10, 5]), (some 75, [68, 74], [5, 11]), (some 76, [5], []), (some 77, [7], []), (some 78, [77], [14]), (some 79, [76, 78], [13, 15]), (some 80, [79], [16]), (some 81, [80], [17]), (some 82, [75, 81], [12, 18]), (some 8, [82], [19, 11, 0, 1, 2, 3, 4, 5, 6, 7, 8, 9, 10, 11, 12, 13, 14, 15, 16, 17, 18, 19])] (by kernel_rfl) (by kernel_rfl) (by kernel_rfl) ?_
   refine qwA ?_
   rw [e15]
   refine HQ.ld rfl (fun w' hM => ownsRow_cell (hM.own memA) g15) rfl ?_
   refine qwA ?_
   refine HQ.call (vs := [_, zv ((7 : Nat) : Int)]) rfl rfl (fun w' _ => rotated_fn x15 7 (by decide) (by decide) w') ?_
   refine qwA ?_
   rw [e15]
   refine HQ.ld rfl (fun w' hM => ownsRow_cell (hM.own memA) g15) rfl ?_
   refine qwA ?_
   refine HQ.call (vs := [_, zv ((18 : Nat) : Int)]) rfl rfl (fun w' _ => rotated_fn x15 18 (by decide) (by decide) w') ?_
   refine qwA ?_
   rw [e15]
   refine HQ.ld rfl (fun w' hM => ownsRow_cell (hM.own memA) g15) rfl ?_
   refine qwA ?_
   refine HQ.nil ?_
   refine hwNE ?_
   refine HC.quietS [(some 83, [5], []), (some 84, [7], []), (some 85, [84], [1]), (some 86, [83, 85], [0, 2]), (some 87, [86], [3]), (some 88, [87], [4]), (some 89, [5], []), (some 90, [7], []), (some 91, [90], [7]), (some 92, [89, 91], [6, 8]), (some 93, [92], [9]), (some 94, [93], [10, 5]), (some 95, [88, 94], [5, 11]), (some 96, [5], []), (some 97, [7], []), (some 98, [97], [14]), (some 99, [96, 98], [13, 15]), (some 100, [99], [16]), (some 101, [100], [17]), (some 102, [95, 101], [12, 18]), (some 9, [102], [19, 11, 0, 1, 2, 3, 4, 5, 6, 7, 8, 9, 10, 11, 12, 13, 14, 15, 16, 17, 18, 19])] (by kernel_rfl) (by kernel_rfl) (by kernel_rfl) ?_
   refine qwA ?_
   rw [e2]
   refine HQ.ld rfl (fun w' hM => ownsRow_cell (hM.own memA) g2') rfl ?_
   refine qwA ?_
   refine HQ.call (vs := [_, zv ((17 : Nat) : Int)]) rfl rfl (fun w' _ => rotated_fn x2 17 (by decide) (by decide) w') ?_
   refine qwA ?_
   rw [e2]
   refine HQ.ld rfl (fun w' hM => ownsRow_cell (hM.own memA) g2') rfl ?_
   refine qwA ?_
   refine HQ.call (vs := [_, zv ((19 : Nat) : Int)]) rfl rfl (fun w' _ => rotated_fn x2 19 (by decide) (by decide) w') ?_
   refine qwA ?_
   rw [e2]
   refine HQ.ld rfl (fun w' hM => ownsRow_cell (hM.own memA) g2') rfl ?_
   refine qwA ?_
   refine HQ.nil ?_
   refine hwNE ?_
   refine HC.sub [(0, .slice (some ⟨bh, oh, none⟩) 8 ch), (5, .slice (some ⟨g2, 0, none⟩) i c2), (7, zv (i : Int)), (8, w32 (rot x15 7 ^^^ rot x15 18 ^^^ x15 >>> UInt32.ofNat 3)), (9, w32 (rot x2 17 ^^^ rot x2 19 ^^^ x2 >>> UInt32.ofNat 10))] [A.grow 126 1 (some ⟨g2, 0, none⟩) c2 i (wsr l i)] ?_ esA (Hs.refl _)
   have e16 : ((i : Int) - 16).toNat = i - 16 := by omega
   have e7 : ((i : Int) - 7).toNat = i - 7 := by omega
   obtain ⟨X, hX⟩ : ∃ X, X = rot x15 7 ^^^ rot x15 18 ^^^ x15 >>> UInt32.ofNat 3 := ⟨_, rfl⟩
   obtain ⟨Y, hY⟩ : ∃ Y, Y = rot x2 17 ^^^ rot x2 19 ^^^ x2 >>> UInt32.ofNat 10 := ⟨_, rfl⟩
   rw [← hX, ← hY] at hset ⊢
   refine HC.any rfl ?_
   refine HA.pa 0 rfl ?_
   refine HA.pa 1 rfl ?_
   refine HA.pa 2 rfl ?_
   refine HA.pa 3 rfl ?_
   refine HA.pa 4 rfl ?_ (POp.index_slice (o := i - 16) rfl rfl (by omega) (by omega) (by omega))
   refine HA.pa 6 rfl ?_
   refine HA.pa 8 rfl ?_
   refine HA.pa 9 rfl ?_
   refine HA.pa 10 rfl ?_
   refine HA.pa 11 rfl ?_ (POp.index_slice (o := i - 7) rfl rfl (by omega) (by omega) (by omega))
   refine HA.pa 14 rfl ?_
   refine HA.all [5, 12] (by kernel_rfl) rfl ⟨⟨_, rfl, ?_⟩, ⟨_, rfl, ?_⟩, trivial⟩
   ·refine HO.one ?_
    refine H1.ldg (b := g2) (c := c2) (n := i) (vs := wsr l i) rfl memA g16 rfl ?_
    apply HA.fold
    refine HA.pa 7 rfl ?_
    refine HA.all [12] (by kernel_rfl) rfl ⟨⟨_, rfl, ?_⟩, trivial⟩
    refine HO.one ?_
    refine H1.ldg (b := g2) (c := c2) (n := i) (vs := wsr l i) rfl memA g7 rfl ?_
    apply HA.fold
    refine HA.pa 13 rfl ?_
    refine HA.pa 15 rfl ?_
    refine HA.all [16] (by kernel_rfl) rfl ⟨⟨_, rfl, ?_⟩, trivial⟩
    refine HO.one ?_
    refine H1.lit (cs := [w32 (x16 + X + x7 + Y)]) rfl rfl rfl rfl rfl rfl (fun b9 => ?_)
    apply HA.fold
    refine HA.all [17] (by kernel_rfl) rfl ⟨⟨_, rfl, ?_⟩, trivial⟩
    refine HO.one ?_
    refine H1.app1 (u := w32 (x16 + X + x7 + Y)) rfl rfl (fun _ _ => by first | ((repeat (first | with_reducible exact Rpl.here | with_reducible apply Rpl.there)); done) | (repeat (first | exact Rpl.here | apply Rpl.there))) memA rfl rfl (by omega) rfl rfl (fun a' c' => ?_)
    rw [hset]
    apply HA.fold
    refine HA.pa 18 rfl ?_
    refine HA.done (by kernel_rfl) ?_
    refine hwNE ?_
    exact HX.again (i + 1, some ⟨a', 0, none⟩, c') ⟨by show 16 ≤ i + 1; omega, hlt⟩ (by show 64 - (i + 1) < 64 - i; omega) esA (Hs.cons (Pick.there Pick.here) (Hs.nil _))
   ·refine HO.one ?_
    refine H1.ldg (b := g2) (c := c2) (n := i) (vs := wsr l i) rfl memA g7 rfl ?_
    apply HA.fold
    refine HA.all [5] (by kernel_rfl) rfl ⟨⟨_, rfl, ?_⟩, trivial⟩
    refine HO.one ?_
    refine H1.ldg (b := g2) (c := c2) (n := i) (vs := wsr l i) rfl memA g16 rfl ?_
    apply HA.fold
    refine HA.pa 7 rfl ?_
    refine HA.pa 13 rfl ?_
    refine HA.pa 15 rfl ?_
    refine HA.all [16] (by kernel_rfl) rfl ⟨⟨_, rfl, ?_⟩, trivial⟩
    refine HO.one ?_
    refine H1.lit (cs := [w32 (x16 + X + x7 + Y)]) rfl rfl rfl rfl rfl rfl (fun b9 => ?_)
    apply HA.fold
    refine HA.all [17] (by kernel_rfl) rfl ⟨⟨_, rfl, ?_⟩, trivial⟩
    refine HO.one ?_
    refine H1.app1 (u := w32 (x16 + X + x7 + Y)) rfl rfl (fun _ _ => by first | ((repeat (first | with_reducible exact Rpl.here | with_reducible apply Rpl.there)); done) | (repeat (first | exact Rpl.here | apply Rpl.there))) memA rfl rfl (by omega) rfl rfl (fun a' c' => ?_)
    rw [hset]
    apply HA.fold
    refine HA.pa 18 rfl ?_
    refine HA.done (by kernel_rfl) ?_
    refine hwNE ?_
    exact HX.again (i + 1, some ⟨a', 0, none⟩, c') ⟨by show 16 ≤ i + 1; omega, hlt⟩ (by show 64 - (i + 1) < 64 - i; omega) esA (Hs.cons (Pick.there Pick.here) (Hs.nil _))
  ·obtain rfl : i = 64 := by omega
   refine hwNE ?_
   exact HX.cut (a2, c2) trivial esA (Hs.refl _)
 rintro ⟨a2, c2⟩ -
 dsimp only
 refine HC.openg (e := 126) (sz := 1) (a := a2) (c := c2) (n := 64) (xs := wsr l 64) memA (by decide) ?_
 rintro g2 rfl
 refine hwNE ?_
 refine HL.one (H1.callz (vs := []) rfl rfl (fun w' _ => constants_fn w') ?_)
 rintro bk -
 refine hwNE ?_
 refine HL.grow0 126 1 ?_
 refine HL.one (H1.appR (n := 0) (vs := ws s.l) rfl rfl rfl (fun _ _ => by first | ((repeat (first | with_reducible exact Rpl.here | with_reducible apply Rpl.there)); done) | (repeat (first | exact Rpl.here | apply Rpl.there))) (fun w' hM => hh.ext hM.ext) ws_one (by show 0 + 8 ≤ 1000000; decide) (by decide) rfl (.inl rfl) (fun av0 cv0 hav => ?_))
 obtain ⟨gv0, rfl⟩ : ∃ b, av0 = some ⟨b, 0, none⟩ := by
  rcases hav with h | h
  ·cases h
  ·exact h
 refine hbDD ?_
 repeat refine HC.seq ?_
 refine HC.cut (α := Nat × Nat) (fun z => [(0, .slice (some ⟨bh, oh, none⟩) 8 ch), (11, .slice (some ⟨z.1, 0, none⟩) 8 z.2)]) (fun z => [A.grow 126 1 (some ⟨z.1, 0, none⟩) z.2 8 (ws (rnds l s 64).l)]) (fun _ => True) ?_ ?_
 ·refine HC.block ?_
  refine HC.loop (α := Nat × Nat × Nat) (fun z => [(0, .slice (some ⟨bh, oh, none⟩) 8 ch), (5, .slice (some ⟨g2, 0, none⟩) 64 c2), (10, .slice (some ⟨bk, 0, none⟩) 64 64), (11, .slice (some ⟨z.2.1, 0, none⟩) 8 z.2.2), (12, zv (z.1 : Int))])
   (fun z => [A.grow 126 1 (some ⟨z.2.1, 0, none⟩) z.2.2 8 (ws (rnds l s z.1).l), A.blk bk (ws kL) 126, A.grow 126 1 (some ⟨g2, 0, none⟩) c2 64 (wsr l 64)]) (fun z => z.1 ≤ 64) (fun z => 64 - z.1) (0, gv0, cv0) (Nat.zero_le _) esA (Hs.refl _) ?_
  rintro ⟨i, gv, cv⟩ hi
  dsimp only at hi ⊢
  by_cases hlt : i < 64
  ·have hk := kW_get hlt
   have hw := wsr_get (l := l) (i := 64) hlt
   have hstep : rnds l s (i + 1) = rnd (kW i) (wW l i) (rnds l s i) := rfl
   generalize rnds l s i = S at hstep
   generalize hkk : kW i = kk at hk hstep
   generalize hww : wW l i = ww at hw hstep
   have hT : S.h + (rot S.e 6 ^^^ rot S.e 11 ^^^ rot S.e 25) + (S.e &&& S.f ^^^ ~~~S.e &&& S.g) + kk + ww = rT kk ww S := by unfold rT; rw [mix3]
   have hU : rot S.a 2 ^^^ rot S.a 13 ^^^ rot S.a 22 = mixW S.a [2, 13, 22] := by rw [mix3]
   refine hwNE ?_
   refine HL.one (H1.ldg (b := gv) (c := cv) (n := 8) (vs := ws S.l) (v := w32 S.a) rfl memA rfl rfl ?_)
   refine hwNE ?_
   refine HL.one (H1.ldg (b := gv) (c := cv) (n := 8) (vs := ws S.l) (v := w32 S.e) rfl memA rfl rfl ?_)
   refine hwNE ?_
   refine HC.quietS [(some 135, [11], []), (some 136, [135], [0]), (some 137, [136], [1]), (some 138, [14], []), (some 139, [138], [3]), (some 140, [14], []), (some 141, [140], [5, 4]), (some 142, [139, 141], [4, 6]), (some 143, [14], []), (some 144, [143], [8, 6]), (some 145, [142, 144], [7, 9]), (some 146, [137, 145], [2, 10]), (some 147, [14], []), (some 148, [11], []), (some 149, [148], [13]), (some 150, [149], [14]), (some 151, [147, 150], [12, 15]), (some 152, [14], []), (some 153, [152], [17]), (some 154, [11], []), (some 155, [154], [19]), (some 156, [155], [20]), (some 157, [153, 156], [18, 21]), (some 158, [151, 157], [16, 22]), (some 159, [146, 158], [11, 23]), (some 160, [10], []), (some 161, [12], []), (some 162, [160, 161], [25, 26]), (some 163, [162], [27]), (some 164, [159, 163], [24, 28]), (some 165, [5], []), (some 166, [12], []), (some 167, [165, 166], [30, 31]), (some 168, [167], [32]), (some 169, [164, 168], [29, 33]), (some 15, [169], [34, 9, 0, 1, 2, 3, 4, 5, 6, 7, 8, 9, 10, 11, 12, 13, 14, 15, 16, 17, 18, 19, 20, 21, 22, 23, 24, 25, 26, 27, 28, 29, 30, 31, 32, 33, 34])] (by kernel_rfl) (by kernel_rfl) (by kernel_rfl) ?_
   refine qwA ?_
   refine HQ.ld rfl (fun w' hM => ownsRow_cell (hM.own (.head _)) (i := 7) rfl) rfl ?_
   refine qwA ?_
   refine HQ.call (vs := [_, zv ((6 : Nat) : Int)]) rfl rfl (fun w' _ => rotated_fn S.e 6 (by decide) (by decide) w') ?_
   refine qwA ?_
   refine HQ.call (vs := [_, zv ((11 : Nat) : Int)]) rfl rfl (fun w' _ => rotated_fn S.e 11 (by decide) (by decide) w') ?_
   refine qwA ?_
   refine HQ.call (vs := [_, zv ((25 : Nat) : Int)]) rfl rfl (fun w' _ => rotated_fn S.e 25 (by decide) (by decide) w') ?_
   refine qwA ?_
   refine HQ.ld rfl (fun w' hM => ownsRow_cell (hM.own (.head _)) (i := 5) rfl) rfl ?_
   refine qwA ?_
   refine HQ.ld rfl (fun w' hM => ownsRow_cell (hM.own (.head _)) (i := 6) rfl) rfl ?_
   refine qwA ?_
   refine HQ.ldb rfl (.tail _ (.head _)) hk rfl ?_
   refine qwA ?_
   refine HQ.ld rfl (fun w' hM => ownsRow_cell (hM.own (.tail _ (.tail _ (.head _)))) hw) rfl ?_
   refine qwA ?_
   refine HQ.nil ?_
   rw [hT]
   refine hwNE ?_
   refine HC.quietS [(some 170, [13], []), (some 171, [170], [0]), (some 172, [13], []), (some 173, [172], [2, 1]), (some 174, [171, 173], [1, 3]), (some 175, [13], []), (some 176, [175], [5, 3]), (some 177, [174, 176], [4, 6]), (some 178, [13], []), (some 179, [11], []), (some 180, [179], [9]), (some 181, [180], [10]), (some 182, [178, 181], [8, 11]), (some 183, [13], []), (some 184, [11], []), (some 185, [184], [14]), (some 186, [185], [15]), (some 187, [183, 186], [13, 16]), (some 188, [182, 187], [12, 17]), (some 189, [11], []), (some 190, [189], [19]), (some 191, [190], [20]), (some 192, [11], []), (some 193, [192], [22]), (some 194, [193], [23]), (some 195, [191, 194], [21, 24]), (some 196, [188, 195], [18, 25]), (some 197, [177, 196], [7, 26]), (some 16, [197], [27, 6, 0, 1, 2, 3, 4, 5, 6, 7, 8, 9, 10, 11, 12, 13, 14, 15, 16, 17, 18, 19, 20, 21, 22, 23, 24, 25, 26, 27])] (by kernel_rfl) (by kernel_rfl) (by kernel_rfl) ?_
   refine qwA ?_
   refine HQ.call (vs := [_, zv ((2 : Nat) : Int)]) rfl rfl (fun w' _ => rotated_fn S.a 2 (by decide) (by decide) w') ?_
   refine qwA ?_
   refine HQ.call (vs := [_, zv ((13 : Nat) : Int)]) rfl rfl (fun w' _ => rotated_fn S.a 13 (by decide) (by decide) w') ?_
   refine qwA ?_
   refine HQ.call (vs := [_, zv ((22 : Nat) : Int)]) rfl rfl (fun w' _ => rotated_fn S.a 22 (by decide) (by decide) w') ?_
   refine qwA ?_
   refine HQ.ld rfl (fun w' hM => ownsRow_cell (hM.own (.head _)) (i := 1) rfl) rfl ?_
   refine qwA ?_
   refine HQ.ld rfl (fun w' hM => ownsRow_cell (hM.own (.head _)) (i := 2) rfl) rfl ?_
   refine qwA ?_
   refine HQ.ld rfl (fun w' hM => ownsRow_cell (hM.own (.head _)) (i := 1) rfl) rfl ?_
   refine qwA ?_
   refine HQ.ld rfl (fun w' hM => ownsRow_cell (hM.own (.head _)) (i := 2) rfl) rfl ?_
   refine qwA ?_
   refine HQ.nil ?_
   refine hwNE ?_
   have hU2 : (rot S.a 2 ^^^ rot S.a 13 ^^^ rot S.a 22) + (S.a &&& S.b ^^^ S.a &&& S.c ^^^ S.b &&& S.c) = rU S := by unfold rU; rw [mix3]
   rw [hU2]
   refine HC.sub [(0, .slice (some ⟨bh, oh, none⟩) 8 ch), (5, .slice (some ⟨g2, 0, none⟩) 64 c2), (10, .slice (some ⟨bk, 0, none⟩) 64 64), (11, .slice (some ⟨gv, 0, none⟩) 8 cv), (12, zv (i : Int)), (13, w32 S.a), (14, w32 S.e), (15, w32 (rT kk ww S)), (16, w32 (rU S))] [A.grow 126 1 (some ⟨gv, 0, none⟩) cv 8 (ws S.l), A.blk bk (ws kL) 126, A.grow 126 1 (some ⟨g2, 0, none⟩) c2 64 (wsr l 64)] ?_ esA (Hs.refl _)
   obtain ⟨T, hTT⟩ : ∃ T, T = rT kk ww S := ⟨_, rfl⟩
   obtain ⟨U, hUU⟩ : ∃ U, U = rU S := ⟨_, rfl⟩
   have hnew : ws (rnd kk ww S).l = [w32 (T + U), w32 S.a, w32 S.b, w32 S.c, w32 (S.d + T), w32 S.e, w32 S.f, w32 S.g] := by rw [hTT, hUU]; rfl
   rw [← hTT, ← hUU]
   refine HC.anyC ([(⟨gv, 1, none⟩, w32 S.b), (⟨gv, 2, none⟩, w32 S.c), (⟨gv, 3, none⟩, w32 S.d), (⟨gv, 5, none⟩, w32 S.f), (⟨gv, 6, none⟩, w32 S.g)]) rfl ?_
   refine HB.pa 0 rfl ?_
   refine HB.pa 1 rfl ?_
   refine HB.pa 2 rfl ?_
   refine HB.pa 3 rfl ?_
   refine HB.pa 4 rfl ?_
   refine HB.pa 5 rfl ?_
   refine HB.ld 6 rfl rfl memD ?_
   refine HB.pa 7 rfl ?_
   refine HB.pa 8 rfl ?_
   refine HB.ld 9 rfl rfl memD ?_
   refine HB.pa 10 rfl ?_
   refine HB.pa 11 rfl ?_
   refine HB.ld 12 rfl rfl memD ?_
   refine HB.pa 13 rfl ?_
   refine HB.pa 14 rfl ?_
   refine HB.pa 15 rfl ?_
   refine HB.pa 16 rfl ?_
   refine HB.pa 17 rfl ?_
   refine HB.ld 18 rfl rfl memD ?_
   refine HB.pa 19 rfl ?_
   refine HB.pa 20 rfl ?_
   refine HB.ld 21 rfl rfl memD ?_
   refine HB.all (by (exact Keep.grow memD rfl (Keep.grow memD rfl (Keep.grow memD rfl (Keep.grow memD rfl (Keep.grow memD rfl Keep.nil)))))) [22] (by kernel_rfl) rfl ⟨⟨_, rfl, ?_⟩, trivial⟩
   refine HP.one ?_
   refine H1.lit (cs := [w32 (T + U), w32 S.a, w32 S.b, w32 S.c, w32 (S.d + T), w32 S.e, w32 S.f, w32 S.g]) rfl rfl rfl rfl rfl rfl (fun b9 => ?_)
   apply HB.fold
   refine HB.pa 23 rfl ?_
   refine HB.done (by (exact Keep.grow memD rfl (Keep.grow memD rfl (Keep.grow memD rfl (Keep.grow memD rfl (Keep.grow memD rfl Keep.nil)))))) (by kernel_rfl) ?_
   refine hwNE ?_
   rw [← hnew]
   refine HX.conv (H2 := A.grow 126 1 (some ⟨b9, 0, none⟩) 8 8 (ws (rnd kk ww S).l) :: _) (fun w h => blkGr h rfl (by decide)) ?_
   exact HX.again (i + 1, b9, 8) hlt (by show 64 - (i + 1) < 64 - i; omega) esA (by dsimp only; rw [hstep]; exact Hs.cons Pick.here (Hs.refl _).skip)
  ·obtain rfl : i = 64 := by omega
   refine hwNE ?_
   exact HX.cut (gv, cv) trivial esA (Hs.cons Pick.here (Hs.nil _))
 rintro ⟨gv, cv⟩ -
 dsimp only
 obtain ⟨V, hVd⟩ : ∃ V, V = rnds l s 64 := ⟨_, rfl⟩
 have hcomp : comp s l = s.add V := by rw [hVd]; rfl
 rw [hcomp, ← hVd]
 refine hwNE ?_
 refine HC.grow0 126 1 ?_
 refine HC.loop (α := Nat × Option Addr × Nat) (fun z => [(0, .slice (some ⟨bh, oh, none⟩) 8 ch), (11, .slice (some ⟨gv, 0, none⟩) 8 cv), (17, .slice z.2.1 z.1 z.2.2), (18, zv (z.1 : Int))]) (fun z => [A.grow 126 1 z.2.1 z.2.2 z.1 (ws (sumsL s V z.1)), A.grow 126 1 (some ⟨gv, 0, none⟩) cv 8 (ws V.l)]) (fun z => z.1 ≤ 8) (fun z => 8 - z.1) (0, none, 0) (Nat.zero_le _) esA (Hs.refl _) ?_
 rintro ⟨i, ao, co⟩ hi
 dsimp only at hi ⊢
 by_cases hlt : i < 8
 ·have hb := hh.cell (S8.get (s := s) hlt)
  have hv := S8.get (s := V) hlt
  have hsn := sumsL_snoc s V i
  generalize s.l.getD i 0 = x at hb hsn
  generalize V.l.getD i 0 = y at hv hsn
  refine hwNE ?_
  refine HC.anyC ([(⟨bh, oh + i, none⟩, w32 x), (⟨gv, i, none⟩, w32 y)]) rfl ?_
  refine HB.pa 0 rfl ?_
  refine HB.pa 1 rfl ?_
  refine HB.pa 2 rfl ?_
  refine HB.pa 3 rfl ?_
  refine HB.ld 4 rfl rfl memD ?_
  refine HB.pa 5 rfl ?_
  refine HB.pa 6 rfl ?_
  refine HB.pa 7 rfl ?_
  refine HB.ld 8 rfl rfl memD ?_
  refine HB.pa 9 rfl ?_
  refine HB.all (by (exact Keep.base hb (Keep.grow (b := gv) (c := cv) (n := 8) (vs := ws V.l) memD hv Keep.nil))) [10] (by kernel_rfl) rfl ⟨⟨_, rfl, ?_⟩, trivial⟩
  refine HP.one ?_
  refine H1.lit (cs := [w32 (x + y)]) rfl rfl rfl rfl rfl rfl (fun b9 => ?_)
  apply HB.fold
  refine HB.all (by (exact Keep.base hb (Keep.grow (b := gv) (c := cv) (n := 8) (vs := ws V.l) memD hv Keep.nil))) [11] (by kernel_rfl) rfl ⟨⟨_, rfl, ?_⟩, trivial⟩
  refine HP.one ?_
  refine H1.app1 (u := w32 (x + y)) rfl rfl (fun _ _ => by first | ((repeat (first | with_reducible exact Rpl.here | with_reducible apply Rpl.there)); done) | (repeat (first | exact Rpl.here | apply Rpl.there))) memA rfl rfl (by omega) rfl rfl (fun a' c' => ?_)
  rw [ws_snoc, hsn]
  apply HB.fold
  refine HB.pa 12 rfl ?_
  refine HB.done (by (exact Keep.base hb (Keep.grow (b := gv) (c := cv) (n := 8) (vs := ws V.l) memD hv Keep.nil))) (by kernel_rfl) ?_
  refine hwNE ?_
  exact HX.again (i + 1, some ⟨a', 0, none⟩, c') hlt (by show 8 - (i + 1) < 8 - i; omega) esA (Hs.cons (Pick.there Pick.here) (Hs.cons (Pick.there Pick.here) (Hs.nil _)))
 ·obtain rfl : i = 8 := by omega
  refine HC.openg (e := 126) (sz := 1) (a := ao) (c := co) (n := 8) (xs := ws (sumsL s V 8)) memA (by decide) ?_
  rintro go rfl
  refine hwNE ?_
  exact HX.ret1 rfl rfl fun w' hM => ⟨(go, co), trivial, rfl, hM.sub (Hs.cons Pick.here (Hs.refl _).skip)⟩
end Go.Sx
/- Chapter 2, the reference: the digest of a string; Chain, Head: the walks. -/
namespace Go.Sx
open Go Go.Proofs Go.RowKit
theorem grow_sub {w : World} {e : TypeId} {b n c off m c2 : Nat} {xs : List Value} (h : w.ownsRow 0 e 1 (.slice (some ⟨b, 0, none⟩) n c) n xs) (hl : xs.length = n) (ho : off + m ≤ n) (hm : m ≤ c2) : Rd w (.slice (some ⟨b, off, none⟩) m c2) ((xs.drop off).take m) := by
 have hlen : ((xs.drop off).take m).length = m := by rw [List.length_take, List.length_drop]; omega
 obtain ⟨hb, -⟩ : b < w.heap.size ∧ True := by
  rcases h.2 with ⟨h1, -⟩ | ⟨g, cap, cur, hv, -, hg, -⟩
  ·cases h1
  ·cases hv; exact ⟨(Array.getElem?_eq_some_iff.1 hg).1, trivial⟩
 refine ⟨_, _, by rw [hlen], by rw [hlen]; exact hm, .inr ⟨b, off, rfl, hb, fun i u hu => ?_⟩⟩
 have hi : i < m := by
  have := (List.getElem?_eq_some_iff.1 hu).1
  rw [hlen] at this; exact this
 rw [List.getElem?_take_of_lt hi, List.getElem?_drop] at hu
 exact ownsRow_cell h hu
theorem take_b8 {l : List UInt8} {i : Nat} (h : i < l.length) : ub (l.take i) ++ [b8 (l.getD i 0)] = ub (l.take (i + 1)) := by
 have e : l.getD i 0 = l[i] := by simp [h]
 rw [List.take_add_one, List.getElem?_eq_getElem h, ub_app1, e]; rfl
theorem shr_zero (x : UInt32) : x >>> UInt32.ofNat 0 = x := by
 refine UInt32.toNat_inj.1 ?_
 rw [UInt32.toNat_shiftRight]
 simp
def digI (s : S8) (i : Nat) : List UInt8 := (s.l.take i).flatMap by4
theorem digI_snoc (s : S8) {i : Nat} (h : i < 8) : digI s i ++ [(s.l.getD i 0 >>> UInt32.ofNat 24).toUInt8, (s.l.getD i 0 >>> UInt32.ofNat 16).toUInt8, (s.l.getD i 0 >>> UInt32.ofNat 8).toUInt8, (s.l.getD i 0).toUInt8] = digI s (i + 1) := by
 have h8 : i < s.l.length := h
 unfold digI
 rw [List.take_add_one, List.getElem?_eq_getElem h8, List.flatMap_append]
 congr 1
 have e : s.l.getD i 0 = s.l[i] := by simp [h8]
 rw [e]
 show _ = by4 s.l[i] ++ []
 rw [List.append_nil]
 unfold by4
 rw [shr_zero]
theorem digI_8 (s : S8) : digI s 8 = digL s := rfl
theorem ub_app4 (ys zs : List UInt8) : ub ys ++ ub zs = ub (ys ++ zs) := by unfold ub; rw [List.map_append]
theorem HC.capOfG2 {P : Program} {r : Option Nat} {N : Nat} {ds : List Deferred} {Q : Post} {E : Env} {w0 : World} {H : List Atom} {e : TypeId} {co : Code} {n c : Nat} {a : Option Addr} {xs : List Value} (hm : A.grow e 1 a c n xs ∈ H) (h : n ≤ c → HC P r N ds co Q E w0 H) : HC P r N ds co Q E w0 H := fun w hM => by
 refine h ?_ w hM
 rcases (hM.own hm).2 with ⟨h1, rfl⟩ | ⟨g, cap, cur, hv, -, -, hnc, -⟩
 ·exact Nat.zero_le _
 ·cases hv; exact hnc
attribute [local irreducible] WC WL WX POp Then Again Fn NX W1 WA WO QL RP RA Yld LoopAt HC HL HX HN H1 HA HO HQ HB HP A.blk A.grow A.rd A.obj A.mp AgainH CutH
attribute [local irreducible] shaI shaT
set_option maxHeartbeats 2000000 in
theorem extended_fn (s : ByteArray) (hs : s.size ≤ 900000) (w : World) : Fn Tryz.prog 51 #[.string s] w fun v w' => ∃ z : Nat × Nat, True ∧ v = .slice (some ⟨z.1, 0, none⟩) (shaP s.data.toList).length z.2 ∧ Mm w [A.grow 5 1 (some ⟨z.1, 0, none⟩) z.2 (shaP s.data.toList).length (ub (shaP s.data.toList))] w' := by
 have hlen : s.data.toList.length = s.size := by rw [Array.length_toList]; rfl
 obtain ⟨n, hn⟩ : ∃ n, n = s.size := ⟨_, rfl⟩
 have hz : shaZ n < 64 := by unfold shaZ; omega
 have hP : shaP s.data.toList = s.data.toList ++ [128] ++ List.replicate (shaZ n) 0 ++ (List.range 8).map (shaT n) := by unfold shaP; rw [hlen, hn]
 have hPl := shaP_len s.data.toList
 rw [hlen, ← hn] at hPl
 refine enterH (l := [_]) rfl Tryz.ntmps51 rfl ?_
 refine hwNE ?_
 refine HC.grow0 5 1 ?_
 refine HC.loop (α := Nat × Option Addr × Nat) (fun z => [(0, .string s), (3, .slice z.2.1 z.1 z.2.2), (4, zv (z.1 : Int))]) (fun z => [A.grow 5 1 z.2.1 z.2.2 z.1 (ub (s.data.toList.take z.1))]) (fun z => z.1 ≤ n) (fun z => n - z.1) (0, none, 0) (Nat.zero_le _) esA (Hs.refl _) ?_
 rintro ⟨i, a, c⟩ hi
 dsimp only at hi ⊢
 by_cases hlt : i < n
 ·have hlt' : i < s.size := by omega
  have htk := take_b8 (l := s.data.toList) (i := i) (by omega)
  refine hwNE ?_
  refine HL.one (H1.lit (cs := [b8 (s.data.toList.getD i 0)]) rfl rfl rfl rfl rfl rfl (fun b9 => ?_))
  refine hwNE ?_
  refine HL.one (H1.app1 (u := b8 (s.data.toList.getD i 0)) rfl rfl (fun _ _ => by first | ((repeat (first | with_reducible exact Rpl.here | with_reducible apply Rpl.there)); done) | (repeat (first | exact Rpl.here | apply Rpl.there))) memA rfl rfl (by omega) rfl rfl (fun a' c' => ?_))
  rw [htk]
  refine hwNE ?_
  exact HX.again (i + 1, some ⟨a', 0, none⟩, c') hlt (by show n - (i + 1) < n - i; omega) esA (Hs.cons (Pick.there Pick.here) (Hs.nil _))
 have hlt' : ¬ i < s.size := by omega
 obtain rfl : i = n := by omega
 rw [List.take_of_length_le (by omega)]
 refine hwNE ?_
 refine HL.one (H1.lit (cs := [b8 128]) rfl rfl rfl rfl rfl rfl (fun b9 => ?_))
 refine hwNE ?_
 refine HL.one (H1.app1 (u := b8 128) rfl rfl (fun _ _ => by first | ((repeat (first | with_reducible exact Rpl.here | with_reducible apply Rpl.there)); done) | (repeat (first | exact Rpl.here | apply Rpl.there))) memA rfl rfl (by omega) rfl rfl (fun a1 c1 => ?_))
 rw [ub_app1]
 refine hwNE ?_
 refine HC.loop (α := Nat × Nat × Nat) (fun z => [(0, .string s), (3, .slice (some ⟨z.2.1, 0, none⟩) (i + 1 + z.1) z.2.2)]) (fun z => [A.grow 5 1 (some ⟨z.2.1, 0, none⟩) z.2.2 (i + 1 + z.1) (ub (s.data.toList ++ [128] ++ List.replicate z.1 0))]) (fun z => z.1 ≤ shaZ i) (fun z => shaZ i - z.1) (0, a1, c1) (Nat.zero_le _) esA
  (by show Hs _ [A.grow _ 1 _ c1 (i + 1) (ub (s.data.toList ++ [128] ++ []))]; rw [List.append_nil]; exact Hs.cons (Pick.there Pick.here) (Hs.nil _)) ?_
 rintro ⟨j, a2, c2⟩ hj
 dsimp only at hj ⊢
 by_cases hlt2 : j < shaZ i
 ·have hne : ¬ (((i + 1 + j : Nat) : Int) % 64 = 56) := by unfold shaZ at hlt2; omega
  refine hwNE ?_
  refine HL.one (H1.lit (cs := [b8 0]) rfl rfl rfl rfl rfl rfl (fun b9 => ?_))
  refine hwNE ?_
  refine HL.one (H1.app1 (u := b8 0) rfl rfl (fun _ _ => by first | ((repeat (first | with_reducible exact Rpl.here | with_reducible apply Rpl.there)); done) | (repeat (first | exact Rpl.here | apply Rpl.there))) memA rfl rfl (by omega) rfl rfl (fun a' c' => ?_))
  rw [ub_app1, rep_snoc]
  refine hwNE ?_
  exact HX.again (j + 1, a', c') hlt2 (by show shaZ i - (j + 1) < shaZ i - j; omega) esA (Hs.cons (Pick.there Pick.here) (Hs.nil _))
 obtain rfl : j = shaZ i := by omega
 have hne : ((i + 1 + shaZ i : Nat) : Int) % 64 = 56 := by unfold shaZ; omega
 refine hwNE ?_
 refine HC.loop (α := Nat × Nat × Nat) (fun z => [(0, .string s), (3, .slice (some ⟨z.2.1, 0, none⟩) (i + 1 + shaZ i + z.1) z.2.2), (5, zv (7 - (z.1 : Int)))]) (fun z => [A.grow 5 1 (some ⟨z.2.1, 0, none⟩) z.2.2 (i + 1 + shaZ i + z.1) (ub (s.data.toList ++ [128] ++ List.replicate (shaZ i) 0 ++ (List.range z.1).map (shaT i)))]) (fun z => z.1 ≤ 8) (fun z => 8 - z.1) (0, a2, c2) (Nat.zero_le _) esA
  (by show Hs _ [A.grow _ 1 _ c2 (i + 1 + shaZ i) (ub (s.data.toList ++ [128] ++ List.replicate (shaZ i) 0 ++ []))]; rw [List.append_nil]; exact Hs.refl _) ?_
 rintro ⟨k, a3, c3⟩ hk
 dsimp only at hk ⊢
 by_cases hlt3 : k < 8
 ·have hge : (0 : Int) ≤ 7 - (k : Int) := by omega
  refine hwNE ?_
  rw [← hn]
  refine hwNE ?_
  refine HL.pa ?_ (POp.shr (a := 8 * i) (b := 8 * (7 - k)) rfl rfl (by omega) (by omega) (by omega))
  refine hwNE ?_
  refine HL.one (H1.lit (cs := [b8 (shaT i k)]) rfl rfl (by unfold shaT; rfl) rfl rfl rfl (fun b9 => ?_))
  refine hwNE ?_
  refine HL.one (H1.app1 (u := b8 (shaT i k)) rfl rfl (fun _ _ => by first | ((repeat (first | with_reducible exact Rpl.here | with_reducible apply Rpl.there)); done) | (repeat (first | exact Rpl.here | apply Rpl.there))) memA rfl rfl (by omega) rfl rfl (fun a' c' => ?_))
  rw [ub_app1, rng_snoc]
  refine hwNE ?_
  refine HX.again (k + 1, a', c') hlt3 (by show 8 - (k + 1) < 8 - k; omega) ⟨rfl, rfl, ?_, trivial⟩ (Hs.cons (Pick.there Pick.here) (Hs.nil _))
  show some (zv _) = some (zv _)
  congr 2
  show (7 - (k : Int)) - 1 = 7 - ((k + 1 : Nat) : Int)
  omega
 ·obtain rfl : k = 8 := by omega
  have hge : ¬ ((0 : Int) ≤ 7 - ((8 : Nat) : Int)) := by omega
  rw [← hP, show i + 1 + shaZ i + 8 = (shaP s.data.toList).length from by rw [hPl]]
  refine hwNE ?_
  exact HX.ret1 rfl rfl fun w' hM => ⟨(a3, c3), trivial, rfl, hM⟩
attribute [local irreducible] digL
set_option maxHeartbeats 4000000 in
theorem refSum_fn (s : ByteArray) (hs : s.size ≤ 900000) (w : World) : Fn Tryz.prog 15 #[.string s] w fun v w' => v = .string (sumS s) ∧ Ext w w' := by
 have hlen : s.data.toList.length = s.size := by rw [Array.length_toList]; rfl
 have hPl := shaP_len s.data.toList
 have hPm := shaP_mod s.data.toList
 have hz : shaZ s.data.toList.length < 64 := by unfold shaZ; omega
 obtain ⟨nq, hnq⟩ : ∃ nq, nq = (shaP s.data.toList).length / 64 := ⟨_, rfl⟩
 have hq : 64 * nq = (shaP s.data.toList).length := by omega
 have hsum : sumS s = ⟨(digL (sums (shaP s.data.toList) nq)).toArray⟩ := by unfold sumS sumL; rw [hnq]
 rw [hsum]
 refine enterH (l := [_]) rfl Tryz.ntmps15 rfl ?_
 refine hwNE ?_
 refine HL.one (H1.lit (cs := ws shaI.l) rfl rfl (by kernel_rfl) rfl rfl rfl (fun b0 => ?_))
 refine hwNE ?_
 refine HL.one (H1.callz (vs := [.string s]) rfl rfl (fun w' _ => extended_fn s hs w') ?_)
 rintro ⟨gb, cb⟩ -
 dsimp only
 refine hwNE ?_
 have hqb : nq ≤ 15000 := by omega
 generalize hPd : shaP s.data.toList = Pd at hq
 rw [← hq]
 refine HC.conv (H2 := A.grow 126 1 (some ⟨b0, 0, none⟩) 8 8 (ws (sums Pd 0).l) :: [A.grow 5 1 (some ⟨gb, 0, none⟩) cb (64 * nq) (ub Pd)]) (fun w h => blkGr (h.sub (Hs.cons (Pick.there Pick.here) (Hs.refl _))) rfl (by decide)) ?_
 refine HC.loop (α := Nat × Nat × Nat) (fun z => [(3, .slice (some ⟨z.2.1, 0, none⟩) 8 z.2.2), (4, .slice (some ⟨gb, 0, none⟩) (64 * nq) cb), (5, zv ((64 * z.1 : Nat) : Int))]) (fun z => A.grow 126 1 (some ⟨z.2.1, 0, none⟩) z.2.2 8 (ws (sums Pd z.1).l) :: [A.grow 5 1 (some ⟨gb, 0, none⟩) cb (64 * nq) (ub Pd)]) (fun z => z.1 ≤ nq) (fun z => nq - z.1) (0, b0, 8) (Nat.zero_le _) esA (Hs.refl _) ?_
 rintro ⟨q, gh, ch⟩ hqn
 dsimp only at hqn ⊢
 by_cases hlt : q < nq
 ·have hstep : sums Pd (q + 1) = comp (sums Pd q) ((Pd.drop (64 * q)).take 64) := rfl
  have hl64 : ((Pd.drop (64 * q)).take 64).length = 64 := by rw [List.length_take, List.length_drop]; omega
  refine HC.capOfG2 (e := 5) (a := some ⟨gb, 0, none⟩) (c := cb) (n := 64 * nq) (xs := ub Pd) memA fun hcb => ?_
  refine HC.capOfG2 (e := 126) (a := some ⟨gh, 0, none⟩) (c := ch) (n := 8) (xs := ws (sums Pd q).l) memA fun hch => ?_
  refine hwNE ?_
  refine HL.pa ?_ (POp.cut_lh rfl rfl rfl (by omega) (by omega) (by omega) (by omega))
  rw [show 0 + ((64 * q : Nat) : Int).toNat * 1 = 64 * q from by omega, show (((64 * q : Nat) : Int) + 64).toNat - ((64 * q : Nat) : Int).toNat = 64 from by omega]
  refine hwNE ?_
  refine HL.one (H1.callz (vs := [_, _]) rfl rfl (fun w' hM => block_fn (sums Pd q) ((Pd.drop (64 * q)).take 64) hl64 w' ?_ ?_) ?_)
  ·have := grow_sub (hM.own (e := 5) (sz := 1) (a := some ⟨gb, 0, none⟩) (c := cb) (n := 64 * nq) (xs := ub Pd) memA) (by rw [ub_len, ← hq]) (off := 64 * q) (m := 64) (c2 := cb - ((64 * q : Nat) : Int).toNat) (by omega) (by omega)
   rwa [ub_mid] at this
  ·exact Mm.gr (e := 126) (a := some ⟨gh, 0, none⟩) (c := ch) hM (.head _)
  rintro ⟨g2, c2⟩ -
  dsimp only
  rw [← hstep]
  refine hwNE ?_
  exact HX.again (q + 1, g2, c2) hlt (by show nq - (q + 1) < nq - q; omega) esA (Hs.cons Pick.here (Hs.refl _).skip)
 obtain rfl : q = nq := by omega
 generalize hS : sums Pd q = S
 refine hwNE ?_
 refine HC.grow0 5 1 ?_
 refine HC.loop (α := Nat × Option Addr × Nat) (fun z => [(3, .slice (some ⟨gh, 0, none⟩) 8 ch), (6, .slice z.2.1 (4 * z.1) z.2.2), (7, zv (z.1 : Int))]) (fun z => [A.grow 5 1 z.2.1 z.2.2 (4 * z.1) (ub (digI S z.1)), A.grow 126 1 (some ⟨gh, 0, none⟩) ch 8 (ws S.l)]) (fun z => z.1 ≤ 8) (fun z => 8 - z.1) (0, none, 0) (Nat.zero_le _) esA (Hs.cons Pick.here (Hs.cons Pick.here (Hs.refl _).skip)) ?_
 rintro ⟨i, a, c⟩ hi
 dsimp only at hi ⊢
 by_cases hlt8 : i < 8
 ·have hv := S8.get (s := S) hlt8
  have hsn := digI_snoc S hlt8
  generalize S.l.getD i 0 = x at hv hsn
  refine hwNE ?_
  refine HC.anyC ([(⟨gh, i, none⟩, w32 x)]) rfl ?_
  refine HB.pa 0 rfl ?_
  refine HB.pa 1 rfl ?_
  refine HB.pa 2 rfl ?_
  refine HB.pa 3 rfl ?_
  refine HB.ld 4 rfl rfl memD ?_
  refine HB.pa 5 rfl ?_
  refine HB.pa 6 rfl ?_
  refine HB.pa 7 rfl ?_
  refine HB.pa 8 rfl ?_
  refine HB.pa 9 rfl ?_
  refine HB.ld 10 rfl rfl memD ?_
  refine HB.pa 11 rfl ?_
  refine HB.pa 12 rfl ?_
  refine HB.pa 13 rfl ?_
  refine HB.pa 14 rfl ?_
  refine HB.pa 15 rfl ?_
  refine HB.ld 16 rfl rfl memD ?_
  refine HB.pa 17 rfl ?_
  refine HB.pa 18 rfl ?_
  refine HB.pa 19 rfl ?_
  refine HB.pa 20 rfl ?_
  refine HB.pa 21 rfl ?_
  refine HB.ld 22 rfl rfl memD ?_
  refine HB.pa 23 rfl ?_
  refine HB.all (by (exact Keep.grow (b := gh) (c := ch) (n := 8) (vs := ws S.l) memD hv Keep.nil)) [24] (by kernel_rfl) rfl ⟨⟨_, rfl, ?_⟩, trivial⟩
  refine HP.one ?_
  refine H1.lit (cs := ub [(x >>> UInt32.ofNat 24).toUInt8, (x >>> UInt32.ofNat 16).toUInt8, (x >>> UInt32.ofNat 8).toUInt8, x.toUInt8]) rfl rfl rfl rfl rfl rfl (fun b9 => ?_)
  apply HB.fold
  refine HB.all (by (exact Keep.grow (b := gh) (c := ch) (n := 8) (vs := ws S.l) memD hv Keep.nil)) [25] (by kernel_rfl) rfl ⟨⟨_, rfl, ?_⟩, trivial⟩
  refine HP.one ?_
  refine H1.app (sz := 1) (m := 4) (news := ub [(x >>> UInt32.ofNat 24).toUInt8, (x >>> UInt32.ofNat 16).toUInt8, (x >>> UInt32.ofNat 8).toUInt8, x.toUInt8]) rfl (by decide) rfl rfl (fun _ _ => by first | ((repeat (first | with_reducible exact Rpl.here | with_reducible apply Rpl.there)); done) | (repeat (first | exact Rpl.here | apply Rpl.there))) rfl (fun w' hM j u hj => ?_) (by
    intro v hv
    obtain ⟨y, -, rfl⟩ := List.mem_map.1 hv
    rfl) (by omega) (by decide) rfl (fun a' c' hac => ?_)
  ·rw [add_lit, Nat.zero_add]; exact (hM.blk (b := b9) memA).cell hj
  rw [ub_app4, hsn, show 4 * i + 4 = 4 * (i + 1) from by omega]
  apply HB.fold
  refine HB.pa 26 rfl ?_
  refine HB.done (by (exact Keep.grow (b := gh) (c := ch) (n := 8) (vs := ws S.l) memD hv Keep.nil)) (by kernel_rfl) ?_
  refine hwNE ?_
  exact HX.again (i + 1, a', c') hlt8 (by show 8 - (i + 1) < 8 - i; omega) esA (Hs.cons (Pick.there Pick.here) (Hs.cons (Pick.there Pick.here) (Hs.nil _)))
 ·obtain rfl : i = 8 := by omega
  refine HC.openg (e := 5) (sz := 1) (a := a) (c := c) (n := 4 * 8) (xs := ub (digI S 8)) memA (by decide) ?_
  rintro go rfl
  rw [digI_8]
  have hdl : (digL S).length = 4 * 8 := digL_len S
  rw [← hdl]
  refine hwNE ?_
  refine HL.one (H1.bstrg (ys := digL S) (c := c) (b := go) rfl (.head _) rfl ?_)
  refine hwNE ?_
  exact HX.ret1 rfl rfl fun w' hM => ⟨rfl, hM.ext⟩
end Go.Sx
/- Chapter 21: equality of lists of records, of bases; picked numbers. -/
namespace Go.Sx
open Go Go.Proofs Go.RowKit
noncomputable def eqR (r s : Rc) : Bool := @decide (r = s) (Classical.propDecidable _)
noncomputable def eqLB (l m : List Rc) : Bool := @decide (l = m) (Classical.propDecidable _)
def pickI21 (c n : Int) : Int := if c < 0 then (-(c + 1)) % n else c % n
theorem pickI21_lt (c : Int) {n : Int} (hn : 0 < n) : 0 ≤ pickI21 c n ∧ pickI21 c n < n := by
 unfold pickI21
 split
 ·exact ⟨Int.emod_nonneg _ (by omega), Int.emod_lt_of_pos _ hn⟩
 ·exact ⟨Int.emod_nonneg _ (by omega), Int.emod_lt_of_pos _ hn⟩
attribute [local irreducible] WC WL WX POp Then Again Fn NX W1 WA WO QL RP RA Yld LoopAt HC HL HX HN H1 HA HO HQ HB HP A.blk A.grow A.rd A.obj A.mp AgainH CutH
attribute [local irreducible] A.dfr A.loop
theorem pick20_fn (c n : Int) (h1 : -9223372036854775808 ≤ c) (h2 : c ≤ 9223372036854775807) (hn : 0 < n) (w : World) : Fn Tryz.prog 17 #[zv c, zv n] w fun v w' => v = zv (pickI21 c n) ∧ w = w' := by
 refine enter (l := [_, _]) rfl Tryz.ntmps17 rfl ?_
 by_cases h : c < 0
 ·repeat' (first | apply WL.fold | apply WA.fold | apply WL.nil | apply WX.n_then | apply WC.seq | apply WC.region | refine WL.pa ?_ | refine WL.ga rfl ?_ | refine WL.na rfl ?_ | refine WL.nu rfl rfl ?_ | apply WC.block | apply WC.skip | apply WC.exit | apply WC.ret | apply WX.e_block | refine WX.e_other rfl ?_ | apply WX.e_then | apply WX.e_again | apply WX.n_block | apply WX.r_then | apply WX.r_block | apply WX.r_again | refine WC.cond_yes rfl ?_ | refine WC.cond_no rfl ?_ | refine WC.cond rfl (fun hc => ?_) (fun hc => ?_) | refine WC.cond_b rfl (fun hc => ?_) (fun hc => ?_))
  exact WX.ret1 rfl rfl ⟨by rw [pickI21, if_pos h], rfl⟩
 ·repeat' (first | apply WL.fold | apply WA.fold | apply WL.nil | apply WX.n_then | apply WC.seq | apply WC.region | refine WL.pa ?_ | refine WL.ga rfl ?_ | refine WL.na rfl ?_ | refine WL.nu rfl rfl ?_ | apply WC.block | apply WC.skip | apply WC.exit | apply WC.ret | apply WX.e_block | refine WX.e_other rfl ?_ | apply WX.e_then | apply WX.e_again | apply WX.n_block | apply WX.r_then | apply WX.r_block | apply WX.r_again | refine WC.cond_yes rfl ?_ | refine WC.cond_no rfl ?_ | refine WC.cond rfl (fun hc => ?_) (fun hc => ?_) | refine WC.cond_b rfl (fun hc => ?_) (fun hc => ?_))
  exact WX.ret1 rfl rfl ⟨by rw [pickI21, if_neg h], rfl⟩
def EqB (A B : Nat → List Rc) : Prop := ∀ i, i < 8 → A i = B i
noncomputable def eqBB (A B : Nat → List Rc) : Bool := @decide (EqB A B) (Classical.propDecidable _)
theorem SameInts_fn (v u : Value) (l m : List Int) (w : World) (hR : Rd w v (ints l)) (hS : Rd w u (ints m)) (hl : l.length ≤ 1000000) :
  Fn Tryz.prog 38 #[v, u] w fun u w' => u = .bool (decide (l = m)) ∧ Ext w w' := by
 obtain ⟨a, c, rfl, hc⟩ := hR.isInts
 obtain ⟨a', c', rfl, hc'⟩ := hS.isInts
 refine enterH (l := [_, _]) rfl Tryz.ntmps38 rfl ?_
 by_cases hlen : l.length = m.length
 rotate_left
 ·have hlen' : ¬ (l.length : Int) = (m.length : Int) := by omega
  refine hwNE ?_
  exact HX.ret1 rfl rfl fun w' hM => ⟨by rw [decide_eq_false fun e => hlen (by rw [e])], hM.ext⟩
 rw [← hlen] at hS ⊢
 refine hwNE ?_
 refine HC.loop (α := Nat) (fun j => [(0, .slice a l.length c), (1, .slice a' l.length c'), (5, zv (j : Int))]) (fun _ => []) (fun j => j ≤ l.length ∧ l.take j = m.take j) (fun j => l.length - j) 0 ⟨Nat.zero_le _, rfl⟩ esA (Hs.refl _) ?_
 rintro j ⟨hj, hI⟩
 by_cases hlt : j < l.length
 ·have hlt2 : j < m.length := by omega
  obtain ⟨b1, o1, rfl, -⟩ := hR.iat (fun e => by rw [e] at hlt; exact absurd hlt (Nat.not_lt_zero _))
  obtain ⟨b2, o2, rfl, -⟩ := hS.iat (fun e => by rw [e] at hlt2; exact absurd hlt2 (Nat.not_lt_zero _))
  have hd1 := hR.cell (ints_get hlt)
  have hd2 := hS.cell (ints_get hlt2)
  have h1 := take_at hlt
  have h2 := take_at hlt2
  have hno : ¬ at' l j = at' m j → decide (l = m) = false := fun h => decide_eq_false fun e => h (by rw [e])
  have hyes : at' l j = at' m j → l.take (j + 1) = m.take (j + 1) := fun h => by rw [h1, h2, hI, h]
  refine hwNE ?_
  refine HC.any rfl ?_
  refine HA.pa 0 rfl ?_
  refine HA.pa 1 rfl ?_
  refine HA.pa 2 rfl ?_
  refine HA.pa 4 rfl ?_
  refine HA.pa 5 rfl ?_
  refine HA.pa 6 rfl ?_
  refine HA.all [3, 7] (by kernel_rfl) rfl ⟨⟨_, rfl, ?_⟩, ⟨_, rfl, ?_⟩, trivial⟩
  ·refine HO.one ?_
   refine H1.ld0 rfl hd1 rfl ?_
   apply HA.fold
   refine HA.all [7] (by kernel_rfl) rfl ⟨⟨_, rfl, ?_⟩, trivial⟩
   refine HO.one ?_
   refine H1.ld0 rfl hd2 rfl ?_
   apply HA.fold
   refine HA.pa 8 rfl ?_
   refine HA.done (by kernel_rfl) ?_
   repeat' (first | apply HL.fold | apply HA.fold | apply HL.nil | apply HX.n_then | apply HC.seq | apply HC.region | refine HL.pa ?_ | refine HL.ga rfl ?_ | refine HL.na rfl ?_ | refine HL.nu rfl rfl ?_ | apply HC.block | apply HC.skip | apply HC.exit | apply HC.ret | apply HX.e_block | refine HX.e_other rfl ?_ | apply HX.e_then | apply HX.e_again | apply HX.n_block | apply HX.r_then | apply HX.r_block | apply HX.r_again | refine HC.cond_yes rfl ?_ | refine HC.cond_no rfl ?_ | refine HL.one (H1.ldb rfl memA rfl rfl ?_) | refine HC.cond rfl (fun hc => ?_) (fun hc => ?_) | refine HC.cond_b rfl (fun hc => ?_) (fun hc => ?_))
   ·exact HX.ret1 rfl rfl fun w' hM => ⟨by rw [hno hc], hM.ext⟩
   ·exact HX.again (j + 1) ⟨hlt, hyes (Decidable.not_not.1 hc)⟩ (by omega) esA (Hs.refl _)
  ·refine HO.one ?_
   refine H1.ld0 rfl hd2 rfl ?_
   apply HA.fold
   refine HA.all [3] (by kernel_rfl) rfl ⟨⟨_, rfl, ?_⟩, trivial⟩
   refine HO.one ?_
   refine H1.ld0 rfl hd1 rfl ?_
   apply HA.fold
   refine HA.pa 8 rfl ?_
   refine HA.done (by kernel_rfl) ?_
   repeat' (first | apply HL.fold | apply HA.fold | apply HL.nil | apply HX.n_then | apply HC.seq | apply HC.region | refine HL.pa ?_ | refine HL.ga rfl ?_ | refine HL.na rfl ?_ | refine HL.nu rfl rfl ?_ | apply HC.block | apply HC.skip | apply HC.exit | apply HC.ret | apply HX.e_block | refine HX.e_other rfl ?_ | apply HX.e_then | apply HX.e_again | apply HX.n_block | apply HX.r_then | apply HX.r_block | apply HX.r_again | refine HC.cond_yes rfl ?_ | refine HC.cond_no rfl ?_ | refine HL.one (H1.ldb rfl memA rfl rfl ?_) | refine HC.cond rfl (fun hc => ?_) (fun hc => ?_) | refine HC.cond_b rfl (fun hc => ?_) (fun hc => ?_))
   ·exact HX.ret1 rfl rfl fun w' hM => ⟨by rw [hno hc], hM.ext⟩
   ·exact HX.again (j + 1) ⟨hlt, hyes (Decidable.not_not.1 hc)⟩ (by omega) esA (Hs.refl _)
 obtain rfl : j = l.length := by omega
 have e1 : l = m := by rw [List.take_length, hlen, List.take_length] at hI; exact hI
 refine hwNE ?_
 exact HX.ret1 rfl rfl fun w' hM => ⟨by rw [decide_eq_true e1], hM.ext⟩
end Go.Sx
/- Chapter 24: the fixed examples of the laws: the walks. -/
namespace Go.Sx
open Go Go.Proofs Go.RowKit
def ndc5 (a b c d e : Nd) (va vb vc vd ve : Value) : List Value := ndC a va ++ ndC b vb ++ ndC c vc ++ ndC d vd ++ ndC e ve
attribute [local irreducible] WC WL WX POp Then Again Fn NX W1 WA WO QL RP RA Yld LoopAt HC HL HX HN H1 HA HO HQ HB HP A.blk A.grow A.rd A.obj A.mp AgainH CutH
attribute [local irreducible] A.mq A.mit A.all sumS
end Go.Sx
