/- Chapter 21: effect: what is in effect, by keys. -/
import Derived.Test.YtfmiakflhkpnfaaGreatDoorQT08
import Derived.Shelf.SlGeneric
import Derived.Shelf.SlSortCmp.NoneTotal
import Derived.Ground.SlsfProg
import Derived.Test.YtfmiakflhkpnfaaGreatDoorProg
namespace Go.Sx
open Go Go.Proofs Go.RowKit
def RdR (w : World) (v : Value) (l : List Rc) : Prop :=
 ∃ (a : Option Addr) (c : Nat), v = .slice a l.length c ∧ l.length ≤ c ∧ (l = [] ∨ ∃ b off, a = some ⟨b, off, none⟩ ∧ b < w.heap.size ∧ ∀ j r, l[j]? = some r → ∀ i u, (rcells r)[i]? = some u → w.cell? ⟨b, off + j * 15 + i, none⟩ = some u)
theorem RdR.ext {w w' : World} {v : Value} {l : List Rc} (h : RdR w v l) (k : Ext w w') : RdR w' v l := by
 obtain ⟨a, c, h1, h2, h3⟩ := h
 refine ⟨a, c, h1, h2, ?_⟩
 rcases h3 with h3 | ⟨b, off, h3, h5, h6⟩
 ·exact .inl h3
 ·exact .inr ⟨b, off, h3, Nat.lt_of_lt_of_le h5 k.size, fun j r hj i u hu => cell_ext k (h6 j r hj i u hu)⟩
theorem RdR.shape {w : World} {v : Value} {l : List Rc} (h : RdR w v l) : ∃ a c, v = .slice a l.length c ∧ l.length ≤ c := by
 obtain ⟨a, c, h1, h2, -⟩ := h
 exact ⟨a, c, h1, h2⟩
theorem RdR.at {w : World} {a : Option Addr} {n c : Nat} {l : List Rc} (h : RdR w (.slice a n c) l) (hne : l ≠ []) :
  ∃ b off, a = some ⟨b, off, none⟩ ∧ b < w.heap.size ∧ ∀ j r, l[j]? = some r → ∀ i u, (rcells r)[i]? = some u → w.cell? ⟨b, off + j * 15 + i, none⟩ = some u := by
 obtain ⟨a', c', h1, h2, h3⟩ := h
 cases h1
 rcases h3 with h3 | h3
 ·exact absurd h3 hne
 ·exact h3
theorem RdR.nil (w : World) (a : Option Addr) (c : Nat) : RdR w (.slice a 0 c) [] := ⟨a, c, rfl, Nat.zero_le _, .inl rfl⟩
def rcl (l : List Rc) : List Value := l.flatMap rcells
theorem rcells_len (r : Rc) : (rcells r).length = 15 := rfl
theorem rcl_len : ∀ l : List Rc, (rcl l).length = l.length * 15
 | [] => rfl
 | r :: l => by
  have := rcl_len l
  unfold rcl at this ⊢
  rw [List.flatMap_cons, List.length_append, rcells_len, this, List.length_cons]; omega
theorem rcl_one (l : List Rc) : ∀ u ∈ rcl l, u.oneCell' = true := fun u hu => by
 obtain ⟨p, -, h⟩ := List.mem_flatMap.1 hu
 exact rcells_one p u h
theorem rcl_app (l m : List Rc) : rcl (l ++ m) = rcl l ++ rcl m := by unfold rcl; rw [List.flatMap_append]
theorem rcl_get {l : List Rc} : ∀ {j : Nat} {p : Rc}, l[j]? = some p → ∀ (i : Nat) (v : Value), (rcells p)[i]? = some v → (rcl l)[j * 15 + i]? = some v := by
 induction l with
 | nil => intro j p h; simp at h
 | cons q l ih =>
  intro j p h i v hv
  have e : rcl (q :: l) = rcells q ++ rcl l := rfl
  rw [e]
  cases j with
  | zero =>
   simp only [List.getElem?_cons_zero, Option.some.injEq] at h
   subst h
   rw [Nat.zero_mul, Nat.zero_add, List.getElem?_append_left (List.getElem?_eq_some_iff.1 hv).1]
   exact hv
  | succ j =>
   rw [List.getElem?_cons_succ] at h
   have h1 := ih h i v hv
   rw [List.getElem?_append_right (by rw [rcells_len]; omega), rcells_len, show (j + 1) * 15 + i - 15 = j * 15 + i by omega]
   exact h1
theorem RdR.of_owns {w : World} {base : Nat} {e : TypeId} {v : Value} {l : List Rc} (h : w.ownsRow base e 15 v l.length (rcl l)) : RdR w v l := by
 rcases h.2 with ⟨rfl, h0⟩ | ⟨g, cap, cur, rfl, hbg, hg, hnc, hcm, hcs, htake⟩
 ·obtain rfl := List.eq_nil_of_length_eq_zero h0
  exact RdR.nil w none 0
 ·refine ⟨_, _, rfl, hnc, .inr ⟨g, 0, rfl, (Array.getElem?_eq_some_iff.1 hg).1, fun j r hj i u hu => ?_⟩⟩
  have h1 := h.cells (g := g) rfl (j * 15 + i) u (rcl_get hj i u hu)
  rw [add_lit] at h1
  rw [Nat.zero_add]
  rw [Nat.zero_add] at h1
  exact h1
theorem Mm.recs {w0 w : World} {H : List Atom} {e : TypeId} {c : Nat} {a : Option Addr} {l : List Rc} (h : Mm w0 H w) (hm : A.grow e 15 a c l.length (rcl l) ∈ H) : RdR w (.slice a l.length c) l := RdR.of_owns (h.own hm)
theorem RdR.of_blk {w : World} {b : Nat} {e : TypeId} {l : List Rc} (h : Blk w b (rcl l) e) : RdR w (.slice (some ⟨b, 0, none⟩) l.length l.length) l :=
 ⟨_, _, rfl, Nat.le_refl _, .inr ⟨b, 0, rfl, (Array.getElem?_eq_some_iff.1 h).1, fun j r hj i u hu => by rw [Nat.zero_add]; exact h.cell (rcl_get hj i u hu)⟩⟩
structure EffG (l : List Rc) (day : Int) (m : List (List UInt8 × Rc)) : Prop where
 nd : (m.map Prod.fst).Nodup
 key : ∀ p ∈ m, p.1 = keyR p.2
 mem : ∀ r, (∃ p ∈ m, p.2 = r) ↔ Top l day r ∧ r.gone = false
theorem EffM.gone {l : List Rc} {day : Int} {m m' : List (List UInt8 × Rc)} (h : EffM l day m) (hn : (m'.map Prod.fst).Nodup) (hm : ∀ p, p ∈ m' ↔ p ∈ m ∧ p.2.gone = false) : EffG l day m' := by
 refine ⟨hn, fun p hp => (h.top p ((hm p).1 hp).1).1, fun r => ⟨?_, ?_⟩⟩
 ·rintro ⟨p, hp, rfl⟩
  have := (hm p).1 hp
  exact ⟨(h.top p this.1).2, this.2⟩
 ·rintro ⟨ht, hg⟩
  obtain ⟨p, hp, rfl⟩ := (h.has r).2 ht
  exact ⟨p, (hm p).2 ⟨hp, hg⟩, rfl⟩
attribute [local irreducible] WC WL WX POp Then Again Fn NX W1 WA WO QL RP RA Yld LoopAt HC HL HX HN H1 HA HO HQ HB HP A.blk A.grow A.rd A.obj A.mp AgainH CutH
attribute [local irreducible] A.ms A.mx A.mit
set_option maxHeartbeats 2000000 in
theorem effect_fn (a : Option Addr) (c : Nat) (l : List Rc) (hl : l.length ≤ 1000000) (hok : ∀ r ∈ l, RcOk r) (day : Int) (w : World) (hR : RdR w (.slice a l.length c) l) :
  Fn Tryz.prog 21 #[.slice a l.length c, zv day] w fun v w' => ∃ z : Nat × List (List UInt8 × Rc), EffG l day z.2 ∧ v = .map (some z.1) ∧ Mm w [A.ms z.1 (liftM z.2)] w' := by
 refine enterH (l := [_, _]) rfl Tryz.ntmps21 rfl ?_
 refine hwNE ?_
 refine HL.one (H1.mkms rfl (fun b => ?_))
 refine hwNE ?_
 refine HC.loop (α := Nat × List (List UInt8 × Rc)) (fun z => [(1, zv day), (5, .map (some b)), (12, .slice a l.length c), (13, zv (l.length : Int)), (14, zv (z.1 : Int))])
  (fun z => [A.ms b (liftM z.2)]) (fun z => z.1 ≤ l.length ∧ EffM (l.take z.1) day z.2) (fun z => l.length - z.1) (0, []) ⟨Nat.zero_le _, by rw [List.take_zero]; exact EffM.nil day⟩ esA (by repeat (first | exact Hs.nil _ | (refine Hs.cons pickA ?_))) ?_
 rintro ⟨j, m⟩ ⟨hj, hI⟩
 dsimp only at hj hI ⊢
 by_cases hlt : j < l.length
 rotate_left
 ·obtain rfl : j = l.length := by omega
  rw [List.take_length] at hI
  refine hwNE ?_
  refine HL.one (H1.callk (α := List (List UInt8 × Rc)) (V := fun _ => .tuple #[]) (I := fun m' => (m'.map Prod.fst).Nodup ∧ ∀ p, p ∈ m' ↔ p ∈ m ∧ p.2.gone = false) (H' := fun m' => [A.ms b (liftM m')]) (vs := [.map (some b), fnV 58]) rfl rfl (fun w' hM => deleteFunc_fn hM hI.nd) ?_)
  rintro m' ⟨h1, h2⟩
  refine hwNE ?_
  exact HX.ret1 rfl rfl fun w' hM => ⟨(b, m'), hI.gone h1 h2, rfl, hM⟩
 obtain ⟨r, hr⟩ : ∃ r, l[j]? = some r := ⟨_, List.getElem?_eq_getElem hlt⟩
 have hrok := hok r (List.mem_of_getElem? hr)
 have htk : l.take (j + 1) = l.take j ++ [r] := by rw [List.take_add_one, hr]; rfl
 obtain ⟨bl, off, rfl, -, hcell⟩ := hR.at (fun e => by rw [e] at hlt; exact absurd hlt (Nat.not_lt_zero _))
 have hcl := hcell j r hr
 clear hcell
 refine hwNE ?_
 refine HL.one (H1.ldAggw (vs := rcells r) rfl rfl (fun w' hM i v hv => cell_ext hM.ext (hcl i v hv)) rfl ?_)
 refine hwNE ?_
 refine HL.one (H1.alloc (cs := rcells rcZ) rfl rfl (fun b7 => ?_))
 refine hwNE ?_
 refine HL.one (H1.stAgg (cs := rcells rcZ) (vs := rcells r) rfl rfl rfl (rcells_one r) rplA rfl ?_)
 refine hwNE ?_
 refine HL.one (H1.ldAgg (vs := rcells r) rfl memA rfl (fun i v hv => by rw [Nat.zero_add]; exact hv) rfl ?_)
 refine hwNE ?_
 refine HL.one (H1.callx (vs := [recV r]) rfl rfl (fun w' _ => valid_fn r hrok w') ?_)
 by_cases hv : ValidR r
 rotate_left
 ·rw [validB_no hv]
  refine hwNE ?_
  exact HX.again (j + 1, m) ⟨hlt, by show EffM (l.take (j + 1)) day m; rw [htk]; exact hI.skip fun h => hv h.1⟩ (by show l.length - (j + 1) < l.length - j; omega) esA (by repeat (first | exact Hs.nil _ | (refine Hs.cons pickA ?_)))
 rw [validB_yes hv]
 by_cases hd : day < r.day
 ·refine hwNE ?_
  exact HX.again (j + 1, m) ⟨hlt, by show EffM (l.take (j + 1)) day m; rw [htk]; exact hI.skip fun h => by have := h.2; omega⟩ (by show l.length - (j + 1) < l.length - j; omega) esA (by repeat (first | exact Hs.nil _ | (refine Hs.cons pickA ?_)))
 have hnow : Now day r := ⟨hv, by omega⟩
 refine hwNE ?_
 refine HL.one (H1.ldAgg (vs := rcells r) rfl memA rfl (fun i v hv => by rw [Nat.zero_add]; exact hv) rfl ?_)
 refine hwNE ?_
 refine HL.one (H1.callx (vs := [recV r]) rfl rfl (fun w' _ => key_fn r hrok w') ?_)
 rw [keyS_yes hv]
 refine hwNE ?_
 refine HL.one (H1.msget2 rfl rfl memA rfl ?_)
 have hget := midxS_get (liftM m) ⟨(keyR r).toArray⟩
 cases hx : midxS (liftM m) ⟨(keyR r).toArray⟩ with
 | none =>
  rw [hx, Option.map_none] at hget
  rw [← hget, Option.getD_none, Option.isSome_none]
  have hset := midxS_none (recV r) hx
  have hno := midx_lift_no hx
  refine hwNE ?_
  refine HL.one (H1.alloc (cs := rcells rcZ) rfl rfl (fun b9 => ?_))
  refine hwNE ?_
  refine HL.one (H1.stAgg (cs := rcells rcZ) (vs := rcells rcZ) rfl rfl rfl (rcells_one _) rplA rfl ?_)
  refine hwNE ?_
  refine HL.one (H1.ldAgg (vs := rcells r) rfl memA rfl (fun i v hv => by rw [Nat.zero_add]; exact hv) rfl ?_)
  refine hwNE ?_
  refine HL.one (H1.msset rfl rfl rfl rplA ?_)
  rw [hset, show liftM m ++ [((⟨(keyR r).toArray⟩ : ByteArray), recV r)] = liftM (m ++ [(keyR r, r)]) from by unfold liftM; rw [List.map_append]; rfl]
  refine hwNE ?_
  exact HX.again (j + 1, m ++ [(keyR r, r)]) ⟨hlt, by show EffM (l.take (j + 1)) day _; rw [htk]; exact hI.add hnow hno⟩ (by show l.length - (j + 1) < l.length - j; omega) esA (by repeat (first | exact Hs.nil _ | (refine Hs.cons pickA ?_)))
 | some q =>
  obtain ⟨i, u⟩ := q
  rw [hx, Option.map_some] at hget
  rw [← hget, Option.getD_some, Option.isSome_some]
  have hset := (midxS_some (recV r) hx).1
  obtain ⟨s, rfl, hs⟩ := midx_lift_some hx
  have hsm := List.mem_of_getElem? hs
  have hsok : RcOk s := hok s (List.mem_of_mem_take (hI.top _ hsm).2.mem)
  refine hwNE ?_
  refine HL.one (H1.alloc (cs := rcells rcZ) rfl rfl (fun b9 => ?_))
  refine hwNE ?_
  refine HL.one (H1.stAgg (cs := rcells rcZ) (vs := rcells s) rfl rfl rfl (rcells_one _) rplA rfl ?_)
  refine hwNE ?_
  refine HL.one (H1.ldAgg (vs := rcells r) rfl memA rfl (fun i v hv => by rw [Nat.zero_add]; exact hv) rfl ?_)
  refine hwNE ?_
  refine HL.one (H1.ldAgg (vs := rcells s) rfl memA rfl (fun i v hv => by rw [Nat.zero_add]; exact hv) rfl ?_)
  refine hwNE ?_
  refine HL.one (H1.callx (vs := [recV r, recV s]) rfl rfl (fun w' _ => prevails_fn r s hrok hsok w') ?_)
  by_cases hp : Prev r s
  ·rw [prevB_yes hp]
   refine hwNE ?_
   refine HL.one (H1.ldAgg (vs := rcells r) rfl memA rfl (fun i v hv => by rw [Nat.zero_add]; exact hv) rfl ?_)
   refine hwNE ?_
   refine HL.one (H1.msset rfl rfl rfl rplA ?_)
   rw [hset, show (liftM m).set i ((⟨(keyR r).toArray⟩ : ByteArray), recV r) = liftM (m.set i (keyR r, r)) from by unfold liftM; rw [List.map_set]]
   refine hwNE ?_
   exact HX.again (j + 1, m.set i (keyR r, r)) ⟨hlt, by show EffM (l.take (j + 1)) day _; rw [htk]; exact hI.put hnow hs hp⟩ (by show l.length - (j + 1) < l.length - j; omega) esA (by repeat (first | exact Hs.nil _ | (refine Hs.cons pickA ?_)))
  ·rw [prevB_no hp]
   refine hwNE ?_
   exact HX.again (j + 1, m) ⟨hlt, by show EffM (l.take (j + 1)) day m; rw [htk]; exact hI.keep hsm rfl hp⟩ (by show l.length - (j + 1) < l.length - j; omega) esA (by repeat (first | exact Hs.nil _ | (refine Hs.cons pickA ?_)))
end Go.Sx
/- Chapter 21: questions; conditions on records as closures; slices.ContainsFunc at records. -/
namespace Go.Sx
open Go Go.Proofs Go.RowKit
section
variable {P : Program} {r : Option Nat} {N : Nat} {ds : List Deferred} {Q : Post} {E : Env} {w0 w : World} {H : List Atom} {next : Act → World → Prop} {g : Option (Nat × Bool)}
variable {d : Nat} {t t' ty e : TypeId} {pos : String} {af : Array Edge} {x y : Operand}
def Pr (P : Program) (w : World) (fv : Value) (l : List Rc) (p : Rc → Bool) : Prop :=
 ∃ (f : FuncId) (pre cap : List Value), fv = .func (.func f) pre.toArray cap.toArray ∧ CallOk P f ∧ ∀ w', Ext w w' → ∀ r ∈ l, Fn P f (pre ++ [recV r] ++ cap).toArray w' fun v w'' => v = .bool (p r) ∧ Ext w' w''
theorem Pr.ext {w' : World} {fv : Value} {l : List Rc} {p : Rc → Bool} (h : Pr P w fv l p) (k : Ext w w') : Pr P w' fv l p := by
 obtain ⟨f, pre, cap, h1, h2, h3⟩ := h
 exact ⟨f, pre, cap, h1, h2, fun w'' hx => h3 w'' (k.trans hx)⟩
theorem W1.callvp {d : Option Nat} {x : Operand} {f : FuncId} {pre cap : List Value} {args : List Operand} {ats : Array TypeId} {ty : TypeId} {pos : String} {af : Array Edge} {g : Option (Nat × Bool)} {vs : List Value} {R : Value → World → Prop}
  (hf : CallOk P f) (hd : dOk d N = true) (hx : Env.ev E x = some (.func (.func f) pre.toArray cap.toArray)) (ha : Env.evs E args = some vs) (hc : Fn P f (pre ++ vs ++ cap).toArray w R)
  (h : ∀ v w', R v w' → NX N ds next (putE d v E) w') :
  W1 P r N ds next ⟨d, .call ⟨.value x, args.toArray, ats⟩, ty, pos, af, g⟩ Q E w :=
 W1.enter hd (fun a hr => by
  have hm : Array.map a.eval args.toArray = vs.toArray := by simp [hr.evs ha]
  simp [execOp, resolve, hm, hr.ev hx, Deferred.ofValue, invoke, hf.run]) hc h
theorem H1.callpr {d : Option Nat} {l : List Rc} {p : Rc → Bool} {fv : Value} {rc : Rc} {ats : Array TypeId} (hp : ∀ w, Mm w0 H w → Pr P w fv l p) (hl : rc ∈ l) (hd : dOk d N = true) (hx : Env.ev E x = some fv) (ha : Env.evs E [y] = some [recV rc])
  (h : HN N ds next (putE d (.bool (p rc)) E) w0 H) : H1 P r N ds next ⟨d, .call ⟨.value x, [y].toArray, ats⟩, ty, pos, af, g⟩ Q E w0 H := fun w hM => by
 obtain ⟨f, pre, cap, rfl, hf, hc⟩ := hp w hM
 exact W1.callvp hf hd hx ha (hc w (Ext.refl w) rc hl) (by
  rintro v w' ⟨rfl, hx'⟩; exact h _ (hM.more hx'))
end
abbrev qV (a b d : Int) : Value := .agg #[zv a, zv b, zv d]
def qc (a b d : Int) : List Value := [zv a, zv b, zv d]
def nowB (d : Int) (r : Rc) : Bool := decide (r.start ≤ d) && decide (d ≤ r.stop)
def aboutB (a b d : Int) (r : Rc) : Bool := decide (r.pack = a) && ((decide (r.purpose = 0) || decide (r.purpose = b)) && nowB d r)
def hasB (a b d : Int) (r : Rc) : Bool := decide (r.person = a) && (decide (r.role = b) && nowB d r)
def embB (a d : Int) (r : Rc) : Bool := decide (r.pack = a) && nowB d r
def overB (i d : Int) (x : Rc) : Bool := decide (x.party = i) && decide (x.start ≤ d)
def heldB (rel : List Rc) (a d : Int) (r : Rc) : Bool := (decide (r.pack = 0) || decide (r.pack = a)) && (nowB d r && !(rel.any (overB r.id d)))
theorem ldRec {w0 w : World} {H : List Atom} {b : Nat} {cs : List Value} (hc : ∀ i v, cs[i]? = some v → w0.cell? ⟨b, i, none⟩ = some v) (hM : Mm w0 H w) : ∀ i v, cs[i]? = some v → w.cell? ⟨b, 0 + i, none⟩ = some v := fun i v hv => by
 rw [Nat.zero_add]; exact cell_ext hM.ext (hc i v hv)
attribute [local irreducible] WC WL WX POp Then Again Fn NX W1 WA WO QL RP RA Yld LoopAt HC HL HX HN H1 HA HO HQ HB HP A.blk A.grow A.rd A.obj A.mp AgainH CutH
theorem isNow_fn (a b d : Int) (r : Rc) (w : World) : Fn Tryz.prog 72 #[qV a b d, recV r] w fun v w' => v = .bool (nowB d r) ∧ Ext w w' := by
 refine enterH (l := [_, _]) rfl Tryz.ntmps72 rfl ?_
 refine hwNE ?_
 refine HL.one (H1.boxAgg (cs := qc a b d) rfl rfl (fun b2 => ?_))
 refine hwNE ?_
 refine HL.one (H1.boxAgg (cs := rcells r) rfl rfl (fun b3 => ?_))
 by_cases h1 : r.start ≤ d
 ·refine hwNE ?_
  exact HX.ret1 rfl rfl fun w' hM => ⟨by unfold nowB; rw [decide_eq_true h1, Bool.true_and], hM.ext⟩
 ·refine hwNE ?_
  exact HX.ret1 rfl rfl fun w' hM => ⟨by unfold nowB; rw [decide_eq_false h1, Bool.false_and], hM.ext⟩
theorem id1_fn (r : Rc) (w : World) : Fn Tryz.prog 74 #[recV r] w fun v w' => v = zv r.id ∧ Ext w w' := by
 refine enterH (l := [_]) rfl Tryz.ntmps74 rfl ?_
 refine hwNE ?_
 refine HL.one (H1.boxAgg (cs := rcells r) rfl rfl (fun b1 => ?_))
 refine hwNE ?_
 exact HX.ret1 rfl rfl fun w' hM => ⟨rfl, hM.ext⟩
theorem held11_fn (x : Rc) (br bd : Nat) (i d : Int) (w : World) (hr : w.cell? ⟨br, 1, none⟩ = some (zv i)) (hd : w.cell? ⟨bd, 0, none⟩ = some (zv d)) :
  Fn Tryz.prog 71 #[recV x, .pointer (some ⟨br, 0, none⟩), .pointer (some ⟨bd, 0, none⟩)] w fun v w' => v = .bool (overB i d x) ∧ Ext w w' := by
 refine enterH (l := [_, _, _]) rfl Tryz.ntmps71 rfl ?_
 refine hwNE ?_
 refine HL.one (H1.boxAgg (cs := rcells x) rfl rfl (fun b4 => ?_))
 refine hwNE ?_
 refine HL.one (H1.ld0 rfl hr rfl ?_)
 by_cases h1 : x.party = i
 rotate_left
 ·refine hwNE ?_
  exact HX.ret1 rfl rfl fun w' hM => ⟨by unfold overB; rw [decide_eq_false h1, Bool.false_and], hM.ext⟩
 refine hwNE ?_
 refine HL.one (H1.ld0 rfl hd rfl ?_)
 refine hwNE ?_
 exact HX.ret1 rfl rfl fun w' hM => ⟨by unfold overB; rw [decide_eq_true h1, Bool.true_and], hM.ext⟩
theorem indexFunc_fn (a : Option Addr) (c : Nat) (l : List Rc) (p : Rc → Bool) (fv : Value) (hl : l.length ≤ 1000000) (w : World) (hR : RdR w (.slice a l.length c) l) (hp : Pr Tryz.prog w fv l p) :
  Fn Tryz.prog 27 #[.slice a l.length c, fv] w fun v w' => ∃ k : Int, (0 ≤ k ↔ l.any p = true) ∧ v = zv k ∧ Ext w w' := by
 refine enterH (l := [_, _]) rfl Tryz.ntmps27 rfl ?_
 refine hwNE ?_
 refine HC.loop (α := Nat) (fun j => [(0, .slice a l.length c), (1, fv), (7, zv (l.length : Int)), (8, zv (j : Int))]) (fun _ => []) (fun j => j ≤ l.length ∧ (l.take j).any p = false) (fun j => l.length - j) 0 ⟨Nat.zero_le _, rfl⟩ esA (Hs.refl _) ?_
 rintro j ⟨hj, hI⟩
 by_cases hlt : j < l.length
 ·obtain ⟨r, hr⟩ : ∃ r, l[j]? = some r := ⟨_, List.getElem?_eq_getElem hlt⟩
  have hrm := List.mem_of_getElem? hr
  have htk : l.take (j + 1) = l.take j ++ [r] := by rw [List.take_add_one, hr]; rfl
  obtain ⟨bl, off, rfl, -, hcell⟩ := hR.at (fun e => by rw [e] at hlt; exact absurd hlt (Nat.not_lt_zero _))
  have hcl := hcell j r hr
  clear hcell
  refine hwNE ?_
  refine HL.one (H1.ldAggw (vs := rcells r) rfl rfl (fun w' hM i v hv => cell_ext hM.ext (hcl i v hv)) rfl ?_)
  refine hwNE ?_
  refine HL.one (H1.callpr (y := .tmp 15) (fun w' hM => hp.ext hM.ext) hrm rfl rfl rfl ?_)
  cases hpr : p r
  ·refine hwNE ?_
   exact HX.again (j + 1) ⟨hlt, by rw [htk, List.any_append, hI]; simp [hpr]⟩ (by omega) esA (Hs.refl _)
  ·refine hwNE ?_
   exact HX.ret1 rfl rfl fun w' hM => ⟨j, ⟨fun _ => List.any_eq_true.2 ⟨r, hrm, hpr⟩, fun _ => Int.natCast_nonneg j⟩, rfl, hM.ext⟩
 obtain rfl : j = l.length := by omega
 rw [List.take_length] at hI
 refine hwNE ?_
 exact HX.ret1 rfl rfl fun w' hM => ⟨-1, ⟨fun h => absurd h (by decide), fun h => by rw [hI] at h; cases h⟩, rfl, hM.ext⟩
theorem containsFunc_fn (a : Option Addr) (c : Nat) (l : List Rc) (p : Rc → Bool) (fv : Value) (hl : l.length ≤ 1000000) (w : World) (hR : RdR w (.slice a l.length c) l) (hp : Pr Tryz.prog w fv l p) :
  Fn Tryz.prog 73 #[.slice a l.length c, fv] w fun v w' => v = .bool (l.any p) ∧ Ext w w' := by
 refine enterH (l := [_, _]) rfl Tryz.ntmps73 rfl ?_
 refine hwNE ?_
 refine HL.one (H1.callp (α := Int) (V := zv) (I := fun k => 0 ≤ k ↔ l.any p = true) (vs := [.slice a l.length c, fv]) rfl rfl (fun w' hM => indexFunc_fn a c l p fv hl w' (hR.ext hM.ext) (hp.ext hM.ext)) ?_)
 intro k hk
 refine hwNE ?_
 exact HX.ret1 rfl rfl fun w' hM => ⟨congrArg Value.bool (by rw [Bool.eq_iff_iff, decide_eq_true_eq]; exact hk), hM.ext⟩
end Go.Sx
/- Chapter 21: numbers, sorted, each once: slices.Sort, slices.Compact; a range over those that satisfy a condition. -/
namespace Go.Sx
open Go Go.Proofs Go.RowKit
section
variable {P : Program} {N : Nat} {E : Env} {w0 : World} {H H' : List Atom}
theorem run_loadVar1 {w : World} {t : TypeId} {a : Addr} {v : Value} [ha : ATy P t false] (hc : w.cell? a = some v) : (loadVar t a).run P w = .ok v w := by
 simp only [loadVar, Sem.run_bind]
 simp [run_isAgg, hc, Result.andThen]
theorem HX.retMc1 {fn : Func} {p b D : Nat} {ty e : TypeId} {v : Value} {R : Value → World → Prop} [ha : ATy P ty false] (hr : fn.results = #[.cell p ty]) (hp : Env.g E p = some (.pointer (some ⟨b, 0, none⟩)))
  (hm : Pick (A.dfr D) H H') (hb : A.blk b [v] e ∈ H') (h : ∀ w, Mm w0 H' w → R v w) : HX N [markOf D] .ret (bodyPostM Fence.wide 0 P fn (RetP R)) E w0 H := fun w hM a ha' => by
 have hpm := hM.perm hm.perm
 obtain ⟨o, hD, rfl⟩ : ∃ o, w.heap[D]? = some o ∧ o = .deferred (some []) := hpm.all (A.dfr D) (List.Mem.head _)
 simp only [bodyPostM, ha'.defers]
 refine ⟨by simp, .inl ⟨D, _, rfl, run_takeDeferred hD, ?_⟩⟩
 have hM2 := hpm.drop1 (l := D) rfl (Upd1.put w D (.deferred none))
 have e1 : a.tmps.getD p undef = .pointer (some ⟨b, 0, none⟩) := by rw [Array.getD_eq_getD_getElem?, ha'.get _ _ hp]; rfl
 have e1' : a.tmps[p]?.getD undef = .pointer (some ⟨b, 0, none⟩) := by simpa using e1
 refine ⟨_, ?_, _, rfl, h _ hM2⟩
 have := run_loadVar1 (P := P) (t := ty) ((hM2.blk hb).cell (i := 0) rfl)
 simp [results, hr, e1', asAddr, this]
end
attribute [local irreducible] WC WL WX POp Then Again Fn NX W1 WA WO QL RP RA Yld LoopAt HC HL HX HN H1 HA HO HQ HB HP A.blk A.grow A.rd A.obj A.mp AgainH CutH
attribute [local irreducible] A.dfr A.loop
theorem those_fn (a : Option Addr) (n c : Nat) (f : FuncId) (pre cap : List Value) (w : World) : Fn Tryz.prog 69 #[.slice a n c, .func (.func f) pre.toArray cap.toArray] w fun v w' => ∃ z : Nat × Nat, True ∧ v = .func (.func 141) #[] #[.pointer (some ⟨z.1, 0, none⟩), .pointer (some ⟨z.2, 0, none⟩)] ∧
  Mm w [A.blk z.2 [.func (.func f) pre.toArray cap.toArray] 82, A.blk z.1 [.slice a n c] 30] w' := by
 refine enterH (l := [_, _]) rfl Tryz.ntmps69 rfl ?_
 refine hwNE ?_
 refine HL.one (H1.box rfl rfl rfl (fun b2 => ?_))
 refine hwNE ?_
 refine HL.one (H1.box rfl rfl rfl (fun b3 => ?_))
 refine hwNE ?_
 exact HX.ret1 rfl rfl fun w' hM => ⟨(b2, b3), trivial, rfl, hM⟩
theorem those1_fn {w0 : World} {β : Type} {G : List Rc → β → List Atom} {l b2 b3 : Nat} {L : List Rc} {p : Rc → Bool} {a : Option Addr} {c : Nat} {fv : Value} (hl : L.length ≤ 1000000) (hR : RdR w0 (.slice a L.length c) L) (hp : Pr Tryz.prog w0 fv L p)
  (h2 : w0.cell? ⟨b2, 0, none⟩ = some (.slice a L.length c)) (h3 : w0.cell? ⟨b3, 0, none⟩ = some fv)
  (hy : ∀ (F : List Rc) (r : Rc) (x : β), r ∈ L → F.length < L.length → ∀ w, Mm w0 (G F x) w → Yld Tryz.prog l [recV r] w fun b w' => b = true ∧ ∃ x' : β, True ∧ Mm w0 (G (F ++ [r]) x') w') (x0 : β) :
  ∀ w, Mm w0 (G [] x0) w → Fn Tryz.prog 141 (.func (.yield l) #[] #[] :: [.pointer (some ⟨b2, 0, none⟩), .pointer (some ⟨b3, 0, none⟩)]).toArray w fun _ w' => ∃ x : β, True ∧ Mm w0 (G (L.filter p) x) w' := by
 intro w hM
 refine enterK (l := [_, _, _]) hM rfl Tryz.ntmps141 rfl ?_
 refine hwNE ?_
 refine HL.one (H1.ld0 rfl h2 rfl ?_)
 refine hwNE ?_
 refine HC.loop (α := Nat × β) (fun z => [(0, .func (.yield l) #[] #[]), (2, .pointer (some ⟨b3, 0, none⟩)), (6, .slice a L.length c), (7, zv (L.length : Int)), (8, zv (z.1 : Int))]) (fun z => G ((L.take z.1).filter p) z.2)
  (fun z => z.1 ≤ L.length) (fun z => L.length - z.1) (0, x0) (Nat.zero_le _) esA (Hs.refl _) ?_
 rintro ⟨j, x⟩ hj
 dsimp only at hj ⊢
 by_cases hlt : j < L.length
 rotate_left
 ·obtain rfl : j = L.length := by omega
  rw [List.take_length]
  refine hwNE ?_
  exact HX.end0 rfl fun w' hM => ⟨x, trivial, hM⟩
 obtain ⟨r, hr⟩ : ∃ r, L[j]? = some r := ⟨_, List.getElem?_eq_getElem hlt⟩
 have hrm := List.mem_of_getElem? hr
 have htk : (L.take (j + 1)).filter p = (L.take j).filter p ++ (if p r = true then [r] else []) := by
  rw [List.take_add_one, hr, List.filter_append]
  congr 1
  show [r].filter p = _
  rw [List.filter_cons, List.filter_nil]
 have hfl : ((L.take j).filter p).length < L.length := by
  have h1 := List.length_filter_le p (L.take j)
  rw [List.length_take] at h1
  omega
 obtain ⟨bl, off, rfl, -, hcell⟩ := hR.at (fun e => by rw [e] at hlt; exact absurd hlt (Nat.not_lt_zero _))
 have hcl := hcell j r hr
 clear hcell
 refine hwNE ?_
 refine HL.one (H1.ldAggw (vs := rcells r) rfl rfl (fun w' hM i v hv => cell_ext hM.ext (hcl i v hv)) rfl ?_)
 refine hwNE ?_
 refine HL.one (H1.alloc (cs := rcells rcZ) rfl rfl (fun b5 => ?_))
 refine hwNE ?_
 refine HL.one (H1.stAgg (cs := rcells rcZ) (vs := rcells r) rfl rfl rfl (rcells_one r) Rpl.here rfl ?_)
 refine hwNE ?_
 refine HL.one (H1.ld0 rfl h3 rfl ?_)
 refine hwNE ?_
 refine HL.one (H1.ldAgg (vs := rcells r) rfl (.head _) rfl (fun i v hv => by rw [Nat.zero_add]; exact hv) rfl ?_)
 refine hwNE ?_
 refine HL.one (H1.callpr (y := .tmp 13) (fun w' hM => hp.ext hM.ext) hrm rfl rfl rfl ?_)
 cases hpr : p r
 ·rw [hpr, if_neg Bool.false_ne_true, List.append_nil] at htk
  rw [← htk]
  refine hwNE ?_
  exact HX.again (j + 1, x) hlt (by show L.length - (j + 1) < L.length - j; omega) esA (Hs.refl _).skip
 ·rw [hpr, if_pos rfl] at htk
  refine hwNE ?_
  refine HL.one (H1.ldAgg (vs := rcells r) rfl (.head _) rfl (fun i v hv => by rw [Nat.zero_add]; exact hv) rfl ?_)
  refine hwNE ?_
  refine HL.one (H1.yield (α := β) (Hz := fun x' => G ((L.take j).filter p ++ [r]) x') (I := fun _ => True) (vs := [recV r]) rfl rfl rfl (fun w' hM => hy _ r x hrm hfl w' hM.tail) ?_)
  intro x' _
  rw [← htk]
  refine hwNE ?_
  exact HX.again (j + 1, x') hlt (by show L.length - (j + 1) < L.length - j; omega) esA (Hs.refl _)
set_option maxHeartbeats 1000000 in
theorem numbers_fn (f : Rc → Int) (g : FuncId) (hg : CallOk Tryz.prog g) (hgf : ∀ r w, Fn Tryz.prog g #[recV r] w fun v w' => v = zv (f r) ∧ Ext w w') {L : List Rc} {p : Rc → Bool} {a : Option Addr} {c b2 b3 : Nat} {fv : Value} (w : World) (hl : L.length ≤ 1000000) (hR : RdR w (.slice a L.length c) L) (hp : Pr Tryz.prog w fv L p)
  (h2 : w.cell? ⟨b2, 0, none⟩ = some (.slice a L.length c)) (h3 : w.cell? ⟨b3, 0, none⟩ = some fv) :
  Fn Tryz.prog 68 #[.func (.func 141) #[] #[.pointer (some ⟨b2, 0, none⟩), .pointer (some ⟨b3, 0, none⟩)], fnV g] w fun v w' => ∃ z : Option Addr × Nat, True ∧ v = .slice z.1 (numL ((L.filter p).map f)).length z.2 ∧ Mm w [A.grow 3 1 z.1 z.2 (numL ((L.filter p).map f)).length (ints (numL ((L.filter p).map f)))] w' := by
 refine enterMH (l := [_, _]) rfl Tryz.ntmps68 rfl ?_
 refine hwNE ?_
 refine HL.one (H1.box rfl rfl rfl (fun b3' => ?_))
 refine hwNE ?_
 refine HL.one (H1.alloc (cs := [.slice none 0 0]) rfl rfl (fun b4 => ?_))
 refine hwNE ?_
 refine HC.grow0 3 1 ?_
 refine HC.sub [(3, .pointer (some ⟨b3', 0, none⟩)), (4, .pointer (some ⟨b4, 0, none⟩)), (6, .func (.func 141) #[] #[.pointer (some ⟨b2, 0, none⟩), .pointer (some ⟨b3, 0, none⟩)])]
  [A.blk b3' [fnV g] 77, A.blk b4 [.slice none 0 0] 37, A.grow 3 1 none 0 0 []] ?_ esA (by repeat (first | exact Hs.nil _ | (refine Hs.cons pickA ?_)))
 refine HC.rangeFunc (α := Option Addr × Nat) (lb := [.pointer (some ⟨b2, 0, none⟩), .pointer (some ⟨b3, 0, none⟩)]) (fun q => [A.blk b3' [fnV g] 77, A.blk b4 [.slice q.1 ((L.filter p).map f).length q.2] 37, A.grow 3 1 q.1 q.2 ((L.filter p).map f).length (ints ((L.filter p).map f))]) (fun _ => True) rfl ?_ ?_
 ·intro D l LL hL w1 hM1
  refine those1_fn (β := Option Addr × Nat) (G := fun F q => LL .ready none :: A.dfr D :: [A.blk b3' [fnV g] 77, A.blk b4 [.slice q.1 (F.map f).length q.2] 37, A.grow 3 1 q.1 q.2 (F.map f).length (ints (F.map f))]) hl hR hp h2 h3 ?_ (none, 0) w1 hM1
  rintro F r ⟨a1, c1⟩ hr hF
  have hmap : (F ++ [r]).map f = F.map f ++ [f r] := by rw [List.map_append]; rfl
  rw [hmap]
  have hFl : (F.map f).length + 1 ≤ 1000000 := by rw [List.length_map]; omega
  generalize F.map f = xs at hFl ⊢
  refine Yld.ofH hL memA rfl rfl ?_
  dsimp only [List.zip_cons_cons, List.zip_nil_right, putAll]
  refine hwNE ?_
  refine HL.one (H1.alloc (cs := rcells rcZ) rfl rfl (fun b5 => ?_))
  refine hwNE ?_
  refine HL.one (H1.stAgg (cs := rcells rcZ) (vs := rcells r) rfl rfl rfl (rcells_one r) Rpl.here rfl ?_)
  refine hwNE ?_
  refine HX.ra hL rplA ?_
  refine hwNE ?_
  refine HC.anyCR ([(⟨b3', 0, none⟩, fnV g)]) rfl ?_
  refine HB.ld 1 rfl rfl memD ?_
  refine HB.all keepA [0, 2] (by kernel_rfl) rfl ⟨⟨_, rfl, ?_⟩, ⟨_, rfl, ?_⟩, trivial⟩
  ·refine HP.one ?_
   refine H1.ldb (v := .slice a1 xs.length c1) (cs := [.slice a1 xs.length c1]) rfl memA rfl rfl ?_
   apply HB.fold
   refine HB.all keepA [2] (by kernel_rfl) rfl ⟨⟨_, rfl, ?_⟩, trivial⟩
   refine HP.one ?_
   refine H1.ldAgg (vs := rcells r) rfl memA rfl (fun i v hv => by rw [Nat.zero_add]; exact hv) rfl ?_
   apply HB.fold
   refine HB.all keepA [3] (by kernel_rfl) rfl ⟨⟨_, rfl, ?_⟩, trivial⟩
   refine HP.one ?_
   refine H1.callv0 (hf := hg) (f := g) (cap := []) (vs := [recV r]) rfl rfl rfl (fun w' _ => call1 (hgf r w')) ?_
   apply HB.fold
   refine HB.all keepA [4] (by kernel_rfl) rfl ⟨⟨_, rfl, ?_⟩, trivial⟩
   refine HP.one ?_
   refine H1.lit (cs := [zv (f r)]) rfl rfl rfl rfl rfl rfl (fun b8 => ?_)
   apply HB.fold
   refine HB.all keepA [5] (by kernel_rfl) rfl ⟨⟨_, rfl, ?_⟩, trivial⟩
   refine HP.one ?_
   refine H1.app1 (u := zv (f r)) rfl rfl (fun _ _ => by first | ((repeat (first | with_reducible exact Rpl.here | with_reducible apply Rpl.there)); done) | (repeat (first | exact Rpl.here | apply Rpl.there))) memA rfl rfl hFl rfl rfl (fun a' c' => ?_)
   apply HB.fold
   refine HB.all keepA [6] (by kernel_rfl) rfl ⟨⟨_, rfl, ?_⟩, trivial⟩
   refine HP.one ?_
   refine H1.st (b := b4) rfl rfl (by intro _ h; cases h) (by intro _ h; cases h) rplA (by exact Nat.zero_lt_one) ?_
   apply HB.fold
   refine HB.done keepA (by kernel_rfl) ?_
   refine hwNE ?_
   refine HX.rp_n hL rplA fun w' hM => ⟨rfl, (some ⟨a', 0, none⟩, c'), trivial, ?_⟩
   dsimp only
   rw [List.length_append, ints_app]
   exact hM.sub (by repeat (first | exact Hs.nil _ | (refine Hs.cons pickA ?_)))
  ·refine HP.one ?_
   refine H1.ldAgg (vs := rcells r) rfl memA rfl (fun i v hv => by rw [Nat.zero_add]; exact hv) rfl ?_
   apply HB.fold
   refine HB.all keepA [0, 3] (by kernel_rfl) rfl ⟨⟨_, rfl, ?_⟩, ⟨_, rfl, ?_⟩, trivial⟩
   ·refine HP.one ?_
    refine H1.ldb (v := .slice a1 xs.length c1) (cs := [.slice a1 xs.length c1]) rfl memA rfl rfl ?_
    apply HB.fold
    refine HB.all keepA [3] (by kernel_rfl) rfl ⟨⟨_, rfl, ?_⟩, trivial⟩
    refine HP.one ?_
    refine H1.callv0 (hf := hg) (f := g) (cap := []) (vs := [recV r]) rfl rfl rfl (fun w' _ => call1 (hgf r w')) ?_
    apply HB.fold
    refine HB.all keepA [4] (by kernel_rfl) rfl ⟨⟨_, rfl, ?_⟩, trivial⟩
    refine HP.one ?_
    refine H1.lit (cs := [zv (f r)]) rfl rfl rfl rfl rfl rfl (fun b8 => ?_)
    apply HB.fold
    refine HB.all keepA [5] (by kernel_rfl) rfl ⟨⟨_, rfl, ?_⟩, trivial⟩
    refine HP.one ?_
    refine H1.app1 (u := zv (f r)) rfl rfl (fun _ _ => by first | ((repeat (first | with_reducible exact Rpl.here | with_reducible apply Rpl.there)); done) | (repeat (first | exact Rpl.here | apply Rpl.there))) memA rfl rfl hFl rfl rfl (fun a' c' => ?_)
    apply HB.fold
    refine HB.all keepA [6] (by kernel_rfl) rfl ⟨⟨_, rfl, ?_⟩, trivial⟩
    refine HP.one ?_
    refine H1.st (b := b4) rfl rfl (by intro _ h; cases h) (by intro _ h; cases h) rplA (by exact Nat.zero_lt_one) ?_
    apply HB.fold
    refine HB.done keepA (by kernel_rfl) ?_
    refine hwNE ?_
    refine HX.rp_n hL rplA fun w' hM => ⟨rfl, (some ⟨a', 0, none⟩, c'), trivial, ?_⟩
    dsimp only
    rw [List.length_append, ints_app]
    exact hM.sub (by repeat (first | exact Hs.nil _ | (refine Hs.cons pickA ?_)))
   ·refine HP.one ?_
    refine H1.callv0 (hf := hg) (f := g) (cap := []) (vs := [recV r]) rfl rfl rfl (fun w' _ => call1 (hgf r w')) ?_
    apply HB.fold
    refine HB.all keepA [0, 4] (by kernel_rfl) rfl ⟨⟨_, rfl, ?_⟩, ⟨_, rfl, ?_⟩, trivial⟩
    ·refine HP.one ?_
     refine H1.ldb (v := .slice a1 xs.length c1) (cs := [.slice a1 xs.length c1]) rfl memA rfl rfl ?_
     apply HB.fold
     refine HB.all keepA [4] (by kernel_rfl) rfl ⟨⟨_, rfl, ?_⟩, trivial⟩
     refine HP.one ?_
     refine H1.lit (cs := [zv (f r)]) rfl rfl rfl rfl rfl rfl (fun b8 => ?_)
     apply HB.fold
     refine HB.all keepA [5] (by kernel_rfl) rfl ⟨⟨_, rfl, ?_⟩, trivial⟩
     refine HP.one ?_
     refine H1.app1 (u := zv (f r)) rfl rfl (fun _ _ => by first | ((repeat (first | with_reducible exact Rpl.here | with_reducible apply Rpl.there)); done) | (repeat (first | exact Rpl.here | apply Rpl.there))) memA rfl rfl hFl rfl rfl (fun a' c' => ?_)
     apply HB.fold
     refine HB.all keepA [6] (by kernel_rfl) rfl ⟨⟨_, rfl, ?_⟩, trivial⟩
     refine HP.one ?_
     refine H1.st (b := b4) rfl rfl (by intro _ h; cases h) (by intro _ h; cases h) rplA (by exact Nat.zero_lt_one) ?_
     apply HB.fold
     refine HB.done keepA (by kernel_rfl) ?_
     refine hwNE ?_
     refine HX.rp_n hL rplA fun w' hM => ⟨rfl, (some ⟨a', 0, none⟩, c'), trivial, ?_⟩
     dsimp only
     rw [List.length_append, ints_app]
     exact hM.sub (by repeat (first | exact Hs.nil _ | (refine Hs.cons pickA ?_)))
    ·refine HP.one ?_
     refine H1.lit (cs := [zv (f r)]) rfl rfl rfl rfl rfl rfl (fun b8 => ?_)
     apply HB.fold
     refine HB.all keepA [0] (by kernel_rfl) rfl ⟨⟨_, rfl, ?_⟩, trivial⟩
     refine HP.one ?_
     refine H1.ldb (v := .slice a1 xs.length c1) (cs := [.slice a1 xs.length c1]) rfl memA rfl rfl ?_
     apply HB.fold
     refine HB.all keepA [5] (by kernel_rfl) rfl ⟨⟨_, rfl, ?_⟩, trivial⟩
     refine HP.one ?_
     refine H1.app1 (u := zv (f r)) rfl rfl (fun _ _ => by first | ((repeat (first | with_reducible exact Rpl.here | with_reducible apply Rpl.there)); done) | (repeat (first | exact Rpl.here | apply Rpl.there))) memA rfl rfl hFl rfl rfl (fun a' c' => ?_)
     apply HB.fold
     refine HB.all keepA [6] (by kernel_rfl) rfl ⟨⟨_, rfl, ?_⟩, trivial⟩
     refine HP.one ?_
     refine H1.st (b := b4) rfl rfl (by intro _ h; cases h) (by intro _ h; cases h) rplA (by exact Nat.zero_lt_one) ?_
     apply HB.fold
     refine HB.done keepA (by kernel_rfl) ?_
     refine hwNE ?_
     refine HX.rp_n hL rplA fun w' hM => ⟨rfl, (some ⟨a', 0, none⟩, c'), trivial, ?_⟩
     dsimp only
     rw [List.length_append, ints_app]
     exact hM.sub (by repeat (first | exact Hs.nil _ | (refine Hs.cons pickA ?_)))
 ·rintro D ⟨a1, c1⟩ -
  dsimp only
  have hxl : ((L.filter p).map f).length ≤ 1000000 := by
   rw [List.length_map]
   have := List.length_filter_le p L
   omega
  generalize (L.filter p).map f = xs at hxl ⊢
  refine hwNE ?_
  refine HL.one (H1.callk (α := Unit) (V := fun _ => .tuple #[]) (I := fun _ => True) (H' := fun _ => [A.dfr D, A.blk b3' [fnV g] 77, A.blk b4 [.slice a1 xs.length c1] 37, A.grow 3 1 a1 c1 xs.length (ints (srtI xs))]) (vs := [.slice a1 xs.length c1]) rfl rfl (fun w' hM => (sortI_fn hM rplA hxl).mono fun v w' h => ⟨(), trivial, h⟩) ?_)
  rintro - -
  refine hwNE ?_
  have hsl := srtI_len xs
  refine HL.one (H1.callk (α := Unit) (V := fun _ => .slice a1 (numL xs).length c1) (I := fun _ => True) (H' := fun _ => [A.dfr D, A.blk b3' [fnV g] 77, A.blk b4 [.slice a1 xs.length c1] 37, A.grow 3 1 a1 c1 (numL xs).length (ints (numL xs))]) (vs := [.slice a1 xs.length c1]) rfl rfl (fun w' hM => by
   have h := compactI_fn (l := srtI xs) (a := a1) (c := c1) (H' := [A.dfr D, A.blk b3' [fnV g] 77, A.blk b4 [.slice a1 xs.length c1] 37, A.grow 3 1 a1 c1 (numL xs).length (ints (numL xs))]) (by rw [← hsl] at hM; exact hM) (by rw [hsl]; unfold numL; first | ((repeat (first | with_reducible exact Rpl.here | with_reducible apply Rpl.there)); done) | (repeat (first | exact Rpl.here | apply Rpl.there))) (by omega)
   rw [hsl] at h
   exact h.mono fun v w' h => ⟨(), trivial, h⟩) ?_)
  rintro - -
  refine hwNE ?_
  refine HL.one (H1.st (b := b4) rfl rfl (by intro _ h; cases h) (by intro _ h; cases h) rplA (by exact Nat.zero_lt_one) ?_)
  refine hwNE ?_
  exact HX.retMc1 (b := b4) rfl rfl Pick.here memA fun w' hM => ⟨(a1, c1), trivial, rfl, hM.sub (by repeat (first | exact Hs.nil _ | (refine Hs.cons pickA ?_)))⟩
end Go.Sx
/- Chapter 21: the lists of a base. -/
namespace Go.Sx
open Go Go.Proofs Go.RowKit
theorem POp.idxArr {P : Program} {N : Nat} {ds : List Deferred} {E : Env} {t ty : TypeId} {x y : Operand} {len : Nat} {e : TypeId} {z v : Value} {bb i : Nat} {cs : List Value} {k : IntKind} {n : Int} [h : UTy P t (.array len e)] [hi : ITy P e z 1 bb] [ha' : ATy P e false]
  (hx : Env.ev E x = some (.agg cs.toArray)) (hy : Env.ev E y = some (.int k n)) (en : n = (i : Int)) (hv : cs[i]? = some v) (hl : i < len) : POp P N ds E (.index t x y) ty v := fun ac ha d pos af g w => by
 subst en
 have h2 : 0 ≤ (i : Int) ∧ (i : Int) < (len : Int) := by omega
 simp [execOp, ha.ev hx, ha.ev hy, Instr.index, asIntOf, run_underlying h.is, Sem.run_bind, run_sizeOf, hl, part, run_isAgg, hv, Result.andThen]
def numK (r : Rc) : Int := if r.kind = 2 then r.clause else if r.kind = 6 then r.party else r.id
theorem numK_numR (r : Rc) : numK r = numR r := by
 unfold numK numR keyF
 split
 ·rfl
 ·split <;> rfl
abbrev ptrs (b : Nat) : List Value := [.pointer none, .pointer (some ⟨b, 0, none⟩), .pointer (some ⟨b, 1, none⟩), .pointer (some ⟨b, 2, none⟩), .pointer (some ⟨b, 3, none⟩), .pointer (some ⟨b, 4, none⟩), .pointer (some ⟨b, 5, none⟩), .pointer (some ⟨b, 6, none⟩), .pointer (some ⟨b, 7, none⟩)]
theorem ptrs_at (b : Nat) {i : Nat} (h : i < 8) : (ptrs b)[i + 1]? = some (.pointer (some ⟨b, i, none⟩)) := by
 rcases (show i = 0 ∨ i = 1 ∨ i = 2 ∨ i = 3 ∨ i = 4 ∨ i = 5 ∨ i = 6 ∨ i = 7 by omega) with rfl | rfl | rfl | rfl | rfl | rfl | rfl | rfl <;> rfl
attribute [local irreducible] WC WL WX POp Then Again Fn NX W1 WA WO QL RP RA Yld LoopAt HC HL HX HN H1 HA HO HQ HB HP A.blk A.grow A.rd A.obj A.mp AgainH CutH
theorem list_fn (b i : Nat) (hi : i < 8) (w : World) : Fn Tryz.prog 22 #[.pointer (some ⟨b, 0, none⟩), zv ((i : Int) + 1)] w fun v w' => v = .pointer (some ⟨b, i, none⟩) ∧ Ext w w' := by
 refine enterH (l := [_, _]) rfl Tryz.ntmps22 rfl ?_
 have hp := ptrs_at b hi
 refine hwNE ?_
 refine HC.quietS [(some 5, [0], []), (some 6, [5], [0]), (some 7, [6], [1]), (some 8, [0], []), (some 9, [8], [3]), (some 10, [9], [4]), (some 11, [0], []), (some 12, [11], [6]), (some 13, [12], [7]), (some 14, [0], []), (some 15, [14], [9]), (some 16, [15], [10]), (some 17, [0], []), (some 18, [17], [12]), (some 19, [18], [13]), (some 20, [0], []), (some 21, [20], [15]), (some 22, [21], [16]), (some 23, [0], []), (some 24, [23], [18]), (some 25, [24], [19]), (some 26, [0], []), (some 27, [26], [21]), (some 28, [27], [22]), (some 29, [7, 10, 13, 16, 19, 22, 25, 28], [2, 5, 8, 11, 14, 17, 20, 23]), (some 30, [1], []), (some 31, [29, 30], [24, 25]), (some 4, [31], [26, 0, 1, 2, 3, 4, 5, 6, 7, 8, 9, 10, 11, 12, 13, 14, 15, 16, 17, 18, 19, 20, 21, 22, 23, 24, 25, 26])] (by kernel_rfl) (by kernel_rfl) (by kernel_rfl) ?_
 refine qwA ?_
 refine HQ.pa ?_ (POp.nilCheck rfl)
 refine qwA ?_
 refine HQ.pa ?_ (POp.nilCheck rfl)
 refine qwA ?_
 refine HQ.pa ?_ (POp.nilCheck rfl)
 refine qwA ?_
 refine HQ.pa ?_ (POp.nilCheck rfl)
 refine qwA ?_
 refine HQ.pa ?_ (POp.nilCheck rfl)
 refine qwA ?_
 refine HQ.pa ?_ (POp.nilCheck rfl)
 refine qwA ?_
 refine HQ.pa ?_ (POp.nilCheck rfl)
 refine qwA ?_
 refine HQ.pa ?_ (POp.nilCheck rfl)
 refine qwA ?_
 refine HQ.pa ?_ (POp.build (cs := ptrs b) rfl rfl)
 refine qwA ?_
 refine HQ.pa ?_ (POp.idxArr (cs := ptrs b) (i := i + 1) rfl rfl (by push_cast; rfl) hp (by omega))
 refine qwA ?_
 refine HQ.nil ?_
 refine hwNE ?_
 exact HX.ret1 rfl rfl fun w' hM => ⟨rfl, hM.ext⟩
end Go.Sx
/-
 DERIVED: THE SHELF's CONTRACTS AT THIS DUMP, IN PLAIN WORDS (tools/lay-plain.mjs out of 'TryzShelf2.lean', which tools/lay-shelf.mjs wrote): THE SAME DECLARATIONS UNDER THE SAME NAMES: 'import', 'namespace', 'open', 'def', 'theorem' AND NOTHING ELSE: no command of the shelf's: FOR A HAND-IN. Each laying: the table of numbers ('.._ren') and one theorem, a field a fact of the dump's own or the kernel's comparison; each contract: ONE APPLICATION.
-/
namespace Go.Proofs
open Go.Shelf
def Tryz.sortR_ren : Go.Shelf.Ren := ⟨fun | 6 => 23 | 15 => 60 | 14 => 59 | 28 => 132 | 29 => 133 | 20 => 124 | 21 => 125 | 22 => 126 | 23 => 127 | 24 => 128 | 25 => 129 | 26 => 130 | 27 => 131 | 46 => 195 | 47 => 196 | 48 => 197 | 49 => 198 | 50 => 199 | 57 => 228 | n => n, fun | 22 => 30 | 24 => 33 | 25 => 78 | 3 => 3 | 39 => 130 | 0 => 0 | 53 => 126 | 55 => 181 | 4 => 4 | 46 => 197 | 45 => 196 | 50 => 55 | 5 => 5 | 9 => 9 | 66 => 251 | 70 => 191 | 76 => 284 | 77 => 68 | n => n, fun | n => n⟩
theorem Tryz.sortR : Go.Proofs.SlLaysF0.n6 Tryz.prog Tryz.sortR_ren := {
 mixed := by kernel_rfl
 f6 := ⟨Tryz.f23.name, by decide, Tryz.func23.trans (congrArg some (by kernel_rfl))⟩
 f14 := ⟨Tryz.f59.name, by decide, Tryz.func59.trans (congrArg some (by kernel_rfl))⟩
 f15 := Tryz.func60.trans (congrArg some (by kernel_rfl))
 f20 := ⟨Tryz.f124.name, by decide, Tryz.func124.trans (congrArg some (by kernel_rfl))⟩
 f21 := ⟨Tryz.f125.name, by decide, Tryz.func125.trans (congrArg some (by kernel_rfl))⟩
 f22 := ⟨Tryz.f126.name, by decide, Tryz.func126.trans (congrArg some (by kernel_rfl))⟩
 f23 := ⟨Tryz.f127.name, by decide, Tryz.func127.trans (congrArg some (by kernel_rfl))⟩
 f24 := ⟨Tryz.f128.name, by decide, Tryz.func128.trans (congrArg some (by kernel_rfl))⟩
 f25 := ⟨Tryz.f129.name, by decide, Tryz.func129.trans (congrArg some (by kernel_rfl))⟩
 f26 := ⟨Tryz.f130.name, by decide, Tryz.func130.trans (congrArg some (by kernel_rfl))⟩
 f27 := ⟨Tryz.f131.name, by decide, Tryz.func131.trans (congrArg some (by kernel_rfl))⟩
 f28 := Tryz.func132.trans (congrArg some (by kernel_rfl))
 f29 := Tryz.func133.trans (congrArg some (by kernel_rfl))
 f46 := ⟨Tryz.f195.name, by decide, Tryz.func195.trans (congrArg some (by kernel_rfl))⟩
 f47 := Tryz.func196.trans (congrArg some (by kernel_rfl))
 f48 := Tryz.func197.trans (congrArg some (by kernel_rfl))
 f49 := ⟨Tryz.f198.name, by decide, Tryz.func198.trans (congrArg some (by kernel_rfl))⟩
 f50 := ⟨Tryz.f199.name, by decide, Tryz.func199.trans (congrArg some (by kernel_rfl))⟩
 f57 := ⟨Tryz.f228.name, by decide, Tryz.func228.trans (congrArg some (by kernel_rfl))⟩
 t0 := Tryz.underlying0
 a0 := Tryz.isAgg0
 z0 := Tryz.sizeOf0
 v0 := Tryz.zeroValue0
 t3 := Tryz.underlying3
 a3 := Tryz.isAgg3
 z3 := Tryz.sizeOf3
 v3 := Tryz.zeroValue3
 t4 := Tryz.underlying4
 a4 := Tryz.isAgg4
 z4 := Tryz.sizeOf4
 v4 := Tryz.zeroValue4
 t5 := Tryz.underlying5
 a5 := Tryz.isAgg5
 z5 := Tryz.sizeOf5
 v5 := Tryz.zeroValue5
 t9 := Tryz.underlying9
 a9 := Tryz.isAgg9
 z9 := Tryz.sizeOf9
 v9 := Tryz.zeroValue9
 t22 := Tryz.underlying30
 a22 := Tryz.isAgg30
 z22 := Tryz.sizeOf30
 v22 := Tryz.zeroValue30
 t25 := Tryz.underlying78
 a25 := Tryz.isAgg78
 z25 := Tryz.sizeOf78
 v25 := Tryz.zeroValue78
 t39 := Tryz.underlying130
 a39 := Tryz.isAgg130
 z39 := Tryz.sizeOf130
 v39 := Tryz.zeroValue130
 t45 := Tryz.underlying196
 a45 := Tryz.isAgg196
 z45 := Tryz.sizeOf196
 v45 := Tryz.zeroValue196
 t46 := Tryz.underlying197
 a46 := Tryz.isAgg197
 z46 := Tryz.sizeOf197
 v46 := Tryz.zeroValue197
 t50 := Tryz.underlying55
 a50 := Tryz.isAgg55
 z50 := Tryz.sizeOf55
 v50 := Tryz.zeroValue55
 t53 := Tryz.underlying126
 a53 := Tryz.isAgg126
 z53 := Tryz.sizeOf126
 v53 := Tryz.zeroValue126
 t55 := Tryz.underlying181
 a55 := Tryz.isAgg181
 z55 := Tryz.sizeOf181
 v55 := Tryz.zeroValue181
 t66 := Tryz.underlying251
 a66 := Tryz.isAgg251
 z66 := Tryz.sizeOf251
 v66 := Tryz.zeroValue251
 t70 := Tryz.underlying191
 a70 := Tryz.isAgg191
 z70 := Tryz.sizeOf191
 v70 := Tryz.zeroValue191
 t76 := Tryz.underlying284
 a76 := Tryz.isAgg284
 z76 := Tryz.sizeOf284
 v76 := Tryz.zeroValue284
 t77 := Tryz.underlying68
 a77 := Tryz.isAgg68
 z77 := Tryz.sizeOf68
 v77 := Tryz.zeroValue68 }
end Go.Proofs
/- Chapter 21: slices.SortFunc at records. -/
namespace Go.Sx
open Go Go.Proofs Go.RowKit
instance : Inhabited Rc := ⟨rcZ⟩
theorem rc_at {l : List Rc} {j : Nat} (h : j < l.length) : l[j]? = some l.toArray[j]! := by simp [h]
theorem flatK_rcl (l : List Rc) : (Go.Sort.flatK rcells 15 l.toArray).toList = rcl l := by
 apply List.ext_getElem?
 intro t
 have hsz : (Go.Sort.flatK rcells 15 l.toArray).size = l.length * 15 := by simp [Go.Sort.flatK]
 by_cases ht : t < l.length * 15
 ·have h1 := Go.Sort.get_flatK rcells 15 l.toArray t (by simpa using ht)
  have hj : t / 15 < l.length := by omega
  have hm : t % 15 < 15 := Nat.mod_lt _ (by decide)
  have h2 : (rcells l.toArray[t / 15]!)[t % 15]? = some (rcells l.toArray[t / 15]!)[t % 15]! := by
   rw [List.getElem!_eq_getElem?_getD, List.getElem?_eq_getElem (by rw [rcells_len]; exact hm)]; rfl
  have h3 := rcl_get (rc_at hj) (t % 15) _ h2
  rw [show t / 15 * 15 + t % 15 = t by omega] at h3
  rw [h3, ← h1]
  have ht' : t < (Go.Sort.flatK rcells 15 l.toArray).size := by omega
  exact arr_at ht'
 ·rw [List.getElem?_eq_none (by rw [Array.length_toList, hsz]; omega), List.getElem?_eq_none (by rw [rcl_len]; omega)]
def cfN (x y : Rc) : Int := Lib.compareInt (numK x) (numK y)
theorem ltN (x y : Rc) : ltOf cfN x y = decide (numK x < numK y) := by
 unfold ltOf cfN Lib.compareInt
 by_cases h1 : numK x < numK y
 ·simp [h1]
 ·by_cases h2 : numK y < numK x <;> simp [h1, h2]
theorem swoN : Go.Sort.SWO (ltOf cfN) where
 irrefl x := by rw [ltN]; simp
 trans x y z h1 h2 := by rw [ltN] at *; simp at *; omega
 ntrans x y z h1 h2 := by rw [ltN] at *; simp at *; omega
attribute [local irreducible] WC WL WX POp Then Again Fn NX W1 WA WO QL RP RA Yld LoopAt
theorem numberG (r : Rc) (W : World) : Fn Tryz.prog 26 #[recV r] W fun v w' => v = zv (numK r) ∧ Gr W w' := by
 refine enter (l := [_]) rfl Tryz.ntmps26 rfl ?_
 repeat' (first | apply WL.fold | apply WA.fold | apply WL.nil | apply WX.n_then | apply WC.seq | apply WC.region | refine WL.pa ?_ | refine WL.ga rfl ?_ | refine WL.na rfl ?_ | refine WL.nu rfl rfl ?_ | apply WC.block | apply WC.skip | apply WC.exit | apply WC.ret | apply WX.e_block | refine WX.e_other rfl ?_ | apply WX.e_then | apply WX.e_again | apply WX.n_block | apply WX.r_then | apply WX.r_block | apply WX.r_again | refine WC.cond_yes rfl ?_ | refine WC.cond_no rfl ?_ | refine WC.cond rfl (fun hc => ?_) (fun hc => ?_) | refine WC.cond_b rfl (fun hc => ?_) (fun hc => ?_))
 refine WL.one (W1.box (v := recV r) rfl rfl ?_)
 apply WL.fold
 have hc : ∀ i v, (rcells r)[i]? = some v → (W.alloc (.cells (recV r).cells 33)).cell? ⟨W.heap.size, i, none⟩ = some v := fun i v h => (Blk.new W (rcells r) _).cell h
 have hG : Gr W (W.alloc (.cells (recV r).cells 33)) := (Gr.refl W).alloc _
 generalize W.alloc (.cells (recV r).cells 33) = w at hc hG ⊢
 unfold numK
 by_cases h1 : r.kind = 2
 ·rw [if_pos h1]
  repeat' (first | apply WL.fold | apply WA.fold | apply WL.nil | apply WX.n_then | apply WC.seq | apply WC.region | refine WL.pa ?_ | refine WL.ga rfl ?_ | refine WL.na rfl ?_ | refine WL.nu rfl rfl ?_ | apply WC.block | apply WC.skip | apply WC.exit | apply WC.ret | apply WX.e_block | refine WX.e_other rfl ?_ | apply WX.e_then | apply WX.e_again | apply WX.n_block | apply WX.r_then | apply WX.r_block | apply WX.r_again | refine WC.cond_yes rfl ?_ | refine WC.cond_no rfl ?_ | refine WC.cond rfl (fun hc => ?_) (fun hc => ?_) | refine WC.cond_b rfl (fun hc => ?_) (fun hc => ?_))
  refine WL.load rfl (hc 0 _ rfl) rfl ?_
  repeat' (first | apply WL.fold | apply WA.fold | apply WL.nil | apply WX.n_then | apply WC.seq | apply WC.region | refine WL.pa ?_ | refine WL.ga rfl ?_ | refine WL.na rfl ?_ | refine WL.nu rfl rfl ?_ | apply WC.block | apply WC.skip | apply WC.exit | apply WC.ret | apply WX.e_block | refine WX.e_other rfl ?_ | apply WX.e_then | apply WX.e_again | apply WX.n_block | apply WX.r_then | apply WX.r_block | apply WX.r_again | refine WC.cond_yes rfl ?_ | refine WC.cond_no rfl ?_ | refine WC.cond rfl (fun hc => ?_) (fun hc => ?_) | refine WC.cond_b rfl (fun hc => ?_) (fun hc => ?_))
  refine WL.load rfl (hc 11 _ rfl) rfl ?_
  repeat' (first | apply WL.fold | apply WA.fold | apply WL.nil | apply WX.n_then | apply WC.seq | apply WC.region | refine WL.pa ?_ | refine WL.ga rfl ?_ | refine WL.na rfl ?_ | refine WL.nu rfl rfl ?_ | apply WC.block | apply WC.skip | apply WC.exit | apply WC.ret | apply WX.e_block | refine WX.e_other rfl ?_ | apply WX.e_then | apply WX.e_again | apply WX.n_block | apply WX.r_then | apply WX.r_block | apply WX.r_again | refine WC.cond_yes rfl ?_ | refine WC.cond_no rfl ?_ | refine WC.cond rfl (fun hc => ?_) (fun hc => ?_) | refine WC.cond_b rfl (fun hc => ?_) (fun hc => ?_))
  exact WX.ret1 rfl rfl ⟨rfl, hG⟩
 ·rw [if_neg h1]
  by_cases h2 : r.kind = 6
  ·rw [if_pos h2]
   repeat' (first | apply WL.fold | apply WA.fold | apply WL.nil | apply WX.n_then | apply WC.seq | apply WC.region | refine WL.pa ?_ | refine WL.ga rfl ?_ | refine WL.na rfl ?_ | refine WL.nu rfl rfl ?_ | apply WC.block | apply WC.skip | apply WC.exit | apply WC.ret | apply WX.e_block | refine WX.e_other rfl ?_ | apply WX.e_then | apply WX.e_again | apply WX.n_block | apply WX.r_then | apply WX.r_block | apply WX.r_again | refine WC.cond_yes rfl ?_ | refine WC.cond_no rfl ?_ | refine WC.cond rfl (fun hc => ?_) (fun hc => ?_) | refine WC.cond_b rfl (fun hc => ?_) (fun hc => ?_))
   refine WL.load rfl (hc 0 _ rfl) rfl ?_
   repeat' (first | apply WL.fold | apply WA.fold | apply WL.nil | apply WX.n_then | apply WC.seq | apply WC.region | refine WL.pa ?_ | refine WL.ga rfl ?_ | refine WL.na rfl ?_ | refine WL.nu rfl rfl ?_ | apply WC.block | apply WC.skip | apply WC.exit | apply WC.ret | apply WX.e_block | refine WX.e_other rfl ?_ | apply WX.e_then | apply WX.e_again | apply WX.n_block | apply WX.r_then | apply WX.r_block | apply WX.r_again | refine WC.cond_yes rfl ?_ | refine WC.cond_no rfl ?_ | refine WC.cond rfl (fun hc => ?_) (fun hc => ?_) | refine WC.cond_b rfl (fun hc => ?_) (fun hc => ?_))
   refine WL.load rfl (hc 13 _ rfl) rfl ?_
   repeat' (first | apply WL.fold | apply WA.fold | apply WL.nil | apply WX.n_then | apply WC.seq | apply WC.region | refine WL.pa ?_ | refine WL.ga rfl ?_ | refine WL.na rfl ?_ | refine WL.nu rfl rfl ?_ | apply WC.block | apply WC.skip | apply WC.exit | apply WC.ret | apply WX.e_block | refine WX.e_other rfl ?_ | apply WX.e_then | apply WX.e_again | apply WX.n_block | apply WX.r_then | apply WX.r_block | apply WX.r_again | refine WC.cond_yes rfl ?_ | refine WC.cond_no rfl ?_ | refine WC.cond rfl (fun hc => ?_) (fun hc => ?_) | refine WC.cond_b rfl (fun hc => ?_) (fun hc => ?_))
   exact WX.ret1 rfl rfl ⟨rfl, hG⟩
  ·rw [if_neg h2]
   repeat' (first | apply WL.fold | apply WA.fold | apply WL.nil | apply WX.n_then | apply WC.seq | apply WC.region | refine WL.pa ?_ | refine WL.ga rfl ?_ | refine WL.na rfl ?_ | refine WL.nu rfl rfl ?_ | apply WC.block | apply WC.skip | apply WC.exit | apply WC.ret | apply WX.e_block | refine WX.e_other rfl ?_ | apply WX.e_then | apply WX.e_again | apply WX.n_block | apply WX.r_then | apply WX.r_block | apply WX.r_again | refine WC.cond_yes rfl ?_ | refine WC.cond_no rfl ?_ | refine WC.cond rfl (fun hc => ?_) (fun hc => ?_) | refine WC.cond_b rfl (fun hc => ?_) (fun hc => ?_))
   refine WL.load rfl (hc 0 _ rfl) rfl ?_
   repeat' (first | apply WL.fold | apply WA.fold | apply WL.nil | apply WX.n_then | apply WC.seq | apply WC.region | refine WL.pa ?_ | refine WL.ga rfl ?_ | refine WL.na rfl ?_ | refine WL.nu rfl rfl ?_ | apply WC.block | apply WC.skip | apply WC.exit | apply WC.ret | apply WX.e_block | refine WX.e_other rfl ?_ | apply WX.e_then | apply WX.e_again | apply WX.n_block | apply WX.r_then | apply WX.r_block | apply WX.r_again | refine WC.cond_yes rfl ?_ | refine WC.cond_no rfl ?_ | refine WC.cond rfl (fun hc => ?_) (fun hc => ?_) | refine WC.cond_b rfl (fun hc => ?_) (fun hc => ?_))
   refine WL.load rfl (hc 1 _ rfl) rfl ?_
   repeat' (first | apply WL.fold | apply WA.fold | apply WL.nil | apply WX.n_then | apply WC.seq | apply WC.region | refine WL.pa ?_ | refine WL.ga rfl ?_ | refine WL.na rfl ?_ | refine WL.nu rfl rfl ?_ | apply WC.block | apply WC.skip | apply WC.exit | apply WC.ret | apply WX.e_block | refine WX.e_other rfl ?_ | apply WX.e_then | apply WX.e_again | apply WX.n_block | apply WX.r_then | apply WX.r_block | apply WX.r_again | refine WC.cond_yes rfl ?_ | refine WC.cond_no rfl ?_ | refine WC.cond rfl (fun hc => ?_) (fun hc => ?_) | refine WC.cond_b rfl (fun hc => ?_) (fun hc => ?_))
   exact WX.ret1 rfl rfl ⟨rfl, hG⟩
theorem ofC1 (x y : Rc) (W : World) : Fn Tryz.prog 24 #[recV x, recV y] W fun v w' => v = zv (cfN x y) ∧ Gr W w' := by
 refine enter (l := [_, _]) rfl Tryz.ntmps24 rfl ?_
 repeat' (first | apply WL.fold | apply WA.fold | apply WL.nil | apply WX.n_then | apply WC.seq | apply WC.region | refine WL.pa ?_ | refine WL.ga rfl ?_ | refine WL.na rfl ?_ | refine WL.nu rfl rfl ?_ | apply WC.block | apply WC.skip | apply WC.exit | apply WC.ret | apply WX.e_block | refine WX.e_other rfl ?_ | apply WX.e_then | apply WX.e_again | apply WX.n_block | apply WX.r_then | apply WX.r_block | apply WX.r_again | refine WC.cond_yes rfl ?_ | refine WC.cond_no rfl ?_ | refine WC.cond rfl (fun hc => ?_) (fun hc => ?_) | refine WC.cond_b rfl (fun hc => ?_) (fun hc => ?_))
 refine WL.one (W1.box (v := recV x) rfl rfl ?_)
 apply WL.fold
 repeat' (first | apply WL.fold | apply WA.fold | apply WL.nil | apply WX.n_then | apply WC.seq | apply WC.region | refine WL.pa ?_ | refine WL.ga rfl ?_ | refine WL.na rfl ?_ | refine WL.nu rfl rfl ?_ | apply WC.block | apply WC.skip | apply WC.exit | apply WC.ret | apply WX.e_block | refine WX.e_other rfl ?_ | apply WX.e_then | apply WX.e_again | apply WX.n_block | apply WX.r_then | apply WX.r_block | apply WX.r_again | refine WC.cond_yes rfl ?_ | refine WC.cond_no rfl ?_ | refine WC.cond rfl (fun hc => ?_) (fun hc => ?_) | refine WC.cond_b rfl (fun hc => ?_) (fun hc => ?_))
 refine WL.one (W1.box (v := recV y) rfl rfl ?_)
 apply WL.fold
 repeat' (first | apply WL.fold | apply WA.fold | apply WL.nil | apply WX.n_then | apply WC.seq | apply WC.region | refine WL.pa ?_ | refine WL.ga rfl ?_ | refine WL.na rfl ?_ | refine WL.nu rfl rfl ?_ | apply WC.block | apply WC.skip | apply WC.exit | apply WC.ret | apply WX.e_block | refine WX.e_other rfl ?_ | apply WX.e_then | apply WX.e_again | apply WX.n_block | apply WX.r_then | apply WX.r_block | apply WX.r_again | refine WC.cond_yes rfl ?_ | refine WC.cond_no rfl ?_ | refine WC.cond rfl (fun hc => ?_) (fun hc => ?_) | refine WC.cond_b rfl (fun hc => ?_) (fun hc => ?_))
 refine WC.anyE rfl ?_
 have hG1 : Gr W (W.alloc (.cells (recV x).cells 33)) := (Gr.refl W).alloc _
 have hG2 : Gr W ((W.alloc (.cells (recV x).cells 33)).alloc (.cells (recV y).cells 33)).drew := (hG1.alloc _).drew
 have hx : ∀ i v, (rcells x)[i]? = some v → ((W.alloc (.cells (recV x).cells 33)).alloc (.cells (recV y).cells 33)).drew.cell? ⟨W.heap.size, 0 + i, none⟩ = some v := fun i v h => by
  rw [Nat.zero_add]
  exact cell_ext (Ext.alloc _ _) ((Blk.new W (rcells x) _).cell h)
 have hy : ∀ i v, (rcells y)[i]? = some v → ((W.alloc (.cells (recV x).cells 33)).alloc (.cells (recV y).cells 33)).drew.cell? ⟨(W.alloc (.cells (recV x).cells 33)).heap.size, 0 + i, none⟩ = some v := fun i v h => by
  rw [Nat.zero_add]
  exact (Blk.new (W.alloc _) (rcells y) _).cell h
 generalize ((W.alloc (.cells (recV x).cells 33)).alloc (.cells (recV y).cells 33)).drew = w at hx hy hG2 ⊢
 generalize (W.alloc (.cells (recV x).cells 33)).heap.size = b2 at hy ⊢
 generalize W.heap.size = b1 at hx ⊢
 refine WA.all [0, 2] (by kernel_rfl) rfl ⟨⟨_, rfl, ?_⟩, ⟨_, rfl, ?_⟩, trivial⟩
 ·refine WO.one (W1.loadAgg (vs := rcells x) rfl rfl hx rfl ?_)
  apply WA.fold
  refine WA.all [1, 2] (by kernel_rfl) rfl ⟨⟨_, rfl, ?_⟩, ⟨_, rfl, ?_⟩, trivial⟩
  ·refine WO.one (W1.call (vs := [recV x]) rfl rfl (numberG x w) ?_)
   rintro v w1 ⟨rfl, hg1⟩
   apply WA.fold
   refine WA.all [2] (by kernel_rfl) rfl ⟨⟨_, rfl, ?_⟩, trivial⟩
   refine WO.one (W1.loadAgg (vs := rcells y) rfl rfl (fun i v h => cell_ext hg1.ext (hy i v h)) rfl ?_)
   apply WA.fold
   refine WA.all [3] (by kernel_rfl) rfl ⟨⟨_, rfl, ?_⟩, trivial⟩
   refine WO.one (W1.call (vs := [recV y]) rfl rfl (numberG y w1) ?_)
   rintro v w2 ⟨rfl, hg2⟩
   apply WA.fold
   refine WA.all [4] (by kernel_rfl) rfl ⟨⟨_, rfl, ?_⟩, trivial⟩
   refine WO.one (W1.call (vs := [zv (numK x), zv (numK y)]) rfl rfl (compareG _ _ w2) ?_)
   rintro v w3 ⟨rfl, hg3⟩
   apply WA.fold
   refine WA.pa 5 rfl ?_
   refine WA.done (by kernel_rfl) ?_
   repeat' (first | apply WL.fold | apply WA.fold | apply WL.nil | apply WX.n_then | apply WC.seq | apply WC.region | refine WL.pa ?_ | refine WL.ga rfl ?_ | refine WL.na rfl ?_ | refine WL.nu rfl rfl ?_ | apply WC.block | apply WC.skip | apply WC.exit | apply WC.ret | apply WX.e_block | refine WX.e_other rfl ?_ | apply WX.e_then | apply WX.e_again | apply WX.n_block | apply WX.r_then | apply WX.r_block | apply WX.r_again | refine WC.cond_yes rfl ?_ | refine WC.cond_no rfl ?_ | refine WC.cond rfl (fun hc => ?_) (fun hc => ?_) | refine WC.cond_b rfl (fun hc => ?_) (fun hc => ?_))
   exact WX.ret1 rfl rfl ⟨rfl, ((hG2.trans hg1).trans hg2).trans hg3⟩
  ·refine WO.one (W1.loadAgg (vs := rcells y) rfl rfl hy rfl ?_)
   apply WA.fold
   refine WA.all [1] (by kernel_rfl) rfl ⟨⟨_, rfl, ?_⟩, trivial⟩
   refine WO.one (W1.call (vs := [recV x]) rfl rfl (numberG x w) ?_)
   rintro v w1 ⟨rfl, hg1⟩
   apply WA.fold
   refine WA.all [3] (by kernel_rfl) rfl ⟨⟨_, rfl, ?_⟩, trivial⟩
   refine WO.one (W1.call (vs := [recV y]) rfl rfl (numberG y w1) ?_)
   rintro v w2 ⟨rfl, hg2⟩
   apply WA.fold
   refine WA.all [4] (by kernel_rfl) rfl ⟨⟨_, rfl, ?_⟩, trivial⟩
   refine WO.one (W1.call (vs := [zv (numK x), zv (numK y)]) rfl rfl (compareG _ _ w2) ?_)
   rintro v w3 ⟨rfl, hg3⟩
   apply WA.fold
   refine WA.pa 5 rfl ?_
   refine WA.done (by kernel_rfl) ?_
   repeat' (first | apply WL.fold | apply WA.fold | apply WL.nil | apply WX.n_then | apply WC.seq | apply WC.region | refine WL.pa ?_ | refine WL.ga rfl ?_ | refine WL.na rfl ?_ | refine WL.nu rfl rfl ?_ | apply WC.block | apply WC.skip | apply WC.exit | apply WC.ret | apply WX.e_block | refine WX.e_other rfl ?_ | apply WX.e_then | apply WX.e_again | apply WX.n_block | apply WX.r_then | apply WX.r_block | apply WX.r_again | refine WC.cond_yes rfl ?_ | refine WC.cond_no rfl ?_ | refine WC.cond rfl (fun hc => ?_) (fun hc => ?_) | refine WC.cond_b rfl (fun hc => ?_) (fun hc => ?_))
   exact WX.ret1 rfl rfl ⟨rfl, ((hG2.trans hg1).trans hg2).trans hg3⟩
 ·refine WO.one (W1.loadAgg (vs := rcells y) rfl rfl hy rfl ?_)
  apply WA.fold
  refine WA.all [0] (by kernel_rfl) rfl ⟨⟨_, rfl, ?_⟩, trivial⟩
  refine WO.one (W1.loadAgg (vs := rcells x) rfl rfl hx rfl ?_)
  apply WA.fold
  refine WA.all [1] (by kernel_rfl) rfl ⟨⟨_, rfl, ?_⟩, trivial⟩
  refine WO.one (W1.call (vs := [recV x]) rfl rfl (numberG x w) ?_)
  rintro v w1 ⟨rfl, hg1⟩
  apply WA.fold
  refine WA.all [3] (by kernel_rfl) rfl ⟨⟨_, rfl, ?_⟩, trivial⟩
  refine WO.one (W1.call (vs := [recV y]) rfl rfl (numberG y w1) ?_)
  rintro v w2 ⟨rfl, hg2⟩
  apply WA.fold
  refine WA.all [4] (by kernel_rfl) rfl ⟨⟨_, rfl, ?_⟩, trivial⟩
  refine WO.one (W1.call (vs := [zv (numK x), zv (numK y)]) rfl rfl (compareG _ _ w2) ?_)
  rintro v w3 ⟨rfl, hg3⟩
  apply WA.fold
  refine WA.pa 5 rfl ?_
  refine WA.done (by kernel_rfl) ?_
  repeat' (first | apply WL.fold | apply WA.fold | apply WL.nil | apply WX.n_then | apply WC.seq | apply WC.region | refine WL.pa ?_ | refine WL.ga rfl ?_ | refine WL.na rfl ?_ | refine WL.nu rfl rfl ?_ | apply WC.block | apply WC.skip | apply WC.exit | apply WC.ret | apply WX.e_block | refine WX.e_other rfl ?_ | apply WX.e_then | apply WX.e_again | apply WX.n_block | apply WX.r_then | apply WX.r_block | apply WX.r_again | refine WC.cond_yes rfl ?_ | refine WC.cond_no rfl ?_ | refine WC.cond rfl (fun hc => ?_) (fun hc => ?_) | refine WC.cond_b rfl (fun hc => ?_) (fun hc => ?_))
  exact WX.ret1 rfl rfl ⟨rfl, ((hG2.trans hg1).trans hg2).trans hg3⟩
end Go.Sx
namespace Go.Sx
open Go Go.Proofs Go.RowKit
theorem cmpLaysR (blk off size : Nat) (w : World) : CmpLays Tryz.prog 24 #[] rcells 15 cfN blk off size w := fun m os dk _ x y => by
 refine Calls.mono (ofC1 x y _) ?_
 rintro e w' ⟨v, rfl, rfl, q, os', hw⟩
 exact ⟨rfl, q, os', hw⟩
theorem sortFunc_fn {w0 w : World} {H : List Atom} {H' : List Rc → List Atom} {a : Option Addr} {c : Nat} {l : List Rc} (hM : Mm w0 H w) (hl : l.length ≤ 1000000)
  (hr : ∀ l' : List Rc, l'.length = l.length → Rpl (A.grow 33 15 a c l.length (rcl l)) (A.grow 33 15 a c l'.length (rcl l')) H (H' l')) :
  Fn Tryz.prog 23 #[.slice a l.length c, fnV 24] w fun v w' => ∃ l', (l'.Perm l ∧ l'.Pairwise fun x y => numK x ≤ numK y) ∧ v = .tuple #[] ∧ Mm w0 (H' l') w' := by
 by_cases h0 : l = []
 ·subst h0
  refine Calls.mono (AnyF.slices_SortFunc_none Tryz.sortR a c (fnV 24) w) ?_
  rintro e w' ⟨rfl, rfl⟩
  exact ⟨_, rfl, [], ⟨List.Perm.refl _, List.Pairwise.nil⟩, rfl, Rpl.same (hr [] rfl) ▸ hM⟩
 have hne : l.length ≠ 0 := fun e => h0 (List.eq_nil_of_length_eq_zero e)
 have hown := hM.own (hr l rfl).mem
 obtain ⟨b, cur, rfl, hg, hnc, hcm, hcs, htake⟩ : ∃ b cur, a = some ⟨b, 0, none⟩ ∧ w.heap[b]? = some (.cells cur 33 (0, 0)) ∧ l.length ≤ c ∧ c ≤ maxLen ∧ cur.size = c * 15 ∧ cur.toList.take (l.length * 15) = rcl l := by
  rcases hown.2 with ⟨-, h2⟩ | ⟨g, cap, cur, hv, -, hg, hnc, hcm, hcs, ht⟩
  ·exact absurd h2 hne
  ·cases hv; exact ⟨g, cur, rfl, hg, hnc, hcm, hcs, ht⟩
 have hlt := (Array.getElem?_eq_some_iff.1 hg).1
 have hfs : ∀ l : List Rc, (Go.Sort.flatK rcells 15 l.toArray).size = l.length * 15 := fun l => by simp [Go.Sort.flatK]
 have hH : Go.Sort.HoldsK rcells 15 w b 0 l.toArray := fun j hj => by
  rw [hfs] at hj
  have h1 : (rcl l)[j]? = some (Go.Sort.flatK rcells 15 l.toArray)[j]! := by
   rw [← flatK_rcl]
   have hj' : j < (Go.Sort.flatK rcells 15 l.toArray).size := by rw [hfs]; exact hj
   exact arr_at hj'
  rw [Nat.zero_add]
  exact ⟨ownsRow_cell hown h1, by simp [World.frozen?, hg]⟩
 have eg : ∀ args w, (callFunc 24 args).run Tryz.prog w = .ok (.enter 24 args) w := CallOk.run
 have hS := AnyQ.slices_SortFunc Tryz.sortR 15 Tryz.isAgg33 Tryz.sizeOf33 rcells rcells_len rcells_one cfN swoN 24 #[] b 0 c l.toArray w eg (cmpLaysR b 0 _ w) hH hlt (by simp; omega)
 refine Calls.mono hS ?_
 rintro e w' ⟨rfl, d', n, os, hp, hs, rfl⟩
 have hsz : d'.size = l.length := by have := hp.1; simpa using this
 obtain ⟨l', rfl⟩ : ∃ l' : List Rc, d' = l'.toArray := ⟨d'.toList, by simp⟩
 have hl' : l'.length = l.length := by simpa using hsz
 have hperm : l'.Perm l := by
  have h1 := hp.2.2
  have e1 : l'.toArray.extract 0 l.toArray.size = l'.toArray := by
   rw [show l.toArray.size = l'.toArray.size by simp [hl']]; exact Array.extract_size
  have e2 : l.toArray.extract 0 l.toArray.size = l.toArray := Array.extract_size
  rw [e1, e2] at h1
  simpa using h1
 have hsort : l'.Pairwise fun x y => numK x ≤ numK y := by
  refine List.pairwise_iff_getElem.2 fun i j hi hj hij => ?_
  have h1 := hs i j (Nat.zero_le _) hij (by simp; omega)
  rw [ltN, decide_eq_false_iff_not] at h1
  simp [hi, hj] at h1
  omega
 refine ⟨_, rfl, l', ⟨hperm, hsort⟩, rfl, hM.turn (hr l' hl') rfl rfl rfl ?_ (fun k hk hkb => ?_) ?_ (by simp [A.grow, Value.ownBlock]) (fun b' hb' => .inl (by simpa [A.grow, Value.ownBlock] using hb'))⟩
 ·simp [sortWorldK, Go.Sort.putRowK, Go.Sort.grow, Go.Sort.putRow, Go.Sort.mapBlock, Go.Sort.ahead]
 ·have hkb' : ¬ b = k := fun e => hkb (by subst e; simp [A.grow, Value.ownBlock])
  have hs1 : (Go.Sort.putRow id (Go.Sort.ahead w n) b 0 (Go.Sort.flatK rcells 15 l'.toArray)).heap.size = w.heap.size := by simp [Go.Sort.putRow, Go.Sort.mapBlock, Go.Sort.ahead]
  show ((Go.Sort.putRow id (Go.Sort.ahead w n) b 0 (Go.Sort.flatK rcells 15 l'.toArray)).heap ++ os)[k]? = _
  rw [Array.getElem?_append, if_pos (by rw [hs1]; exact hk)]
  show (w.heap.modify b _)[k]? = _
  rw [Array.getElem?_modify, if_neg hkb']
 ·rw [hl']
  refine ⟨by rw [rcl_len, hl'], .inr ⟨b, c, Go.Sort.putCells id 0 (Go.Sort.flatK rcells 15 l'.toArray) cur, rfl, Nat.zero_le _, ?_, hnc, hcm, by simp [Go.Sort.putCells, hcs], ?_⟩⟩
  ·have hm : (Go.Sort.putRow id (Go.Sort.ahead w n) b 0 (Go.Sort.flatK rcells 15 l'.toArray)).heap[b]? = some (.cells (Go.Sort.putCells id 0 (Go.Sort.flatK rcells 15 l'.toArray) cur) 33 (0, 0)) := by
    simp [Go.Sort.putRow, Go.Sort.mapBlock, Go.Sort.ahead, Array.getElem?_modify, hg, Go.Sort.onCells]
   have hs1 : (Go.Sort.putRow id (Go.Sort.ahead w n) b 0 (Go.Sort.flatK rcells 15 l'.toArray)).heap.size = w.heap.size := by simp [Go.Sort.putRow, Go.Sort.mapBlock, Go.Sort.ahead]
   show ((Go.Sort.putRow id (Go.Sort.ahead w n) b 0 (Go.Sort.flatK rcells 15 l'.toArray)).heap ++ os)[b]? = _
   rw [Array.getElem?_append, if_pos (by rw [hs1]; exact hlt), hm]
  ·have h1 := putCells_id (Go.Sort.flatK rcells 15 l'.toArray) cur (by rw [hfs, hcs, hl']; exact Nat.mul_le_mul_right _ hnc)
   rw [hfs, hl', flatK_rcl] at h1
   exact h1
end Go.Sx
/- Chapter 21: Of: what is known on a day. -/
namespace Go.Sx
open Go Go.Proofs Go.RowKit
theorem nodup_len {α : Type} : ∀ {L l : List α}, L.Nodup → (∀ x ∈ L, x ∈ l) → L.length ≤ l.length
 | [], _, _, _ => Nat.zero_le _
 | a :: L, l, h, hs => by
  obtain ⟨s, t, rfl⟩ := List.append_of_mem (hs a (List.mem_cons_self ..))
  have h1 := List.nodup_cons.1 h
  have h2 := nodup_len (l := s ++ t) h1.2 fun x hx => by
   rcases List.mem_append.1 (hs x (List.mem_cons_of_mem _ hx)) with h3 | h3
   ·exact List.mem_append_left _ h3
   ·rcases List.mem_cons.1 h3 with rfl | h3
    ·exact absurd hx h1.1
    ·exact List.mem_append_right _ h3
  simp only [List.length_append, List.length_cons] at h2 ⊢
  omega
abbrev Slot := Option Addr × Nat × List Rc
def slot (x : Slot) : Value := .slice x.1 x.2.2.length x.2.1
def slotA (x : Slot) : Atom := A.grow 33 15 x.1 x.2.1 x.2.2.length (rcl x.2.2)
def slots (q : Nat → Slot) : List Atom := (List.range 8).map fun i => slotA (q i)
def updQ (q : Nat → Slot) (i : Nat) (x : Slot) : Nat → Slot := fun j => if j = i then x else q j
theorem rpl_map {f f' : Nat → Atom} {i : Nat} (hne : ∀ j, j ≠ i → f j = f' j) : ∀ {L : List Nat}, L.Nodup → i ∈ L → Rpl (f i) (f' i) (L.map f) (L.map f')
 | [], _, h => absurd h (by simp)
 | j :: L, hn, h => by
  have h1 := List.nodup_cons.1 hn
  by_cases e : j = i
  ·subst e
   rw [List.map_cons, List.map_cons]
   have : L.map f = L.map f' := List.map_congr_left fun x hx => hne x fun e => h1.1 (e ▸ hx)
   rw [this]; exact Rpl.here
  ·rw [List.map_cons, List.map_cons, hne j e]
   exact Rpl.there (rpl_map hne h1.2 ((List.mem_cons.1 h).resolve_left fun e2 => e e2.symm))
theorem rpl_slots (q : Nat → Slot) {i : Nat} (h : i < 8) (x : Slot) : Rpl (slotA (q i)) (slotA x) (slots q) (slots (updQ q i x)) := by
 have := rpl_map (f := fun j => slotA (q j)) (f' := fun j => slotA (updQ q i x j)) (i := i) (fun j hj => by show slotA (q j) = slotA (updQ q i x j); rw [show updQ q i x j = q j from if_neg hj]) (L := List.range 8) List.nodup_range (List.mem_range.2 h)
 simp only [updQ, if_true] at this
 exact this
theorem slot_upd (q : Nat → Slot) (i : Nat) (x : Slot) : (row 8 fun j => slot (q j)).set i (slot x) = row 8 fun j => slot (updQ q i x j) :=
 row_step (by show slot (updQ q i x i) = slot x; rw [show updQ q i x i = x from if_pos rfl]) fun j hj => by
  show slot (q j) = slot (updQ q i x j)
  rw [show updQ q i x j = q j from if_neg hj]
theorem recV_inj {r s : Rc} (h : recV r = recV s) : r = s := by
 have h1 : rcells r = rcells s := by
  injection h with h
  exact List.toArray_inj h
 unfold rcells at h1
 simp only [List.cons.injEq, Value.int.injEq, Value.bool.injEq, Value.string.injEq, true_and, and_true] at h1
 obtain ⟨h1, h2, h3, h4, h5, h6, h7, h8, h9, h10, h11, h12, h13, h14, h15⟩ := h1
 cases r; cases s
 simp only at h1 h2 h3 h4 h5 h6 h7 h8 h9 h10 h11 h12 h13 h14 h15
 subst h1 h2 h3 h4 h5 h6 h7 h8 h9 h10 h11 h12 h13 h14 h15
 rfl
def BaseV (w : World) (v : Value) (B : Nat → List Rc) : Prop := ∃ s : Nat → Value, v = .agg (row 8 s).toArray ∧ ∀ i, i < 8 → RdR w (s i) (B i)
theorem BaseV.ext {w w' : World} {v : Value} {B : Nat → List Rc} (h : BaseV w v B) (k : Ext w w') : BaseV w' v B := by
 obtain ⟨s, h1, h2⟩ := h
 exact ⟨s, h1, fun i hi => (h2 i hi).ext k⟩
theorem isOf_sorted {l : List Rc} {day : Int} {i : Nat} {L : List Rc} (hn : L.Nodup) (hs : L.Pairwise fun x y => numK x ≤ numK y) (hm : ∀ r, r ∈ L ↔ r.kind = (i : Int) + 1 ∧ Top l day r ∧ r.gone = false) : IsOf l day ((i : Int) + 1) L := by
 refine ⟨?_, fun r => by rw [hm]; exact ⟨fun h => ⟨⟨h.2.1, h.2.2⟩, h.1⟩, fun h => ⟨h.2, h.1.1, h.1.2⟩⟩⟩
 refine (hs.and hn).imp_of_mem fun {a b} ha hb h => ?_
 rw [numK_numR, numK_numR] at h
 have h1 := (hm a).1 ha
 have h2 := (hm b).1 hb
 have hne : numR a ≠ numR b := fun e => h.2 (top_uniq h1.2.1 h2.2.1 (by
  unfold keyR
  unfold numR at e
  rw [e, h1.1, h2.1]))
 omega
abbrev bsV (q : Nat → Slot) : Value := .agg (row 8 fun i => slot (q i)).toArray
def bsA (q : Nat → Slot) : Atom := A.all (slots q)
def bsL (q : Nat → Slot) (i : Nat) : List Rc := (q i).2.2
theorem Mm.base {w0 w : World} {q : Nat → Slot} {H : List Atom} (h : Mm w0 H w) (hm : bsA q ∈ H) : BaseV w (bsV q) (bsL q) := by
 have hp : ∀ x ∈ slots q, x.p w := h.all _ hm
 exact ⟨_, rfl, fun i hi => RdR.of_owns (hp _ (List.mem_map.2 ⟨i, List.mem_range.2 hi, rfl⟩))⟩
def q0 : Nat → Slot := fun _ => (none, 0, [])
section
variable {P : Program} {r : Option Nat} {N : Nat} {ds : List Deferred} {Q : Post} {E : Env} {w0 : World} {H : List Atom}
theorem Mm.slots0 {w : World} (h : Mm w0 H w) : Mm w0 (slots q0 ++ H) w :=
 (((((((h.grow0 33 15).grow0 33 15).grow0 33 15).grow0 33 15).grow0 33 15).grow0 33 15).grow0 33 15).grow0 33 15
theorem HC.slots0 {co : Code} (h : HC P r N ds co Q E w0 (slots q0 ++ H)) : HC P r N ds co Q E w0 H := fun w hM => h w hM.slots0
end
structure SlotI (es : Array MapEntry) (seen : Array Nat) (q : Nat → Slot) : Prop where
 nd : ∀ i, i < 8 → (q i).2.2.Nodup
 mem : ∀ i, i < 8 → ∀ r, r ∈ (q i).2.2 ↔ r.kind = (i : Int) + 1 ∧ ∃ e ∈ es.toList, e.born ∈ seen ∧ e.val = recV r
theorem SlotI.nil (es : Array MapEntry) : SlotI es #[] q0 := ⟨fun _ _ => List.nodup_nil, fun i hi r => by
 constructor
 ·intro h; exact absurd h (by simp [q0])
 ·rintro ⟨-, e, -, h, -⟩; exact absurd h (by simp)⟩
theorem SlotI.push {l : List Rc} {day : Int} {m : List (List UInt8 × Rc)} {es : Array MapEntry} {clk : Nat} {seen : Array Nat} {q : Nat → Slot} (h : SlotI es seen q) (hG : EffG l day m) (hms : MS (liftM m) es clk) {e : MapEntry} (he : e ∈ es.toList) (hne : e.born ∉ seen) {r : Rc}
  (hv : e.val = recV r) {k : Nat} (hk8 : k < 8) (hk : r.kind = (k : Int) + 1) (a : Option Addr) (c : Nat) : SlotI es (seen.push e.born) (updQ q k (a, c, (q k).2.2 ++ [r])) := by
 have huniq : ∀ e' ∈ es.toList, e'.val = recV r → e' = e := fun e' he' hv' => by
  obtain ⟨x, hx, h1, h2⟩ := hms.ent he
  obtain ⟨y, hy, h3, h4⟩ := hms.ent he'
  obtain ⟨p, hp, rfl⟩ := List.mem_map.1 hx
  obtain ⟨p', hp', rfl⟩ := List.mem_map.1 hy
  dsimp only at h1 h2 h3 h4
  have e1 : p.2 = r := recV_inj (h2.symm.trans hv)
  have e2 : p'.2 = r := recV_inj (h4.symm.trans hv')
  have e3 : p'.1 = p.1 := by rw [hG.key p hp, hG.key p' hp', e1, e2]
  obtain ⟨i, hi⟩ := List.mem_iff_getElem?.1 (show e ∈ es.toList from he)
  obtain ⟨j, hj⟩ := List.mem_iff_getElem?.1 (show e' ∈ es.toList from he')
  have hi2 : ((liftM m).map Prod.fst)[i]? = some ⟨p.1.toArray⟩ := by
   have h5 := congrArg (fun l => l[i]?) hms.ents
   simp only [List.getElem?_map, hi, Option.map_some] at h5
   cases h6 : (liftM m)[i]? with
   | none => rw [h6] at h5; cases h5
   | some z =>
    rw [h6] at h5
    simp only [Option.map_some, Option.some.injEq, Prod.mk.injEq] at h5
    rw [List.getElem?_map, h6, Option.map_some]
    rw [h1] at h5
    injection h5.1 with h7
    rw [h7]
  have hj2 : ((liftM m).map Prod.fst)[j]? = some ⟨p.1.toArray⟩ := by
   have h5 := congrArg (fun l => l[j]?) hms.ents
   simp only [List.getElem?_map, hj, Option.map_some] at h5
   cases h6 : (liftM m)[j]? with
   | none => rw [h6] at h5; cases h5
   | some z =>
    rw [h6] at h5
    simp only [Option.map_some, Option.some.injEq, Prod.mk.injEq] at h5
    rw [List.getElem?_map, h6, Option.map_some]
    rw [h3, e3] at h5
    injection h5.1 with h7
    rw [h7]
  have hnd : ((liftM m).map Prod.fst).Nodup := by
   have := hG.nd
   unfold liftM
   rw [List.map_map]
   have e4 : (m.map (Prod.fst ∘ fun p : List UInt8 × Rc => ((⟨p.1.toArray⟩ : ByteArray), recV p.2))) = (m.map Prod.fst).map fun x => (⟨x.toArray⟩ : ByteArray) := by rw [List.map_map]; rfl
   rw [e4]
   exact this.map _ fun x y hxy e5 => hxy (ba_inj e5)
  have hlt : i < ((liftM m).map Prod.fst).length := (List.getElem?_eq_some_iff.1 hi2).1
  have e5 := (List.getElem?_inj hlt hnd).1 (hi2.trans hj2.symm)
  subst e5
  rw [hi] at hj
  exact (Option.some.inj hj).symm
 have hno : r ∉ (q k).2.2 := fun hr => by
  obtain ⟨-, e', he', hs', hv'⟩ := (h.mem k hk8 r).1 hr
  rw [huniq e' he' hv'] at hs'
  exact hne hs'
 refine ⟨fun i hi => ?_, fun i hi s => ?_⟩
 ·unfold updQ
  split
  ·rename_i e1
   subst e1
   refine List.nodup_append.2 ⟨h.nd i hi, by simp, fun a ha b hb e2 => ?_⟩
   obtain rfl := List.mem_singleton.1 hb
   exact hno (e2 ▸ ha)
  ·exact h.nd i hi
 ·unfold updQ
  split
  ·rename_i e1
   subst e1
   rw [List.mem_append, List.mem_singleton, h.mem i hi s]
   constructor
   ·rintro (⟨h1, e', he', hs', hv'⟩ | rfl)
    ·exact ⟨h1, e', he', Array.mem_push.2 (.inl hs'), hv'⟩
    ·exact ⟨hk, e, he, Array.mem_push.2 (.inr rfl), hv⟩
   ·rintro ⟨h1, e', he', hs', hv'⟩
    rcases Array.mem_push.1 hs' with h2 | h2
    ·exact .inl ⟨h1, e', he', h2, hv'⟩
    ·have e2 := stamp_inj hms.nd he' he h2
     subst e2
     exact .inr (recV_inj (hv'.symm.trans hv))
  ·rename_i e1
   rw [h.mem i hi s]
   constructor
   ·rintro ⟨h1, e', he', hs', hv'⟩
    exact ⟨h1, e', he', Array.mem_push.2 (.inl hs'), hv'⟩
   ·rintro ⟨h1, e', he', hs', hv'⟩
    rcases Array.mem_push.1 hs' with h2 | h2
    ·exact ⟨h1, e', he', h2, hv'⟩
    ·have e2 := stamp_inj hms.nd he' he h2
     subst e2
     have e3 := recV_inj (hv'.symm.trans hv)
     subst e3
     exact absurd (by omega) e1
theorem slot_one (q : Nat → Slot) : ∀ u ∈ (row 8 fun i => slot (q i)), u.oneCell' = true := fun u hu => by
 obtain ⟨i, -, rfl⟩ := List.mem_map.1 hu
 rfl
theorem rpl_push (q : Nat → Slot) {k : Nat} (h : k < 8) (r : Rc) (a' : Option Addr) (c' : Nat) :
  Rpl (A.grow 33 15 (q k).1 (q k).2.1 (q k).2.2.length (rcl (q k).2.2)) (A.grow 33 15 a' c' ((q k).2.2.length + 1) (rcl (q k).2.2 ++ rcells r)) (slots q) (slots (updQ q k (a', c', (q k).2.2 ++ [r]))) := by
 have h1 := rpl_slots q h (a', c', (q k).2.2 ++ [r])
 have h2 : slotA (a', c', (q k).2.2 ++ [r]) = A.grow 33 15 a' c' ((q k).2.2.length + 1) (rcl (q k).2.2 ++ rcells r) := by
  unfold slotA
  dsimp only
  rw [List.length_append, rcl_app]
  simp [rcl]
 rw [h2] at h1
 exact h1
theorem slot_push (q : Nat → Slot) (k : Nat) (r : Rc) (a' : Option Addr) (c' : Nat) : (row 8 fun i => slot (q i)).set k (.slice a' ((q k).2.2.length + 1) c') = row 8 fun j => slot (updQ q k (a', c', (q k).2.2 ++ [r]) j) := by
 rw [← slot_upd]
 congr 1
 unfold slot
 dsimp only
 rw [List.length_append]; rfl
theorem slot_same (q : Nat → Slot) (k : Nat) {l' : List Rc} (h : l'.length = (q k).2.2.length) : (row 8 fun i => slot (q i)) = row 8 fun j => slot (updQ q k ((q k).1, (q k).2.1, l') j) :=
 row_congr fun i _ => by
  unfold updQ
  split
  ·rename_i e
   subst e
   unfold slot
   dsimp only
   rw [h]
  ·rfl
attribute [local irreducible] WC WL WX POp Then Again Fn NX W1 WA WO QL RP RA Yld LoopAt HC HL HX HN H1 HA HO HQ HB HP A.blk A.grow A.rd A.obj A.mp AgainH CutH
attribute [local irreducible] A.ms A.mx A.mit slots
set_option maxHeartbeats 2000000 in
theorem of_fn (a : Option Addr) (c : Nat) (l : List Rc) (hl : l.length ≤ 1000000) (hok : ∀ r ∈ l, RcOk r) (day : Int) (w : World) (hR : RdR w (.slice a l.length c) l) :
  Fn Tryz.prog 8 #[.slice a l.length c, zv day] w fun v w' => ∃ q, (∀ i : Nat, i < 8 → IsOf l day ((i : Int) + 1) (bsL q i)) ∧ v = bsV q ∧ Mm w [bsA q] w' := by
 refine enterH (l := [_, _]) rfl Tryz.ntmps8 rfl ?_
 refine hwNE ?_
 refine HL.one (H1.alloc (cs := row 8 fun i => slot (q0 i)) rfl rfl (fun b4 => ?_))
 refine hwNE ?_
 refine HL.one (H1.callz1 (α := Nat × List (List UInt8 × Rc)) (V := fun z => .map (some z.1)) (An := fun z => A.ms z.1 (liftM z.2)) (I := fun z => EffG l day z.2) (vs := [.slice a l.length c, zv day]) rfl rfl (fun w' hM => effect_fn a c l hl hok day w' (hR.ext hM.ext)) ?_)
 rintro ⟨bm, m⟩ hG
 dsimp only at hG ⊢
 apply HL.fold
 refine HL.openms fun es clk hms => ?_
 refine HL.one (H1.mqrange (es := es) (clk := clk) rfl (fun w' hM => hM.mx (.head _)) rfl (fun it => ?_))
 refine hbDD ?_
 refine HC.slots0 ?_
 refine HC.cut (α := Nat → Slot) (fun _ => [(4, .pointer (some ⟨b4, 0, none⟩))]) (fun q => A.blk b4 (row 8 fun i => slot (q i)) 35 :: slots q)
  (fun q => ∀ i : Nat, i < 8 → (q i).2.2.Nodup ∧ ∀ r, r ∈ (q i).2.2 ↔ r.kind = (i : Int) + 1 ∧ Top l day r ∧ r.gone = false) ?_ ?_
 ·refine hwNE ?_
  refine HC.loop (α := Array Nat × (Nat → Slot)) (fun _ => [(4, .pointer (some ⟨b4, 0, none⟩)), (12, .pointer (some ⟨it, 0, none⟩))])
   (fun z => A.mit it bm clk z.1 :: A.mx bm es clk :: A.blk b4 (row 8 fun i => slot (z.2 i)) 35 :: slots z.2) (fun z => SlotI es z.1 z.2) (fun z => mleft es z.1) (#[], q0) (SlotI.nil es) esA ⟨[], by rw [List.append_nil]; exact List.perm_append_comm⟩ ?_
  rintro ⟨seen, q⟩ hI
  dsimp only at hI ⊢
  have hall : ∀ r, (∃ e ∈ es.toList, e.val = recV r) ↔ Top l day r ∧ r.gone = false := fun r => by
   rw [← hG.mem]
   constructor
   ·rintro ⟨e, he, hv⟩
    obtain ⟨x, hx, h1, h2⟩ := hms.ent he
    obtain ⟨p, hp, rfl⟩ := List.mem_map.1 hx
    exact ⟨p, hp, recV_inj (h2.symm.trans hv)⟩
   ·rintro ⟨p, hp, rfl⟩
    obtain ⟨e, he, h1, h2⟩ := hms.of (List.mem_map.2 ⟨p, hp, rfl⟩)
    exact ⟨e, he, h2⟩
  refine hwNE ?_
  refine HL.one (H1.mqnext (H' := fun s => A.mit it bm clk s :: A.mx bm es clk :: A.blk b4 (row 8 fun i => slot (q i)) 35 :: slots q) rfl (fun w' hM => hM.mx (.tail _ (.head _))) hms.born (fun s => Rpl.here) rfl (fun hseen => ?_) (fun e he hne => ?_))
  ·refine hwNE ?_
   refine HX.cut q (fun i hi => ⟨hI.nd i hi, fun r => ?_⟩) esA (Hs.refl _).skip.skip
   rw [hI.mem i hi r, ← hall r]
   exact ⟨fun h => ⟨h.1, by obtain ⟨e, he, -, hv⟩ := h.2; exact ⟨e, he, hv⟩⟩, fun h => ⟨h.1, by obtain ⟨e, he, hv⟩ := h.2; exact ⟨e, he, hseen e he, hv⟩⟩⟩
  obtain ⟨x, hx, hkey, hval⟩ := hms.ent he
  obtain ⟨p, hp, rfl⟩ := List.mem_map.1 hx
  dsimp only at hkey hval
  obtain ⟨r, hr⟩ : ∃ r, r = p.2 := ⟨_, rfl⟩
  rw [← hr] at hval
  have htop := ((hall r).1 ⟨e, he, hval⟩).1
  obtain ⟨k, hk, hk8⟩ : ∃ k : Nat, r.kind = (k : Int) + 1 ∧ k < 8 := ⟨(r.kind - 1).toNat, by have := htop.now.1.kind; omega, by have := htop.now.1.kind; omega⟩
  have hpush := hI.push hG hms he hne hval hk8 hk
  have hlen : (q k).2.2.length + 1 ≤ 1000000 := by
   have h1 := (hpush none 0).nd k hk8
   have h2 := (hpush none 0).mem k hk8
   simp only [updQ, if_true] at h1 h2
   have h3 := nodup_len (l := l) h1 fun s hs => by
    obtain ⟨-, e', he', -, hv'⟩ := (h2 s).1 hs
    exact ((hall s).1 ⟨e', he', hv'⟩).1.mem
   rw [List.length_append, List.length_singleton] at h3
   omega
  rw [hkey, hval]
  refine hwNE ?_
  refine HL.one (H1.mqentry (e := e) rfl (fun w' hM => hM.mx (.tail _ (.head _))) he hms.nd (.head _) rfl ?_)
  rw [hkey, hval]
  refine hwNE ?_
  refine HL.one (H1.alloc (cs := rcells rcZ) rfl rfl (fun b6 => ?_))
  refine hwNE ?_
  refine HL.one (H1.stAgg (cs := rcells rcZ) (vs := rcells r) rfl rfl rfl (rcells_one _) rplA rfl ?_)
  refine hwNE ?_
  refine HL.one (H1.callx (vs := [.pointer (some ⟨b4, 0, none⟩), zv r.kind]) rfl rfl (fun w' _ => by rw [hk]; exact list_fn b4 k hk8 w') ?_)
  refine hwNE ?_
  refine HC.any rfl ?_
  refine HA.pa 0 rfl ?_
  refine HA.pa 1 rfl ?_
  refine HA.pa 2 rfl ?_ (POp.nilCheck rfl)
  refine HA.all [3, 4] (by kernel_rfl) rfl ⟨⟨_, rfl, ?_⟩, ⟨_, rfl, ?_⟩, trivial⟩
  ·refine HO.one ?_
   refine H1.ldb (cs := row 8 fun i => slot (q i)) (v := slot (q k)) rfl memA (row_get _ hk8) rfl ?_
   apply HA.fold
   refine HA.all [4] (by kernel_rfl) rfl ⟨⟨_, rfl, ?_⟩, trivial⟩
   refine HO.one ?_
   refine H1.ldAgg (vs := rcells r) rfl (.head _) rfl (fun i v hv => by rw [Nat.zero_add]; exact hv) rfl ?_
   apply HA.fold
   refine HA.all [5] (by kernel_rfl) rfl ⟨⟨_, rfl, ?_⟩, trivial⟩
   refine HO.one ?_
   refine H1.lit (cs := rcells r) rfl rfl rfl rfl rfl rfl (fun b8 => ?_)
   apply HA.fold
   refine HA.all [6] (by kernel_rfl) rfl ⟨⟨_, rfl, ?_⟩, trivial⟩
   refine HO.one ?_
   refine H1.app (e := 33) (sz := 15) (m := 1) (n := (q k).2.2.length) (a := (q k).1) (c := (q k).2.1) (xs := rcl (q k).2.2) (news := rcells r) rfl (by decide) rfl rfl (fun a' c' => Rpl.there (Rpl.there (Rpl.there (Rpl.there (Rpl.there (rpl_push q hk8 r a' c')))))) rfl (fun w hM j u hu => by rw [add_lit, Nat.zero_add]; exact (hM.blk (.head _)).cell hu) (rcells_one r) hlen (by decide) rfl (fun a' c' _ => ?_)
   apply HA.fold
   refine HA.pa 7 rfl ?_ (POp.nilCheck rfl)
   refine HA.all [8] (by kernel_rfl) rfl ⟨⟨_, rfl, ?_⟩, trivial⟩
   refine HO.one ?_
   refine H1.st (b := b4) (i := k) rfl rfl (by intro _ h; cases h) (by intro _ h; cases h) (Rpl.there (Rpl.there (Rpl.there (Rpl.there Rpl.here)))) (by rw [row_len]; exact hk8) ?_
   rw [slot_push]
   apply HA.fold
   refine HA.done (by kernel_rfl) ?_
   refine hwNE ?_
   exact HX.again (seen.push e.born, updQ q k (a', c', (q k).2.2 ++ [r])) (hpush a' c') (mleft_lt he hne) esA (Hs.refl _).skip.skip
  ·refine HO.one ?_
   refine H1.ldAgg (vs := rcells r) rfl (.head _) rfl (fun i v hv => by rw [Nat.zero_add]; exact hv) rfl ?_
   apply HA.fold
   refine HA.all [3, 5] (by kernel_rfl) rfl ⟨⟨_, rfl, ?_⟩, ⟨_, rfl, ?_⟩, trivial⟩
   ·refine HO.one ?_
    refine H1.ldb (cs := row 8 fun i => slot (q i)) (v := slot (q k)) rfl memA (row_get _ hk8) rfl ?_
    apply HA.fold
    refine HA.all [5] (by kernel_rfl) rfl ⟨⟨_, rfl, ?_⟩, trivial⟩
    refine HO.one ?_
    refine H1.lit (cs := rcells r) rfl rfl rfl rfl rfl rfl (fun b8 => ?_)
    apply HA.fold
    refine HA.all [6] (by kernel_rfl) rfl ⟨⟨_, rfl, ?_⟩, trivial⟩
    refine HO.one ?_
    refine H1.app (e := 33) (sz := 15) (m := 1) (n := (q k).2.2.length) (a := (q k).1) (c := (q k).2.1) (xs := rcl (q k).2.2) (news := rcells r) rfl (by decide) rfl rfl (fun a' c' => Rpl.there (Rpl.there (Rpl.there (Rpl.there (Rpl.there (rpl_push q hk8 r a' c')))))) rfl (fun w hM j u hu => by rw [add_lit, Nat.zero_add]; exact (hM.blk (.head _)).cell hu) (rcells_one r) hlen (by decide) rfl (fun a' c' _ => ?_)
    apply HA.fold
    refine HA.pa 7 rfl ?_ (POp.nilCheck rfl)
    refine HA.all [8] (by kernel_rfl) rfl ⟨⟨_, rfl, ?_⟩, trivial⟩
    refine HO.one ?_
    refine H1.st (b := b4) (i := k) rfl rfl (by intro _ h; cases h) (by intro _ h; cases h) (Rpl.there (Rpl.there (Rpl.there (Rpl.there Rpl.here)))) (by rw [row_len]; exact hk8) ?_
    rw [slot_push]
    apply HA.fold
    refine HA.done (by kernel_rfl) ?_
    refine hwNE ?_
    exact HX.again (seen.push e.born, updQ q k (a', c', (q k).2.2 ++ [r])) (hpush a' c') (mleft_lt he hne) esA (Hs.refl _).skip.skip
   ·refine HO.one ?_
    refine H1.lit (cs := rcells r) rfl rfl rfl rfl rfl rfl (fun b8 => ?_)
    apply HA.fold
    refine HA.all [3] (by kernel_rfl) rfl ⟨⟨_, rfl, ?_⟩, trivial⟩
    refine HO.one ?_
    refine H1.ldb (cs := row 8 fun i => slot (q i)) (v := slot (q k)) rfl memA (row_get _ hk8) rfl ?_
    apply HA.fold
    refine HA.all [6] (by kernel_rfl) rfl ⟨⟨_, rfl, ?_⟩, trivial⟩
    refine HO.one ?_
    refine H1.app (e := 33) (sz := 15) (m := 1) (n := (q k).2.2.length) (a := (q k).1) (c := (q k).2.1) (xs := rcl (q k).2.2) (news := rcells r) rfl (by decide) rfl rfl (fun a' c' => Rpl.there (Rpl.there (Rpl.there (Rpl.there (Rpl.there (rpl_push q hk8 r a' c')))))) rfl (fun w hM j u hu => by rw [add_lit, Nat.zero_add]; exact (hM.blk (.head _)).cell hu) (rcells_one r) hlen (by decide) rfl (fun a' c' _ => ?_)
    apply HA.fold
    refine HA.pa 7 rfl ?_ (POp.nilCheck rfl)
    refine HA.all [8] (by kernel_rfl) rfl ⟨⟨_, rfl, ?_⟩, trivial⟩
    refine HO.one ?_
    refine H1.st (b := b4) (i := k) rfl rfl (by intro _ h; cases h) (by intro _ h; cases h) (Rpl.there (Rpl.there (Rpl.there (Rpl.there Rpl.here)))) (by rw [row_len]; exact hk8) ?_
    rw [slot_push]
    apply HA.fold
    refine HA.done (by kernel_rfl) ?_
    refine hwNE ?_
    exact HX.again (seen.push e.born, updQ q k (a', c', (q k).2.2 ++ [r])) (hpush a' c') (mleft_lt he hne) esA (Hs.refl _).skip.skip
 intro q hq
 refine hwNE ?_
 refine HC.loop (α := Nat × (Nat → Slot)) (fun z => [(4, .pointer (some ⟨b4, 0, none⟩)), (28, zv (z.1 : Int))]) (fun z => A.blk b4 (row 8 fun i => slot (z.2 i)) 35 :: slots z.2)
  (fun z => z.1 ≤ 8 ∧ ∀ i : Nat, i < 8 → ((z.2 i).2.2.Nodup ∧ ∀ r, r ∈ (z.2 i).2.2 ↔ r.kind = (i : Int) + 1 ∧ Top l day r ∧ r.gone = false) ∧ (i < z.1 → (z.2 i).2.2.Pairwise fun x y => numK x ≤ numK y)) (fun z => 8 - z.1) (0, q)
  ⟨Nat.zero_le _, fun i hi => ⟨hq i hi, fun h => absurd h (Nat.not_lt_zero _)⟩⟩ esA (Hs.refl _) ?_
 clear hq q
 rintro ⟨j, q⟩ ⟨hj, hI⟩
 dsimp only at hj hI ⊢
 by_cases hlt : j < 8
 ·have hjI : ((j : Int) < 8) := by omega
  have hjq := hI j hlt
  have hlen : (q j).2.2.length ≤ 1000000 := by
   have := nodup_len (l := l) hjq.1.1 fun s hs => ((hjq.1.2 s).1 hs).2.1.mem
   omega
  refine hwNE ?_
  refine HL.one (H1.callx (vs := [.pointer (some ⟨b4, 0, none⟩), zv ((j : Int) + 1)]) rfl rfl (fun w' _ => list_fn b4 j hlt w') ?_)
  refine hwNE ?_
  refine HL.pa ?_ (POp.nilCheck rfl)
  refine HL.one (H1.ldb (v := slot (q j)) rfl (.head _) (row_get _ hlt) rfl ?_)
  refine hwNE ?_
  refine HL.one (H1.callk (α := List Rc) (V := fun _ => .tuple #[]) (I := fun l' => l'.Perm (q j).2.2 ∧ l'.Pairwise fun x y => numK x ≤ numK y) (H' := fun l' => A.blk b4 (row 8 fun i => slot (q i)) 35 :: slots (updQ q j ((q j).1, (q j).2.1, l'))) (vs := [slot (q j), fnV 24]) rfl rfl
   (fun w' hM => sortFunc_fn hM hlen (fun l' hl' => Rpl.there (rpl_slots q hlt ((q j).1, (q j).2.1, l')))) ?_)
  rintro l' ⟨hp, hs⟩
  rw [slot_same q j hp.length_eq]
  refine hwNE ?_
  refine HX.again (j + 1, updQ q j ((q j).1, (q j).2.1, l')) ⟨hlt, fun i hi => ?_⟩ (by show 8 - (j + 1) < 8 - j; omega) esA (Hs.refl _)
  dsimp only [updQ]
  by_cases e : i = j
  ·subst e
   rw [if_pos rfl]
   dsimp only
   exact ⟨⟨hp.nodup_iff.2 hjq.1.1, fun r => by rw [hp.mem_iff]; exact hjq.1.2 r⟩, fun _ => hs⟩
  ·rw [if_neg e]
   exact ⟨(hI i hi).1, fun h => (hI i hi).2 (by omega)⟩
 obtain rfl : j = 8 := by omega
 refine hwNE ?_
 refine HL.one (H1.ldAgg (vs := row 8 fun i => slot (q i)) rfl (.head _) rfl (fun i v hv => by rw [Nat.zero_add]; exact hv) rfl ?_)
 refine hwNE ?_
 refine HL.one (H1.stAgg (cs := row 8 fun i => slot (q i)) (vs := row 8 fun i => slot (q i)) rfl rfl rfl (slot_one q) Rpl.here rfl ?_)
 refine hwNE ?_
 exact HX.retc1 (cs := row 8 fun i => slot (q i)) rfl rfl (.head _) rfl fun w' hM => ⟨q, fun i hi => isOf_sorted (hI i hi).1.1 ((hI i hi).2 hi) (hI i hi).1.2, rfl, hM.tail.pack1⟩
end Go.Sx
/- Chapter 21: Has, Consents, Embargoed, Held, Hidden. -/
namespace Go.Sx
open Go Go.Proofs Go.RowKit
def heldL (L rel : List Rc) (a d : Int) : List Int := numL ((L.filter (heldB rel a d)).map Rc.id)
def embL (L : List Rc) (a d : Int) : List Int := numL ((L.filter (embB a d)).map Rc.id)
def hidL (L : List Rc) (a b d : Int) : List Int := numL ((L.filter (aboutB a b d)).map Rc.clause)
abbrev NumV (w : World) (L : List Int) (v : Value) (w' : World) : Prop := ∃ z : Option Addr × Nat, True ∧ v = .slice z.1 L.length z.2 ∧ Mm w [A.grow 3 1 z.1 z.2 L.length (ints L)] w'
attribute [local irreducible] WC WL WX POp Then Again Fn NX W1 WA WO QL RP RA Yld LoopAt HC HL HX HN H1 HA HO HQ HB HP A.blk A.grow A.rd A.obj A.mp AgainH CutH
attribute [local irreducible] A.dfr A.loop
theorem heldc1_fn (r : Rc) (bd bp bq bb : Nat) (a d x y : Int) (rel : List Rc) (s5 : Value) (hl : rel.length ≤ 1000000) (w : World) (hd : w.cell? ⟨bd, 0, none⟩ = some (zv d)) (hp : w.cell? ⟨bp, 0, none⟩ = some (zv a)) (hq : ∀ i v, (qc x y d)[i]? = some v → w.cell? ⟨bq, i, none⟩ = some v)
  (hb : w.cell? ⟨bb, 5, none⟩ = some s5) (hR : RdR w s5 rel) :
  Fn Tryz.prog 70 #[recV r, .pointer (some ⟨bd, 0, none⟩), .pointer (some ⟨bp, 0, none⟩), .pointer (some ⟨bq, 0, none⟩), .pointer (some ⟨bb, 0, none⟩)] w fun v w' => v = .bool (heldB rel a d r) ∧ Ext w w' := by
 refine enterH (l := [_, _, _, _, _]) rfl Tryz.ntmps70 rfl ?_
 obtain ⟨ar, cr, rfl, -⟩ := hR.shape
 refine hwNE ?_
 refine HL.one (H1.boxAgg (cs := rcells r) rfl rfl (fun b5 => ?_))
 by_cases h1 : r.pack = 0 ∨ r.pack = a
 rotate_left
 ·have h10 : ¬ r.pack = 0 := fun e => h1 (.inl e)
  have h11 : ¬ r.pack = a := fun e => h1 (.inr e)
  refine hwNE ?_
  refine HL.one (H1.ld0 rfl hp rfl ?_)
  refine hwNE ?_
  exact HX.ret1 rfl rfl fun w' hM => ⟨by unfold heldB; rw [decide_eq_false h10, decide_eq_false h11]; rfl, hM.ext⟩
 have h1' : (decide (r.pack = 0) || decide (r.pack = a)) = true := by rw [Bool.or_eq_true, decide_eq_true_eq, decide_eq_true_eq]; exact h1
 have hfin : ∀ (b1 b2 : Bool), b1 = nowB d r → (b1 = true → b2 = !(rel.any (overB r.id d))) → (b1 = false → b2 = false) → b2 = heldB rel a d r := by
  intro b1 b2 e1 e2 e3
  unfold heldB
  rw [h1', Bool.true_and, ← e1]
  cases b1
  ·rw [e3 rfl]; rfl
  ·rw [e2 rfl]; rfl
 by_cases h10 : r.pack = 0
 ·refine hwNE ?_
  refine HL.one (H1.ldAggw (vs := qc x y d) rfl rfl (fun w' hM => ldRec hq hM) rfl ?_)
  refine hwNE ?_
  refine HL.one (H1.ldAgg (vs := rcells r) rfl memA rfl (fun i v hv => by rw [Nat.zero_add]; exact hv) rfl ?_)
  refine hwNE ?_
  refine HL.one (H1.callx (vs := [qV x y d, recV r]) rfl rfl (fun w' _ => isNow_fn x y d r w') ?_)
  cases hn : nowB d r
  ·refine hwNE ?_
   exact HX.ret1 rfl rfl fun w' hM => ⟨congrArg Value.bool (hfin false false hn.symm (fun h => by cases h) fun _ => rfl), hM.ext⟩
  ·refine hwNE ?_
   refine HL.one (H1.ld0 rfl hb rfl ?_)
   refine hwNE ?_
   refine HL.one (H1.callx (vs := [.slice ar rel.length cr, .func (.func 71) #[] #[.pointer (some ⟨b5, 0, none⟩), .pointer (some ⟨bd, 0, none⟩)]]) rfl rfl
    (fun w' hM => containsFunc_fn ar cr rel (overB r.id d) _ hl w' (hR.ext hM.ext) ⟨_, [], [.pointer (some ⟨b5, 0, none⟩), .pointer (some ⟨bd, 0, none⟩)], rfl, inferInstance, fun w'' hx x' _ => held11_fn x' b5 bd r.id d w'' (cell_ext hx ((hM.blk (cs := rcells r) memA).cell (i := 1) rfl)) (cell_ext hx (cell_ext hM.ext hd))⟩) ?_)
   refine hwNE ?_
   exact HX.ret1 rfl rfl fun w' hM => ⟨congrArg Value.bool (hfin true _ hn.symm (fun _ => rfl) fun h => by cases h), hM.ext⟩
 ·have h11 : r.pack = a := h1.resolve_left h10
  refine hwNE ?_
  refine HL.one (H1.ld0 rfl hp rfl ?_)
  refine hwNE ?_
  refine HL.one (H1.ldAggw (vs := qc x y d) rfl rfl (fun w' hM => ldRec hq hM) rfl ?_)
  refine hwNE ?_
  refine HL.one (H1.ldAgg (vs := rcells r) rfl memA rfl (fun i v hv => by rw [Nat.zero_add]; exact hv) rfl ?_)
  refine hwNE ?_
  refine HL.one (H1.callx (vs := [qV x y d, recV r]) rfl rfl (fun w' _ => isNow_fn x y d r w') ?_)
  cases hn : nowB d r
  ·refine hwNE ?_
   exact HX.ret1 rfl rfl fun w' hM => ⟨congrArg Value.bool (hfin false false hn.symm (fun h => by cases h) fun _ => rfl), hM.ext⟩
  ·refine hwNE ?_
   refine HL.one (H1.ld0 rfl hb rfl ?_)
   refine hwNE ?_
   refine HL.one (H1.callx (vs := [.slice ar rel.length cr, .func (.func 71) #[] #[.pointer (some ⟨b5, 0, none⟩), .pointer (some ⟨bd, 0, none⟩)]]) rfl rfl
    (fun w' hM => containsFunc_fn ar cr rel (overB r.id d) _ hl w' (hR.ext hM.ext) ⟨_, [], [.pointer (some ⟨b5, 0, none⟩), .pointer (some ⟨bd, 0, none⟩)], rfl, inferInstance, fun w'' hx x' _ => held11_fn x' b5 bd r.id d w'' (cell_ext hx ((hM.blk (cs := rcells r) memA).cell (i := 1) rfl)) (cell_ext hx (cell_ext hM.ext hd))⟩) ?_)
   refine hwNE ?_
   exact HX.ret1 rfl rfl fun w' hM => ⟨congrArg Value.bool (hfin true _ hn.symm (fun _ => rfl) fun h => by cases h), hM.ext⟩
theorem Held_fn {B : Nat → List Rc} {vb : Value} (a d : Int) (w : World) (hB : BaseV w vb B) (hl : (B 4).length ≤ 1000000) (hl5 : (B 5).length ≤ 1000000) :
  Fn Tryz.prog 34 #[vb, zv a, zv d] w (NumV w (heldL (B 4) (B 5) a d)) := by
 obtain ⟨s, rfl, hs⟩ := hB
 have h0 := hs 4 (by decide)
 have h5 := hs 5 (by decide)
 obtain ⟨a0, c0, e0, -⟩ := h0.shape
 refine enterH (l := [_, _, _]) rfl Tryz.ntmps34 rfl ?_
 refine hwNE ?_
 refine HL.one (H1.boxAgg (cs := row 8 s) rfl rfl (fun b3' => ?_))
 refine hwNE ?_
 refine HL.one (H1.box rfl rfl rfl (fun b4 => ?_))
 refine hwNE ?_
 refine HL.one (H1.box rfl rfl rfl (fun b5 => ?_))
 refine hwNE ?_
 refine HL.build (cs := qc a 0 d) rfl rfl rfl ?_
 refine hwNE ?_
 refine HL.one (H1.alloc (cs := qc 0 0 0) rfl rfl (fun b7 => ?_))
 refine hwNE ?_
 refine HL.one (H1.stAgg (cs := qc 0 0 0) (vs := qc a 0 d) rfl rfl rfl (by intro v hv; simp only [qc, List.mem_cons, List.not_mem_nil, or_false] at hv; rcases hv with rfl | rfl | rfl <;> rfl) rplA rfl ?_)
 refine hwNE ?_
 refine HL.one (H1.callz (α := Nat × Nat) (V := fun z => .func (.func 141) #[] #[.pointer (some ⟨z.1, 0, none⟩), .pointer (some ⟨z.2, 0, none⟩)]) (Hn := fun z => [A.blk z.2 [.func (.func 70) #[] #[.pointer (some ⟨b5, 0, none⟩), .pointer (some ⟨b4, 0, none⟩), .pointer (some ⟨b7, 0, none⟩), .pointer (some ⟨b3', 0, none⟩)]] 82, A.blk z.1 [.slice a0 (B 4).length c0] 30]) (I := fun _ => True)
  (vs := [s 4, .func (.func 70) #[] #[.pointer (some ⟨b5, 0, none⟩), .pointer (some ⟨b4, 0, none⟩), .pointer (some ⟨b7, 0, none⟩), .pointer (some ⟨b3', 0, none⟩)]]) rfl rfl (fun w' hM => by rw [e0]; exact those_fn a0 (B 4).length c0 70 [] [.pointer (some ⟨b5, 0, none⟩), .pointer (some ⟨b4, 0, none⟩), .pointer (some ⟨b7, 0, none⟩), .pointer (some ⟨b3', 0, none⟩)] w') ?_)
 rintro ⟨b2, b3⟩ -
 refine hwNE ?_
 refine HL.one (H1.callz1 (α := Option Addr × Nat) (V := fun z => .slice z.1 (heldL (B 4) (B 5) a d).length z.2) (An := fun z => A.grow 3 1 z.1 z.2 (heldL (B 4) (B 5) a d).length (ints (heldL (B 4) (B 5) a d))) (I := fun _ => True) (vs := [.func (.func 141) #[] #[.pointer (some ⟨b2, 0, none⟩), .pointer (some ⟨b3, 0, none⟩)], fnV 74]) rfl rfl
  (fun w' hM => numbers_fn Rc.id 74 inferInstance id1_fn (L := B 4) (p := heldB (B 5) a d) w' hl (by rw [e0] at h0; exact h0.ext hM.ext) ⟨_, [], [.pointer (some ⟨b5, 0, none⟩), .pointer (some ⟨b4, 0, none⟩), .pointer (some ⟨b7, 0, none⟩), .pointer (some ⟨b3', 0, none⟩)], rfl, inferInstance, fun w'' hx r _ => heldc1_fn r b5 b4 b7 b3' a d a 0 (B 5) (s 5) hl5 w'' (cell_ext hx ((hM.blk (cs := [zv d]) memA).cell (i := 0) rfl)) (cell_ext hx ((hM.blk (cs := [zv a]) memA).cell (i := 0) rfl)) (fun i v hv => cell_ext hx ((hM.blk (cs := qc a 0 d) memA).cell hv)) (cell_ext hx ((hM.blk (cs := row 8 s) memA).cell (i := 5) rfl)) (h5.ext (hM.ext.trans hx))⟩
   ((hM.blk (cs := [.slice a0 (B 4).length c0]) memA).cell (i := 0) rfl) ((hM.blk (cs := [.func (.func 70) #[] #[.pointer (some ⟨b5, 0, none⟩), .pointer (some ⟨b4, 0, none⟩), .pointer (some ⟨b7, 0, none⟩), .pointer (some ⟨b3', 0, none⟩)]]) memA).cell (i := 0) rfl)) ?_)
 rintro ⟨az, cz⟩ -
 refine hwNE ?_
 exact HX.ret1 rfl rfl fun w' hM => ⟨(az, cz), trivial, rfl, hM.sub (by repeat (first | exact Hs.nil _ | (refine Hs.cons pickA ?_)))⟩
end Go.Sx
