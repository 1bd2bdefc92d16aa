/-
  The layer with atoms: arrays by value, slices of arrays, copies into a block.
-/
import Derived.Test.YtlihcenahjgnmaaGreatDoorDB
import Derived.Laws.CopyRow
namespace Go.Sx
open Go Go.RowKit
section
variable {P : Program} {r : Option Nat} {N : Nat} {ds : List Deferred} {ol rest : List Oper} {Q : Post} {E : Env} {w0 : World} {H : List Atom} {next : Act → World → Prop} {g : Option (Nat × Bool)}
variable {d : Nat} {t t' ty : TypeId} {pos : String} {af : Array Edge} {x y lo hi : Operand} {k k' : IntKind} {m n : Int}
theorem POp.index_agg {e : TypeId} {len bb i : Nat} {z v : Value} {cs : List Value} [h : UTy P t (.array len e)] [hi : ITy P e z 1 bb] [ha' : ATy P e false] (hx : Env.ev E x = some (.agg cs.toArray)) (hy : Env.ev E y = some (.int k n)) (ei : n = (i : Int)) (h1 : i < len) (hv : cs[i]? = some v) :
    POp P N ds E (.index t x y) ty v := fun a ha d pos af g w => by
  subst ei
  have h2 : (0 : Int) ≤ (i : Int) ∧ (i : Int) < (len : Int) := ⟨by omega, by omega⟩
  simp [execOp, ha.ev hx, ha.ev hy, Instr.index, asIntOf, run_underlying h.is, Sem.run_bind, h2, run_sizeOf, part, run_isAgg, hv]
  intro h; omega
theorem POp.arr_lo {e : TypeId} {len b off sz bb i : Nat} {z : Value} [h : UTy P t (.array len e)] [hi : ITy P e z sz bb] (hx : Env.ev E x = some (.pointer (some ⟨b, off, none⟩))) (hl : Env.ev E lo = some (.int k n)) (ei : n = (i : Int)) (h1 : i < len) :
    POp P N ds E (.slice t x (some lo) none none) ty (.slice (some ⟨b, off + i * sz, none⟩) (len - i) (len - i)) := fun a ha d pos af g w => by
  subst ei
  have hne : ¬ len = i := by omega
  simp [execOp, ha.ev hx, ha.ev hl, Instr.sliceAt, Instr.sureAddr, run_underlying h.is, Instr.sliceBounds, run_bound (show (0 : Int) ≤ i by omega) (show (i : Int) ≤ ((len : Nat) : Int) by omega), Sem.run_bind, run_sizeOf, hne, add_lit]
theorem POp.arr_hi {e : TypeId} {len b off sz bb i : Nat} {z : Value} [h : UTy P t (.array len e)] [hi' : ITy P e z sz bb] (hx : Env.ev E x = some (.pointer (some ⟨b, off, none⟩))) (hl : Env.ev E hi = some (.int k n)) (ei : n = (i : Int)) (h1 : i ≤ len) :
    POp P N ds E (.slice t x none (some hi) none) ty (.slice (some ⟨b, off, none⟩) i len) := fun a ha d pos af g w => by
  subst ei
  by_cases hne : len = 0
  · subst hne
    simp [execOp, ha.ev hx, ha.ev hl, Instr.sliceAt, Instr.sureAddr, run_underlying h.is, Instr.sliceBounds, run_bound (show (0 : Int) ≤ i by omega) (show (i : Int) ≤ ((0 : Nat) : Int) by omega), Sem.run_bind, run_sizeOf]
  · simp [execOp, ha.ev hx, ha.ev hl, Instr.sliceAt, Instr.sureAddr, run_underlying h.is, Instr.sliceBounds, run_bound (show (0 : Int) ≤ i by omega) (show (i : Int) ≤ ((len : Nat) : Int) by omega), Sem.run_bind, run_sizeOf, add_lit]
theorem POp.arr_all {e : TypeId} {len b off sz bb : Nat} {z : Value} [h : UTy P t (.array len e)] [hi' : ITy P e z sz bb] (hx : Env.ev E x = some (.pointer (some ⟨b, off, none⟩))) :
    POp P N ds E (.slice t x none none none) ty (.slice (some ⟨b, off, none⟩) len len) := fun a ha d pos af g w => by
  by_cases hne : len = 0
  · subst hne
    simp [execOp, ha.ev hx, Instr.sliceAt, Instr.sureAddr, run_underlying h.is, Instr.sliceBounds, Sem.run_bind, run_sizeOf]
  · simp [execOp, ha.ev hx, Instr.sliceAt, Instr.sureAddr, run_underlying h.is, Instr.sliceBounds, Sem.run_bind, run_sizeOf, add_lit]
/-- copy, into a block of the call's own. -/
theorem H1.copyB {e eb : TypeId} {z : Value} {bb b o dl dc sl sc : Nat} {ad : Addr} {cur cs cur' : List Value} {H' : List Atom} {t2 : TypeId} [h : UTy P t (.slice e)] [hi' : ITy P e z 1 bb] (hx : Env.ev E x = some (.slice (some ⟨b, o, none⟩) dl dc)) (hy : Env.ev E y = some (.slice (some ad) sl sc))
    (hn : cs.length = min sl dl) (hsrc : ∀ w, Mm w0 H w → ∀ j v, cs[j]? = some v → w.cell? (ad.add j) = some v) (h1 : ∀ v ∈ cs, v.oneCell' = true) (hfit : o + cs.length ≤ cur.length) (he : cur.take o ++ cs ++ cur.drop (o + cs.length) = cur')
    (hr : Rpl (A.blk b cur eb) (A.blk b cur' eb) H H') (hd : Nat.blt d N = true) (hn' : HN N ds next ((d, zv (cs.length : Int)) :: E) w0 H') :
    H1 P r N ds next ⟨some d, .call ⟨.builtin .copy, #[x, y], #[t, t2]⟩, ty, pos, af, g⟩ Q E w0 H := fun w hM => by
  subst he
  obtain ⟨i, hi1, hi2, hi3, hi4⟩ := hi'.parts
  have hb : w.heap[b]? = some (.cells cur.toArray eb (0, 0)) := hM.blk hr.mem
  have hrun := run_copy_row P w t t2 ty e b o dl dc ad sl sc cur.toArray eb cs h.is (by rw [hi1, Option.map_some, hi3]) hb hn (hsrc w hM) (by simpa using hfit) h1
  refine W1.run (v := zv (cs.length : Int)) (w' := w.setRow b (cur.take o ++ cs ++ cur.drop (o + cs.length)).toArray) (fun a ha => ?_) rfl hd (hn' _ (hM.turn hr rfl rfl rfl (by simp [World.setRow]) (fun q hq hq' => ?_) ?_ (by simp [A.blk]) fun b' hb' => .inl hb'))
  · simp only [execOp, resolve, invoke, Go.builtin, Sem.run_bind, Sem.run_pure, Result.andThen, List.map_toArray, List.map_cons, List.map_nil, ha.ev hx, ha.ev hy, hrun]; rfl
  · have hne : ¬ b = q := fun e => hq' (by simp [A.blk, e])
    simp [World.setRow, Array.getElem?_modify, hne]
  · show (w.setRow b _).heap[b]? = _
    simp [World.setRow, Array.getElem?_modify, hb]
/-- A call that turns own atoms. -/
theorem H1.callk {α : Type} {V : α → Value} {H' : α → List Atom} {I : α → Prop} {d : Option Nat} {f : FuncId} {args : List Operand} {ats : Array TypeId} {vs : List Value}
    [hf : CallOk P f] (hd : dOk d N = true) (ha : Env.evs E args = some vs) (hc : ∀ w, Mm w0 H w → Fn P f vs.toArray w fun v w' => ∃ z, I z ∧ v = V z ∧ Mm w0 (H' z) w')
    (h : ∀ z, I z → HN N ds next (putE d (V z) E) w0 (H' z)) :
    H1 P r N ds next ⟨d, .call ⟨.value (.func f), args.toArray, ats⟩, ty, pos, af, g⟩ Q E w0 H := fun w hM => W1.call hd ha (hc w hM) (by
    rintro v w' ⟨z, hz, rfl, hn⟩; exact h z hz w' hn)
variable {e : TypeId}
theorem run_equalIn_pnil [h : UTy P t (.pointer e)] (w : World) (d : Nat) (a : Option Addr) : (Op.equalIn (d + 1) t (.pointer a) (.pointer none)).run P w = .ok a.isNone w := by
  cases a <;> simp [Op.equalIn, Sem.run_bind, run_underlying h.is, Result.andThen]
theorem POp.pnil1 [h : UTy P t (.pointer e)] (hx : Env.ev E x = some (.pointer none)) (hy : Env.ev E y = some (.pointer none)) : POp P N ds E (.binOp .eql t x y t') ty (.bool true) :=
  POp.bin hx hy (fun w => by rw [eqGuard_at_pointer]; rfl) fun w => by
    have e1 := run_equalIn_pnil (P := P) (t := t) w 9999 none
    show ((Op.equalIn (9999 + 1) t (.pointer none) (.pointer none)) >>= fun r => pure (Value.bool r)).run P w = _
    rw [Sem.run_bind, e1]; rfl
theorem POp.pnil0 {a : Addr} [h : UTy P t (.pointer e)] (hx : Env.ev E x = some (.pointer (some a))) (hy : Env.ev E y = some (.pointer none)) : POp P N ds E (.binOp .eql t x y t') ty (.bool false) :=
  POp.bin hx hy (fun w => by rw [eqGuard_at_pointer]; rfl) fun w => by
    have e1 := run_equalIn_pnil (P := P) (t := t) w 9999 (some a)
    show ((Op.equalIn (9999 + 1) t (.pointer (some a)) (.pointer none)) >>= fun r => pure (Value.bool r)).run P w = _
    rw [Sem.run_bind, e1]; rfl
end
end Go.Sx

