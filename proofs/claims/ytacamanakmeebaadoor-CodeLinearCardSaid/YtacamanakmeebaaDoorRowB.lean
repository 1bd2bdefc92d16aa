/- The layer: more laws. -/
import Derived.Test.YtacamanakmeebaaDoorRow
namespace Go.Sx
open Go Go.RowKit
theorem Rd.take {w : World} {b off n c l : Nat} {vs : List Value} (h : Rd w (.slice (some ⟨b, off, none⟩) n c) vs) (hl : l ≤ vs.length) : Rd w (.slice (some ⟨b, off, none⟩) l c) (vs.take l) := by
  have e1 : (vs.take l).length = l := by simp [hl]
  obtain ⟨a, c', h1, h2, h3⟩ := h
  cases h1
  refine ⟨_, c, by rw [e1], by omega, ?_⟩
  rcases h3 with rfl | ⟨b', off', h3, h4, h5⟩
  · left; simp
  · cases h3
    refine .inr ⟨b, off, rfl, h4, fun i u hu => h5 i u ?_⟩
    rw [List.getElem?_take] at hu
    split at hu
    · exact hu
    · cases hu
section
variable {P : Program} {r : Option Nat} {N : Nat} {ds : List Deferred} {ol rest : List Oper} {Q : Post} {E : Env} {w : World} {fuel : Nat} {listed : Array Bool} {next : Act → World → Prop}
variable {op : Op} {ty : TypeId} {pos : String} {af : Array Edge} {v : Value}
theorem QL.ga {d : Option Nat} {j : Nat} {want b : Bool} (hj : guardE ol E j = some b) (h : QL P r N ds w ol (⟨d, op, ty, pos, af, none⟩ :: rest) Q E)
    (hb : b = want := by
      first | with_reducible rfl | assumption | (simp only [Bool.not_true, Bool.not_false]; done) | (simp only [decide_eq_true_eq, decide_eq_false_iff_not, Bool.not_true, Bool.not_false, not_true_eq_false, not_false_eq_true, reduceCtorEq]; first | done | omega)) : QL P r N ds w ol (⟨d, op, ty, pos, af, some (j, want)⟩ :: rest) Q E := QL.gy hj hb h
theorem QL.na {d : Option Nat} {j : Nat} {want b : Bool} (hj : guardE ol E j = some b) (h : QL P r N ds w ol rest Q (putE d undef E))
    (hb : b = !want := by
      first | with_reducible rfl | assumption | (simp only [Bool.not_true, Bool.not_false]; done) | (simp only [decide_eq_true_eq, decide_eq_false_iff_not, Bool.not_true, Bool.not_false, not_true_eq_false, not_false_eq_true, reduceCtorEq]; first | done | omega)) (hd : dOk d N = true := by exact rfl) :
    QL P r N ds w ol (⟨d, op, ty, pos, af, some (j, want)⟩ :: rest) Q E := QL.gn hj hb hd h
theorem QL.nu {d : Option Nat} {j : Nat} {want : Bool} (hj : guardU ol E j = true) (h : QL P r N ds w ol rest Q (putE d undef E)) (hd : dOk d N = true := by exact rfl) :
    QL P r N ds w ol (⟨d, op, ty, pos, af, some (j, want)⟩ :: rest) Q E := by
  intro a ha
  have hy := guardU_spec hj ha
  have hne : ((none : Option Bool) == some want) = false := by cases want <;> rfl
  simp only [wpQuietIn, Region.wanted, hy, hne, Bool.false_eq_true, if_false]
  exact ⟨fun _ _ _ _ => trivial, h _ (ha.putO hd _)⟩
theorem W1.lit3' {g : Option (Nat × Bool)} {d : Nat} {t : TypeId} {x0 x1 x2 : Operand} {e : TypeId} {z v0 v1 v2 : Value} {bb : Nat} [h : UTy P t (.slice e)] [hi : ITy P e z 1 bb] (hz : z.cells = #[z]) (hx0 : Env.ev E x0 = some v0) (hx1 : Env.ev E x1 = some v1) (hx2 : Env.ev E x2 = some v2)
    (hv0 : v0.cells = #[v0]) (hv1 : v1.cells = #[v1]) (hv2 : v2.cells = #[v2]) (hd : Nat.blt d N = true)
    (hn : ∀ b w1, w.heap.size = b → w1.heap.size = b + 1 → Ext w w1 → Blk w1 b [v0, v1, v2] e → NX N ds next ((d, .slice (some ⟨b, 0, none⟩) 3 3) :: E) w1) :
    W1 P r N ds next ⟨some d, .buildSlice t 3 #[(0, x0), (1, x1), (2, x2)], ty, pos, af, g⟩ Q E w :=
  W1.run (v := .slice (some ⟨w.heap.size, 0, none⟩) 3 3) (w' := w.alloc (.cells #[v0, v1, v2] e)) (fun a ha => by
    have hr : Array.range 3 = #[0, 1, 2] := rfl
    simp [execOp, ha.ev hx0, ha.ev hx1, ha.ev hx2, Instr.buildSlice, run_underlying h.is, run_sizeOf, run_zeroValue, Sem.run_bind, Instr.fill, newRow, hv0, hv1, hv2, hz, hr]) rfl hd (hn _ _ rfl (by simp) (Ext.alloc _ _) (Blk.new w [v0, v1, v2] e))
/-- The list of what is done, written otherwise. -/
theorem WA.norm {listed' : Array Bool} (hl : listed = listed') (h : WA P N ds ol fuel listed' Q E w) : WA P N ds ol fuel listed Q E w := hl ▸ h
theorem WA.sub (E' : Env) (h : WA P N ds ol fuel listed Q E' w) (hs : Env.sub E E') : WA P N ds ol fuel listed Q E w := fun a ha => h a (ha.sub hs)
end
end Go.Sx

