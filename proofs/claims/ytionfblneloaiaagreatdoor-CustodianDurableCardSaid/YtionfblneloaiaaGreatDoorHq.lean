/- Sorting by a function that is given: worlds that are known but for draws and new blocks. -/
import Derived.Test.YtionfblneloaiaaGreatDoorTy2
import Derived.Test.YtionfblneloaiaaGreatDoorHx6
import Derived.Test.YtionfblneloaiaaGreatDoorShelf
import Derived.Shelf.SlSortCmp.NoneTotal
namespace Go.Sx
open Go Go.Proofs Go.RowKit
/-- Nothing but draws and new blocks. -/
def Gr (W w : World) : Prop := ∃ q os, w = Go.Sort.grow (W.drewN q) os
theorem Gr.refl (W : World) : Gr W W := ⟨0, #[], by simp [Go.Sort.grow, World.drewN]⟩
theorem Gr.trans {W w w' : World} (h : Gr W w) (k : Gr w w') : Gr W w' := by
  obtain ⟨q, os, rfl⟩ := h
  obtain ⟨q', os', rfl⟩ := k
  exact ⟨q + q', os ++ os', by simp [Go.Sort.grow, World.drewN, Array.append_assoc, Nat.add_assoc]⟩
theorem Gr.alloc {W w : World} (h : Gr W w) (o : Obj) : Gr W (w.alloc o) := h.trans ⟨0, #[o], by rw [Go.Sort.alloc_eq_grow]; rfl⟩
theorem Gr.drew {W w : World} (h : Gr W w) : Gr W w.drew := h.trans ⟨1, #[], by show w.drew = { w with heap := w.heap ++ #[], drawn := w.drawn + 1 }; rw [Array.append_empty]; rfl⟩
theorem WC.anyE {P : Program} {N : Nat} {ds : List Deferred} {Q : Post} {E : Env} {w : World} [hm : Mixed P] {id : Nat} {l : List Oper} {fuel : Nat} (hf : l.length = fuel) (h : WA P N ds l fuel (Array.replicate l.length false) Q E w.drew) :
    WC P none N ds (.region id l.toArray true) Q E w := fun a ha =>
  wpIn_region_any hm.is (by subst hf; simpa using h a ha)
theorem compareG (x y : Int) (W : World) : Fn Tryz.prog 100 #[zv x, zv y] W fun v w' => v = zv (Lib.compareInt x y) ∧ Gr W w' :=
  Calls.mono (Tryz.cmp_Compare_int x y W) (by
    rintro e w' ⟨rfl, rfl⟩
    exact ⟨_, rfl, rfl, Gr.refl _⟩)
theorem Gr.ext {W w : World} (h : Gr W w) : Ext W w := by
  obtain ⟨q, os, rfl⟩ := h
  refine ⟨rfl, rfl, rfl, by simp [Go.Sort.grow, World.drewN], fun k hk => ?_⟩
  show (W.heap ++ os)[k]? = _
  rw [Array.getElem?_append, if_pos hk]
theorem arr_at {F : Array Value} {i : Nat} (h : i < F.size) : F.toList[i]? = some F[i]! := by rw [Array.getElem?_toList, Array.getElem?_eq_getElem h, getElem!_pos F i h]
theorem putCells_id (F cur : Array Value) (h : F.size ≤ cur.size) : (Go.Sort.putCells id 0 F cur).toList.take F.size = F.toList := by
  apply List.ext_getElem?
  intro i
  rw [List.getElem?_take]
  by_cases hi : i < F.size
  · have hi2 : i < cur.size := by omega
    simp [Go.Sort.putCells, hi2, hi]
  · rw [if_neg hi, List.getElem?_eq_none (by rw [Array.length_toList]; omega)]
end Go.Sx

