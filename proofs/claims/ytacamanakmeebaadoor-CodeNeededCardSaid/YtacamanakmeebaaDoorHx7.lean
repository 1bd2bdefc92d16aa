/-
  The layer with atoms: bytes of a string, to be written.
-/
import Derived.Test.YtacamanakmeebaaDoorHx5
namespace Go.Sx
open Go Go.RowKit
def A.byt (b n : Nat) (f : Nat → Nat) (e : TypeId) : Atom :=
  A.obj b fun o => ∃ cur fz, o = .cells cur e fz ∧ n ≤ cur.size ∧ n ≤ fz.1 ∧ ∀ q, q < n → cur[q]? = some (u8v (f q))
theorem Mm.byt {w0 w : World} {H : List Atom} {b n : Nat} {f : Nat → Nat} {e : TypeId} (h : Mm w0 H w) (hm : A.byt b n f e ∈ H) : ∃ cur fz, w.heap[b]? = some (.cells cur e fz) ∧ n ≤ cur.size ∧ n ≤ fz.1 ∧ ∀ q, q < n → cur[q]? = some (u8v (f q)) := by
  obtain ⟨o, h1, cur, fz, rfl, h2⟩ := h.obj hm
  exact ⟨cur, fz, h1, h2⟩
section
variable {P : Program} {r : Option Nat} {N : Nat} {ds : List Deferred} {ol rest : List Oper} {Q : Post} {E : Env} {w0 : World} {H : List Atom} {next : Act → World → Prop} {g : Option (Nat × Bool)}
variable {d : Nat} {t ty : TypeId} {pos : String} {af : Array Edge} {x y z : Operand}
theorem H1.sbytes {src dst e : TypeId} {s : ByteArray} [hs : UTy P src .string] [hd' : UTy P dst (.slice e)] [he : UTy P e (.int .u8)] (hx : Env.ev E x = some (.string s)) (hd : Nat.blt d N = true)
    (h : ∀ b c, HN N ds next ((d, .slice (some ⟨b, 0, none⟩) s.size c) :: E) w0 (A.byt b s.size (sb s) e :: H)) : H1 P r N ds next ⟨some d, .convert src dst x, ty, pos, af, g⟩ Q E w0 H := fun w hM => by
  have hrun := run_bytes_of_string (P := P) w src dst e s hs.is hd'.is he.is
  obtain ⟨R, hR⟩ : ∃ R, R = bytesRow s (grownCap w s.size 0 e) := ⟨_, rfl⟩
  rw [← hR] at hrun
  refine W1.run (v := .slice (some ⟨w.heap.size, 0, none⟩) s.size (grownCap w s.size 0 e)) (w' := w.drew.alloc (.cells R e (R.size, R.size + 1))) (fun a ha => ?_) rfl hd (h w.heap.size (grownCap w s.size 0 e) _ ?_)
  · simp only [execOp, ha.ev hx, Sem.run_bind, hrun, Result.andThen, Sem.run_pure]
  · refine (hM.more ((Ext.drew w).trans (Ext.alloc w.drew _))).cons ⟨_, heap_alloc_new w.drew _, _, _, rfl, ?_, ?_, fun q hq => ?_⟩ (by simp [A.byt, A.obj]) fun b hb => ?_
    · rw [hR]; simp [bytesRow]
    · rw [hR]; simp [bytesRow]
    · have hq' : q < s.data.size := hq
      have hsb : sb s q = (s.data[q]).toNat := by
        unfold sb; rw [List.getD_eq_getElem?_getD, Array.getElem?_toList, Array.getElem?_eq_getElem hq']; rfl
      rw [hR]
      simp only [bytesRow, Array.getElem?_append, Array.size_map]
      rw [if_pos hq']
      rw [Array.getElem?_map, Array.getElem?_eq_getElem hq', hsb]; rfl
    · have hb' : b = w.heap.size := by simpa [A.byt, A.obj] using hb
      subst hb'
      refine ⟨fun hm => ?_, hM.ext.size, by simp⟩
      have := (hM.rng _ hm).2
      omega
theorem H1.ldy {b n i : Nat} {f : Nat → Nat} {e : TypeId} [ha : ATy P t false] (hx : Env.ev E x = some (.pointer (some ⟨b, i, none⟩))) (hm : A.byt b n f e ∈ H) (hi : i < n) (hd : Nat.blt d N = true)
    (h : HN N ds next ((d, u8v (f i)) :: E) w0 H) : H1 P r N ds next ⟨some d, .load t x, ty, pos, af, g⟩ Q E w0 H := H1.ldw hx (fun w hM => by
  obtain ⟨cur, fz, h1, h2, h3, h4⟩ := hM.byt hm
  have := h4 i hi
  simp only [World.cell?, h1]
  simpa using this) hd h
theorem H1.sty {b n i : Nat} {f : Nat → Nat} {e : TypeId} {z' : Value} {bb v : Nat} {H' : List Atom} [hi' : ITy P t z' 1 bb] (hx : Env.ev E x = some (.pointer (some ⟨b, i, none⟩))) (hy : Env.ev E y = some (u8v v))
    (hr : Rpl (A.byt b n f e) (A.byt b n (fun q => if q = i then v else f q) e) H H') (hi : i < n) (h : HN N ds next E w0 H') : H1 P r N ds next ⟨none, .store t x y, ty, pos, af, g⟩ Q E w0 H := fun w hM => by
  obtain ⟨cur, fz, h1, h2, h3, h4⟩ := hM.byt hr.mem
  have hlt := (Array.getElem?_eq_some_iff.1 h1).1
  refine W1.store hx hy (by intro _ h; cases h) (by intro _ h; cases h) (u := u8v (f i)) ?_ ?_ (h _ (hM.turn hr rfl rfl rfl (by simp [World.setCell]) (fun k _ hk => ?_) ⟨.cells (cur.setIfInBounds i (u8v v)) e fz, ?_, _, _, rfl, by simpa using h2, h3, fun q hq => ?_⟩ (by simp [A.byt, A.obj]) fun b' hb' => .inl hb'))
  · have := h4 i hi
    simp only [World.cell?, h1]
    simpa using this
  · simp [World.frozen?, h1]; omega
  · exact Below.heap_setCell _ _ _ _ (by simpa [A.byt, A.obj] using hk)
  · simp [World.setCell, Array.getElem?_modify, h1]
  · rw [Array.getElem?_setIfInBounds]
    by_cases e : i = q
    · subst e; simp; omega
    · have e' : ¬ q = i := fun h => e h.symm
      simp [e, e', h4 q hq]
theorem H1.bstry {dst e : TypeId} {b n c : Nat} {f : Nat → Nat} [h : UTy P t (.slice e)] [he : UTy P e (.int .u8)] [hs : UTy P dst .string] (hx : Env.ev E x = some (.slice (some ⟨b, 0, none⟩) n c)) (hm : A.byt b n f e ∈ H)
    (hf : ∀ q, q < n → f q < 256) (hd : Nat.blt d N = true) (hn : HN N ds next ((d, .string (mkS n f)) :: E) w0 H) :
    H1 P r N ds next ⟨some d, .convert t dst x, ty, pos, af, g⟩ Q E w0 H := fun w hM =>
  W1.bytes_string (l := (List.range n).map fun q => UInt8.ofNat (f q)) hx (by simp) (fun q hq => by
    have hq' : q < n := by simpa using hq
    have hfq := hf q hq'
    obtain ⟨cur, fz, h1, h2, h3, h4⟩ := hM.byt hm
    have := h4 q hq'
    rw [add_lit, Nat.zero_add]
    simp only [World.cell?, h1]
    simp [this, u8v]
    omega) hd (hn w hM)
end
end Go.Sx

