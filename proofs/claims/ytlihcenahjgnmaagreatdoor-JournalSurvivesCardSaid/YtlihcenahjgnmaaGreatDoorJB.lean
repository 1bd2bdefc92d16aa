/- Chapter 26: slices of slices of strings; groups one after the other. -/
import Derived.Test.YtlihcenahjgnmaaGreatDoorJS
namespace Go.Sx
open Go Go.Proofs Go.RowKit
theorem POp.pneN {P : Program} {N : Nat} {ds : List Deferred} {E : Env} {t t' ty e : TypeId} {x y : Operand} {a : Addr} [h : UTy P t (.pointer e)] (hx : Env.ev E x = some (.pointer (some a))) (hy : Env.ev E y = some (.pointer none)) : POp P N ds E (.binOp .neq t x y t') ty (.bool true) :=
  POp.bin hx hy (fun w => by rw [eqGuard_at_pointer]; rfl) fun w => by
    have e1 := run_equalIn_pnil (P := P) (t := t) w 9999 (some a)
    show ((Op.equalIn (9999 + 1) t (.pointer (some a)) (.pointer none)) >>= fun r => pure (Value.bool !r)).run P w = _
    rw [Sem.run_bind, e1]; rfl
theorem few_need2 (l : List ByteArray) : needL (few26 l) ≤ 900 := by
  have h1 : ∀ (l : List ByteArray), (∀ r ∈ l, r.size ≤ 100) → needL l ≤ 150 * l.length := by
    intro l
    induction l with
    | nil => exact fun _ => Nat.zero_le _
    | cons r l ih =>
      intro h
      have h1 := ih fun x hx => h x (List.mem_cons_of_mem _ hx)
      have h2 := h r (List.mem_cons_self ..)
      have h3 := strN_size (n := r.size) (by omega)
      show (33 + (strN r.size).size + r.size) + needL l ≤ 150 * (l.length + 1)
      omega
  have h2 := h1 _ (few26_size l)
  have h3 := few26_len l
  omega
theorem few_long2 (l : List ByteArray) : (few26 l).any isLong = false := not_long fun r hr => Nat.le_trans (few26_size l r hr) (by decide)
/-- A slice of slices of strings. -/
def RdGS (w : World) (v : Value) (G : List (List ByteArray)) (hV : Nat → Value) : Prop := Rd w v ((List.range G.length).map hV) ∧ ∀ i (hi : i < G.length), Rd w (hV i) (strs G[i])
theorem RdGS.ext {w w' : World} {v : Value} {G : List (List ByteArray)} {hV : Nat → Value} (h : RdGS w v G hV) (k : Ext w w') : RdGS w' v G hV := ⟨h.1.ext k, fun i hi => (h.2 i hi).ext k⟩
theorem Clean.step {j : Jn} {n : Nat} {l g : List ByteArray} (h : Clean j n l) (hg : g.any isLong = false) : ∃ (e : Int) (j' : Jn) (l' : List ByteArray), j.append g = (e, j') ∧ Clean j' n l' ∧ (l' = l ++ g ∨ l' = l) := by
  by_cases hf : j.t.size + (outsL j.t.head g).length ≤ n
  · obtain ⟨j', h1, h2⟩ := h.app hg hf
    exact ⟨0, j', l ++ g, h1, h2, .inl rfl⟩
  · exact ⟨261, j, l, h.full hg hf, h, .inr rfl⟩
theorem cut_ok2 {k : Dk} (hk : k.Ok) (ho : k.off = false) (n : Nat) (hn : n ≤ 1000000) : (k.cut n).2.Ok ∧ (k.cut n).2.dur = k.dur ∧ (k.cut n).2.pend = k.pend ∧ (k.cut n).2.vis = k.vis ∧ (k.cut n).1 = 0 ∧ (k.cut n).2.off = decide (n = 0) := by
  rw [Dk.cut_on ho]
  exact ⟨⟨hk.len, hk.lo, hk.hi, hn, hk.pend⟩, rfl, rfl, rfl, rfl, rfl⟩
end Go.Sx

