/- Chapter 26: slices of slices of strings; groups one after the other. -/
import Derived.Test.YtlihcenahjgnmaaGreatDoorJS
import Derived.Test.YtlihcenahjgnmaaGreatDoorHl
namespace Go.Sx
open Go Go.Proofs Go.RowKit
theorem POp.pneN {P : Program} {N : Nat} {ds : List Deferred} {E : Env} {t t' ty e : TypeId} {x y : Operand} {a : Addr} [h : UTy P t (.pointer e)] (hx : Env.ev E x = some (.pointer (some a))) (hy : Env.ev E y = some (.pointer none)) : POp P N ds E (.binOp .neq t x y t') ty (.bool true) :=
  POp.bin hx hy (fun w => by rw [eqGuard_at_pointer]; rfl) fun w => by
    have e1 := run_equalIn_pnil (P := P) (t := t) w 9999 (some a)
    show ((Op.equalIn (9999 + 1) t (.pointer (some a)) (.pointer none)) >>= fun r => pure (Value.bool !r)).run P w = _
    rw [Sem.run_bind, e1]; rfl
theorem few_need2 (l : List ByteArray) : needL (few26 l) ≤ 900 := by
  have h1 : ∀ (l : List ByteArray), (∀ r ∈ l, r.size ≤ 100) → needL l ≤ 150 * l.length := by
    intro l
    induction l with
    | nil => exact fun _ => Nat.zero_le _
    | cons r l ih =>
      intro h
      have h1 := ih fun x hx => h x (List.mem_cons_of_mem _ hx)
      have h2 := h r (List.mem_cons_self ..)
      have h3 := strN_size (n := r.size) (by omega)
      show (33 + (strN r.size).size + r.size) + needL l ≤ 150 * (l.length + 1)
      omega
  have h2 := h1 _ (few26_size l)
  have h3 := few26_len l
  omega
theorem few_long2 (l : List ByteArray) : (few26 l).any isLong = false := not_long fun r hr => Nat.le_trans (few26_size l r hr) (by decide)
/-- A slice of slices of strings. -/
def RdGS (w : World) (v : Value) (G : List (List ByteArray)) (hV : Nat → Value) : Prop := Rd w v ((List.range G.length).map hV) ∧ ∀ i (hi : i < G.length), Rd w (hV i) (strs G[i])
theorem RdGS.ext {w w' : World} {v : Value} {G : List (List ByteArray)} {hV : Nat → Value} (h : RdGS w v G hV) (k : Ext w w') : RdGS w' v G hV := ⟨h.1.ext k, fun i hi => (h.2 i hi).ext k⟩
theorem Clean.step {j : Jn} {n : Nat} {l g : List ByteArray} (h : Clean j n l) (hg : g.any isLong = false) : ∃ (e : Int) (j' : Jn) (l' : List ByteArray), j.append g = (e, j') ∧ Clean j' n l' ∧ (l' = l ++ g ∨ l' = l) := by
  by_cases hf : j.t.size + (outsL j.t.head g).length ≤ n
  · obtain ⟨j', h1, h2⟩ := h.app hg hf
    exact ⟨0, j', l ++ g, h1, h2, .inl rfl⟩
  · exact ⟨261, j, l, h.full hg hf, h, .inr rfl⟩
theorem cut_ok2 {k : Dk} (hk : k.Ok) (ho : k.off = false) (n : Nat) (hn : n ≤ 1000000) : (k.cut n).2.Ok ∧ (k.cut n).2.dur = k.dur ∧ (k.cut n).2.pend = k.pend ∧ (k.cut n).2.vis = k.vis ∧ (k.cut n).1 = 0 ∧ (k.cut n).2.off = decide (n = 0) := by
  rw [Dk.cut_on ho]
  exact ⟨⟨hk.len, hk.lo, hk.hi, hn, hk.pend⟩, rfl, rfl, rfl, rfl, rfl⟩
theorem strs_len2 (l : List ByteArray) : (strs l).length = l.length := by simp [strs]
theorem strs_one2 (l : List ByteArray) : ∀ u ∈ strs l, u.oneCell' = true := by
  intro u hu
  obtain ⟨s, -, rfl⟩ := List.mem_map.1 hu
  rfl
theorem strs_app2 (l m : List ByteArray) : strs l ++ strs m = strs (l ++ m) := by simp [strs]
/-- append of a slice of the call's own that is read, onto a literal. -/
theorem H1.appR3 {P : Program} {r : Option Nat} {N : Nat} {ds : List Deferred} {Q : Post} {E : Env} {w0 : World} {H : List Atom} {next : Act → World → Prop} {g : Option (Nat × Bool)} {d : Nat} {t ty : TypeId} {pos : String} {af : Array Edge} {x y : Operand}
    {e : TypeId} {z : Value} {bb n m c c2 : Nat} {a ao : Option Addr} {xs vs : List Value} {H' : Option Addr → Nat → List Atom} [h : UTy P t (.slice e)] [hi : ITy P e z 1 bb] (hzs : z.cells.size = 1) (hvn : vs.length = m)
    (hx : Env.ev E x = some (.slice a n c)) (hy : Env.ev E y = some (.slice ao m c2)) (hr : ∀ a' c', Rpl (A.grow e 1 a c n xs) (A.grow e 1 a' c' (n + m) (xs ++ vs)) H (H' a' c'))
    (hR : ∀ w, Mm w0 H w → Rd w (.slice ao m c2) vs) (h1 : ∀ u ∈ vs, u.oneCell' = true) (hnm : n + m ≤ 1000000) (hb : bb ≤ 1000) (hd : Nat.blt d N = true)
    (ha0 : n = 0 ∨ ∃ b, a = some ⟨b, 0, none⟩) (hn : ∀ a' c', (n + m = 0 ∨ ∃ b, a' = some ⟨b, 0, none⟩) → HN N ds next ((d, .slice a' (n + m) c') :: E) w0 (H' a' c')) :
    H1 P r N ds next ⟨some d, .call ⟨.builtin .append, #[x, y], #[t, t]⟩, ty, pos, af, g⟩ Q E w0 H := by
  subst hvn
  exact H1.appR hzs hx hy hr hR h1 hnm hb hd ha0 hn
/-- A slice of strings of the call's own. -/
def gS (p : Option Addr × Nat × List ByteArray) : Atom := A.grow 9 1 p.1 p.2.1 p.2.2.length (strs p.2.2)
structure OpV where
  kind : Int
  l : List ByteArray
  n : Int
  keep : List Int
  vl : Value
  vk : Value
instance : Inhabited OpV := ⟨⟨0, [], 0, [], undef, undef⟩⟩
def opC (o : OpV) : List Value := [zv o.kind, o.vl, zv o.n, o.vk]
def opAt (l : List OpV) (i : Nat) : OpV := l.getD i default
/-- A slice of calls. -/
structure RdOps (w : World) (a : Option Addr) (c : Nat) (l : List OpV) : Prop where
  cap : l.length ≤ c
  cells : l = [] ∨ ∃ b off, a = some ⟨b, off, none⟩ ∧ b < w.heap.size ∧ ∀ i, i < l.length → ∀ (j : Nat) (u : Value), (opC (opAt l i))[j]? = some u → w.cell? ⟨b, off + i * 4 + j, none⟩ = some u
  kind : ∀ i, i < l.length → -9223372036854775808 ≤ (opAt l i).kind ∧ (opAt l i).kind ≤ 9223372036854775807
  n : ∀ i, i < l.length → -9223372036854775808 ≤ (opAt l i).n ∧ (opAt l i).n ≤ 9223372036854775807
  strs : ∀ i, i < l.length → Rd w (opAt l i).vl (strs (opAt l i).l) ∧ (∀ s ∈ (opAt l i).l, s.size ≤ 9223372036854775807) ∧ (opAt l i).l.length ≤ 9223372036854775807
  keep : ∀ i, i < l.length → Rd w (opAt l i).vk (ints (opAt l i).keep) ∧ (opAt l i).keep.length ≤ 9223372036854775807
end Go.Sx

