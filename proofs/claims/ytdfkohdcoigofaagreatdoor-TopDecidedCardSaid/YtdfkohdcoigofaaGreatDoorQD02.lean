/-
  The layer with memory as a list of atoms: each atom has a footprint of blocks, all of them apart; whatever lay there before the call lies as it lay.
-/
import Derived.Test.YtdfkohdcoigofaaGreatDoorQD01
import Derived.Laws.Tables
import Derived.Laws.ResultCell
import Derived.MapKept
namespace Go.Sx
open Go Go.RowKit

structure Atom where
  fp : List Nat
  p : World → Prop
  loc : ∀ w w' : World, w.heap.size ≤ w'.heap.size → (∀ b, b ∈ fp → w'.heap[b]? = w.heap[b]?) → p w → p w'
def fps (H : List Atom) : List Nat := H.flatMap Atom.fp
structure Mm (w0 : World) (H : List Atom) (w : World) : Prop where
  ext : Ext w0 w
  all : ∀ a ∈ H, a.p w
  nd : (fps H).Nodup
  rng : ∀ b ∈ fps H, w0.heap.size ≤ b ∧ b < w.heap.size
theorem Mm.nil {w0 w : World} (h : Ext w0 w) : Mm w0 [] w := ⟨h, by simp, by simp [fps], by simp [fps]⟩
theorem Mm.refl (w : World) : Mm w [] w := Mm.nil (Ext.refl w)
theorem fps_cons (a : Atom) (H : List Atom) : fps (a :: H) = a.fp ++ fps H := rfl
theorem fps_append (H K : List Atom) : fps (H ++ K) = fps H ++ fps K := by simp [fps]
theorem mem_fps {H : List Atom} {a : Atom} {b : Nat} (ha : a ∈ H) (hb : b ∈ a.fp) : b ∈ fps H := by
  simp only [fps, List.mem_flatMap]; exact ⟨a, ha, hb⟩

theorem mem_hd {α : Type} {a : α} {l : List α} : a ∈ a :: l := List.Mem.head _
theorem mem_tl {α : Type} {a b : α} {l : List α} (h : a ∈ l) : a ∈ b :: l := List.Mem.tail _ h
/-- More memory. -/
theorem Mm.grow {w0 w w' : World} {H Hn : List Atom} (h : Mm w0 H w) (k : Mm w Hn w') : Mm w0 (Hn ++ H) w' := by
  refine ⟨h.ext.trans k.ext, fun a ha => ?_, ?_, fun b hb => ?_⟩
  · rcases List.mem_append.1 ha with ha | ha
    · exact k.all a ha
    · exact a.loc w w' k.ext.size (fun b hb => k.ext.block b (h.rng b (mem_fps ha hb)).2) (h.all a ha)
  · rw [fps_append]
    refine List.nodup_append.2 ⟨k.nd, h.nd, fun x hx y hy e => ?_⟩
    subst e
    have h1 := (k.rng x hx).1
    have h2 := (h.rng x hy).2
    omega
  · rw [fps_append] at hb
    rcases List.mem_append.1 hb with hb | hb
    · have h1 := k.rng b hb
      have h2 := h.ext.size
      omega
    · have h1 := h.rng b hb
      have h2 := k.ext.size
      omega
theorem Mm.more {w0 w w' : World} {H : List Atom} (h : Mm w0 H w) (k : Ext w w') : Mm w0 H w' := h.grow (Mm.nil k)

/-- One atom out of the list; one atom in the place of another. -/
inductive Pick (a : Atom) : List Atom → List Atom → Prop
  | here {H : List Atom} : Pick a (a :: H) H
  | there {x : Atom} {H H' : List Atom} : Pick a H H' → Pick a (x :: H) (x :: H')
inductive Rpl (a a' : Atom) : List Atom → List Atom → Prop
  | here {H : List Atom} : Rpl a a' (a :: H) (a' :: H)
  | there {x : Atom} {H H' : List Atom} : Rpl a a' H H' → Rpl a a' (x :: H) (x :: H')
theorem Pick.perm {a : Atom} {H H' : List Atom} (h : Pick a H H') : H.Perm (a :: H') := by
  induction h with
  | here => exact List.Perm.refl _
  | there _ ih => exact (List.Perm.cons _ ih).trans (List.Perm.swap _ _ _)
theorem Rpl.perm {a a' : Atom} {H H' : List Atom} (h : Rpl a a' H H') : ∃ K, H.Perm (a :: K) ∧ H'.Perm (a' :: K) := by
  induction h with
  | here => exact ⟨_, List.Perm.refl _, List.Perm.refl _⟩
  | there _ ih =>
    obtain ⟨K, h1, h2⟩ := ih
    exact ⟨_ :: K, (List.Perm.cons _ h1).trans (List.Perm.swap _ _ _), (List.Perm.cons _ h2).trans (List.Perm.swap _ _ _)⟩
theorem Rpl.mem {a a' : Atom} {H H' : List Atom} (h : Rpl a a' H H') : a ∈ H := by
  obtain ⟨K, h1, -⟩ := h.perm
  exact h1.mem_iff.2 (by simp)
theorem Mm.perm {w0 w : World} {H H' : List Atom} (h : Mm w0 H w) (k : H.Perm H') : Mm w0 H' w := by
  have hp : (fps H).Perm (fps H') := List.Perm.flatMap_right _ k
  exact ⟨h.ext, fun a ha => h.all a (k.mem_iff.2 ha), hp.nodup_iff.1 h.nd, fun b hb => h.rng b (hp.mem_iff.2 hb)⟩
theorem Mm.left {w0 w : World} {H K : List Atom} (h : Mm w0 (H ++ K) w) : Mm w0 H w := by
  refine ⟨h.ext, fun b hb => h.all b (List.mem_append_left _ hb), ?_, fun b hb => h.rng b ?_⟩
  · have := h.nd; rw [fps_append] at this; exact (List.nodup_append.1 this).1
  · rw [fps_append]; exact List.mem_append_left _ hb
theorem Mm.tail {w0 w : World} {a : Atom} {H : List Atom} (h : Mm w0 (a :: H) w) : Mm w0 H w :=
  Mm.left (K := [a]) (h.perm (List.perm_append_comm (l₁ := [a]) (l₂ := H)))
theorem Mm.cons {w0 w : World} {a : Atom} {H : List Atom} (h : Mm w0 H w) (ha : a.p w) (hn : a.fp.Nodup) (hd : ∀ b ∈ a.fp, b ∉ fps H ∧ w0.heap.size ≤ b ∧ b < w.heap.size) : Mm w0 (a :: H) w := by
  refine ⟨h.ext, fun b hb => ?_, ?_, fun b hb => ?_⟩
  · rcases List.mem_cons.1 hb with rfl | hb
    · exact ha
    · exact h.all b hb
  · rw [fps_cons]
    exact List.nodup_append.2 ⟨hn, h.nd, fun x hx y hy e => by subst e; exact (hd x hx).1 hy⟩
  · rw [fps_cons] at hb
    rcases List.mem_append.1 hb with hb | hb
    · exact (hd b hb).2
    · exact h.rng b hb
/-- One list of atoms holds another one. -/
def Hs (H H' : List Atom) : Prop := ∃ K, H.Perm (H' ++ K)
theorem Hs.refl (H : List Atom) : Hs H H := ⟨[], by simp⟩
theorem Hs.nil (H : List Atom) : Hs H [] := ⟨H, List.Perm.refl _⟩
theorem Hs.cons {a : Atom} {H H1 H' : List Atom} (hp : Pick a H H1) (hs : Hs H1 H') : Hs H (a :: H') := by
  obtain ⟨K, hK⟩ := hs
  exact ⟨K, hp.perm.trans (List.Perm.cons _ hK)⟩
theorem Hs.skip {a : Atom} {H H' : List Atom} (h : Hs H H') : Hs (a :: H) H' := by
  obtain ⟨K, hK⟩ := h
  exact ⟨a :: K, (List.Perm.cons a hK).trans List.perm_middle.symm⟩
theorem Mm.sub {w0 w : World} {H H' : List Atom} (h : Mm w0 H w) (hs : Hs H H') : Mm w0 H' w := by
  obtain ⟨K, hK⟩ := hs
  exact (h.perm hK).left
/-- The blocks of one atom turn, into another atom's. -/
theorem Mm.turn {w0 w w' : World} {H H' : List Atom} {a a' : Atom} (h : Mm w0 H w) (hr : Rpl a a' H H') (hos : w'.os = w.os) (htape : w'.tape = w.tape) (hout : w'.output = w.output) (hsize : w.heap.size ≤ w'.heap.size)
    (hblk : ∀ k, k < w.heap.size → k ∉ a.fp → w'.heap[k]? = w.heap[k]?) (ha : a'.p w') (hn : a'.fp.Nodup) (hfp : ∀ b ∈ a'.fp, b ∈ a.fp ∨ (w.heap.size ≤ b ∧ b < w'.heap.size)) : Mm w0 H' w' := by
  obtain ⟨K, h1, h2⟩ := hr.perm
  have hK := h.perm h1
  have hnd := hK.nd
  rw [fps_cons] at hnd
  have hrng : ∀ b ∈ a.fp, w0.heap.size ≤ b ∧ b < w.heap.size := fun b hb => hK.rng b (by rw [fps_cons]; exact List.mem_append_left _ hb)
  have hrK : ∀ b ∈ fps K, w0.heap.size ≤ b ∧ b < w.heap.size := fun b hb => hK.rng b (by rw [fps_cons]; exact List.mem_append_right _ hb)
  have hKK : Mm w0 K w' := by
    refine ⟨⟨hos.trans h.ext.os, htape.trans h.ext.tape, hout.trans h.ext.output, Nat.le_trans h.ext.size hsize, fun k hk => ?_⟩, fun b hb => ?_, (List.nodup_append.1 hnd).2.1, fun b hb => ?_⟩
    · rw [hblk k (Nat.lt_of_lt_of_le hk h.ext.size) (fun hm => by have := (hrng k hm).1; omega)]
      exact h.ext.block k hk
    · refine b.loc w w' hsize (fun k hk => ?_) (hK.all b (List.mem_cons_of_mem _ hb))
      have hkK : k ∈ fps K := mem_fps hb hk
      exact hblk k (hrK k hkK).2 (fun hm => (List.nodup_append.1 hnd).2.2 k hm k hkK rfl)
    · have := hrK b hb
      omega
  refine (Mm.cons hKK ha hn fun b hb => ?_).perm h2.symm
  have h0 := h.ext.size
  rcases hfp b hb with hb' | hb'
  · have hb2 := hrng b hb'
    exact ⟨fun hm => (List.nodup_append.1 hnd).2.2 b hb' b hm rfl, by omega, by omega⟩
  · exact ⟨fun hm => by have := hrK b hm; omega, by omega, by omega⟩

/- THE KINDS OF ATOMS -/
def A.blk (b : Nat) (cs : List Value) (e : TypeId) : Atom := ⟨[b], fun w => Blk w b cs e, fun _ _ _ h hb => (h b (by simp)).trans hb⟩
def A.obj (b : Nat) (q : Obj → Prop) : Atom := ⟨[b], fun w => ∃ o, w.heap[b]? = some o ∧ q o, fun _ _ _ h ⟨o, h1, h2⟩ => ⟨o, (h b (by simp)).trans h1, h2⟩⟩
/-- A slice of the call's own that may grow. -/
def A.grow (e : TypeId) (sz : Nat) (a : Option Addr) (c n : Nat) (xs : List Value) : Atom :=
  ⟨(Value.slice a n c).ownBlock.toList, fun w => w.ownsRow 0 e sz (.slice a n c) n xs, fun w w' _ h hp => by
    refine ⟨hp.1, ?_⟩
    rcases hp.2 with hn | ⟨g, cap, cur, hv, hb, hg, rest⟩
    · exact .inl hn
    · cases hv
      exact .inr ⟨g, c, cur, rfl, hb, (h g (by simp [Value.ownBlock])).trans hg, rest⟩⟩
/-- A slice, of one-cell elements, that is only read. -/
def A.rd (v : Value) (vs : List Value) : Atom :=
  ⟨if vs.isEmpty then [] else v.ownBlock.toList, fun w => Rd w v vs, fun w w' hs h hp => by
    obtain ⟨a, c, h1, h2, h3⟩ := hp
    refine ⟨a, c, h1, h2, ?_⟩
    rcases h3 with h3 | ⟨b, off, h3, h4, h5⟩
    · exact .inl h3
    · by_cases he : vs = []
      · exact .inl he
      · have hb : w'.heap[b]? = w.heap[b]? := by
          subst h3; subst h1
          refine h b ?_
          have : vs.isEmpty = false := by cases vs <;> simp_all
          simp [this, Value.ownBlock]
        refine .inr ⟨b, off, h3, Nat.lt_of_lt_of_le h4 hs, fun i u hu => ?_⟩
        rw [World.cell?_of_block (w := w) (w' := w') hb]
        exact h5 i u hu⟩
theorem Mm.blk {w0 w : World} {H : List Atom} {b : Nat} {cs : List Value} {e : TypeId} (h : Mm w0 H w) (hm : A.blk b cs e ∈ H) : Blk w b cs e := h.all _ hm
theorem Mm.own {w0 w : World} {H : List Atom} {e : TypeId} {sz c n : Nat} {a : Option Addr} {xs : List Value} (h : Mm w0 H w) (hm : A.grow e sz a c n xs ∈ H) : w.ownsRow 0 e sz (.slice a n c) n xs := h.all _ hm
theorem Mm.gr {w0 w : World} {H : List Atom} {e : TypeId} {c n : Nat} {a : Option Addr} {xs : List Value} (h : Mm w0 H w) (hm : A.grow e 1 a c n xs ∈ H) : Rd w (.slice a n c) xs := Rd.of_owns (h.own hm)
theorem Mm.fresh {w0 w : World} {H : List Atom} (h : Mm w0 H w) (cs : List Value) (e : TypeId) : Mm w0 (A.blk w.heap.size cs e :: H) (w.alloc (.cells cs.toArray e)) := by
  have h1 := h.more (Ext.alloc w (.cells cs.toArray e))
  refine h1.cons (Blk.new w cs e) (by simp [A.blk]) fun b hb => ?_
  have hb' : b = w.heap.size := by simpa [A.blk] using hb
  subst hb'
  refine ⟨fun hm => ?_, h.ext.size, by simp⟩
  have := (h.rng _ hm).2
  omega
/-- The atoms that hold nothing. -/
theorem Mm.grow0 {w0 w : World} {H : List Atom} (h : Mm w0 H w) (e : TypeId) (sz : Nat) : Mm w0 (A.grow e sz none 0 0 [] :: H) w :=
  h.cons (World.ownsRow_nil w 0 e sz) (by simp [A.grow, Value.ownBlock]) (by simp [A.grow, Value.ownBlock])

section
variable (P : Program) (r : Option Nat) (N : Nat) (ds : List Deferred)
def HC (c : Code) (Q : Post) (E : Env) (w0 : World) (H : List Atom) : Prop := ∀ w, Mm w0 H w → WC P r N ds c Q E w
def HL (ol l : List Oper) (Q : Post) (E : Env) (w0 : World) (H : List Atom) : Prop := ∀ w, Mm w0 H w → WL P r N ds ol l Q E w
def HX (e : Exit) (Q : Post) (E : Env) (w0 : World) (H : List Atom) : Prop := ∀ w, Mm w0 H w → WX N ds e Q E w
def HN (next : Act → World → Prop) (E : Env) (w0 : World) (H : List Atom) : Prop := ∀ w, Mm w0 H w → NX N ds next E w
def H1 (next : Act → World → Prop) (o : Oper) (Q : Post) (E : Env) (w0 : World) (H : List Atom) : Prop := ∀ w, Mm w0 H w → W1 P r N ds next o Q E w
def HA (ol : List Oper) (fuel : Nat) (listed : Array Bool) (Q : Post) (E : Env) (w0 : World) (H : List Atom) : Prop := ∀ w, Mm w0 H w → WA P N ds ol fuel listed Q E w
def HQ (ol l : List Oper) (Q : Post) (E : Env) (w0 : World) (H : List Atom) : Prop := ∀ w, Mm w0 H w → QL P r N ds w ol l Q E
end
def AgainH {α : Type} (N : Nat) (ds : List Deferred) (Ex : α → Env) (Hx : α → List Atom) (I : α → Prop) (μ : α → Nat) (w0 : World) (m : Nat) : Act → World → Prop :=
  fun a' w' => ∃ x', (I x' ∧ Mm w0 (Hx x') w') ∧ μ x' < m ∧ Rep N ds (Ex x') a'
def CutH {α : Type} (N : Nat) (ds : List Deferred) (Ex : α → Env) (Hx : α → List Atom) (I : α → Prop) (w0 : World) : Act → World → Prop :=
  fun a' w' => ∃ z, (I z ∧ Mm w0 (Hx z) w') ∧ Rep N ds (Ex z) a'

section
variable {P : Program} {r : Option Nat} {N : Nat} {ds : List Deferred} {ol rest : List Oper} {Q : Post} {E : Env} {w0 : World} {H : List Atom} {next : Act → World → Prop} {g : Option (Nat × Bool)} {fuel : Nat} {listed : Array Bool}

theorem HC.sub {c : Code} (E' : Env) (H' : List Atom) (h : HC P r N ds c Q E' w0 H') (hs : Env.sub E E') (hh : Hs H H') : HC P r N ds c Q E w0 H := fun w hM => (h w (hM.sub hh)).sub E' hs
theorem HC.grow0 {c : Code} (e : TypeId) (sz : Nat) (h : HC P r N ds c Q E w0 (A.grow e sz none 0 0 [] :: H)) : HC P r N ds c Q E w0 H := fun w hM => h w (hM.grow0 e sz)

theorem HC.skip (h : HX N ds .normal Q E w0 H) : HC P r N ds .skip Q E w0 H := fun w hM => WC.skip (h w hM)
theorem HC.seq {x y : Code} (h : HC P r N ds x (Then P r y Q) E w0 H) : HC P r N ds (.seq x y) Q E w0 H := fun w hM => WC.seq (h w hM)
theorem HC.block {id : Nat} {c : Code} (h : HC P r N ds c (Exit.inBlock id Q) E w0 H) : HC P r N ds (.block id c) Q E w0 H := fun w hM => WC.block (h w hM)
theorem HC.exit {id : Nat} (h : HX N ds (.exit id) Q E w0 H) : HC P r N ds (.exit id) Q E w0 H := fun w hM => WC.exit (h w hM)
theorem HC.ret (h : HX N ds .ret Q E w0 H) : HC P r N ds .ret Q E w0 H := fun w hM => WC.ret (h w hM)
theorem HC.region {id : Nat} {l : List Oper} (h : HL P r N ds l l Q E w0 H) : HC P r N ds (.region id l.toArray false) Q E w0 H := fun w hM => WC.region (h w hM)
theorem HC.cond_b {c : Operand} {x y : Code} {b : Bool} (hc : Env.ev E c = some (.bool b)) (h1 : b = true → HC P r N ds x Q E w0 H) (h2 : b = false → HC P r N ds y Q E w0 H) :
    HC P r N ds (.cond c x y) Q E w0 H := fun w hM => WC.cond_b hc (fun e => h1 e w hM) (fun e => h2 e w hM)
theorem HC.cond_yes {c : Operand} {x y : Code} {b : Bool} (hc : Env.ev E c = some (.bool b)) (h : HC P r N ds x Q E w0 H)
    (hb : b = true := by
      first | with_reducible rfl | assumption | (simp only [Bool.not_true, Bool.not_false]; done) | (simp only [decide_eq_true_eq, decide_eq_false_iff_not, Bool.not_true, Bool.not_false, not_true_eq_false, not_false_eq_true, reduceCtorEq]; first | done | assumption | omega)) : HC P r N ds (.cond c x y) Q E w0 H := HC.cond_b hc (fun _ => h) (fun e => by rw [hb] at e; cases e)
theorem HC.cond_no {c : Operand} {x y : Code} {b : Bool} (hc : Env.ev E c = some (.bool b)) (h : HC P r N ds y Q E w0 H)
    (hb : b = false := by
      first | with_reducible rfl | assumption | (simp only [Bool.not_true, Bool.not_false]; done) | (simp only [decide_eq_true_eq, decide_eq_false_iff_not, Bool.not_true, Bool.not_false, not_true_eq_false, not_false_eq_true, reduceCtorEq]; first | done | assumption | omega)) : HC P r N ds (.cond c x y) Q E w0 H := HC.cond_b hc (fun e => by rw [hb] at e; cases e) (fun _ => h)
theorem HC.loop {α : Type} {c : Code} (Ex : α → Env) (Hx : α → List Atom) (I : α → Prop) (μ : α → Nat) (x0 : α) (h0 : I x0) (hs : Env.sub E (Ex x0)) (hh : Hs H (Hx x0))
    (round : ∀ x, I x → HC P r N ds c (Again (AgainH N ds Ex Hx I μ w0 (μ x)) Q) (Ex x) w0 (Hx x)) : HC P r N ds (.loop c) Q E w0 H := fun _ hM =>
  WC.loop Ex (fun x w' => I x ∧ Mm w0 (Hx x) w') μ x0 hs ⟨h0, hM.sub hh⟩ fun x w' hI => round x hI.1 w' hI.2
theorem HX.again {α : Type} {Ex : α → Env} {Hx : α → List Atom} {I : α → Prop} {m : Nat} {μ : α → Nat} (x' : α) (h1 : I x') (h2 : μ x' < m) (hs : Env.sub E (Ex x')) (hh : Hs H (Hx x')) :
    HX N ds .normal (Again (AgainH N ds Ex Hx I μ w0 m) Q) E w0 H := fun _ hM _ ha => ⟨x', ⟨h1, hM.sub hh⟩, h2, ha.sub hs⟩
theorem HC.cut {α : Type} {x y : Code} (Ex : α → Env) (Hx : α → List Atom) (I : α → Prop) (h : HC P r N ds x (Again (CutH N ds Ex Hx I w0) Q) E w0 H)
    (h2 : ∀ z, I z → HC P r N ds y Q (Ex z) w0 (Hx z)) : HC P r N ds x (Then P r y Q) E w0 H := fun w hM =>
  WC.cutT Ex (fun z w' => I z ∧ Mm w0 (Hx z) w') (h w hM) fun z w' hI => h2 z hI.1 w' hI.2
theorem HX.cut {α : Type} {Ex : α → Env} {Hx : α → List Atom} {I : α → Prop} (z : α) (h1 : I z) (hs : Env.sub E (Ex z)) (hh : Hs H (Hx z)) :
    HX N ds .normal (Again (CutH N ds Ex Hx I w0) Q) E w0 H := fun _ hM _ ha => ⟨z, ⟨h1, hM.sub hh⟩, ha.sub hs⟩

theorem HX.n_then {y : Code} (h : HC P r N ds y Q E w0 H) : HX N ds .normal (Then P r y Q) E w0 H := h
theorem HX.e_then {y : Code} {id : Nat} (h : HX N ds (.exit id) Q E w0 H) : HX N ds (.exit id) (Then P r y Q) E w0 H := h
theorem HX.r_then {y : Code} (h : HX N ds .ret Q E w0 H) : HX N ds .ret (Then P r y Q) E w0 H := h
theorem HX.e_again {I : Act → World → Prop} {id : Nat} (h : HX N ds (.exit id) Q E w0 H) : HX N ds (.exit id) (Again I Q) E w0 H := h
theorem HX.r_again {I : Act → World → Prop} (h : HX N ds .ret Q E w0 H) : HX N ds .ret (Again I Q) E w0 H := h
theorem HX.n_block {id : Nat} (h : HX N ds .normal Q E w0 H) : HX N ds .normal (Exit.inBlock id Q) E w0 H := h
theorem HX.r_block {id : Nat} (h : HX N ds .ret Q E w0 H) : HX N ds .ret (Exit.inBlock id Q) E w0 H := h
theorem HX.e_block {id : Nat} (h : HX N ds .normal Q E w0 H) : HX N ds (.exit id) (Exit.inBlock id Q) E w0 H := fun w hM => WX.e_block (h w hM)
theorem HX.e_other {id id' : Nat} (hne : Nat.beq id' id = false) (h : HX N ds (.exit id') Q E w0 H) : HX N ds (.exit id') (Exit.inBlock id Q) E w0 H := fun w hM => WX.e_other hne (h w hM)

theorem enterH {f : FuncId} {fn : Func} {c : Code} {l : List Value} {R : Value → World → Prop} {w : World} [hf : FnIs P f fn] (hb : fn.body = some c) (hN : fn.ntmps = N) (hl : Nat.ble l.length N = true)
    (h : HC P none N [] c (bodyPost P fn (RetP R)) (Env.of 0 l) w []) : Fn P f l.toArray w R := enter hb hN hl (h w (Mm.refl w))
theorem HX.ret0 {fn : Func} {R : Value → World → Prop} (hr : fn.results = #[]) (h : ∀ w, Mm w0 H w → R (.tuple #[]) w) : HX N [] .ret (bodyPost P fn (RetP R)) E w0 H := fun w hM => WX.ret0 hr (h w hM)
theorem HX.end0 {fn : Func} {R : Value → World → Prop} (hr : fn.results = #[]) (h : ∀ w, Mm w0 H w → R (.tuple #[]) w) : HX N [] .normal (bodyPost P fn (RetP R)) E w0 H := fun w hM => WX.end0 hr (h w hM)
theorem HX.ret1 {fn : Func} {t : Nat} {v : Value} {R : Value → World → Prop} (hr : fn.results = #[.tmp t]) (hv : Env.g E t = some v) (h : ∀ w, Mm w0 H w → R v w) : HX N [] .ret (bodyPost P fn (RetP R)) E w0 H := fun w hM => WX.ret1 hr hv (h w hM)
theorem HX.ret2 {fn : Func} {t u : Nat} {v v' : Value} {R : Value → World → Prop} (hr : fn.results = #[.tmp t, .tmp u]) (hv : Env.g E t = some v) (hv' : Env.g E u = some v') (h : ∀ w, Mm w0 H w → R (.tuple #[v, v']) w) :
    HX N [] .ret (bodyPost P fn (RetP R)) E w0 H := fun w hM => WX.ret2 hr hv hv' (h w hM)

/- ONE OPERATION -/
theorem HL.nil (h : HX N ds .normal Q E w0 H) : HL P r N ds ol [] Q E w0 H := fun w hM => WL.nil (h w hM)
theorem HL.fold {l : List Oper} (h : HL P r N ds ol l Q E w0 H) : HN N ds (wpListIn (FW r) 0 P ol.toArray Q l) E w0 H := h
theorem HA.fold (h : HA P N ds ol fuel listed Q E w0 H) : HN N ds (wpAnyIn (FW none) 0 P .any ol.toArray Q fuel listed) E w0 H := h
theorem HL.one {d : Option Nat} {op : Op} {ty : TypeId} {pos : String} {af : Array Edge} (h : H1 P r N ds (wpListIn (FW r) 0 P ol.toArray Q rest) ⟨d, op, ty, pos, af, none⟩ Q E w0 H) :
    HL P r N ds ol (⟨d, op, ty, pos, af, none⟩ :: rest) Q E w0 H := fun w hM => WL.one (h w hM)
theorem HL.pa {d : Nat} {op : Op} {ty : TypeId} {pos : String} {af : Array Edge} {v : Value} (h : HL P r N ds ol rest Q ((d, v) :: E) w0 H)
    (hp : POp P N ds E op ty v := by
      first
        | (apply POp.move; rfl)
        | (apply POp.assign; rfl)
        | (apply POp.extract; rfl; rfl)
        | (apply POp.len_slice; rfl)
        | (apply POp.len_string; rfl)
        | (apply POp.lss; rfl; rfl)
        | (apply POp.leq; rfl; rfl)
        | (apply POp.gtr; rfl; rfl)
        | (apply POp.geq; rfl; rfl)
        | (apply POp.eql; rfl; rfl)
        | (apply POp.neq; rfl; rfl)
        | (apply POp.not_d; rfl)
        | (apply POp.not_b; rfl)
        | (apply POp.add; rfl; rfl; omega; omega)
        | (apply POp.sub; rfl; rfl; omega; omega)
        | (apply POp.xor; rfl; rfl; (first | with_reducible exact cst _ | with_reducible exact lit _ | exact rfl); (first | with_reducible exact cst _ | with_reducible exact lit _ | exact rfl); (first | omega | assumption | decide | (refine Nat.lt_of_le_of_lt (Nat.shiftRight_le _ _) ?_; omega) | (refine Nat.lt_of_le_of_lt Nat.and_le_right ?_; omega) | (refine Nat.lt_of_le_of_lt Nat.and_le_left ?_; omega) | (refine Nat.xor_lt_two_pow (n := 63) ?_ ?_ <;> omega)); (first | omega | assumption | decide | (refine Nat.lt_of_le_of_lt (Nat.shiftRight_le _ _) ?_; omega) | (refine Nat.lt_of_le_of_lt Nat.and_le_right ?_; omega) | (refine Nat.lt_of_le_of_lt Nat.and_le_left ?_; omega) | (refine Nat.xor_lt_two_pow (n := 63) ?_ ?_ <;> omega)))
        | (apply POp.xor8; rfl; rfl; (first | with_reducible exact cst _ | with_reducible exact lit _ | exact rfl); (first | with_reducible exact cst _ | with_reducible exact lit _ | exact rfl); (first | omega | assumption); (first | omega | assumption))
        | (apply POp.and; rfl; rfl; (first | with_reducible exact cst _ | with_reducible exact lit _ | exact rfl); (first | with_reducible exact cst _ | with_reducible exact lit _ | exact rfl); (first | omega | assumption | decide | (refine Nat.lt_of_le_of_lt (Nat.shiftRight_le _ _) ?_; omega) | (refine Nat.lt_of_le_of_lt Nat.and_le_right ?_; omega) | (refine Nat.lt_of_le_of_lt Nat.and_le_left ?_; omega) | (refine Nat.xor_lt_two_pow (n := 63) ?_ ?_ <;> omega)); (first | omega | assumption | decide | (refine Nat.lt_of_le_of_lt (Nat.shiftRight_le _ _) ?_; omega) | (refine Nat.lt_of_le_of_lt Nat.and_le_right ?_; omega) | (refine Nat.lt_of_le_of_lt Nat.and_le_left ?_; omega) | (refine Nat.xor_lt_two_pow (n := 63) ?_ ?_ <;> omega)))
        | (apply POp.or; rfl; rfl; (first | with_reducible exact cst _ | with_reducible exact lit _ | exact rfl); (first | with_reducible exact cst _ | with_reducible exact lit _ | exact rfl); (first | omega | assumption | decide | (refine Nat.lt_of_le_of_lt (Nat.shiftRight_le _ _) ?_; omega) | (refine Nat.lt_of_le_of_lt Nat.and_le_right ?_; omega) | (refine Nat.lt_of_le_of_lt Nat.and_le_left ?_; omega) | (refine Nat.xor_lt_two_pow (n := 63) ?_ ?_ <;> omega)); (first | omega | assumption | decide | (refine Nat.lt_of_le_of_lt (Nat.shiftRight_le _ _) ?_; omega) | (refine Nat.lt_of_le_of_lt Nat.and_le_right ?_; omega) | (refine Nat.lt_of_le_of_lt Nat.and_le_left ?_; omega) | (refine Nat.xor_lt_two_pow (n := 63) ?_ ?_ <;> omega)))
        | (apply POp.shr; rfl; rfl; (first | with_reducible exact cst _ | with_reducible exact lit _ | exact rfl); (first | with_reducible exact cst _ | with_reducible exact lit _ | exact rfl); omega)
        | (apply POp.shl; rfl; rfl; (first | with_reducible exact cst _ | with_reducible exact lit _ | exact rfl); (first | with_reducible exact cst _ | with_reducible exact lit _ | exact rfl); omega; (first | omega | assumption | decide | (refine Nat.lt_of_le_of_lt (Nat.shiftRight_le _ _) ?_; omega) | (refine Nat.lt_of_le_of_lt Nat.and_le_right ?_; omega) | (refine Nat.lt_of_le_of_lt Nat.and_le_left ?_; omega) | (refine Nat.xor_lt_two_pow (n := 63) ?_ ?_ <;> omega)))
        | (apply POp.quo; rfl; rfl; omega; omega; omega)
        | (apply POp.rem; rfl; rfl; omega; omega)
        | (apply POp.min_int; rfl; rfl)
        | (apply POp.max_int; rfl; rfl)
        | (apply POp.conv_i64; rfl; omega; omega)
        | (apply POp.index_slice; rfl; rfl; omega; omega; (first | (simp only [Nat.zero_add, Nat.add_zero, Nat.mul_one, Int.toNat_natCast, Int.reduceToNat, Nat.reduceMul, Nat.reduceAdd]; done) | (simp only [Nat.zero_add, Nat.add_zero, Nat.mul_one, Int.toNat_natCast, Int.reduceToNat, Nat.reduceMul, Nat.reduceAdd]; rfl) | rfl))
        | (apply POp.index_array; rfl; rfl; omega; omega; (first | (simp only [Nat.zero_add, Nat.add_zero, Nat.mul_one, Int.toNat_natCast, Int.reduceToNat, Nat.reduceMul, Nat.reduceAdd]; done) | (simp only [Nat.zero_add, Nat.add_zero, Nat.mul_one, Int.toNat_natCast, Int.reduceToNat, Nat.reduceMul, Nat.reduceAdd]; rfl) | rfl))
        | (apply POp.makeFunc; rfl; rfl)
        | (apply POp.index_string; rfl; rfl; (first | with_reducible exact cst _ | with_reducible exact lit _ | exact rfl); omega)
        | (apply POp.sub_lh; rfl; rfl; rfl; omega; omega; omega)
        | (apply POp.sub_h; rfl; rfl; omega; omega)
        | (apply POp.sub_l; rfl; rfl; omega; omega)
        | (apply POp.seql; rfl; rfl)
        | (apply POp.sneq; rfl; rfl)
        | (apply POp.conv_u8; rfl; omega; omega)
        | (apply POp.mul; rfl; rfl; omega; omega)
        | (refine POp.pick_t rfl ?_ rfl; (first | with_reducible rfl | assumption | (simp only [Bool.not_true, Bool.not_false]; done) | (simp only [decide_eq_true_eq, decide_eq_false_iff_not, Bool.not_true, Bool.not_false, not_true_eq_false, not_false_eq_true, reduceCtorEq]; first | done | assumption | omega)))
        | (refine POp.pick_f rfl ?_ rfl; (first | with_reducible rfl | assumption | (simp only [Bool.not_true, Bool.not_false]; done) | (simp only [decide_eq_true_eq, decide_eq_false_iff_not, Bool.not_true, Bool.not_false, not_true_eq_false, not_false_eq_true, reduceCtorEq]; first | done | assumption | omega)))
        | (apply POp.neg; rfl; omega; omega)
        | (apply POp.cat; rfl; rfl; omega)
        | (apply POp.beql; rfl; rfl)
        | (apply POp.bneq; rfl; rfl)
        | (apply POp.field; rfl; rfl)
        | (refine POp.fieldAddr rfl rfl)
        | (apply POp.cut_h; rfl; rfl; omega; omega)
        | (apply POp.xor32; rfl; rfl)
        | (apply POp.and32; rfl; rfl)
        | (apply POp.or32; rfl; rfl)
        | (apply POp.add32; rfl; rfl)
        | (apply POp.not32; rfl)
        | (apply POp.shl32; rfl; rfl; (first | with_reducible exact cst _ | with_reducible exact lit _ | exact rfl); omega)
        | (apply POp.shr32; rfl; rfl; (first | with_reducible exact cst _ | with_reducible exact lit _ | exact rfl); omega)
        | (apply POp.conv832; rfl)
        | (apply POp.conv328; rfl)
        | (apply POp.conv648; rfl)) (hi : isDefer op = false := by exact rfl) (hd : Nat.blt d N = true := by exact rfl) :
    HL P r N ds ol (⟨some d, op, ty, pos, af, none⟩ :: rest) Q E w0 H := fun w hM => WL.p hp hi hd (h w hM)
theorem HL.p {d : Nat} {op : Op} {ty : TypeId} {pos : String} {af : Array Edge} {v : Value} (hp : POp P N ds E op ty v) (hi : isDefer op = false) (hd : Nat.blt d N = true) (h : HL P r N ds ol rest Q ((d, v) :: E) w0 H) :
    HL P r N ds ol (⟨some d, op, ty, pos, af, none⟩ :: rest) Q E w0 H := fun w hM => WL.p hp hi hd (h w hM)
theorem HL.ga {d : Option Nat} {op : Op} {ty : TypeId} {pos : String} {af : Array Edge} {j : Nat} {want b : Bool} (hj : guardE ol E j = some b) (h : HL P r N ds ol (⟨d, op, ty, pos, af, none⟩ :: rest) Q E w0 H)
    (hb : b = want := by
      first | with_reducible rfl | assumption | (simp only [Bool.not_true, Bool.not_false]; done) | (simp only [decide_eq_true_eq, decide_eq_false_iff_not, Bool.not_true, Bool.not_false, not_true_eq_false, not_false_eq_true, reduceCtorEq]; first | done | assumption | omega)) : HL P r N ds ol (⟨d, op, ty, pos, af, some (j, want)⟩ :: rest) Q E w0 H := fun w hM => WL.gy hj hb (h w hM)
theorem HL.na {d : Option Nat} {op : Op} {ty : TypeId} {pos : String} {af : Array Edge} {j : Nat} {want b : Bool} (hj : guardE ol E j = some b) (h : HL P r N ds ol rest Q (putE d undef E) w0 H)
    (hb : b = !want := by
      first | with_reducible rfl | assumption | (simp only [Bool.not_true, Bool.not_false]; done) | (simp only [decide_eq_true_eq, decide_eq_false_iff_not, Bool.not_true, Bool.not_false, not_true_eq_false, not_false_eq_true, reduceCtorEq]; first | done | assumption | omega)) (hd : dOk d N = true := by exact rfl) :
    HL P r N ds ol (⟨d, op, ty, pos, af, some (j, want)⟩ :: rest) Q E w0 H := fun w hM => WL.gn hj hb hd (h w hM)
theorem HL.nu {d : Option Nat} {op : Op} {ty : TypeId} {pos : String} {af : Array Edge} {j : Nat} {want : Bool} (hj : guardU ol E j = true) (hd : dOk d N = true) (h : HL P r N ds ol rest Q (putE d undef E) w0 H) :
    HL P r N ds ol (⟨d, op, ty, pos, af, some (j, want)⟩ :: rest) Q E w0 H := fun w hM => WL.nu hj hd (h w hM)
variable {d : Nat} {t ty : TypeId} {pos : String} {af : Array Edge} {x y : Operand} {k : IntKind} {m n : Int}
/- loads -/
theorem H1.ldw {a : Addr} {v : Value} [ha : ATy P t false] (hx : Env.ev E x = some (.pointer (some a))) (hc : ∀ w, Mm w0 H w → w.cell? a = some v) (hd : Nat.blt d N = true)
    (h : HN N ds next ((d, v) :: E) w0 H) : H1 P r N ds next ⟨some d, .load t x, ty, pos, af, g⟩ Q E w0 H := fun w hM => W1.load hx (hc w hM) hd (h w hM)
theorem H1.ldb {b i : Nat} {cs : List Value} {e : TypeId} {v : Value} [ha : ATy P t false] (hx : Env.ev E x = some (.pointer (some ⟨b, i, none⟩))) (hm : A.blk b cs e ∈ H) (hi : cs[i]? = some v) (hd : Nat.blt d N = true)
    (h : HN N ds next ((d, v) :: E) w0 H) : H1 P r N ds next ⟨some d, .load t x, ty, pos, af, g⟩ Q E w0 H := H1.ldw hx (fun _ hM => (hM.blk hm).cell hi) hd h
theorem H1.ld0 {a : Addr} {v : Value} [ha : ATy P t false] (hx : Env.ev E x = some (.pointer (some a))) (hc : w0.cell? a = some v) (hd : Nat.blt d N = true)
    (h : HN N ds next ((d, v) :: E) w0 H) : H1 P r N ds next ⟨some d, .load t x, ty, pos, af, g⟩ Q E w0 H := H1.ldw hx (fun _ hM => cell_ext hM.ext hc) hd h
theorem ownsRow_cell {w : World} {base b n c sz : Nat} {e : TypeId} {vs : List Value} (h : w.ownsRow base e sz (.slice (some ⟨b, 0, none⟩) n c) n vs) {i : Nat} {v : Value} (hi : vs[i]? = some v) : w.cell? ⟨b, i, none⟩ = some v := by
  have := h.cells (g := b) rfl i v hi
  rwa [add_lit, Nat.zero_add] at this
theorem H1.ldg {b i c n sz : Nat} {e : TypeId} {vs : List Value} {v : Value} [ha : ATy P t false] (hx : Env.ev E x = some (.pointer (some ⟨b, i, none⟩))) (hm : A.grow e sz (some ⟨b, 0, none⟩) c n vs ∈ H) (hi : vs[i]? = some v) (hd : Nat.blt d N = true)
    (h : HN N ds next ((d, v) :: E) w0 H) : H1 P r N ds next ⟨some d, .load t x, ty, pos, af, g⟩ Q E w0 H := H1.ldw hx (fun _ hM => ownsRow_cell (hM.own hm) hi) hd h
theorem H1.ldAgg {b off : Nat} {vs cs : List Value} {e : TypeId} {z : Value} {n bb : Nat} [ha : ATy P t true] [hi : ITy P t z n bb] (hx : Env.ev E x = some (.pointer (some ⟨b, off, none⟩))) (hm : A.blk b cs e ∈ H)
    (hn : vs.length = n) (hc : ∀ i v, vs[i]? = some v → cs[off + i]? = some v) (hd : Nat.blt d N = true)
    (h : HN N ds next ((d, .agg vs.toArray) :: E) w0 H) : H1 P r N ds next ⟨some d, .load t x, ty, pos, af, g⟩ Q E w0 H :=
  fun w hM => W1.loadAgg hx hn (fun i v hv => (hM.blk hm).cell (hc i v hv)) hd (h w hM)
theorem H1.ldAggw {b off : Nat} {vs : List Value} {z : Value} {n bb : Nat} [ha : ATy P t true] [hi : ITy P t z n bb] (hx : Env.ev E x = some (.pointer (some ⟨b, off, none⟩)))
    (hn : vs.length = n) (hc : ∀ w, Mm w0 H w → ∀ i v, vs[i]? = some v → w.cell? ⟨b, off + i, none⟩ = some v) (hd : Nat.blt d N = true)
    (h : HN N ds next ((d, .agg vs.toArray) :: E) w0 H) : H1 P r N ds next ⟨some d, .load t x, ty, pos, af, g⟩ Q E w0 H :=
  fun w hM => W1.loadAgg hx hn (hc w hM) hd (h w hM)
/- stores -/
theorem H1.st {b i : Nat} {cs : List Value} {e : TypeId} {v : Value} {z : Value} {bb : Nat} {H' : List Atom} [hi : ITy P t z 1 bb] (hx : Env.ev E x = some (.pointer (some ⟨b, i, none⟩))) (hy : Env.ev E y = some v)
    (ha : ∀ vs, v ≠ .agg vs) (ht : ∀ vs, v ≠ .tuple vs) (hr : Rpl (A.blk b cs e) (A.blk b (cs.set i v) e) H H') (hlt : i < cs.length)
    (h : HN N ds next E w0 H') : H1 P r N ds next ⟨none, .store t x y, ty, pos, af, g⟩ Q E w0 H := fun w hM =>
  W1.store' hx hy ha ht (hM.blk hr.mem) hlt fun w1 u1 k1 => h w1 (hM.turn hr u1.os u1.tape u1.output (Nat.le_of_eq u1.size.symm) (fun k _ hk => u1.block k (by simpa [A.blk] using hk)) k1 (by simp [A.blk]) (fun b' hb => .inl hb))
theorem H1.stAgg {b : Nat} {cs vs : List Value} {e : TypeId} {z : Value} {n bb : Nat} {H' : List Atom} [hi : ITy P t z n bb] (hx : Env.ev E x = some (.pointer (some ⟨b, 0, none⟩))) (hy : Env.ev E y = some (.agg vs.toArray))
    (hn : vs.length = n) (h1 : ∀ v ∈ vs, v.oneCell' = true) (hr : Rpl (A.blk b cs e) (A.blk b vs e) H H') (hl : vs.length = cs.length)
    (h : HN N ds next E w0 H') : H1 P r N ds next ⟨none, .store t x y, ty, pos, af, g⟩ Q E w0 H := fun w hM =>
  W1.storeAgg' hx hy hn h1 (hM.blk hr.mem) hl fun w1 u1 k1 => h w1 (hM.turn hr u1.os u1.tape u1.output (Nat.le_of_eq u1.size.symm) (fun k _ hk => u1.block k (by simpa [A.blk] using hk)) k1 (by simp [A.blk]) (fun b' hb => .inl hb))
/- new blocks -/
theorem H1.box {v : Value} (hx : Env.ev E x = some v) (hv : v.cells = #[v]) (hd : Nat.blt d N = true)
    (h : ∀ b, HN N ds next ((d, .pointer (some ⟨b, 0, none⟩)) :: E) w0 (A.blk b [v] t :: H)) : H1 P r N ds next ⟨some d, .box t x, ty, pos, af, g⟩ Q E w0 H := fun _ hM =>
  W1.box hx hd (by rw [hv]; exact h _ _ (hM.fresh [v] t))
theorem H1.boxAgg {cs : List Value} (hx : Env.ev E x = some (.agg cs.toArray)) (hd : Nat.blt d N = true)
    (h : ∀ b, HN N ds next ((d, .pointer (some ⟨b, 0, none⟩)) :: E) w0 (A.blk b cs t :: H)) : H1 P r N ds next ⟨some d, .box t x, ty, pos, af, g⟩ Q E w0 H := fun _ hM =>
  W1.box hx hd (h _ _ (hM.fresh cs t))
theorem H1.alloc {z : Value} {n bb : Nat} {cs : List Value} [hi : ITy P t z n bb] (hz : z.cells = cs.toArray) (hd : Nat.blt d N = true)
    (h : ∀ b, HN N ds next ((d, .pointer (some ⟨b, 0, none⟩)) :: E) w0 (A.blk b cs t :: H)) : H1 P r N ds next ⟨some d, .alloc t, ty, pos, af, g⟩ Q E w0 H := fun w hM =>
  W1.alloc (z := z) (n := n) (bb := bb) hd (by rw [hz]; exact h _ _ (hM.fresh cs t))
end
end Go.Sx
namespace Go.Sx
open Go Go.RowKit
section
variable {P : Program} {r : Option Nat} {N : Nat} {ds : List Deferred} {ol rest : List Oper} {Q : Post} {E : Env} {w0 : World} {H : List Atom} {next : Act → World → Prop} {g : Option (Nat × Bool)} {fuel : Nat} {listed : Array Bool}
/- calls -/
theorem H1.callz {α : Type} {V : α → Value} {Hn : α → List Atom} {I : α → Prop} {d : Option Nat} {f : FuncId} {args : List Operand} {ats : Array TypeId} {ty : TypeId} {pos : String} {af : Array Edge} {vs : List Value}
    [hf : CallOk P f] (hd : dOk d N = true) (ha : Env.evs E args = some vs) (hc : ∀ w, Mm w0 H w → Fn P f vs.toArray w fun v w' => ∃ z, I z ∧ v = V z ∧ Mm w (Hn z) w')
    (h : ∀ z, I z → HN N ds next (putE d (V z) E) w0 (Hn z ++ H)) :
    H1 P r N ds next ⟨d, .call ⟨.value (.func f), args.toArray, ats⟩, ty, pos, af, g⟩ Q E w0 H := fun w hM => W1.call hd ha (hc w hM) (by
    rintro v w' ⟨z, hz, rfl, hn⟩; exact h z hz w' (hM.grow hn))
/-- One new atom. -/
theorem H1.callz1 {α : Type} {V : α → Value} {An : α → Atom} {I : α → Prop} {d : Option Nat} {f : FuncId} {args : List Operand} {ats : Array TypeId} {ty : TypeId} {pos : String} {af : Array Edge} {vs : List Value}
    [hf : CallOk P f] (hd : dOk d N = true) (ha : Env.evs E args = some vs) (hc : ∀ w, Mm w0 H w → Fn P f vs.toArray w fun v w' => ∃ z, I z ∧ v = V z ∧ Mm w [An z] w')
    (h : ∀ z, I z → HN N ds next (putE d (V z) E) w0 (An z :: H)) :
    H1 P r N ds next ⟨d, .call ⟨.value (.func f), args.toArray, ats⟩, ty, pos, af, g⟩ Q E w0 H := H1.callz hd ha hc h
theorem H1.call0 {u : Value} {d : Option Nat} {f : FuncId} {args : List Operand} {ats : Array TypeId} {ty : TypeId} {pos : String} {af : Array Edge} {vs : List Value}
    [hf : CallOk P f] (hd : dOk d N = true) (ha : Env.evs E args = some vs) (hc : ∀ w, Mm w0 H w → Fn P f vs.toArray w fun v w' => v = u ∧ w = w')
    (h : HN N ds next (putE d u E) w0 H) :
    H1 P r N ds next ⟨d, .call ⟨.value (.func f), args.toArray, ats⟩, ty, pos, af, g⟩ Q E w0 H := fun w hM => W1.call hd ha (hc w hM) (by
    rintro v w' ⟨rfl, rfl⟩; exact h _ hM)
theorem H1.callx {u : Value} {d : Option Nat} {f : FuncId} {args : List Operand} {ats : Array TypeId} {ty : TypeId} {pos : String} {af : Array Edge} {vs : List Value}
    [hf : CallOk P f] (hd : dOk d N = true) (ha : Env.evs E args = some vs) (hc : ∀ w, Mm w0 H w → Fn P f vs.toArray w fun v w' => v = u ∧ Ext w w')
    (h : HN N ds next (putE d u E) w0 H) :
    H1 P r N ds next ⟨d, .call ⟨.value (.func f), args.toArray, ats⟩, ty, pos, af, g⟩ Q E w0 H := fun w hM => W1.call hd ha (hc w hM) (by
    rintro v w' ⟨rfl, hx⟩; exact h _ (hM.more hx))
/-- What comes back is known by a proposition; no new atom. -/
theorem H1.callp {α : Type} {V : α → Value} {I : α → Prop} {d : Option Nat} {f : FuncId} {args : List Operand} {ats : Array TypeId} {ty : TypeId} {pos : String} {af : Array Edge} {vs : List Value}
    [hf : CallOk P f] (hd : dOk d N = true) (ha : Env.evs E args = some vs) (hc : ∀ w, Mm w0 H w → Fn P f vs.toArray w fun v w' => ∃ z, I z ∧ v = V z ∧ Ext w w')
    (h : ∀ z, I z → HN N ds next (putE d (V z) E) w0 H) :
    H1 P r N ds next ⟨d, .call ⟨.value (.func f), args.toArray, ats⟩, ty, pos, af, g⟩ Q E w0 H := fun w hM => W1.call hd ha (hc w hM) (by
    rintro v w' ⟨z, hz, rfl, hx⟩; exact h z hz _ (hM.more hx))
theorem H1.callv0 {u : Value} {d : Option Nat} {x : Operand} {f : FuncId} {cap : List Value} {args : List Operand} {ats : Array TypeId} {ty : TypeId} {pos : String} {af : Array Edge} {vs : List Value}
    [hf : CallOk P f] (hd : dOk d N = true) (hx : Env.ev E x = some (.func (.func f) #[] cap.toArray)) (ha : Env.evs E args = some vs) (hc : ∀ w, Mm w0 H w → Fn P f (vs ++ cap).toArray w fun v w' => v = u ∧ Ext w w')
    (h : HN N ds next (putE d u E) w0 H) :
    H1 P r N ds next ⟨d, .call ⟨.value x, args.toArray, ats⟩, ty, pos, af, g⟩ Q E w0 H := fun w hM => W1.callv hd hx ha (hc w hM) (by
    rintro v w' ⟨rfl, hw⟩; exact h _ (hM.more hw))
theorem H1.callvz {α : Type} {V : α → Value} {Hn : α → List Atom} {I : α → Prop} {d : Option Nat} {x : Operand} {f : FuncId} {cap : List Value} {args : List Operand} {ats : Array TypeId} {ty : TypeId} {pos : String} {af : Array Edge} {vs : List Value}
    [hf : CallOk P f] (hd : dOk d N = true) (hx : Env.ev E x = some (.func (.func f) #[] cap.toArray)) (ha : Env.evs E args = some vs) (hc : ∀ w, Mm w0 H w → Fn P f (vs ++ cap).toArray w fun v w' => ∃ z, I z ∧ v = V z ∧ Mm w (Hn z) w')
    (h : ∀ z, I z → HN N ds next (putE d (V z) E) w0 (Hn z ++ H)) :
    H1 P r N ds next ⟨d, .call ⟨.value x, args.toArray, ats⟩, ty, pos, af, g⟩ Q E w0 H := fun w hM => W1.callv hd hx ha (hc w hM) (by
    rintro v w' ⟨z, hz, rfl, hn⟩; exact h z hz w' (hM.grow hn))

/- quiet statements -/
theorem HC.quiet [hm : Mixed P] {id : Nat} {l : List Oper} (hB : Region.lexB .any l.toArray = true) (h : HQ P r N ds l l Q E w0 H) : HC P r N ds (.region id l.toArray true) Q E w0 H := fun w hM => WC.quiet hB (h w hM)
theorem HQ.nil (h : HX N ds .normal Q E w0 H) : HQ P r N ds ol [] Q E w0 H := fun _ hM => QL.nil fun w' hw' => h w' (hM.more hw')
variable {op : Op} {ty : TypeId} {pos : String} {af : Array Edge} {v : Value}
theorem HQ.pa {d : Nat} (h : HQ P r N ds ol rest Q ((d, v) :: E) w0 H)
    (hp : POp P N ds E op ty v := by
      first
        | (apply POp.move; rfl)
        | (apply POp.assign; rfl)
        | (apply POp.extract; rfl; rfl)
        | (apply POp.len_slice; rfl)
        | (apply POp.len_string; rfl)
        | (apply POp.lss; rfl; rfl)
        | (apply POp.leq; rfl; rfl)
        | (apply POp.gtr; rfl; rfl)
        | (apply POp.geq; rfl; rfl)
        | (apply POp.eql; rfl; rfl)
        | (apply POp.neq; rfl; rfl)
        | (apply POp.not_d; rfl)
        | (apply POp.not_b; rfl)
        | (apply POp.add; rfl; rfl; omega; omega)
        | (apply POp.sub; rfl; rfl; omega; omega)
        | (apply POp.xor; rfl; rfl; (first | with_reducible exact cst _ | with_reducible exact lit _ | exact rfl); (first | with_reducible exact cst _ | with_reducible exact lit _ | exact rfl); (first | omega | assumption | decide | (refine Nat.lt_of_le_of_lt (Nat.shiftRight_le _ _) ?_; omega) | (refine Nat.lt_of_le_of_lt Nat.and_le_right ?_; omega) | (refine Nat.lt_of_le_of_lt Nat.and_le_left ?_; omega) | (refine Nat.xor_lt_two_pow (n := 63) ?_ ?_ <;> omega)); (first | omega | assumption | decide | (refine Nat.lt_of_le_of_lt (Nat.shiftRight_le _ _) ?_; omega) | (refine Nat.lt_of_le_of_lt Nat.and_le_right ?_; omega) | (refine Nat.lt_of_le_of_lt Nat.and_le_left ?_; omega) | (refine Nat.xor_lt_two_pow (n := 63) ?_ ?_ <;> omega)))
        | (apply POp.xor8; rfl; rfl; (first | with_reducible exact cst _ | with_reducible exact lit _ | exact rfl); (first | with_reducible exact cst _ | with_reducible exact lit _ | exact rfl); (first | omega | assumption); (first | omega | assumption))
        | (apply POp.and; rfl; rfl; (first | with_reducible exact cst _ | with_reducible exact lit _ | exact rfl); (first | with_reducible exact cst _ | with_reducible exact lit _ | exact rfl); (first | omega | assumption | decide | (refine Nat.lt_of_le_of_lt (Nat.shiftRight_le _ _) ?_; omega) | (refine Nat.lt_of_le_of_lt Nat.and_le_right ?_; omega) | (refine Nat.lt_of_le_of_lt Nat.and_le_left ?_; omega) | (refine Nat.xor_lt_two_pow (n := 63) ?_ ?_ <;> omega)); (first | omega | assumption | decide | (refine Nat.lt_of_le_of_lt (Nat.shiftRight_le _ _) ?_; omega) | (refine Nat.lt_of_le_of_lt Nat.and_le_right ?_; omega) | (refine Nat.lt_of_le_of_lt Nat.and_le_left ?_; omega) | (refine Nat.xor_lt_two_pow (n := 63) ?_ ?_ <;> omega)))
        | (apply POp.or; rfl; rfl; (first | with_reducible exact cst _ | with_reducible exact lit _ | exact rfl); (first | with_reducible exact cst _ | with_reducible exact lit _ | exact rfl); (first | omega | assumption | decide | (refine Nat.lt_of_le_of_lt (Nat.shiftRight_le _ _) ?_; omega) | (refine Nat.lt_of_le_of_lt Nat.and_le_right ?_; omega) | (refine Nat.lt_of_le_of_lt Nat.and_le_left ?_; omega) | (refine Nat.xor_lt_two_pow (n := 63) ?_ ?_ <;> omega)); (first | omega | assumption | decide | (refine Nat.lt_of_le_of_lt (Nat.shiftRight_le _ _) ?_; omega) | (refine Nat.lt_of_le_of_lt Nat.and_le_right ?_; omega) | (refine Nat.lt_of_le_of_lt Nat.and_le_left ?_; omega) | (refine Nat.xor_lt_two_pow (n := 63) ?_ ?_ <;> omega)))
        | (apply POp.shr; rfl; rfl; (first | with_reducible exact cst _ | with_reducible exact lit _ | exact rfl); (first | with_reducible exact cst _ | with_reducible exact lit _ | exact rfl); omega)
        | (apply POp.shl; rfl; rfl; (first | with_reducible exact cst _ | with_reducible exact lit _ | exact rfl); (first | with_reducible exact cst _ | with_reducible exact lit _ | exact rfl); omega; (first | omega | assumption | decide | (refine Nat.lt_of_le_of_lt (Nat.shiftRight_le _ _) ?_; omega) | (refine Nat.lt_of_le_of_lt Nat.and_le_right ?_; omega) | (refine Nat.lt_of_le_of_lt Nat.and_le_left ?_; omega) | (refine Nat.xor_lt_two_pow (n := 63) ?_ ?_ <;> omega)))
        | (apply POp.quo; rfl; rfl; omega; omega; omega)
        | (apply POp.rem; rfl; rfl; omega; omega)
        | (apply POp.min_int; rfl; rfl)
        | (apply POp.max_int; rfl; rfl)
        | (apply POp.conv_i64; rfl; omega; omega)
        | (apply POp.index_slice; rfl; rfl; omega; omega; (first | (simp only [Nat.zero_add, Nat.add_zero, Nat.mul_one, Int.toNat_natCast, Int.reduceToNat, Nat.reduceMul, Nat.reduceAdd]; done) | (simp only [Nat.zero_add, Nat.add_zero, Nat.mul_one, Int.toNat_natCast, Int.reduceToNat, Nat.reduceMul, Nat.reduceAdd]; rfl) | rfl))
        | (apply POp.index_array; rfl; rfl; omega; omega; (first | (simp only [Nat.zero_add, Nat.add_zero, Nat.mul_one, Int.toNat_natCast, Int.reduceToNat, Nat.reduceMul, Nat.reduceAdd]; done) | (simp only [Nat.zero_add, Nat.add_zero, Nat.mul_one, Int.toNat_natCast, Int.reduceToNat, Nat.reduceMul, Nat.reduceAdd]; rfl) | rfl))
        | (apply POp.makeFunc; rfl; rfl)
        | (apply POp.index_string; rfl; rfl; (first | with_reducible exact cst _ | with_reducible exact lit _ | exact rfl); omega)
        | (apply POp.sub_lh; rfl; rfl; rfl; omega; omega; omega)
        | (apply POp.sub_h; rfl; rfl; omega; omega)
        | (apply POp.sub_l; rfl; rfl; omega; omega)
        | (apply POp.seql; rfl; rfl)
        | (apply POp.sneq; rfl; rfl)
        | (apply POp.conv_u8; rfl; omega; omega)
        | (apply POp.mul; rfl; rfl; omega; omega)
        | (refine POp.pick_t rfl ?_ rfl; (first | with_reducible rfl | assumption | (simp only [Bool.not_true, Bool.not_false]; done) | (simp only [decide_eq_true_eq, decide_eq_false_iff_not, Bool.not_true, Bool.not_false, not_true_eq_false, not_false_eq_true, reduceCtorEq]; first | done | assumption | omega)))
        | (refine POp.pick_f rfl ?_ rfl; (first | with_reducible rfl | assumption | (simp only [Bool.not_true, Bool.not_false]; done) | (simp only [decide_eq_true_eq, decide_eq_false_iff_not, Bool.not_true, Bool.not_false, not_true_eq_false, not_false_eq_true, reduceCtorEq]; first | done | assumption | omega)))
        | (apply POp.neg; rfl; omega; omega)
        | (apply POp.cat; rfl; rfl; omega)
        | (apply POp.beql; rfl; rfl)
        | (apply POp.bneq; rfl; rfl)
        | (apply POp.field; rfl; rfl)
        | (refine POp.fieldAddr rfl rfl)
        | (apply POp.cut_h; rfl; rfl; omega; omega)
        | (apply POp.xor32; rfl; rfl)
        | (apply POp.and32; rfl; rfl)
        | (apply POp.or32; rfl; rfl)
        | (apply POp.add32; rfl; rfl)
        | (apply POp.not32; rfl)
        | (apply POp.shl32; rfl; rfl; (first | with_reducible exact cst _ | with_reducible exact lit _ | exact rfl); omega)
        | (apply POp.shr32; rfl; rfl; (first | with_reducible exact cst _ | with_reducible exact lit _ | exact rfl); omega)
        | (apply POp.conv832; rfl)
        | (apply POp.conv328; rfl)
        | (apply POp.conv648; rfl)) (hd : Nat.blt d N = true := by exact rfl) :
    HQ P r N ds ol (⟨some d, op, ty, pos, af, none⟩ :: rest) Q E w0 H := fun w hM => QL.p hp hd (h w hM)
theorem HQ.ga {d : Option Nat} {j : Nat} {want b : Bool} (hj : guardE ol E j = some b) (h : HQ P r N ds ol (⟨d, op, ty, pos, af, none⟩ :: rest) Q E w0 H)
    (hb : b = want := by
      first | with_reducible rfl | assumption | (simp only [Bool.not_true, Bool.not_false]; done) | (simp only [decide_eq_true_eq, decide_eq_false_iff_not, Bool.not_true, Bool.not_false, not_true_eq_false, not_false_eq_true, reduceCtorEq]; first | done | assumption | omega)) : HQ P r N ds ol (⟨d, op, ty, pos, af, some (j, want)⟩ :: rest) Q E w0 H := fun w hM => QL.gy hj hb (h w hM)
theorem HQ.na {d : Option Nat} {j : Nat} {want b : Bool} (hj : guardE ol E j = some b) (h : HQ P r N ds ol rest Q (putE d undef E) w0 H)
    (hb : b = !want := by
      first | with_reducible rfl | assumption | (simp only [Bool.not_true, Bool.not_false]; done) | (simp only [decide_eq_true_eq, decide_eq_false_iff_not, Bool.not_true, Bool.not_false, not_true_eq_false, not_false_eq_true, reduceCtorEq]; first | done | assumption | omega)) (hd : dOk d N = true := by exact rfl) :
    HQ P r N ds ol (⟨d, op, ty, pos, af, some (j, want)⟩ :: rest) Q E w0 H := fun w hM => QL.gn hj hb hd (h w hM)
theorem HQ.nu {d : Option Nat} {j : Nat} {want : Bool} (hj : guardU ol E j = true) (h : HQ P r N ds ol rest Q (putE d undef E) w0 H) (hd : dOk d N = true := by exact rfl) :
    HQ P r N ds ol (⟨d, op, ty, pos, af, some (j, want)⟩ :: rest) Q E w0 H := fun w hM => QL.nu hj (h w hM) hd
theorem HQ.ld {d : Nat} {t : TypeId} {x : Operand} {a : Addr} [ht : ATy P t false] (hx : Env.ev E x = some (.pointer (some a)))
    (hc : ∀ w, Mm w0 H w → w.cell? a = some v) (hd : Nat.blt d N = true) (h : HQ P r N ds ol rest Q ((d, v) :: E) w0 H) : HQ P r N ds ol (⟨some d, .load t x, ty, pos, af, none⟩ :: rest) Q E w0 H := fun w hM => QL.load hx (hc w hM) hd (h w hM)

/- every order -/
theorem HC.any [hm : Mixed P] {id : Nat} {l : List Oper} {fuel : Nat} (hf : l.length = fuel) (h : HA P N ds l fuel (Array.replicate l.length false) Q E w0 H) :
    HC P none N ds (.region id l.toArray true) Q E w0 H := fun _ hM => WC.any hf fun w' hx _ => h w' (hM.more hx)
theorem HA.pa [hq : QPanic Q] {d : Nat} (i : Nat) (ho : ol[i]? = some ⟨some d, op, ty, pos, af, none⟩) (h : HA P N ds ol fuel (listed.setIfInBounds i true) Q ((d, v) :: E) w0 H)
    (hp : POp P N ds E op ty v := by
      first
        | (apply POp.move; rfl)
        | (apply POp.assign; rfl)
        | (apply POp.extract; rfl; rfl)
        | (apply POp.len_slice; rfl)
        | (apply POp.len_string; rfl)
        | (apply POp.lss; rfl; rfl)
        | (apply POp.leq; rfl; rfl)
        | (apply POp.gtr; rfl; rfl)
        | (apply POp.geq; rfl; rfl)
        | (apply POp.eql; rfl; rfl)
        | (apply POp.neq; rfl; rfl)
        | (apply POp.not_d; rfl)
        | (apply POp.not_b; rfl)
        | (apply POp.add; rfl; rfl; omega; omega)
        | (apply POp.sub; rfl; rfl; omega; omega)
        | (apply POp.xor; rfl; rfl; (first | with_reducible exact cst _ | with_reducible exact lit _ | exact rfl); (first | with_reducible exact cst _ | with_reducible exact lit _ | exact rfl); (first | omega | assumption | decide | (refine Nat.lt_of_le_of_lt (Nat.shiftRight_le _ _) ?_; omega) | (refine Nat.lt_of_le_of_lt Nat.and_le_right ?_; omega) | (refine Nat.lt_of_le_of_lt Nat.and_le_left ?_; omega) | (refine Nat.xor_lt_two_pow (n := 63) ?_ ?_ <;> omega)); (first | omega | assumption | decide | (refine Nat.lt_of_le_of_lt (Nat.shiftRight_le _ _) ?_; omega) | (refine Nat.lt_of_le_of_lt Nat.and_le_right ?_; omega) | (refine Nat.lt_of_le_of_lt Nat.and_le_left ?_; omega) | (refine Nat.xor_lt_two_pow (n := 63) ?_ ?_ <;> omega)))
        | (apply POp.xor8; rfl; rfl; (first | with_reducible exact cst _ | with_reducible exact lit _ | exact rfl); (first | with_reducible exact cst _ | with_reducible exact lit _ | exact rfl); (first | omega | assumption); (first | omega | assumption))
        | (apply POp.and; rfl; rfl; (first | with_reducible exact cst _ | with_reducible exact lit _ | exact rfl); (first | with_reducible exact cst _ | with_reducible exact lit _ | exact rfl); (first | omega | assumption | decide | (refine Nat.lt_of_le_of_lt (Nat.shiftRight_le _ _) ?_; omega) | (refine Nat.lt_of_le_of_lt Nat.and_le_right ?_; omega) | (refine Nat.lt_of_le_of_lt Nat.and_le_left ?_; omega) | (refine Nat.xor_lt_two_pow (n := 63) ?_ ?_ <;> omega)); (first | omega | assumption | decide | (refine Nat.lt_of_le_of_lt (Nat.shiftRight_le _ _) ?_; omega) | (refine Nat.lt_of_le_of_lt Nat.and_le_right ?_; omega) | (refine Nat.lt_of_le_of_lt Nat.and_le_left ?_; omega) | (refine Nat.xor_lt_two_pow (n := 63) ?_ ?_ <;> omega)))
        | (apply POp.or; rfl; rfl; (first | with_reducible exact cst _ | with_reducible exact lit _ | exact rfl); (first | with_reducible exact cst _ | with_reducible exact lit _ | exact rfl); (first | omega | assumption | decide | (refine Nat.lt_of_le_of_lt (Nat.shiftRight_le _ _) ?_; omega) | (refine Nat.lt_of_le_of_lt Nat.and_le_right ?_; omega) | (refine Nat.lt_of_le_of_lt Nat.and_le_left ?_; omega) | (refine Nat.xor_lt_two_pow (n := 63) ?_ ?_ <;> omega)); (first | omega | assumption | decide | (refine Nat.lt_of_le_of_lt (Nat.shiftRight_le _ _) ?_; omega) | (refine Nat.lt_of_le_of_lt Nat.and_le_right ?_; omega) | (refine Nat.lt_of_le_of_lt Nat.and_le_left ?_; omega) | (refine Nat.xor_lt_two_pow (n := 63) ?_ ?_ <;> omega)))
        | (apply POp.shr; rfl; rfl; (first | with_reducible exact cst _ | with_reducible exact lit _ | exact rfl); (first | with_reducible exact cst _ | with_reducible exact lit _ | exact rfl); omega)
        | (apply POp.shl; rfl; rfl; (first | with_reducible exact cst _ | with_reducible exact lit _ | exact rfl); (first | with_reducible exact cst _ | with_reducible exact lit _ | exact rfl); omega; (first | omega | assumption | decide | (refine Nat.lt_of_le_of_lt (Nat.shiftRight_le _ _) ?_; omega) | (refine Nat.lt_of_le_of_lt Nat.and_le_right ?_; omega) | (refine Nat.lt_of_le_of_lt Nat.and_le_left ?_; omega) | (refine Nat.xor_lt_two_pow (n := 63) ?_ ?_ <;> omega)))
        | (apply POp.quo; rfl; rfl; omega; omega; omega)
        | (apply POp.rem; rfl; rfl; omega; omega)
        | (apply POp.min_int; rfl; rfl)
        | (apply POp.max_int; rfl; rfl)
        | (apply POp.conv_i64; rfl; omega; omega)
        | (apply POp.index_slice; rfl; rfl; omega; omega; (first | (simp only [Nat.zero_add, Nat.add_zero, Nat.mul_one, Int.toNat_natCast, Int.reduceToNat, Nat.reduceMul, Nat.reduceAdd]; done) | (simp only [Nat.zero_add, Nat.add_zero, Nat.mul_one, Int.toNat_natCast, Int.reduceToNat, Nat.reduceMul, Nat.reduceAdd]; rfl) | rfl))
        | (apply POp.index_array; rfl; rfl; omega; omega; (first | (simp only [Nat.zero_add, Nat.add_zero, Nat.mul_one, Int.toNat_natCast, Int.reduceToNat, Nat.reduceMul, Nat.reduceAdd]; done) | (simp only [Nat.zero_add, Nat.add_zero, Nat.mul_one, Int.toNat_natCast, Int.reduceToNat, Nat.reduceMul, Nat.reduceAdd]; rfl) | rfl))
        | (apply POp.makeFunc; rfl; rfl)
        | (apply POp.index_string; rfl; rfl; (first | with_reducible exact cst _ | with_reducible exact lit _ | exact rfl); omega)
        | (apply POp.sub_lh; rfl; rfl; rfl; omega; omega; omega)
        | (apply POp.sub_h; rfl; rfl; omega; omega)
        | (apply POp.sub_l; rfl; rfl; omega; omega)
        | (apply POp.seql; rfl; rfl)
        | (apply POp.sneq; rfl; rfl)
        | (apply POp.conv_u8; rfl; omega; omega)
        | (apply POp.mul; rfl; rfl; omega; omega)
        | (refine POp.pick_t rfl ?_ rfl; (first | with_reducible rfl | assumption | (simp only [Bool.not_true, Bool.not_false]; done) | (simp only [decide_eq_true_eq, decide_eq_false_iff_not, Bool.not_true, Bool.not_false, not_true_eq_false, not_false_eq_true, reduceCtorEq]; first | done | assumption | omega)))
        | (refine POp.pick_f rfl ?_ rfl; (first | with_reducible rfl | assumption | (simp only [Bool.not_true, Bool.not_false]; done) | (simp only [decide_eq_true_eq, decide_eq_false_iff_not, Bool.not_true, Bool.not_false, not_true_eq_false, not_false_eq_true, reduceCtorEq]; first | done | assumption | omega)))
        | (apply POp.neg; rfl; omega; omega)
        | (apply POp.cat; rfl; rfl; omega)
        | (apply POp.beql; rfl; rfl)
        | (apply POp.bneq; rfl; rfl)
        | (apply POp.field; rfl; rfl)
        | (refine POp.fieldAddr rfl rfl)
        | (apply POp.cut_h; rfl; rfl; omega; omega)
        | (apply POp.xor32; rfl; rfl)
        | (apply POp.and32; rfl; rfl)
        | (apply POp.or32; rfl; rfl)
        | (apply POp.add32; rfl; rfl)
        | (apply POp.not32; rfl)
        | (apply POp.shl32; rfl; rfl; (first | with_reducible exact cst _ | with_reducible exact lit _ | exact rfl); omega)
        | (apply POp.shr32; rfl; rfl; (first | with_reducible exact cst _ | with_reducible exact lit _ | exact rfl); omega)
        | (apply POp.conv832; rfl)
        | (apply POp.conv328; rfl)
        | (apply POp.conv648; rfl))
    (hs : (Region.noSelect ol.toArray && Region.free .any ol.toArray listed i && (Region.ready .any ol.toArray listed).contains i) = true := by kernel_rfl)
    (hi : callsB op = false := by exact rfl)
    (hd : Nat.blt d N = true := by exact rfl) : HA P N ds ol (fuel + 1) listed Q E w0 H := fun w hM => WA.take i ho hs hi hp hd (h w hM)
theorem HA.done (hr : Region.ready .any ol.toArray listed = []) (h : HX N ds .normal Q E w0 H) : HA P N ds ol fuel listed Q E w0 H := fun w hM => WA.done hr (h w hM)
def HO (P : Program) (N : Nat) (ds : List Deferred) (ol : List Oper) (fuel : Nat) (listed : Array Bool) (i : Nat) (o : Oper) (Q : Post) (E : Env) (w0 : World) (H : List Atom) : Prop := ∀ w, Mm w0 H w → WO P N ds ol fuel listed i o Q E w
def AllH (P : Program) (N : Nat) (ds : List Deferred) (ol : List Oper) (fuel : Nat) (listed : Array Bool) (Q : Post) (E : Env) (w0 : World) (H : List Atom) : List Nat → Prop
  | [] => True
  | i :: l => (∃ o, ol[i]? = some o ∧ HO P N ds ol fuel listed i o Q E w0 H) ∧ AllH P N ds ol fuel listed Q E w0 H l
theorem AllH.at {w : World} (hM : Mm w0 H w) : ∀ l : List Nat, AllH P N ds ol fuel listed Q E w0 H l → AllO P N ds ol fuel listed Q E w l
  | [], _ => trivial
  | _ :: l, ⟨⟨o, h1, h2⟩, h3⟩ => ⟨⟨o, h1, h2 w hM⟩, AllH.at hM l h3⟩
theorem HA.all (rs : List Nat) (hr : Region.ready .any ol.toArray listed = rs) (hne : rs.isEmpty = false) (h : AllH P N ds ol fuel listed Q E w0 H rs) : HA P N ds ol (fuel + 1) listed Q E w0 H := fun _ hM =>
  WA.all rs hr hne (AllH.at hM rs h)
theorem HO.one {d : Option Nat} {i : Nat} (h : H1 P none N ds (wpAnyIn (FW none) 0 P .any ol.toArray Q fuel (listed.setIfInBounds i true)) ⟨d, op, ty, pos, af, none⟩ Q E w0 H) :
    HO P N ds ol fuel listed i ⟨d, op, ty, pos, af, none⟩ Q E w0 H := fun w hM => WO.one (h w hM)
theorem HO.one_g {d : Option Nat} {i j : Nat} {want b : Bool} (hj : guardE ol E j = some b) (hb : b = want)
    (h : H1 P none N ds (wpAnyIn (FW none) 0 P .any ol.toArray Q fuel (listed.setIfInBounds i true)) ⟨d, op, ty, pos, af, some (j, want)⟩ Q E w0 H) :
    HO P N ds ol fuel listed i ⟨d, op, ty, pos, af, some (j, want)⟩ Q E w0 H := fun w hM => WO.one_g hj hb (h w hM)

/- literals -/
def Env.evp (E : Env) : List (Nat × Operand) → Option (List (Nat × Value))
  | [] => some []
  | (i, x) :: l => match Env.ev E x, Env.evp E l with
    | some v, some vs => some ((i, v) :: vs)
    | _, _ => none
theorem Rep.evp {a : Act} (h : Rep N ds E a) {l : List (Nat × Operand)} {vs : List (Nat × Value)} (hx : Env.evp E l = some vs) : l.map (fun p => (p.1, a.eval p.2)) = vs := by
  induction l generalizing vs with
  | nil => simpa [Env.evp] using hx
  | cons x l ih =>
    obtain ⟨i, x⟩ := x
    simp only [Env.evp] at hx
    split at hx
    · rename_i v us hv hus
      cases hx
      simp [h.ev hv, ih hus]
    · cases hx
/-- The cells of a literal: each part over the zero's. -/
def litPut (off : Nat) : List Value → List Value → List Value
  | [], cs => cs
  | v :: l, cs => litPut (off + 1) l (cs.set off v)
def litC (place : Nat → Option (Nat × Nat)) (cs : List Value) : List (Nat × Value) → Option (List Value)
  | [] => some cs
  | (i, v) :: l => match place i with
    | none => none
    | some (off, size) => cond (Nat.beq v.cells.size size && Nat.ble (off + size) cs.length) (litC place (litPut off v.cells.toList cs) l) none
theorem litPut_fold (off : Nat) : ∀ (l : List Value) (k : Nat) (cs : List Value), (l.zipIdx k).foldl (fun (cs : Array Value) (p : Value × Nat) => cs.setIfInBounds (off + p.2) p.1) cs.toArray = (litPut (off + k) l cs).toArray
  | [], _, _ => rfl
  | v :: l, k, cs => by
    simp only [List.zipIdx_cons, List.foldl_cons, litPut]
    rw [List.setIfInBounds_toArray, litPut_fold off l (k + 1)]
    rfl
theorem litC_fill (place : Nat → Option (Nat × Nat)) : ∀ (l : List (Nat × Value)) (cs out : List Value), litC place cs l = some out → Instr.fill place cs.toArray l = some out.toArray
  | [], cs, out, h => by simp only [litC, Option.some.injEq] at h; subst h; rfl
  | (i, v) :: l, cs, out, h => by
    simp only [litC] at h
    unfold Instr.fill
    cases hp : place i with
    | none => rw [hp] at h; cases h
    | some p =>
      obtain ⟨off, size⟩ := p
      rw [hp] at h
      simp only at h ⊢
      cases hb : (Nat.beq v.cells.size size && Nat.ble (off + size) cs.length) with
      | false => rw [hb] at h; cases h
      | true =>
        rw [hb] at h
        simp only [cond_true] at h
        rw [Bool.and_eq_true] at hb
        have hb1 : v.cells.size = size := Nat.eq_of_beq_eq_true hb.1
        have hb2 : off + size ≤ cs.length := Nat.le_of_ble_eq_true hb.2
        have e1 : (decide (v.cells.size ≠ size) || decide (off + v.cells.size > cs.toArray.size)) = false := by
          simp [hb1]; omega
        rw [e1]
        simp only [Bool.false_eq_true, if_false]
        have := litPut_fold off v.cells.toList 0 cs
        have e2 : v.cells.zipIdx.foldl (fun (cs : Array Value) (x : Value × Nat) => cs.setIfInBounds (off + x.2) x.1) cs.toArray = (litPut off v.cells.toList cs).toArray := by
          rw [← Array.foldl_toList, Array.toList_zipIdx]; exact this
        exact Eq.trans (congrArg (fun c => Instr.fill place c l) e2) (litC_fill place l _ out h)
def zeroRow (n : Nat) (z : List Value) : List Value := (List.range n).map fun i => z.getD (i % z.length) default
theorem H1.lit {d : Nat} {t e : TypeId} {z : Value} {sz bb len : Nat} {parts : List (Nat × Operand)} {pv : List (Nat × Value)} {zs cs : List Value} [h : UTy P t (.slice e)] [hi : ITy P e z sz bb]
    (hx : Env.evp E parts = some pv) (hz : z.cells = zs.toArray) (hc : litC (fun i => some (i * sz, sz)) (zeroRow (len * sz) zs) pv = some cs) (hn : Nat.ble (len * sz) 16777216 = true) (h0 : Nat.beq (len * sz) 0 = false) (hd : Nat.blt d N = true)
    (hh : ∀ b, HN N ds next ((d, .slice (some ⟨b, 0, none⟩) len len) :: E) w0 (A.blk b cs e :: H)) :
    H1 P r N ds next ⟨some d, .buildSlice t len parts.toArray, ty, pos, af, g⟩ Q E w0 H := fun w hM =>
  W1.run (v := .slice (some ⟨w.heap.size, 0, none⟩) len len) (w' := w.alloc (.cells cs.toArray e)) (fun a ha => by
    have hp : Array.map (fun (p : Nat × Operand) => (p.1, a.eval p.2)) parts.toArray = pv.toArray := by simp [ha.evp hx]
    have h1 : ¬ (len * sz > 2 ^ 24) := by have := Nat.le_of_ble_eq_true hn; omega
    have h2 : ¬ (len * sz = 0) := fun e => by rw [e] at h0; cases h0
    have hzr : (Array.range (len * sz)).map (fun i => zs.toArray[i % zs.toArray.size]!) = (zeroRow (len * sz) zs).toArray := by
      apply Array.ext
      · simp [zeroRow]
      · intro i h1 h2
        simp [zeroRow, List.getD_eq_getElem?_getD]
    have hfill := litC_fill _ _ _ _ hc
    simp only [execOp, Instr.buildSlice, Sem.run_bind, run_underlying h.is, run_sizeOf (h := hi), Result.andThen, h1, h2, if_false, run_zeroValue (h := hi), hp, hz, Sem.run_pure, hzr, hfill, newRow, run_newObj]
    rfl) rfl hd (hh _ _ (hM.fresh cs e))
end
end Go.Sx
namespace Go.Sx
open Go Go.RowKit
theorem run_append_own2 {P : Program} {w : World} (t ty e : TypeId) (i : TypeInfo) (z : Value) (size bytes : Nat) (ht : P.underlying t = some (.slice e)) (hi : P.info? e = some i) (hz : i.zero = some z)
    (hsize : i.size = size) (hby : i.bytes = bytes) (hzs : z.cells.size = size) (hsz : 0 < size)
    (v : Value) (n : Nat) (xs : List Value) (hown : w.ownsRow 0 e size v n xs)
    (a : Addr) (m c : Nat) (news : List Value) (hl : news.length = m * size) (hnews : ∀ j u, news[j]? = some u → w.cell? (a.add j) = some u) (h1 : ∀ u ∈ news, u.oneCell' = true)
    (h63 : n + m ≤ maxLen) (hbytes : (n + m) * bytes ≤ 140737488355328) :
    ∃ a' c' w', (Builtin.append_ #[t, t] ty #[v, .slice (some a) m c]).run P w = .ok (.slice a' (n + m) c') w' ∧ w'.ownsRow 0 e size (.slice a' (n + m) c') (n + m) (xs ++ news) ∧ w.grownBy w' v.ownBlock ∧
      (∀ b, (Value.slice a' (n + m) c').ownBlock = some b → v.ownBlock = some b ∨ w.heap.size ≤ b) ∧ (n + m = 0 ∨ ∃ b, a' = some ⟨b, 0, none⟩) := by
  obtain ⟨v', w', hr, h2, h3, -⟩ := run_append_own (P := P) w 0 t ty e i z size bytes ht hi hz hsize hby hzs hsz v n xs hown a m c news hl hnews h1 h63 hbytes (Nat.zero_le _)
  have hnew : ∀ b, v'.ownBlock = some b → v.ownBlock = some b ∨ w.heap.size ≤ b := by
    intro b hb
    rcases hown.2 with ⟨rfl, rfl⟩ | ⟨g, cap, cur, rfl, hbg, hg, hnc, hcm, hcs, htake⟩
    · have hx : xs = [] := List.eq_nil_of_length_eq_zero (by simpa using hown.1)
      subst hx
      obtain ⟨v'', w'', hr', h2', -, -⟩ := run_append_own (P := P) w w.heap.size t ty e i z size bytes ht hi hz hsize hby hzs hsz _ 0 [] (World.ownsRow_nil w w.heap.size e size) a m c news hl hnews h1 h63 hbytes (Nat.le_refl _)
      rw [hr] at hr'
      cases hr'
      exact .inr (h2'.lt b hb).1
    · by_cases hroom : n + m ≤ cap
      · have hfit : n * i.size + news.length ≤ cur.size := by rw [hl, hcs, hsize, ← Nat.add_mul]; exact Nat.mul_le_mul_right _ hroom
        have hr' := run_append_room (P := P) w t ty e i ht hi g n cap cur hg a m c news (by rw [hl, hsize]) hnews h1 hroom hfit
        rw [hr] at hr'
        cases hr'
        exact .inl hb
      · have holds : ∀ j u, xs[j]? = some u → w.cell? ((⟨g, 0, none⟩ : Addr).add j) = some u := hown.cells (g := g) rfl
        have hsmall : n + m ≤ 9223372036854775807 := by simp only [maxLen] at h63; omega
        have hr' := run_append_grow (P := P) w t ty e i z ht hi hz ⟨g, 0, none⟩ n cap xs (by rw [hown.1, hsize]) holds a m c news (by rw [hl, hsize]) hnews (by omega) (by omega) (growslice_fits (by omega) (by rw [hby]; exact hbytes))
        rw [hr] at hr'
        cases hr'
        right
        simp only [Value.ownBlock, Option.some.injEq] at hb
        subst hb
        simp
  rcases h2.2 with ⟨rfl, h0⟩ | ⟨g, cap, cur, rfl, hbg, hg, hnc, hcm, hcs, htake⟩
  · refine ⟨none, 0, w', ?_, ?_, h3, ?_, .inl h0⟩ <;> rw [h0]
    · exact hr
    · rwa [h0] at h2
    · exact hnew
  · exact ⟨_, cap, w', hr, h2, h3, hnew, .inr ⟨g, rfl⟩⟩
section
variable {P : Program} {r : Option Nat} {N : Nat} {ds : List Deferred} {ol rest : List Oper} {Q : Post} {E : Env} {w0 : World} {H : List Atom} {next : Act → World → Prop} {g : Option (Nat × Bool)} {fuel : Nat} {listed : Array Bool}
variable {d : Nat} {t ty : TypeId} {pos : String} {af : Array Edge} {x y : Operand}
theorem H1.app {e : TypeId} {z : Value} {sz bb n m c c2 : Nat} {a : Option Addr} {xs news : List Value} {ad : Addr} {H' : Option Addr → Nat → List Atom} [h : UTy P t (.slice e)] [hi : ITy P e z sz bb] (hzs : z.cells.size = sz) (hsz : 0 < sz)
    (hx : Env.ev E x = some (.slice a n c)) (hy : Env.ev E y = some (.slice (some ad) m c2)) (hr : ∀ a' c', Rpl (A.grow e sz a c n xs) (A.grow e sz a' c' (n + m) (xs ++ news)) H (H' a' c'))
    (hl : news.length = m * sz) (hnews : ∀ w, Mm w0 H w → ∀ j u, news[j]? = some u → w.cell? (ad.add j) = some u) (h1 : ∀ u ∈ news, u.oneCell' = true) (hnm : n + m ≤ 1000000) (hb : bb ≤ 1000) (hd : Nat.blt d N = true)
    (hn : ∀ a' c', (n + m = 0 ∨ ∃ b, a' = some ⟨b, 0, none⟩) → HN N ds next ((d, .slice a' (n + m) c') :: E) w0 (H' a' c')) :
    H1 P r N ds next ⟨some d, .call ⟨.builtin .append, #[x, y], #[t, t]⟩, ty, pos, af, g⟩ Q E w0 H := fun w hM => by
  obtain ⟨i, hi1, hi2, hi3, hi4⟩ := hi.parts
  obtain ⟨a', c', w', hrun, h2, h3, h4, h5⟩ := run_append_own2 (P := P) t ty e i z sz bb h.is hi1 hi2 hi3 hi4 hzs hsz (.slice a n c) n xs (hM.own (hr none 0).mem) ad m c2 news hl (hnews w hM) h1 (by simp only [maxLen]; omega)
    (Nat.le_trans (Nat.mul_le_mul hnm hb) (by decide))
  refine W1.run (v := .slice a' (n + m) c') (w' := w') (fun a ha => ?_) rfl hd (hn a' c' h5 w' (hM.turn (hr a' c') h3.os h3.tape h3.output h3.size (fun k hk hk' => h3.block k hk fun e => hk' (by simp [A.grow, ← e])) h2 ?_ fun b hb => ?_))
  · simp only [execOp, resolve, invoke, Go.builtin, Sem.run_bind, Sem.run_pure, Result.andThen, List.map_toArray, List.map_cons, List.map_nil, ha.ev hx, ha.ev hy, hrun]
  · show (Option.toList _).Nodup
    cases (Value.slice a' (n + m) c').ownBlock <;> simp
  · have hb' : (Value.slice a' (n + m) c').ownBlock = some b := by simpa [A.grow] using hb
    rcases h4 b hb' with h4 | h4
    · left; simp only [A.grow, h4]; simp
    · exact .inr ⟨h4, (h2.lt b hb').2⟩
theorem HA.ga [hq : QPanic Q] {op : Op} {v : Value} {j : Nat} {want b : Bool} (i : Nat) (ho : ol[i]? = some ⟨some d, op, ty, pos, af, some (j, want)⟩) (hj : guardE ol E j = some b)
    (h : HA P N ds ol fuel (listed.setIfInBounds i true) Q ((d, v) :: E) w0 H)
    (hb : b = want := by
      first | with_reducible rfl | assumption | (simp only [Bool.not_true, Bool.not_false]; done) | (simp only [decide_eq_true_eq, decide_eq_false_iff_not, Bool.not_true, Bool.not_false, not_true_eq_false, not_false_eq_true, reduceCtorEq]; first | done | assumption | omega))
    (hp : POp P N ds E op ty v := by
      first
        | (apply POp.move; rfl)
        | (apply POp.assign; rfl)
        | (apply POp.extract; rfl; rfl)
        | (apply POp.len_slice; rfl)
        | (apply POp.len_string; rfl)
        | (apply POp.lss; rfl; rfl)
        | (apply POp.leq; rfl; rfl)
        | (apply POp.gtr; rfl; rfl)
        | (apply POp.geq; rfl; rfl)
        | (apply POp.eql; rfl; rfl)
        | (apply POp.neq; rfl; rfl)
        | (apply POp.not_d; rfl)
        | (apply POp.not_b; rfl)
        | (apply POp.add; rfl; rfl; omega; omega)
        | (apply POp.sub; rfl; rfl; omega; omega)
        | (apply POp.xor; rfl; rfl; (first | with_reducible exact cst _ | with_reducible exact lit _ | exact rfl); (first | with_reducible exact cst _ | with_reducible exact lit _ | exact rfl); (first | omega | assumption | decide | (refine Nat.lt_of_le_of_lt (Nat.shiftRight_le _ _) ?_; omega) | (refine Nat.lt_of_le_of_lt Nat.and_le_right ?_; omega) | (refine Nat.lt_of_le_of_lt Nat.and_le_left ?_; omega) | (refine Nat.xor_lt_two_pow (n := 63) ?_ ?_ <;> omega)); (first | omega | assumption | decide | (refine Nat.lt_of_le_of_lt (Nat.shiftRight_le _ _) ?_; omega) | (refine Nat.lt_of_le_of_lt Nat.and_le_right ?_; omega) | (refine Nat.lt_of_le_of_lt Nat.and_le_left ?_; omega) | (refine Nat.xor_lt_two_pow (n := 63) ?_ ?_ <;> omega)))
        | (apply POp.xor8; rfl; rfl; (first | with_reducible exact cst _ | with_reducible exact lit _ | exact rfl); (first | with_reducible exact cst _ | with_reducible exact lit _ | exact rfl); (first | omega | assumption); (first | omega | assumption))
        | (apply POp.and; rfl; rfl; (first | with_reducible exact cst _ | with_reducible exact lit _ | exact rfl); (first | with_reducible exact cst _ | with_reducible exact lit _ | exact rfl); (first | omega | assumption | decide | (refine Nat.lt_of_le_of_lt (Nat.shiftRight_le _ _) ?_; omega) | (refine Nat.lt_of_le_of_lt Nat.and_le_right ?_; omega) | (refine Nat.lt_of_le_of_lt Nat.and_le_left ?_; omega) | (refine Nat.xor_lt_two_pow (n := 63) ?_ ?_ <;> omega)); (first | omega | assumption | decide | (refine Nat.lt_of_le_of_lt (Nat.shiftRight_le _ _) ?_; omega) | (refine Nat.lt_of_le_of_lt Nat.and_le_right ?_; omega) | (refine Nat.lt_of_le_of_lt Nat.and_le_left ?_; omega) | (refine Nat.xor_lt_two_pow (n := 63) ?_ ?_ <;> omega)))
        | (apply POp.or; rfl; rfl; (first | with_reducible exact cst _ | with_reducible exact lit _ | exact rfl); (first | with_reducible exact cst _ | with_reducible exact lit _ | exact rfl); (first | omega | assumption | decide | (refine Nat.lt_of_le_of_lt (Nat.shiftRight_le _ _) ?_; omega) | (refine Nat.lt_of_le_of_lt Nat.and_le_right ?_; omega) | (refine Nat.lt_of_le_of_lt Nat.and_le_left ?_; omega) | (refine Nat.xor_lt_two_pow (n := 63) ?_ ?_ <;> omega)); (first | omega | assumption | decide | (refine Nat.lt_of_le_of_lt (Nat.shiftRight_le _ _) ?_; omega) | (refine Nat.lt_of_le_of_lt Nat.and_le_right ?_; omega) | (refine Nat.lt_of_le_of_lt Nat.and_le_left ?_; omega) | (refine Nat.xor_lt_two_pow (n := 63) ?_ ?_ <;> omega)))
        | (apply POp.shr; rfl; rfl; (first | with_reducible exact cst _ | with_reducible exact lit _ | exact rfl); (first | with_reducible exact cst _ | with_reducible exact lit _ | exact rfl); omega)
        | (apply POp.shl; rfl; rfl; (first | with_reducible exact cst _ | with_reducible exact lit _ | exact rfl); (first | with_reducible exact cst _ | with_reducible exact lit _ | exact rfl); omega; (first | omega | assumption | decide | (refine Nat.lt_of_le_of_lt (Nat.shiftRight_le _ _) ?_; omega) | (refine Nat.lt_of_le_of_lt Nat.and_le_right ?_; omega) | (refine Nat.lt_of_le_of_lt Nat.and_le_left ?_; omega) | (refine Nat.xor_lt_two_pow (n := 63) ?_ ?_ <;> omega)))
        | (apply POp.quo; rfl; rfl; omega; omega; omega)
        | (apply POp.rem; rfl; rfl; omega; omega)
        | (apply POp.min_int; rfl; rfl)
        | (apply POp.max_int; rfl; rfl)
        | (apply POp.conv_i64; rfl; omega; omega)
        | (apply POp.index_slice; rfl; rfl; omega; omega; (first | (simp only [Nat.zero_add, Nat.add_zero, Nat.mul_one, Int.toNat_natCast, Int.reduceToNat, Nat.reduceMul, Nat.reduceAdd]; done) | (simp only [Nat.zero_add, Nat.add_zero, Nat.mul_one, Int.toNat_natCast, Int.reduceToNat, Nat.reduceMul, Nat.reduceAdd]; rfl) | rfl))
        | (apply POp.index_array; rfl; rfl; omega; omega; (first | (simp only [Nat.zero_add, Nat.add_zero, Nat.mul_one, Int.toNat_natCast, Int.reduceToNat, Nat.reduceMul, Nat.reduceAdd]; done) | (simp only [Nat.zero_add, Nat.add_zero, Nat.mul_one, Int.toNat_natCast, Int.reduceToNat, Nat.reduceMul, Nat.reduceAdd]; rfl) | rfl))
        | (apply POp.makeFunc; rfl; rfl)
        | (apply POp.index_string; rfl; rfl; (first | with_reducible exact cst _ | with_reducible exact lit _ | exact rfl); omega)
        | (apply POp.sub_lh; rfl; rfl; rfl; omega; omega; omega)
        | (apply POp.sub_h; rfl; rfl; omega; omega)
        | (apply POp.sub_l; rfl; rfl; omega; omega)
        | (apply POp.seql; rfl; rfl)
        | (apply POp.sneq; rfl; rfl)
        | (apply POp.conv_u8; rfl; omega; omega)
        | (apply POp.mul; rfl; rfl; omega; omega)
        | (refine POp.pick_t rfl ?_ rfl; (first | with_reducible rfl | assumption | (simp only [Bool.not_true, Bool.not_false]; done) | (simp only [decide_eq_true_eq, decide_eq_false_iff_not, Bool.not_true, Bool.not_false, not_true_eq_false, not_false_eq_true, reduceCtorEq]; first | done | assumption | omega)))
        | (refine POp.pick_f rfl ?_ rfl; (first | with_reducible rfl | assumption | (simp only [Bool.not_true, Bool.not_false]; done) | (simp only [decide_eq_true_eq, decide_eq_false_iff_not, Bool.not_true, Bool.not_false, not_true_eq_false, not_false_eq_true, reduceCtorEq]; first | done | assumption | omega)))
        | (apply POp.neg; rfl; omega; omega)
        | (apply POp.cat; rfl; rfl; omega)
        | (apply POp.beql; rfl; rfl)
        | (apply POp.bneq; rfl; rfl)
        | (apply POp.field; rfl; rfl)
        | (refine POp.fieldAddr rfl rfl)
        | (apply POp.cut_h; rfl; rfl; omega; omega)
        | (apply POp.xor32; rfl; rfl)
        | (apply POp.and32; rfl; rfl)
        | (apply POp.or32; rfl; rfl)
        | (apply POp.add32; rfl; rfl)
        | (apply POp.not32; rfl)
        | (apply POp.shl32; rfl; rfl; (first | with_reducible exact cst _ | with_reducible exact lit _ | exact rfl); omega)
        | (apply POp.shr32; rfl; rfl; (first | with_reducible exact cst _ | with_reducible exact lit _ | exact rfl); omega)
        | (apply POp.conv832; rfl)
        | (apply POp.conv328; rfl)
        | (apply POp.conv648; rfl))
    (hs : (Region.noSelect ol.toArray && Region.free .any ol.toArray listed i && (Region.ready .any ol.toArray listed).contains i) = true := by kernel_rfl)
    (hi : callsB op = false := by exact rfl)
    (hd : Nat.blt d N = true := by exact rfl) : HA P N ds ol (fuel + 1) listed Q E w0 H := fun w hM => WA.take_g i ho hs hi hj hb hp hd (h w hM)
theorem HA.na [hq : QPanic Q] {op : Op} {d : Option Nat} {j : Nat} {want b : Bool} (i : Nat) (ho : ol[i]? = some ⟨d, op, ty, pos, af, some (j, want)⟩) (hj : guardE ol E j = some b)
    (h : HA P N ds ol fuel (listed.setIfInBounds i true) Q (putE d undef E) w0 H)
    (hb : b = !want := by
      first | with_reducible rfl | assumption | (simp only [Bool.not_true, Bool.not_false]; done) | (simp only [decide_eq_true_eq, decide_eq_false_iff_not, Bool.not_true, Bool.not_false, not_true_eq_false, not_false_eq_true, reduceCtorEq]; first | done | assumption | omega))
    (hs : (Region.noSelect ol.toArray && Region.free .any ol.toArray listed i && (Region.ready .any ol.toArray listed).contains i) = true := by kernel_rfl)
    (hi : callsB op = false := by exact rfl)
    (hd : dOk d N = true := by exact rfl) : HA P N ds ol (fuel + 1) listed Q E w0 H := fun w hM => WA.drop i ho hs hi hj hb hd (h w hM)
theorem HO.one_a {op : Op} {d : Option Nat} {i j : Nat} {want b : Bool} (hj : guardE ol E j = some b)
    (h : H1 P none N ds (wpAnyIn (FW none) 0 P .any ol.toArray Q fuel (listed.setIfInBounds i true)) ⟨d, op, ty, pos, af, some (j, want)⟩ Q E w0 H)
    (hb : b = want := by
      first | with_reducible rfl | assumption | (simp only [Bool.not_true, Bool.not_false]; done) | (simp only [decide_eq_true_eq, decide_eq_false_iff_not, Bool.not_true, Bool.not_false, not_true_eq_false, not_false_eq_true, reduceCtorEq]; first | done | assumption | omega)) : HO P N ds ol fuel listed i ⟨d, op, ty, pos, af, some (j, want)⟩ Q E w0 H := HO.one_g hj hb h
/-- append, of one element in a fresh block. -/
theorem H1.app1 {e : TypeId} {z u : Value} {bb n c b : Nat} {a : Option Addr} {xs : List Value} {H' : Option Addr → Nat → List Atom} [h : UTy P t (.slice e)] [hi : ITy P e z 1 bb]
    (hx : Env.ev E x = some (.slice a n c)) (hy : Env.ev E y = some (.slice (some ⟨b, 0, none⟩) 1 1)) (hr : ∀ a' c', Rpl (A.grow e 1 a c n xs) (A.grow e 1 a' c' (n + 1) (xs ++ [u])) H (H' a' c'))
    (hm : A.blk b [u] e ∈ H) (hzs : z.cells.size = 1) (h1 : u.oneCell' = true) (hnm : n + 1 ≤ 1000000) (hb : Nat.ble bb 1000 = true) (hd : Nat.blt d N = true)
    (hn : ∀ a' c', HN N ds next ((d, .slice (some ⟨a', 0, none⟩) (n + 1) c') :: E) w0 (H' (some ⟨a', 0, none⟩) c')) :
    H1 P r N ds next ⟨some d, .call ⟨.builtin .append, #[x, y], #[t, t]⟩, ty, pos, af, g⟩ Q E w0 H :=
  H1.app (z := z) (bb := bb) hzs (by decide) hx hy hr rfl (fun w hM j v hj => by
    cases j with
    | zero =>
      simp only [List.getElem?_cons_zero, Option.some.injEq] at hj; subst hj
      rw [add_lit]; exact (hM.blk hm).cell rfl
    | succ j => simp at hj) (by simpa using h1) hnm (Nat.le_of_ble_eq_true hb) hd fun a' c' h => by
      rcases h with h | ⟨b, rfl⟩
      · omega
      · exact hn b c'
theorem H1.lit0 {e : TypeId} {z : Value} {sz bb : Nat} [h : UTy P t (.slice e)] [hi : ITy P e z sz bb] (hd : Nat.blt d N = true)
    (hh : ∀ b, HN N ds next ((d, .slice (some ⟨b, 0, none⟩) 0 0) :: E) w0 (A.grow e sz (some ⟨b, 0, none⟩) 0 0 [] :: H)) :
    H1 P r N ds next ⟨some d, .buildSlice t 0 #[], ty, pos, af, g⟩ Q E w0 H := fun w hM =>
  W1.run (v := .slice (some ⟨w.heap.size, 0, none⟩) 0 0) (w' := w.alloc (.cells #[] e)) (fun a ha => by
    simp only [execOp, Instr.buildSlice, Sem.run_bind, run_underlying h.is, run_sizeOf (h := hi), Result.andThen, Nat.zero_mul]
    have hr : Array.range 0 = #[] := rfl
    simp [Instr.fill, newRow, hr]) rfl hd (hh _ _ (by
      have h1 := hM.more (Ext.alloc w (.cells #[] e))
      refine h1.cons ?_ (by simp [A.grow, Value.ownBlock]) fun b hb => ?_
      · exact ⟨by simp, .inr ⟨_, 0, #[], rfl, Nat.zero_le _, heap_alloc_new w _, Nat.le_refl _, Nat.zero_le _, by simp, by simp⟩⟩
      · have hb' : b = w.heap.size := by simpa [A.grow, Value.ownBlock] using hb
        subst hb'
        refine ⟨fun hm => ?_, hM.ext.size, by simp⟩
        have := (hM.rng _ hm).2
        omega))
/-- Where a slice of the call's own lies, once it holds something. -/
theorem HL.openg {e : TypeId} {sz c n : Nat} {a : Option Addr} {xs : List Value} {l : List Oper} (hm : A.grow e sz a c n xs ∈ H) (hn : n ≠ 0) (h : ∀ b, a = some ⟨b, 0, none⟩ → HL P r N ds ol l Q E w0 H) : HL P r N ds ol l Q E w0 H := fun w hM => by
  rcases (hM.own hm).2 with ⟨-, h0⟩ | ⟨g, cap, cur, hv, -⟩
  · exact absurd h0 hn
  · cases hv; exact h g rfl w hM
theorem HC.openg {e : TypeId} {sz c n : Nat} {a : Option Addr} {xs : List Value} {co : Code} (hm : A.grow e sz a c n xs ∈ H) (hn : n ≠ 0) (h : ∀ b, a = some ⟨b, 0, none⟩ → HC P r N ds co Q E w0 H) : HC P r N ds co Q E w0 H := fun w hM => by
  rcases (hM.own hm).2 with ⟨-, h0⟩ | ⟨g, cap, cur, hv, -⟩
  · exact absurd h0 hn
  · cases hv; exact h g rfl w hM
theorem H1.stg {b i c n sz : Nat} {xs : List Value} {e : TypeId} {v : Value} {z : Value} {bb : Nat} {H' : List Atom} [hi : ITy P t z 1 bb] (hx : Env.ev E x = some (.pointer (some ⟨b, i, none⟩))) (hy : Env.ev E y = some v)
    (ha : ∀ vs, v ≠ .agg vs) (ht : ∀ vs, v ≠ .tuple vs) (hr : Rpl (A.grow e sz (some ⟨b, 0, none⟩) c n xs) (A.grow e sz (some ⟨b, 0, none⟩) c n (xs.set i v)) H H') (hlt : i < xs.length)
    (h : HN N ds next E w0 H') : H1 P r N ds next ⟨none, .store t x y, ty, pos, af, g⟩ Q E w0 H := fun w hM => by
  have hown := hM.own hr.mem
  rcases hown.2 with ⟨hv, -⟩ | ⟨g', cap, cur, hv, hbg, hg, hnc, hcm, hcs, htake⟩
  · cases hv
  · cases hv
    have hb : Blk w b cur.toList e := by unfold Blk; simpa using hg
    have hl := hown.1
    have hlen : i < cur.toList.length := by
      have : xs.length ≤ cur.toList.length := by rw [← htake]; simp; omega
      omega
    refine W1.store' hx hy ha ht hb hlen fun w1 u1 k1 => h w1 (hM.turn hr u1.os u1.tape u1.output (Nat.le_of_eq u1.size.symm) (fun k _ hk => u1.block k (by simpa [A.grow, Value.ownBlock] using hk)) ?_ (by simp [A.grow, Value.ownBlock]) (fun b' hb' => .inl (by simpa [A.grow, Value.ownBlock] using hb')))
    refine ⟨by rw [List.length_set]; exact hl, .inr ⟨b, c, (cur.toList.set i v).toArray, rfl, hbg, k1, hnc, hcm, by simp; exact hcs, ?_⟩⟩
    rw [← htake]
    simp [List.take_set]
/- structs and arrays by value -/
def placesZ (P : Program) (t : TypeId) : Option (List (Nat × Nat) × List Value) :=
  match P.info? t, P.underlying t with
  | some it, some (.array n e) => match it.zero, P.info? e with
    | some z, some ie => some ((List.range n).map fun i => (i * ie.size, ie.size), z.cells.toList)
    | _, _ => none
  | some it, some (.struct fields) => match it.zero, fields.toList.mapM (fun f => (P.info? f.type).map fun i => (f.offset, i.size)) with
    | some z, some places => some (places, z.cells.toList)
    | _, _ => none
  | _, _ => none
class BTy (P : Program) (t : TypeId) (pl : outParam (List (Nat × Nat))) (z : outParam (List Value)) : Prop where
  is : placesZ P t = some (pl, z)
theorem litC_mono {p q : Nat → Option (Nat × Nat)} (h : ∀ i x, p i = some x → q i = some x) : ∀ (l : List (Nat × Value)) (cs out : List Value), litC p cs l = some out → litC q cs l = some out
  | [], _, _, hl => hl
  | (i, v) :: l, cs, out, hl => by
    simp only [litC] at hl ⊢
    cases hp : p i with
    | none => rw [hp] at hl; cases hl
    | some x =>
      obtain ⟨off, sz⟩ := x
      rw [hp] at hl
      rw [h i _ hp]
      simp only at hl ⊢
      cases hb : (Nat.beq v.cells.size sz && Nat.ble (off + sz) cs.length) with
      | false => rw [hb] at hl; cases hl
      | true =>
        rw [hb] at hl
        exact litC_mono h l _ _ hl
theorem built_of {pl : List (Nat × Nat)} {zs cs : List Value} {pv : List (Nat × Value)} [hb : BTy P t pl zs] (hc : litC (fun i => pl[i]?) zs pv = some cs) : P.built t pv = some cs.toArray := by
  have h1 := hb.is
  unfold placesZ at h1
  unfold Program.built
  cases hi : P.info? t with
  | none => rw [hi] at h1; cases h1
  | some it =>
    cases hu : P.underlying t with
    | none => rw [hi, hu] at h1; cases h1
    | some du =>
      rw [hi, hu] at h1
      cases du <;> try (cases h1; done)
      case array n e =>
        simp only at h1 ⊢
        cases hz : it.zero with
        | none => rw [hz] at h1; cases h1
        | some z =>
          cases hie : P.info? e with
          | none => rw [hz, hie] at h1; cases h1
          | some ie =>
            rw [hz, hie] at h1
            simp only [Option.some.injEq, Prod.mk.injEq] at h1
            obtain ⟨rfl, rfl⟩ := h1
            simp only
            have := litC_fill (fun i => some (i * ie.size, ie.size)) pv z.cells.toList cs (litC_mono (fun i x hx => by
              rw [List.getElem?_map] at hx
              cases hr : (List.range n)[i]? with
              | none => rw [hr] at hx; cases hx
              | some j =>
                rw [hr] at hx
                have : i = j := by
                  rw [List.getElem?_range] at hr
                  · simpa using hr
                  · have := (List.getElem?_eq_some_iff.1 hr).1; simpa using this
                subst this
                simpa using hx) _ _ _ hc)
            simpa using this
      case struct fields =>
        simp only at h1 ⊢
        cases hz : it.zero with
        | none => rw [hz] at h1; cases h1
        | some z =>
          cases hp : fields.toList.mapM (fun f => (P.info? f.type).map fun i => (f.offset, i.size)) with
          | none => rw [hz, hp] at h1; cases h1
          | some places =>
            rw [hz, hp] at h1
            simp only [Option.some.injEq, Prod.mk.injEq] at h1
            obtain ⟨rfl, rfl⟩ := h1
            simp only
            have := litC_fill _ _ _ _ hc
            simpa using this
theorem POp.build {pl : List (Nat × Nat)} {zs cs : List Value} {parts : List (Nat × Operand)} {pv : List (Nat × Value)} [hb : BTy P t pl zs] (hx : Env.evp E parts = some pv) (hc : litC (fun i => pl[i]?) zs pv = some cs) :
    POp P N ds E (.build t parts.toArray) ty (.agg cs.toArray) := fun a ha d pos af g w => by
  have hp : Array.map (fun (p : Nat × Operand) => (p.1, a.eval p.2)) parts.toArray = pv.toArray := by simp [ha.evp hx]
  simp only [execOp, hp, Sem.run_bind, run_build (P := P) w t pv.toArray cs.toArray (by simpa using built_of (P := P) (t := t) hc), Result.andThen, Sem.run_pure]
theorem HL.build {pl : List (Nat × Nat)} {zs cs : List Value} {parts : List (Nat × Operand)} {pv : List (Nat × Value)} [hb : BTy P t pl zs] (hx : Env.evp E parts = some pv) (hc : litC (fun i => pl[i]?) zs pv = some cs) (hd : Nat.blt d N = true)
    (h : HL P r N ds ol rest Q ((d, .agg cs.toArray) :: E) w0 H) : HL P r N ds ol (⟨some d, .build t parts.toArray, ty, pos, af, none⟩ :: rest) Q E w0 H := HL.p (POp.build hx hc) rfl hd h
end
/- short words for what the walking macros say often (tools/expand.py puts them in) -/
theorem memA {a : Atom} {H : List Atom} (h : a ∈ H := by
    first | ((repeat (first | with_reducible exact mem_hd | with_reducible apply mem_tl)); done) | (repeat (first | exact List.Mem.head _ | apply List.Mem.tail))) : a ∈ H := h
theorem memD {α : Type} {a : α} {H : List α} (h : a ∈ H := by
    repeat (first | exact List.Mem.head _ | apply List.Mem.tail)) : a ∈ H := h
theorem rplA {a a' : Atom} {H H' : List Atom} (h : Rpl a a' H H' := by
    first | ((repeat (first | with_reducible exact Rpl.here | with_reducible apply Rpl.there)); done) | (repeat (first | exact Rpl.here | apply Rpl.there))) : Rpl a a' H H' := h
theorem pickA {a : Atom} {H H' : List Atom} (h : Pick a H H' := by
    first | ((repeat (first | with_reducible exact Pick.here | with_reducible apply Pick.there)); done) | (repeat (first | exact Pick.here | apply Pick.there))) : Pick a H H' := h
theorem esA {E E' : Env} (h : Env.sub E E' := by
    repeat (first | exact trivial | refine ⟨rfl, ?_⟩)) : Env.sub E E' := h
/-- What is held of a goal while its walk goes on. -/
structure Hold (p : Prop) : Prop where
  get : p
end Go.Sx
/- A drawn region: an operation whose guard's own operation was not performed. -/
namespace Go.Sx
open Go
end Go.Sx
/-
  Regions whose order is open: loads of cells that stay as they are may be taken at once, too.
-/
namespace Go.Sx
open Go
/-- Every order; C holds wherever one stands. -/
def AnyC (C : World → Prop) (P : Program) (ops : Array Oper) (Q : Post) : Nat → Array Bool → Act → World → Prop
  | 0, listed, a, w => C w ∧ Region.ready .any ops listed = [] ∧ Q .normal a w
  | fuel + 1, listed, a, w => C w ∧ (Region.ready .any ops listed = [] → Q .normal a w) ∧ ∀ i ∈ Region.ready .any ops listed, wpOpIn (FW none) 0 P ops Q i (AnyC C P ops Q fuel (listed.setIfInBounds i true)) a w
section
variable {C : World → Prop} {P : Program} {ops : Array Oper} {Q : Post}
theorem AnyC.is : ∀ {fuel : Nat} {listed : Array Bool} {a : Act} {w : World}, AnyC C P ops Q fuel listed a w → C w
  | 0, _, _, _, h => h.1
  | _ + 1, _, _, _, h => h.1
theorem anyC_in : ∀ (fuel : Nat) (listed : Array Bool) (a : Act) (w : World), AnyC C P ops Q fuel listed a w → wpAnyIn (FW none) 0 P .any ops Q fuel listed a w := by
  intro fuel
  induction fuel with
  | zero => intro listed a w h; exact h.2
  | succ fuel ih => intro listed a w h; exact ⟨h.2.1, fun j hj => wpOpIn_mono (fun a' w' h3 => ih _ a' w' h3) (h.2.2 j hj)⟩
/-- An operation that may go first: Y says what makes it yield its value. -/
theorem anyC_first {i : Nat} {oi : Oper} {v : Value} (Y : Act → Prop) (now : ∀ {K : Act → World → Prop} {a : Act} {w : World}, Y a → C w → K (a.put oi.dst v) w → wpOpIn (FW none) 0 P ops Q i K a w)
    (step : ∀ {j : Nat} {oj : Oper} {K : Act → World → Prop} {a : Act} {w : World}, ops[j]? = some oj → oi.apart ops oj = true → Y a → wpOpIn (FW none) 0 P ops Q j K (a.put oi.dst v) w → wpOpIn (FW none) 0 P ops Q j (fun a' w' => Y a' ∧ K (a'.put oi.dst v) w') a w) :
    ∀ (fuel : Nat) (listed : Array Bool) (a : Act) (w : World), (∀ (j : Nat) (oj : Oper), ops[j]? = some oj → j ≠ i → listed.getD j true = false → (∀ e ∈ oj.after, Region.binds .any e = true → e.on ≠ i) → oi.apart ops oj = true) →
      i ∈ Region.ready .any ops listed → Y a → AnyC C P ops Q fuel (listed.setIfInBounds i true) (a.put oi.dst v) w → AnyC C P ops Q (fuel + 1) listed a w := by
  intro fuel
  induction fuel with
  | zero =>
    intro listed a w _ hr hy h
    refine ⟨h.is, fun e => (by rw [e] at hr; cases hr), fun j hj => ?_⟩
    by_cases hji : j = i
    · subst hji; exact now hy h.is h
    · have h1 := ready_mono hj hji
      rw [h.2.1] at h1; cases h1
  | succ fuel ih =>
    intro listed a w hf hr hy h
    refine ⟨h.is, fun e => (by rw [e] at hr; cases hr), fun j hj => ?_⟩
    by_cases hji : j = i
    · subst hji; exact now hy h.is h
    · obtain ⟨hun, oj, hoj, hall⟩ := mem_ready.1 hj
      have hno : ∀ e ∈ oj.after, Region.binds .any e = true → e.on ≠ i := by
        intro e he hb e1
        have h1 := hall e he hb
        have h0 := (mem_ready.1 hr).1
        rw [e1] at h1
        rw [Array.getD_eq_getD_getElem?] at h0 h1
        cases hl : listed[i]? with
        | none => rw [hl] at h1; cases h1
        | some b => rw [hl] at h0 h1; simp only [Option.getD_some] at h0 h1; rw [h0] at h1; cases h1
      refine wpOpIn_mono (fun a' w' h3 => ?_) (step hoj (hf j oj hoj hji hun hno) hy (h.2.2 j (ready_mono hj hji)))
      refine ih (listed.setIfInBounds j true) a' w' (fun k ok hok hki hku hkn => ?_) (ready_mono hr (Ne.symm hji)) h3.1 ?_
      · by_cases e : j = k
        · subst e; exact hf j ok hok hji hun hkn
        · rw [getD_set_ne true e] at hku; exact hf k ok hok hki hku hkn
      · rw [Array.setIfInBounds_comm _ _ hji]; exact h3.2
theorem anyC_take {i : Nat} {oi : Oper} {v : Value} {fuel : Nat} {listed : Array Bool} {a : Act} {w : World} (hi : ops[i]? = some oi) (hs : Region.noSelect ops = true) (hf : Region.free .any ops listed i = true) (hr : (Region.ready .any ops listed).contains i = true)
    (hQ : ∀ c a w, Q (.panic c) (a.put oi.dst v) w → Q (.panic c) a w) (hy : YieldsFenced P ops oi v a) (h : AnyC C P ops Q fuel (listed.setIfInBounds i true) (a.put oi.dst v) w) : AnyC C P ops Q (fuel + 1) listed a w :=
  anyC_first (YieldsFenced P ops oi v) (fun hy _ hk => hy.wpOpIn rfl hi hk) (fun hj hap hy h => wpOpIn_put rfl hj hap (fun cs b => Region.noSelect_spec hs i oi cs b hi) (fun cs b => Region.noSelect_spec hs _ _ cs b hj) hQ hy h) fuel listed a w
    (Region.free_spec hi hf) (by simpa using hr) hy h
theorem apart_parts {x y : Oper} (h : x.apart ops y = true) : (∀ z : Oper, z.dst = none → z.looksAt ops = x.looksAt ops → z.apart ops y = true) ∧ ∀ z : Oper, z.dst = x.dst → z.looksAt ops = [] → z.apart ops y = true := by
  rw [Oper.apart] at h
  rw [Bool.and_eq_true] at h
  refine ⟨fun z h1 h2 => ?_, fun z h1 h2 => ?_⟩
  · rw [Oper.apart, h1, h2, h.2]; rfl
  · rw [Oper.apart, h1, h2, h.1]
    cases y.dst <;> rfl
theorem op_swap {j : Nat} {oi oj : Oper} {t : TypeId} {x : Operand} {v : Value} (ho : oi.op = .load t x) (hg : oi.guard = none) (hx : ∀ d, oi.dst = some d → x ≠ .tmp d) (hj : ops[j]? = some oj) (hap : oi.apart ops oj = true) (hsj : ∀ cs b, oj.op ≠ .select cs b)
    (hQ : ∀ c a w, Q (.panic c) (a.put oi.dst v) w → Q (.panic c) a w) {K : Act → World → Prop} {a : Act} {w : World} (h : wpOpIn (FW none) 0 P ops Q j K (a.put oi.dst v) w) :
    wpOpIn (FW none) 0 P ops Q j (fun a' w' => a'.eval x = a.eval x ∧ K (a'.put oi.dst v) w') a w := by
  have hl : oi.looksAt ops = (⟨none, .move x, oi.type, oi.pos, #[], none⟩ : Oper).looksAt ops := by simp [Oper.looksAt, ho, hg, Op.operands]
  obtain ⟨h0, h1⟩ := apart_parts hap
  have hev : ∀ a' : Act, (a'.put oi.dst v).eval x = a'.eval x := fun a' => Act.eval_put hx
  have s1 := wpOpIn_put (F := FW none) (n := 0) (P := P) (ops := ops) (Q := Q) (oi := ⟨none, .move x, oi.type, oi.pos, #[], none⟩) (v := a.eval x) rfl hj (h0 _ rfl hl.symm) (fun _ _ e => by cases e) hsj (fun _ _ _ h => h) (a := a.put oi.dst v) (w := w) (K := K)
    ⟨.inl ⟨rfl, fun w => by show Result.ok (Next.value ((a.put oi.dst v).eval x)) w = _; rw [hev]⟩, fun _ => rfl⟩ h
  have s2 := wpOpIn_put (F := FW none) (n := 0) (P := P) (ops := ops) (Q := Q) (oi := ⟨oi.dst, .move (.const v), oi.type, oi.pos, #[], none⟩) (v := v) rfl hj (h1 _ rfl (by simp [Oper.looksAt, Op.operands])) (fun _ _ e => by cases e) hsj hQ (a := a) (w := w)
    ⟨.inl ⟨rfl, fun w => rfl⟩, fun _ => rfl⟩ s1
  refine wpOpIn_mono (fun a' w' h3 => ⟨?_, h3.2.2⟩) s2
  rcases h3.2.1.1 with ⟨-, h4⟩ | ⟨h4, -⟩
  · have h5 := h4 w'
    have h6 : Result.ok (Next.value ((a'.put oi.dst v).eval x)) w' = Result.ok (Next.value (a.eval x)) w' := h5
    rw [hev] at h6
    injection h6 with h7
    injection h7
  · cases h4
theorem anyC_load {i : Nat} {oi : Oper} {t : TypeId} {x : Operand} {v : Value} {fuel : Nat} {listed : Array Bool} {a : Act} {w : World} (ho : oi.op = .load t x) (hg : oi.guard = none) (hx : ∀ d, oi.dst = some d → x ≠ .tmp d) (hi : ops[i]? = some oi) (hs : Region.noSelect ops = true)
    (hf : Region.free .any ops listed i = true) (hr : (Region.ready .any ops listed).contains i = true) (hQ : ∀ c a w, Q (.panic c) (a.put oi.dst v) w → Q (.panic c) a w)
    (hrun : ∀ a' : Act, a'.eval x = a.eval x → ∀ w, C w → (execOp a'.eval oi).run P w = .ok (.value v) w) (h : AnyC C P ops Q fuel (listed.setIfInBounds i true) (a.put oi.dst v) w) : AnyC C P ops Q (fuel + 1) listed a w := by
  refine anyC_first (fun a' => a'.eval x = a.eval x) (fun {K a' w'} hy hC hk => ?_) (fun hj hap hy h => ?_) fuel listed a w (Region.free_spec hi hf) (by simpa using hr) rfl h
  · unfold wpOpIn
    rw [hi]
    dsimp only
    rw [if_pos (by simp [Region.wanted, hg])]
    refine ⟨fun _ _ => trivial, ?_⟩
    rw [semAt_of (by rw [ho]; rfl), hrun a' hy w' hC]
    exact hk
  · refine wpOpIn_mono (fun a'' w'' h3 => ⟨h3.1.trans hy, h3.2⟩) (op_swap ho hg hx hj hap (fun cs b => Region.noSelect_spec hs _ _ cs b hj) hQ h)
end
def CellsC (l : List (Addr × Value)) (w : World) : Prop := ∀ p ∈ l, w.cell? p.1 = some p.2
def HB (l : List (Addr × Value)) (P : Program) (N : Nat) (ds : List Deferred) (ol : List Oper) (fuel : Nat) (listed : Array Bool) (Q : Post) (E : Env) (w0 : World) (H : List Atom) : Prop :=
  ∀ w, Mm w0 H w → ∀ a, Rep N ds E a → AnyC (CellsC l) P ol.toArray Q fuel listed a w
def HP (l : List (Addr × Value)) (P : Program) (N : Nat) (ds : List Deferred) (ol : List Oper) (fuel : Nat) (listed : Array Bool) (i : Nat) (o : Oper) (Q : Post) (E : Env) (w0 : World) (H : List Atom) : Prop :=
  ∀ w, Mm w0 H w → ∀ a, Rep N ds E a → if Region.wanted o (yielded ol.toArray a.tmps) then o.wpIn (FW none) 0 P a w (AnyC (CellsC l) P ol.toArray Q fuel (listed.setIfInBounds i true)) Q
    else AnyC (CellsC l) P ol.toArray Q fuel (listed.setIfInBounds i true) (a.put o.dst undef) w
def AllB (l : List (Addr × Value)) (P : Program) (N : Nat) (ds : List Deferred) (ol : List Oper) (fuel : Nat) (listed : Array Bool) (Q : Post) (E : Env) (w0 : World) (H : List Atom) : List Nat → Prop
  | [] => True
  | i :: rs => (∃ o, ol[i]? = some o ∧ HP l P N ds ol fuel listed i o Q E w0 H) ∧ AllB l P N ds ol fuel listed Q E w0 H rs
/-- The cells stay as they are. -/
def Keep (l : List (Addr × Value)) (w0 : World) (H : List Atom) : Prop := ∀ w, Mm w0 H w → CellsC l w
section
variable {l : List (Addr × Value)} {w0 : World} {H : List Atom}
theorem Keep.nil : Keep [] w0 H := fun _ _ _ h => by cases h
theorem Keep.cons {ad : Addr} {v : Value} (h1 : ∀ w, Mm w0 H w → w.cell? ad = some v) (h : Keep l w0 H) : Keep ((ad, v) :: l) w0 H := fun w hM p hp => by
  rcases List.mem_cons.1 hp with rfl | hp
  · exact h1 w hM
  · exact h w hM p hp
theorem Keep.blk {b i : Nat} {v : Value} {cs : List Value} {e : TypeId} (hm : A.blk b cs e ∈ H) (hi : cs[i]? = some v) (h : Keep l w0 H) : Keep ((⟨b, i, none⟩, v) :: l) w0 H := h.cons fun _ hM => (hM.blk hm).cell hi
theorem Keep.base {ad : Addr} {v : Value} (hc : w0.cell? ad = some v) (h : Keep l w0 H) : Keep ((ad, v) :: l) w0 H := h.cons fun _ hM => cell_ext hM.ext hc
variable {P : Program} {r : Option Nat} {N : Nat} {ds : List Deferred} {ol : List Oper} {Q : Post} {E : Env} {fuel : Nat} {listed : Array Bool} {ty : TypeId} {pos : String} {af : Array Edge}
theorem HC.anyC [hm : Mixed P] {id : Nat} {ol : List Oper} (l : List (Addr × Value)) (hf : ol.length = fuel) (h : HB l P N ds ol fuel (Array.replicate ol.length false) Q E w0 H) : HC P none N ds (.region id ol.toArray true) Q E w0 H :=
  HC.any hf fun w hM a ha => anyC_in _ _ _ _ (h w hM a ha)
theorem HB.pa [hq : QPanic Q] {d : Nat} {op : Op} {v : Value} (i : Nat) (ho : ol[i]? = some ⟨some d, op, ty, pos, af, none⟩) (h : HB l P N ds ol fuel (listed.setIfInBounds i true) Q ((d, v) :: E) w0 H)
    (hp : POp P N ds E op ty v := by
      first
        | (apply POp.move; rfl)
        | (apply POp.assign; rfl)
        | (apply POp.extract; rfl; rfl)
        | (apply POp.len_slice; rfl)
        | (apply POp.len_string; rfl)
        | (apply POp.lss; rfl; rfl)
        | (apply POp.leq; rfl; rfl)
        | (apply POp.gtr; rfl; rfl)
        | (apply POp.geq; rfl; rfl)
        | (apply POp.eql; rfl; rfl)
        | (apply POp.neq; rfl; rfl)
        | (apply POp.not_d; rfl)
        | (apply POp.not_b; rfl)
        | (apply POp.add; rfl; rfl; omega; omega)
        | (apply POp.sub; rfl; rfl; omega; omega)
        | (apply POp.xor; rfl; rfl; (first | with_reducible exact cst _ | with_reducible exact lit _ | exact rfl); (first | with_reducible exact cst _ | with_reducible exact lit _ | exact rfl); (first | omega | assumption | decide | (refine Nat.lt_of_le_of_lt (Nat.shiftRight_le _ _) ?_; omega) | (refine Nat.lt_of_le_of_lt Nat.and_le_right ?_; omega) | (refine Nat.lt_of_le_of_lt Nat.and_le_left ?_; omega) | (refine Nat.xor_lt_two_pow (n := 63) ?_ ?_ <;> omega)); (first | omega | assumption | decide | (refine Nat.lt_of_le_of_lt (Nat.shiftRight_le _ _) ?_; omega) | (refine Nat.lt_of_le_of_lt Nat.and_le_right ?_; omega) | (refine Nat.lt_of_le_of_lt Nat.and_le_left ?_; omega) | (refine Nat.xor_lt_two_pow (n := 63) ?_ ?_ <;> omega)))
        | (apply POp.xor8; rfl; rfl; (first | with_reducible exact cst _ | with_reducible exact lit _ | exact rfl); (first | with_reducible exact cst _ | with_reducible exact lit _ | exact rfl); (first | omega | assumption); (first | omega | assumption))
        | (apply POp.and; rfl; rfl; (first | with_reducible exact cst _ | with_reducible exact lit _ | exact rfl); (first | with_reducible exact cst _ | with_reducible exact lit _ | exact rfl); (first | omega | assumption | decide | (refine Nat.lt_of_le_of_lt (Nat.shiftRight_le _ _) ?_; omega) | (refine Nat.lt_of_le_of_lt Nat.and_le_right ?_; omega) | (refine Nat.lt_of_le_of_lt Nat.and_le_left ?_; omega) | (refine Nat.xor_lt_two_pow (n := 63) ?_ ?_ <;> omega)); (first | omega | assumption | decide | (refine Nat.lt_of_le_of_lt (Nat.shiftRight_le _ _) ?_; omega) | (refine Nat.lt_of_le_of_lt Nat.and_le_right ?_; omega) | (refine Nat.lt_of_le_of_lt Nat.and_le_left ?_; omega) | (refine Nat.xor_lt_two_pow (n := 63) ?_ ?_ <;> omega)))
        | (apply POp.or; rfl; rfl; (first | with_reducible exact cst _ | with_reducible exact lit _ | exact rfl); (first | with_reducible exact cst _ | with_reducible exact lit _ | exact rfl); (first | omega | assumption | decide | (refine Nat.lt_of_le_of_lt (Nat.shiftRight_le _ _) ?_; omega) | (refine Nat.lt_of_le_of_lt Nat.and_le_right ?_; omega) | (refine Nat.lt_of_le_of_lt Nat.and_le_left ?_; omega) | (refine Nat.xor_lt_two_pow (n := 63) ?_ ?_ <;> omega)); (first | omega | assumption | decide | (refine Nat.lt_of_le_of_lt (Nat.shiftRight_le _ _) ?_; omega) | (refine Nat.lt_of_le_of_lt Nat.and_le_right ?_; omega) | (refine Nat.lt_of_le_of_lt Nat.and_le_left ?_; omega) | (refine Nat.xor_lt_two_pow (n := 63) ?_ ?_ <;> omega)))
        | (apply POp.shr; rfl; rfl; (first | with_reducible exact cst _ | with_reducible exact lit _ | exact rfl); (first | with_reducible exact cst _ | with_reducible exact lit _ | exact rfl); omega)
        | (apply POp.shl; rfl; rfl; (first | with_reducible exact cst _ | with_reducible exact lit _ | exact rfl); (first | with_reducible exact cst _ | with_reducible exact lit _ | exact rfl); omega; (first | omega | assumption | decide | (refine Nat.lt_of_le_of_lt (Nat.shiftRight_le _ _) ?_; omega) | (refine Nat.lt_of_le_of_lt Nat.and_le_right ?_; omega) | (refine Nat.lt_of_le_of_lt Nat.and_le_left ?_; omega) | (refine Nat.xor_lt_two_pow (n := 63) ?_ ?_ <;> omega)))
        | (apply POp.quo; rfl; rfl; omega; omega; omega)
        | (apply POp.rem; rfl; rfl; omega; omega)
        | (apply POp.min_int; rfl; rfl)
        | (apply POp.max_int; rfl; rfl)
        | (apply POp.conv_i64; rfl; omega; omega)
        | (apply POp.index_slice; rfl; rfl; omega; omega; (first | (simp only [Nat.zero_add, Nat.add_zero, Nat.mul_one, Int.toNat_natCast, Int.reduceToNat, Nat.reduceMul, Nat.reduceAdd]; done) | (simp only [Nat.zero_add, Nat.add_zero, Nat.mul_one, Int.toNat_natCast, Int.reduceToNat, Nat.reduceMul, Nat.reduceAdd]; rfl) | rfl))
        | (apply POp.index_array; rfl; rfl; omega; omega; (first | (simp only [Nat.zero_add, Nat.add_zero, Nat.mul_one, Int.toNat_natCast, Int.reduceToNat, Nat.reduceMul, Nat.reduceAdd]; done) | (simp only [Nat.zero_add, Nat.add_zero, Nat.mul_one, Int.toNat_natCast, Int.reduceToNat, Nat.reduceMul, Nat.reduceAdd]; rfl) | rfl))
        | (apply POp.makeFunc; rfl; rfl)
        | (apply POp.index_string; rfl; rfl; (first | with_reducible exact cst _ | with_reducible exact lit _ | exact rfl); omega)
        | (apply POp.sub_lh; rfl; rfl; rfl; omega; omega; omega)
        | (apply POp.sub_h; rfl; rfl; omega; omega)
        | (apply POp.sub_l; rfl; rfl; omega; omega)
        | (apply POp.seql; rfl; rfl)
        | (apply POp.sneq; rfl; rfl)
        | (apply POp.conv_u8; rfl; omega; omega)
        | (apply POp.mul; rfl; rfl; omega; omega)
        | (refine POp.pick_t rfl ?_ rfl; (first | with_reducible rfl | assumption | (simp only [Bool.not_true, Bool.not_false]; done) | (simp only [decide_eq_true_eq, decide_eq_false_iff_not, Bool.not_true, Bool.not_false, not_true_eq_false, not_false_eq_true, reduceCtorEq]; first | done | assumption | omega)))
        | (refine POp.pick_f rfl ?_ rfl; (first | with_reducible rfl | assumption | (simp only [Bool.not_true, Bool.not_false]; done) | (simp only [decide_eq_true_eq, decide_eq_false_iff_not, Bool.not_true, Bool.not_false, not_true_eq_false, not_false_eq_true, reduceCtorEq]; first | done | assumption | omega)))
        | (apply POp.neg; rfl; omega; omega)
        | (apply POp.cat; rfl; rfl; omega)
        | (apply POp.beql; rfl; rfl)
        | (apply POp.bneq; rfl; rfl)
        | (apply POp.field; rfl; rfl)
        | (refine POp.fieldAddr rfl rfl)
        | (apply POp.cut_h; rfl; rfl; omega; omega)
        | (apply POp.xor32; rfl; rfl)
        | (apply POp.and32; rfl; rfl)
        | (apply POp.or32; rfl; rfl)
        | (apply POp.add32; rfl; rfl)
        | (apply POp.not32; rfl)
        | (apply POp.shl32; rfl; rfl; (first | with_reducible exact cst _ | with_reducible exact lit _ | exact rfl); omega)
        | (apply POp.shr32; rfl; rfl; (first | with_reducible exact cst _ | with_reducible exact lit _ | exact rfl); omega)
        | (apply POp.conv832; rfl)
        | (apply POp.conv328; rfl)
        | (apply POp.conv648; rfl))
    (hs : (Region.noSelect ol.toArray && Region.free .any ol.toArray listed i && (Region.ready .any ol.toArray listed).contains i) = true := by kernel_rfl)
    (hi : callsB op = false := by exact rfl)
    (hd : Nat.blt d N = true := by exact rfl) : HB l P N ds ol (fuel + 1) listed Q E w0 H := fun w hM a ha => by
  simp only [Bool.and_eq_true] at hs
  have ho' : ol.toArray[i]? = some ⟨some d, op, ty, pos, af, none⟩ := by simpa using ho
  refine anyC_take ho' hs.1.1 hs.1.2 hs.2 (fun c a w => hq.is c a _ _ w) ⟨.inl ⟨rfl, fun w => hp a ha _ _ _ _ _⟩, fun w => ?_⟩ (h w hM _ (ha.put hd v))
  unfold Oper.about
  cases op with
  | call c =>
    obtain ⟨cal, args, ats⟩ := c
    cases cal with
    | builtin b => simp [resolve, Target.leads]
    | value f => cases hi
    | invoke f m => cases hi
  | _ => rfl
theorem HB.ga [hq : QPanic Q] {d : Nat} {op : Op} {v : Value} {j : Nat} {want b : Bool} (i : Nat) (ho : ol[i]? = some ⟨some d, op, ty, pos, af, some (j, want)⟩) (hj : guardE ol E j = some b) (h : HB l P N ds ol fuel (listed.setIfInBounds i true) Q ((d, v) :: E) w0 H)
    (hb : b = want := by
      first | with_reducible rfl | assumption | (simp only [Bool.not_true, Bool.not_false]; done) | (simp only [decide_eq_true_eq, decide_eq_false_iff_not, Bool.not_true, Bool.not_false, not_true_eq_false, not_false_eq_true, reduceCtorEq]; first | done | assumption | omega))
    (hp : POp P N ds E op ty v := by
      first
        | (apply POp.move; rfl)
        | (apply POp.assign; rfl)
        | (apply POp.extract; rfl; rfl)
        | (apply POp.len_slice; rfl)
        | (apply POp.len_string; rfl)
        | (apply POp.lss; rfl; rfl)
        | (apply POp.leq; rfl; rfl)
        | (apply POp.gtr; rfl; rfl)
        | (apply POp.geq; rfl; rfl)
        | (apply POp.eql; rfl; rfl)
        | (apply POp.neq; rfl; rfl)
        | (apply POp.not_d; rfl)
        | (apply POp.not_b; rfl)
        | (apply POp.add; rfl; rfl; omega; omega)
        | (apply POp.sub; rfl; rfl; omega; omega)
        | (apply POp.xor; rfl; rfl; (first | with_reducible exact cst _ | with_reducible exact lit _ | exact rfl); (first | with_reducible exact cst _ | with_reducible exact lit _ | exact rfl); (first | omega | assumption | decide | (refine Nat.lt_of_le_of_lt (Nat.shiftRight_le _ _) ?_; omega) | (refine Nat.lt_of_le_of_lt Nat.and_le_right ?_; omega) | (refine Nat.lt_of_le_of_lt Nat.and_le_left ?_; omega) | (refine Nat.xor_lt_two_pow (n := 63) ?_ ?_ <;> omega)); (first | omega | assumption | decide | (refine Nat.lt_of_le_of_lt (Nat.shiftRight_le _ _) ?_; omega) | (refine Nat.lt_of_le_of_lt Nat.and_le_right ?_; omega) | (refine Nat.lt_of_le_of_lt Nat.and_le_left ?_; omega) | (refine Nat.xor_lt_two_pow (n := 63) ?_ ?_ <;> omega)))
        | (apply POp.xor8; rfl; rfl; (first | with_reducible exact cst _ | with_reducible exact lit _ | exact rfl); (first | with_reducible exact cst _ | with_reducible exact lit _ | exact rfl); (first | omega | assumption); (first | omega | assumption))
        | (apply POp.and; rfl; rfl; (first | with_reducible exact cst _ | with_reducible exact lit _ | exact rfl); (first | with_reducible exact cst _ | with_reducible exact lit _ | exact rfl); (first | omega | assumption | decide | (refine Nat.lt_of_le_of_lt (Nat.shiftRight_le _ _) ?_; omega) | (refine Nat.lt_of_le_of_lt Nat.and_le_right ?_; omega) | (refine Nat.lt_of_le_of_lt Nat.and_le_left ?_; omega) | (refine Nat.xor_lt_two_pow (n := 63) ?_ ?_ <;> omega)); (first | omega | assumption | decide | (refine Nat.lt_of_le_of_lt (Nat.shiftRight_le _ _) ?_; omega) | (refine Nat.lt_of_le_of_lt Nat.and_le_right ?_; omega) | (refine Nat.lt_of_le_of_lt Nat.and_le_left ?_; omega) | (refine Nat.xor_lt_two_pow (n := 63) ?_ ?_ <;> omega)))
        | (apply POp.or; rfl; rfl; (first | with_reducible exact cst _ | with_reducible exact lit _ | exact rfl); (first | with_reducible exact cst _ | with_reducible exact lit _ | exact rfl); (first | omega | assumption | decide | (refine Nat.lt_of_le_of_lt (Nat.shiftRight_le _ _) ?_; omega) | (refine Nat.lt_of_le_of_lt Nat.and_le_right ?_; omega) | (refine Nat.lt_of_le_of_lt Nat.and_le_left ?_; omega) | (refine Nat.xor_lt_two_pow (n := 63) ?_ ?_ <;> omega)); (first | omega | assumption | decide | (refine Nat.lt_of_le_of_lt (Nat.shiftRight_le _ _) ?_; omega) | (refine Nat.lt_of_le_of_lt Nat.and_le_right ?_; omega) | (refine Nat.lt_of_le_of_lt Nat.and_le_left ?_; omega) | (refine Nat.xor_lt_two_pow (n := 63) ?_ ?_ <;> omega)))
        | (apply POp.shr; rfl; rfl; (first | with_reducible exact cst _ | with_reducible exact lit _ | exact rfl); (first | with_reducible exact cst _ | with_reducible exact lit _ | exact rfl); omega)
        | (apply POp.shl; rfl; rfl; (first | with_reducible exact cst _ | with_reducible exact lit _ | exact rfl); (first | with_reducible exact cst _ | with_reducible exact lit _ | exact rfl); omega; (first | omega | assumption | decide | (refine Nat.lt_of_le_of_lt (Nat.shiftRight_le _ _) ?_; omega) | (refine Nat.lt_of_le_of_lt Nat.and_le_right ?_; omega) | (refine Nat.lt_of_le_of_lt Nat.and_le_left ?_; omega) | (refine Nat.xor_lt_two_pow (n := 63) ?_ ?_ <;> omega)))
        | (apply POp.quo; rfl; rfl; omega; omega; omega)
        | (apply POp.rem; rfl; rfl; omega; omega)
        | (apply POp.min_int; rfl; rfl)
        | (apply POp.max_int; rfl; rfl)
        | (apply POp.conv_i64; rfl; omega; omega)
        | (apply POp.index_slice; rfl; rfl; omega; omega; (first | (simp only [Nat.zero_add, Nat.add_zero, Nat.mul_one, Int.toNat_natCast, Int.reduceToNat, Nat.reduceMul, Nat.reduceAdd]; done) | (simp only [Nat.zero_add, Nat.add_zero, Nat.mul_one, Int.toNat_natCast, Int.reduceToNat, Nat.reduceMul, Nat.reduceAdd]; rfl) | rfl))
        | (apply POp.index_array; rfl; rfl; omega; omega; (first | (simp only [Nat.zero_add, Nat.add_zero, Nat.mul_one, Int.toNat_natCast, Int.reduceToNat, Nat.reduceMul, Nat.reduceAdd]; done) | (simp only [Nat.zero_add, Nat.add_zero, Nat.mul_one, Int.toNat_natCast, Int.reduceToNat, Nat.reduceMul, Nat.reduceAdd]; rfl) | rfl))
        | (apply POp.makeFunc; rfl; rfl)
        | (apply POp.index_string; rfl; rfl; (first | with_reducible exact cst _ | with_reducible exact lit _ | exact rfl); omega)
        | (apply POp.sub_lh; rfl; rfl; rfl; omega; omega; omega)
        | (apply POp.sub_h; rfl; rfl; omega; omega)
        | (apply POp.sub_l; rfl; rfl; omega; omega)
        | (apply POp.seql; rfl; rfl)
        | (apply POp.sneq; rfl; rfl)
        | (apply POp.conv_u8; rfl; omega; omega)
        | (apply POp.mul; rfl; rfl; omega; omega)
        | (refine POp.pick_t rfl ?_ rfl; (first | with_reducible rfl | assumption | (simp only [Bool.not_true, Bool.not_false]; done) | (simp only [decide_eq_true_eq, decide_eq_false_iff_not, Bool.not_true, Bool.not_false, not_true_eq_false, not_false_eq_true, reduceCtorEq]; first | done | assumption | omega)))
        | (refine POp.pick_f rfl ?_ rfl; (first | with_reducible rfl | assumption | (simp only [Bool.not_true, Bool.not_false]; done) | (simp only [decide_eq_true_eq, decide_eq_false_iff_not, Bool.not_true, Bool.not_false, not_true_eq_false, not_false_eq_true, reduceCtorEq]; first | done | assumption | omega)))
        | (apply POp.neg; rfl; omega; omega)
        | (apply POp.cat; rfl; rfl; omega)
        | (apply POp.beql; rfl; rfl)
        | (apply POp.bneq; rfl; rfl)
        | (apply POp.field; rfl; rfl)
        | (refine POp.fieldAddr rfl rfl)
        | (apply POp.cut_h; rfl; rfl; omega; omega)
        | (apply POp.xor32; rfl; rfl)
        | (apply POp.and32; rfl; rfl)
        | (apply POp.or32; rfl; rfl)
        | (apply POp.add32; rfl; rfl)
        | (apply POp.not32; rfl)
        | (apply POp.shl32; rfl; rfl; (first | with_reducible exact cst _ | with_reducible exact lit _ | exact rfl); omega)
        | (apply POp.shr32; rfl; rfl; (first | with_reducible exact cst _ | with_reducible exact lit _ | exact rfl); omega)
        | (apply POp.conv832; rfl)
        | (apply POp.conv328; rfl)
        | (apply POp.conv648; rfl))
    (hs : (Region.noSelect ol.toArray && Region.free .any ol.toArray listed i && (Region.ready .any ol.toArray listed).contains i) = true := by kernel_rfl)
    (hi : callsB op = false := by exact rfl)
    (hd : Nat.blt d N = true := by exact rfl) : HB l P N ds ol (fuel + 1) listed Q E w0 H := fun w hM a ha => by
  simp only [Bool.and_eq_true] at hs
  have ho' : ol.toArray[i]? = some ⟨some d, op, ty, pos, af, some (j, want)⟩ := by simpa using ho
  have hy := guardE_spec hj ha
  refine anyC_take ho' hs.1.1 hs.1.2 hs.2 (fun c a w => hq.is c a _ _ w) ⟨.inl ⟨by simp only [Region.wanted, hy, hb, beq_self_eq_true], fun w => hp a ha _ _ _ _ _⟩, fun w => ?_⟩ (h w hM _ (ha.put hd v))
  unfold Oper.about
  cases op with
  | call c =>
    obtain ⟨cal, args, ats⟩ := c
    cases cal with
    | builtin b => simp [resolve, Target.leads]
    | value f => cases hi
    | invoke f m => cases hi
  | _ => rfl
/-- A load of a cell that stays as it is. -/
theorem HB.ld [hq : QPanic Q] {d : Nat} {t : TypeId} {x : Operand} {ad : Addr} {v : Value} [hat : ATy P t false] (i : Nat) (ho : ol[i]? = some ⟨some d, .load t x, ty, pos, af, none⟩) (hx : Env.ev E x = some (.pointer (some ad))) (hc : (ad, v) ∈ l)
    (h : HB l P N ds ol fuel (listed.setIfInBounds i true) Q ((d, v) :: E) w0 H)
    (hne : (match x with | .tmp t => !(Nat.beq t d) | _ => true) = true := by exact rfl)
    (hs : (Region.noSelect ol.toArray && Region.free .any ol.toArray listed i && (Region.ready .any ol.toArray listed).contains i) = true := by kernel_rfl)
    (hd : Nat.blt d N = true := by exact rfl) : HB l P N ds ol (fuel + 1) listed Q E w0 H := fun w hM a ha => by
  simp only [Bool.and_eq_true] at hs
  have ho' : ol.toArray[i]? = some ⟨some d, .load t x, ty, pos, af, none⟩ := by simpa using ho
  refine anyC_load (t := t) (x := x) rfl rfl (fun d' hd' e => ?_) ho' hs.1.1 hs.1.2 hs.2 (fun c a w => hq.is c a _ _ w) (fun a' ha' w' hC => ?_) (h w hM _ (ha.put hd v))
  · cases hd'; subst e; simp at hne
  · have h1 : a'.eval x = .pointer (some ad) := ha'.trans (ha.ev hx)
    have h2 := hC _ hc
    simp only [execOp, h1, Instr.loadAt, Instr.sureAddr, loadVar, Sem.run_bind, Sem.run_pure]
    simp [run_isAgg, h2]
theorem HB.done (hk : Keep l w0 H) (hr : Region.ready .any ol.toArray listed = []) (h : HX N ds .normal Q E w0 H) : HB l P N ds ol fuel listed Q E w0 H := fun w hM a ha => by
  cases fuel with
  | zero => exact ⟨hk w hM, hr, h w hM a ha⟩
  | succ fuel => exact ⟨hk w hM, fun _ => h w hM a ha, fun i hi => by rw [hr] at hi; cases hi⟩
theorem HB.all (hk : Keep l w0 H) (rs : List Nat) (hr : Region.ready .any ol.toArray listed = rs) (hne : rs.isEmpty = false) (h : AllB l P N ds ol fuel listed Q E w0 H rs) : HB l P N ds ol (fuel + 1) listed Q E w0 H := fun w hM a ha => by
  refine ⟨hk w hM, fun e => (by rw [hr] at e; subst e; cases hne), ?_⟩
  rw [hr]
  clear hr hne
  induction rs with
  | nil => intro i hi; cases hi
  | cons i rs ih =>
    intro j hj
    rcases List.mem_cons.1 hj with rfl | hj
    · obtain ⟨o, ho, h1⟩ := h.1
      have ho' : ol.toArray[j]? = some o := by simpa using ho
      unfold wpOpIn
      rw [ho']
      have h2 := h1 w hM a ha
      dsimp only
      split
      · rename_i hw; rw [if_pos hw] at h2; exact h2
      · rename_i hw; rw [if_neg hw] at h2; exact ⟨fun _ _ => trivial, h2⟩
    · exact ih h.2 j hj
theorem HB.fold (h : HB l P N ds ol fuel listed Q E w0 H) : HN N ds (AnyC (CellsC l) P ol.toArray Q fuel listed) E w0 H := fun w hM a ha => h w hM a ha
theorem HP.one {op : Op} {d : Option Nat} {i : Nat} (h : H1 P none N ds (AnyC (CellsC l) P ol.toArray Q fuel (listed.setIfInBounds i true)) ⟨d, op, ty, pos, af, none⟩ Q E w0 H) : HP l P N ds ol fuel listed i ⟨d, op, ty, pos, af, none⟩ Q E w0 H := fun w hM a ha => by
  simp only [Region.wanted, if_true]
  exact h w hM a ha
theorem HP.one_a {op : Op} {d : Option Nat} {i j : Nat} {want b : Bool} (hj : guardE ol E j = some b) (h : H1 P none N ds (AnyC (CellsC l) P ol.toArray Q fuel (listed.setIfInBounds i true)) ⟨d, op, ty, pos, af, some (j, want)⟩ Q E w0 H)
    (hb : b = want := by
      first | with_reducible rfl | assumption | (simp only [Bool.not_true, Bool.not_false]; done) | (simp only [decide_eq_true_eq, decide_eq_false_iff_not, Bool.not_true, Bool.not_false, not_true_eq_false, not_false_eq_true, reduceCtorEq]; first | done | assumption | omega)) : HP l P N ds ol fuel listed i ⟨d, op, ty, pos, af, some (j, want)⟩ Q E w0 H := fun w hM a ha => by
  have hy := guardE_spec hj ha
  simp only [Region.wanted, hy, hb, beq_self_eq_true, if_true]
  exact h w hM a ha
end
end Go.Sx
/-
  The layer with atoms: a range over a function; regions whose order is open inside of a round.
-/
namespace Go.Sx
open Go Go.RowKit
theorem opIn_round {P : Program} {n : Nat} {o : Oper} {a : Act} {w : World} {K : Act → World → Prop} {Q : Post} (r : Option Nat) (h : isDefer o.op = false) (h1 : o.wpIn (FW none) n P a w K Q) : o.wpIn (FW r) n P a w K Q := by
  unfold Oper.wpIn at *
  rw [semAt_of h] at h1 ⊢
  exact h1
theorem anyIn_round {P : Program} {n : Nat} {ops : Array Oper} {Q : Post} (r : Option Nat) (hd : ∀ (i : Nat) (o : Oper), ops[i]? = some o → isDefer o.op = false) :
    ∀ (fuel : Nat) (listed : Array Bool) (a : Act) (w : World), wpAnyIn (FW none) n P .any ops Q fuel listed a w → wpAnyIn (FW r) n P .any ops Q fuel listed a w := by
  intro fuel
  induction fuel with
  | zero => intro listed a w h; exact h
  | succ fuel ih =>
    intro listed a w h
    refine ⟨h.1, fun j hj => ?_⟩
    have h2 := wpOpIn_mono (fun a' w' h3 => ih _ a' w' h3) (h.2 j hj)
    unfold wpOpIn at *
    cases ho : ops[j]? with
    | none => rw [ho] at h2; exact h2
    | some o =>
      rw [ho] at h2
      dsimp only at h2 ⊢
      split
      · rename_i hw; rw [if_pos hw] at h2; exact opIn_round r (hd j o ho) h2
      · rename_i hw; rw [if_neg hw] at h2; exact h2
def A.loop (N : Nat) (E : Env) (ps : List Nat) (assign body : Code) (st : LoopState) (pe : Option Code) (l : Nat) : Atom :=
  ⟨[l], fun w => LoopAt N E ps assign body st pe l w, fun _ _ _ h hp => LoopAt.keep hp (h l (by simp))⟩
def A.dfr (D : Nat) : Atom := A.obj D (fun o => o = .deferred (some []))
theorem Mm.upd1 {w0 w w' : World} {H H' : List Atom} {a a' : Atom} {l : Nat} (h : Mm w0 H w) (hr : Rpl a a' H H') (hfp : a.fp = [l]) (u : Upd1 l w w') (ha : a'.p w') (hfp' : a'.fp = [l]) : Mm w0 H' w' :=
  h.turn hr u.os u.tape u.output (Nat.le_of_eq u.size.symm) (fun k _ hk => u.block k (by rw [hfp] at hk; simpa using hk)) ha (by rw [hfp']; simp) (fun b hb => .inl (by rw [hfp]; rwa [hfp'] at hb))
theorem Mm.drop1 {w0 w w' : World} {H : List Atom} {a : Atom} {l : Nat} (h : Mm w0 (a :: H) w) (hfp : a.fp = [l]) (u : Upd1 l w w') : Mm w0 H w' := by
  have hl := (h.rng l (mem_fps (List.Mem.head _) (by rw [hfp]; simp))).2
  rw [← u.size] at hl
  exact (h.upd1 (a' := A.obj l fun _ => True) Rpl.here hfp u ⟨w'.heap[l], by simp [hl], trivial⟩ rfl).tail
instance {N : Nat} {E : Env} {ps : List Nat} {assign body : Code} {l : Nat} {R : Bool → World → Prop} : QPanic (RP N E ps assign body l R) := ⟨fun _ _ _ _ _ h => h⟩
section
variable {P : Program} {r : Option Nat} {N : Nat} {ds : List Deferred} {ol rest : List Oper} {Q : Post} {E : Env} {w0 : World} {H H' : List Atom} {next : Act → World → Prop} {g : Option (Nat × Bool)}
theorem HC.anyR [hm : Mixed P] {id : Nat} {l : List Oper} {fuel : Nat} (hf : l.length = fuel) (h : HA P N ds l fuel (Array.replicate l.length false) Q E w0 H) (hd : (l.all fun o => !isDefer o.op) = true := by kernel_rfl) :
    HC P r N ds (.region id l.toArray true) Q E w0 H := fun w hM a ha =>
  wpIn_region_any hm.is (by
    subst hf
    have h1 := h w.drew (hM.more (Ext.drew w)) a ha
    have h2 := anyIn_round r (fun i o ho => by
      have h3 : o ∈ l := List.mem_of_getElem? (i := i) (by simpa using ho)
      simpa using List.all_eq_true.1 hd o h3) _ _ _ _ h1
    simpa using h2)
theorem HC.anyCR [hm : Mixed P] {id : Nat} {ol : List Oper} {fuel : Nat} (cells : List (Addr × Value)) (hf : ol.length = fuel) (h : HB cells P N ds ol fuel (Array.replicate ol.length false) Q E w0 H) (hd : (ol.all fun o => !isDefer o.op) = true := by kernel_rfl) :
    HC P r N ds (.region id ol.toArray true) Q E w0 H := HC.anyR hf (fun w hM a ha => anyC_in _ _ _ _ (h w hM a ha)) hd
variable {E0 : Env} {ps : List Nat} {assign body : Code} {l D : Nat} {R : Bool → World → Prop} {L : LoopState → Option Code → Atom}
theorem HX.ra (hL : ∀ st pe, L st pe = A.loop N E0 ps assign body st pe l) (hr : Rpl (L .ready none) (L .busy none) H H') (h : HC P (some l) N [] body (RP N E0 ps assign body l R) E w0 H') :
    HX N [] .normal (RA P N E0 ps assign body l R) E w0 H := fun w hM => by
  have hp := hM.all _ hr.mem
  refine WX.ra (by rw [hL] at hp; exact hp) (fun w' u hl => h w' ?_)
  exact hM.upd1 hr (by rw [hL]; rfl) u (by rw [hL]; exact hl) (by rw [hL]; rfl)
theorem HX.rp_n (hL : ∀ st pe, L st pe = A.loop N E0 ps assign body st pe l) (hr : Rpl (L .busy none) (L .ready none) H H') (h : ∀ w', Mm w0 H' w' → R true w') :
    HX N [] .normal (RP N E0 ps assign body l R) E w0 H := fun w hM => by
  have hp := hM.all _ hr.mem
  refine WX.rp_n (by rw [hL] at hp; exact hp) (fun w' u hl => h w' ?_)
  exact hM.upd1 hr (by rw [hL]; rfl) u (by rw [hL]; exact hl) (by rw [hL]; rfl)
theorem Yld.ofH {args : List Value} (hL : ∀ st pe, L st pe = A.loop N E0 ps assign body st pe l) (hm : L .ready none ∈ H) (hlen : args.length = ps.length) (hps : (ps.all (Nat.blt · N)) = true)
    (h : HC P (some l) N [] assign (RA P N E0 ps assign body l R) (putAll (ps.zip args) E0) w0 H) : ∀ w, Mm w0 H w → Yld P l args w R := fun w hM => by
  have hp := hM.all _ hm
  exact Yld.of (by rw [hL] at hp; exact hp) hlen hps (h w hM)
theorem H1.yield {α : Type} {d : Option Nat} {x : Operand} {args : List Operand} {ats : Array TypeId} {ty : TypeId} {pos : String} {af : Array Edge} {vs : List Value} {Hz : α → List Atom} {I : α → Prop}
    (hd : dOk d N = true) (hx : Env.ev E x = some (.func (.yield l) #[] #[])) (ha : Env.evs E args = some vs) (hc : ∀ w, Mm w0 H w → Yld P l vs w fun b w' => b = true ∧ ∃ z, I z ∧ Mm w0 (Hz z) w')
    (h : ∀ z, I z → HN N ds next (putE d (.bool true) E) w0 (Hz z)) : H1 P r N ds next ⟨d, .call ⟨.value x, args.toArray, ats⟩, ty, pos, af, g⟩ Q E w0 H := fun w hM =>
  W1.yield hd hx ha (hc w hM) fun b w' ⟨hb, z, hz, hM'⟩ => by subst hb; exact h z hz w' hM'
theorem HC.rangeFunc {α : Type} {x : Operand} {gf : FuncId} {lb : List Value} [hcf : CallOk P gf] (Hz : α → List Atom) (I : α → Prop) (hg : Env.ev E x = some (.func (.func gf) #[] lb.toArray))
    (h : ∀ D l (L : LoopState → Option Code → Atom), (∀ st pe, L st pe = A.loop N E ps assign body st pe l) → ∀ w1, Mm w0 (L .ready none :: A.dfr D :: H) w1 →
      Fn P gf (.func (.yield l) #[] #[] :: lb).toArray w1 fun _ w2 => ∃ z, I z ∧ Mm w0 (L .ready none :: A.dfr D :: Hz z) w2)
    (h2 : ∀ D z, I z → HX N (markOf D :: ds) .normal Q E w0 (A.dfr D :: Hz z)) : HC P none N ds (.rangeFunc x ps.toArray assign body) Q E w0 H := fun w hM => by
  refine WC.rangeFunc' hg ?_
  intro w1 D l L hL hD hl hs hx hr hd
  have hM1 : Mm w0 (A.loop N E ps assign body .ready none l :: A.dfr D :: H) w1 := by
    have h0 := hM.ext.size
    have hA : Mm w0 (A.dfr D :: H) w1 := (hM.more hx).cons ⟨_, hd, rfl⟩ (by simp [A.dfr, A.obj]) fun b hb => by
      have hb' : b = D := by simpa [A.dfr, A.obj] using hb
      subst hb'
      exact ⟨fun hm => by have := (hM.rng _ hm).2; omega, by omega, by omega⟩
    refine hA.cons ((hL _ _ _).1 hr) (by simp [A.loop]) fun b hb => ?_
    have hb' : b = l := by simpa [A.loop] using hb
    subst hb'
    refine ⟨fun hm => ?_, by omega, by omega⟩
    rw [fps_cons] at hm
    rcases List.mem_append.1 hm with hm | hm
    · have : b = D := by simpa [A.dfr, A.obj] using hm
      omega
    · have := (hM.rng _ hm).2; omega
  refine (h D l (fun st pe => A.loop N E ps assign body st pe l) (fun _ _ => rfl) w1 hM1).mono ?_
  rintro v w2 ⟨z, hz, hM2⟩
  have hlp : LoopAt N E ps assign body .ready none l w2 := hM2.all _ (List.Mem.head _)
  exact .inl ⟨(hL _ _ _).2 hlp, fun w3 u => h2 D z hz w3 (hM2.drop1 rfl u)⟩
/- a function that holds such a loop -/
theorem enterMH {f : FuncId} {fn : Func} {c : Code} {l : List Value} {R : Value → World → Prop} {w : World} [hf : FnIs P f fn] (hb : fn.body = some c) (hN : fn.ntmps = N) (hl : Nat.ble l.length N = true)
    (h : HC P none N [] c (bodyPostM Fence.wide 0 P fn (RetP R)) (Env.of 0 l) w []) : Fn P f l.toArray w R := enterM hb hN hl (h w (Mm.refl w))
theorem HX.retM2 {fn : Func} {t u D : Nat} {v v' : Value} {R : Value → World → Prop} (hr : fn.results = #[.tmp t, .tmp u]) (hv : Env.g E t = some v) (hv' : Env.g E u = some v') (hm : Pick (A.dfr D) H H') (h : ∀ w, Mm w0 H' w → R (.tuple #[v, v']) w) :
    HX N [markOf D] .ret (bodyPostM Fence.wide 0 P fn (RetP R)) E w0 H := fun w hM => by
  have hp := hM.perm hm.perm
  obtain ⟨o, h1, rfl⟩ : ∃ o, w.heap[D]? = some o ∧ o = .deferred (some []) := hp.all (A.dfr D) (List.Mem.head _)
  exact WX.retM2 hr hv hv' h1 fun w' u => h w' (hp.drop1 rfl u)
end
end Go.Sx
/-
  The layer with atoms: loops that hold a range over a function (each such loop leaves a mark), rounds that are left early, yields that are told to stop.
-/
namespace Go.Sx
open Go Go.RowKit
/-- The blocks of all marks. -/
def A.dfrs (Ds : List Nat) : Atom := ⟨Ds, fun w => ∀ D ∈ Ds, w.heap[D]? = some (.deferred (some [])), fun _ _ _ h hp D hD => (h D hD).trans (hp D hD)⟩
/-- What the body of a function that holds ranges over functions must achieve: it does not panic. -/
def bodyPostN (P : Program) (fn : Func) (R : Ending → World → Prop) : Post
  | .normal, a, w | .ret, a, w => LeavesInM Fence.wide 0 P fn a.tmps R a.defers .returning w
  | _, _, _ => False
def marks (Ds : List Nat) : List Deferred := Ds.map markOf
section
variable {P : Program} {r : Option Nat} {N : Nat} {ds : List Deferred} {ol rest : List Oper} {Q : Post} {E : Env} {w0 : World} {H H' : List Atom} {next : Act → World → Prop} {g : Option (Nat × Bool)}
theorem Mm.dfrsTurn {w w' : World} {D : Nat} {Ds : List Nat} (hM : Mm w0 (A.dfrs (D :: Ds) :: H) w) (u : Upd1 D w w') : Mm w0 (A.dfrs Ds :: H) w' := by
  have hnd := hM.nd
  rw [fps_cons] at hnd
  have hD : D ∉ Ds := by
    have := (List.nodup_append.1 hnd).1
    exact (List.nodup_cons.1 this).1
  refine hM.turn (a := A.dfrs (D :: Ds)) (a' := A.dfrs Ds) Rpl.here u.os u.tape u.output (Nat.le_of_eq u.size.symm) (fun k _ hk => u.block k (fun e => hk (by subst e; exact List.Mem.head _))) ?_ ?_ ?_
  · intro D' hD'
    rw [u.block D' (fun e => hD (e ▸ hD'))]
    exact hM.all _ (List.Mem.head _) D' (List.Mem.tail _ hD')
  · exact (List.nodup_cons.1 (List.nodup_append.1 hnd).1).2
  · intro b hb; exact .inl (List.Mem.tail _ hb)
/-- A loop whose rounds leave marks. -/
def AgainD {α : Type} (N : Nat) (Ex : α → Env) (Hx : α → List Atom) (dx : α → List Deferred) (I : α → Prop) (μ : α → Nat) (w0 : World) (m : Nat) : Act → World → Prop :=
  fun a' w' => ∃ x', (I x' ∧ Mm w0 (Hx x') w') ∧ μ x' < m ∧ Rep N (dx x') (Ex x') a'
variable {E0 : Env} {ps : List Nat} {assign body : Code} {l D : Nat} {R : Bool → World → Prop} {L : LoopState → Option Code → Atom}
end
end Go.Sx
/-
  A result that is a variable's own cells, and how a function is entered with atoms at hand.
-/
namespace Go.Sx
open Go Go.RowKit
theorem run_loadVarAgg {P : Program} {w : World} {t : TypeId} {b off : Nat} {vs : List Value} {z : Value} {n bb : Nat} [ha : ATy P t true] [hi : ITy P t z n bb] (hn : vs.length = n)
    (hc : ∀ i v, vs[i]? = some v → w.cell? ⟨b, off + i, none⟩ = some v) : (loadVar t ⟨b, off, none⟩).run P w = .ok (.agg vs.toArray) w := by
  simp only [loadVar, Sem.run_bind]
  simp [run_isAgg, run_sizeOf, loadCells, run_loadCellsFrom P w b off vs hc n 0 #[] (by omega), Result.andThen, Sem.run_bind]
section
variable {P : Program} {N : Nat} {E : Env} {w0 : World} {H : List Atom}
theorem HX.retc2 {fn : Func} {p u b bb n : Nat} {ty e : TypeId} {z v : Value} {cs : List Value} {R : Value → World → Prop} [ha : ATy P ty true] [hi : ITy P ty z n bb] (hr : fn.results = #[.cell p ty, .tmp u]) (hp : Env.g E p = some (.pointer (some ⟨b, 0, none⟩)))
    (hv : Env.g E u = some v) (hm : A.blk b cs e ∈ H) (hn : cs.length = n) (h : ∀ w, Mm w0 H w → R (.tuple #[.agg cs.toArray, v]) w) : HX N [] .ret (bodyPost P fn (RetP R)) E w0 H := fun w hM a ha => by
  refine ⟨ha.defers, .tuple #[.agg cs.toArray, v], ?_, ⟨_, rfl, h w hM⟩⟩
  have e1 : a.tmps.getD p undef = .pointer (some ⟨b, 0, none⟩) := by rw [Array.getD_eq_getD_getElem?, ha.get _ _ hp]; rfl
  have e2 : a.tmps.getD u undef = v := by rw [Array.getD_eq_getD_getElem?, ha.get _ _ hv]; rfl
  rw [results_cell_tmp hr, e1, e2]
  have := run_loadVarAgg (P := P) (w := w) (t := ty) (b := b) (off := 0) hn (fun i v hv => by rw [Nat.zero_add]; exact (hM.blk hm).cell hv)
  simp [asAddr, Result.andThen, this]
theorem HX.retc1 {fn : Func} {p b bb n : Nat} {ty e : TypeId} {z : Value} {cs : List Value} {R : Value → World → Prop} [ha : ATy P ty true] [hi : ITy P ty z n bb] (hr : fn.results = #[.cell p ty]) (hp : Env.g E p = some (.pointer (some ⟨b, 0, none⟩)))
    (hm : A.blk b cs e ∈ H) (hn : cs.length = n) (h : ∀ w, Mm w0 H w → R (.agg cs.toArray) w) : HX N [] .ret (bodyPost P fn (RetP R)) E w0 H := fun w hM a ha => by
  refine ⟨ha.defers, .agg cs.toArray, ?_, ⟨_, rfl, h w hM⟩⟩
  have e1 : a.tmps.getD p undef = .pointer (some ⟨b, 0, none⟩) := by rw [Array.getD_eq_getD_getElem?, ha.get _ _ hp]; rfl
  have e1' : a.tmps[p]?.getD undef = .pointer (some ⟨b, 0, none⟩) := by simpa using e1
  have := run_loadVarAgg (P := P) (w := w) (t := ty) (b := b) (off := 0) hn (fun i v hv => by rw [Nat.zero_add]; exact (hM.blk hm).cell hv)
  simp [results, hr, e1', asAddr, this]
/-- A function, entered with atoms at hand. -/
theorem enterK {f : FuncId} {fn : Func} {c : Code} {l : List Value} {R : Value → World → Prop} {w : World} [hf : FnIs P f fn] (hM : Mm w0 H w) (hb : fn.body = some c) (hN : fn.ntmps = N) (hl : Nat.ble l.length N = true)
    (h : HC P none N [] c (bodyPost P fn (RetP R)) (Env.of 0 l) w0 H) : Fn P f l.toArray w R := enter hb hN hl (h w hM)
end
end Go.Sx
/-
  The layer with atoms: bytes and strings.
-/
namespace Go.Sx
open Go Go.RowKit
/-- The string with bytes f. -/
def mkS (n : Nat) (f : Nat → Nat) : ByteArray := ⟨((List.range n).map fun q => UInt8.ofNat (f q)).toArray⟩
def u8v (n : Nat) : Value := .int .u8 (n : Int)
section
variable {P : Program} {r : Option Nat} {N : Nat} {ds : List Deferred} {ol rest : List Oper} {Q : Post} {E : Env} {w0 : World} {H : List Atom} {next : Act → World → Prop} {g : Option (Nat × Bool)} {fuel : Nat} {listed : Array Bool}
variable {d : Nat} {t t' ty : TypeId} {pos : String} {af : Array Edge} {x y : Operand} {m n : Int} {a b : Nat}
theorem HQ.ldb {v : Value} {b i : Nat} {cs : List Value} {e : TypeId} [ha : ATy P t false] (hx : Env.ev E x = some (.pointer (some ⟨b, i, none⟩))) (hm : A.blk b cs e ∈ H) (hi : cs[i]? = some v) (hd : Nat.blt d N = true)
    (h : HQ P r N ds ol rest Q ((d, v) :: E) w0 H) : HQ P r N ds ol (⟨some d, .load t x, ty, pos, af, none⟩ :: rest) Q E w0 H := HQ.ld hx (fun _ hM => (hM.blk hm).cell hi) hd h
theorem op_mono2 {F : Fence} {n' : Nat} {o : Oper} {a : Act} {w : World} {K K' : Act → World → Prop} {Q Q' : Post} (h : ∀ a w, K a w → K' a w) (hq : ∀ e a w, e ≠ .normal → Q e a w → Q' e a w)
    (hh : o.wpIn F n' P a w K Q) : o.wpIn F n' P a w K' Q' := by
  unfold Oper.wpIn at *
  refine ⟨hh.1, ?_⟩
  have hh := hh.2
  generalize (o.semAt F.round a.eval).run P w = r at *
  cases r with
  | ok x w' =>
    cases x <;> simp only [Oper.uponIn] at hh ⊢ <;>
      first
        | exact h _ _ hh
        | exact ⟨hh.1, CallsIn.mono hh.2 (fun e w'' he => by cases e <;> first | exact h _ _ he | exact hq _ _ _ (by simp) he | (obtain ⟨a1, w1, h1⟩ := he; exact ⟨a1, w1, hq _ _ _ (by simp) h1⟩))⟩
        | exact ⟨hh.1, RowsIn.mono hh.2 (fun _ _ he => h _ _ he)⟩
        | exact ⟨hh.1, RoundIn.mono hh.2 (fun e w'' he => by cases e <;> first | exact h _ _ he | exact hq _ _ _ (by simp) he | (obtain ⟨a1, w1, h1⟩ := he; exact ⟨a1, w1, hq _ _ _ (by simp) h1⟩))⟩
  | halt x w' => cases x <;> simp only [Oper.uponIn] at hh ⊢ <;> first | exact hh | exact hq _ _ _ (by simp) hh
theorem list_mono2 {F : Fence} {n' : Nat} {ops : Array Oper} {Q Q' : Post} (hn : ∀ a w, Q .normal a w → Q' .normal a w) (hq : ∀ e a w, e ≠ .normal → Q e a w → Q' e a w) :
    ∀ (l : List Oper) (a : Act) (w : World), wpListIn F n' P ops Q l a w → wpListIn F n' P ops Q' l a w
  | [], a, w, h => hn a w h
  | o :: l, a, w, h => by
    simp only [wpListIn] at h ⊢
    split
    · rename_i hw; rw [if_pos hw] at h; exact op_mono2 (fun a w h => list_mono2 hn hq l a w h) hq h
    · rename_i hw; rw [if_neg hw] at h; exact ⟨h.1, list_mono2 hn hq l _ w h.2⟩
/-- A cut inside a statement that is being walked. -/
theorem HL.cut {α : Type} {l : List Oper} {y : Code} (Ex : α → Env) (Hx : α → List Atom) (I : α → Prop) (h : HL P r N ds ol l (Again (CutH N ds Ex Hx I w0) Q) E w0 H)
    (h2 : ∀ z, I z → HC P r N ds y Q (Ex z) w0 (Hx z)) : HL P r N ds ol l (Then P r y Q) E w0 H := fun w hM a ha => by
  refine list_mono2 (fun a w hc => ?_) (fun e a w he hc => ?_) l a w (h w hM a ha)
  · obtain ⟨z, ⟨h3, h4⟩, h5⟩ := hc
    exact h2 z h3 w h4 a h5
  · cases e with
    | normal => exact absurd rfl he
    | _ => exact hc
end
theorem row_step {n i : Nat} {f g : Nat → Value} {v : Value} (h1 : g i = v) (h2 : ∀ q, q ≠ i → f q = g q) : (row n f).set i v = row n g := by
  rw [row_set]
  apply row_congr
  intro q _
  by_cases e : q = i
  · subst e; simp [h1]
  · simp [e, h2 q e]
theorem Hs.blk {b : Nat} {cs cs' : List Value} {e : TypeId} {H1 H' : List Atom} (h : cs = cs') (hs : Hs H1 H') : Hs (A.blk b cs e :: H1) (A.blk b cs' e :: H') := by
  subst h; exact Hs.cons Pick.here hs
end Go.Sx
/-
  Slices of numbers: as lists; the library's small functions on them; range loops.
-/
namespace Go.Sx
open Go Go.RowKit
abbrev zv (x : Int) : Value := .int .i64 x
def ints (l : List Int) : List Value := l.map zv
def at' (l : List Int) (i : Nat) : Int := l.getD i 0
theorem ints_len (l : List Int) : (ints l).length = l.length := by simp [ints]
theorem ints_get {l : List Int} {i : Nat} (h : i < l.length) : (ints l)[i]? = some (zv (at' l i)) := by simp [ints, at', h]
theorem ints_app (l m : List Int) : ints (l ++ m) = ints l ++ ints m := by simp [ints]
theorem ints_one : ∀ (l : List Int), ∀ u ∈ ints l, u.oneCell' = true := fun l u hu => by
  obtain ⟨x, -, rfl⟩ := List.mem_map.1 hu; rfl
theorem at_mem {l : List Int} {i : Nat} (h : i < l.length) : at' l i ∈ l := by
  unfold at'; rw [List.getD_eq_getElem?_getD, List.getElem?_eq_getElem h]; exact List.getElem_mem h
theorem take_at {l : List Int} {i : Nat} (h : i < l.length) : l.take (i + 1) = l.take i ++ [at' l i] := by
  rw [List.take_succ_eq_append_getElem h]; simp [at', h]
/-- A slice of numbers that reads as l: its parts. -/
theorem Rd.isInts {w : World} {v : Value} {l : List Int} (h : Rd w v (ints l)) : ∃ a c, v = .slice a l.length c ∧ l.length ≤ c := by
  obtain ⟨a, c, h1, h2, -⟩ := h
  rw [ints_len] at h1 h2
  exact ⟨a, c, h1, h2⟩
/-- Where element i lies. -/
theorem Rd.iat {w : World} {a : Option Addr} {n c : Nat} {l : List Int} (h : Rd w (.slice a n c) (ints l)) (hne : l ≠ []) : ∃ b off, a = some ⟨b, off, none⟩ ∧ b < w.heap.size := by
  obtain ⟨b, off, c', h1, -, h3, -⟩ := h.at (by intro e; apply hne; have := congrArg List.length e; simpa [ints] using this)
  cases h1
  exact ⟨b, off, rfl, h3⟩
end Go.Sx
/-
  Statements whose order is open: the lexical order is enough: checked on a skeleton.
-/
namespace Go.Sx
open Go Go.RowKit
abbrev Sk := Option Nat × List Nat × List Nat
def memB (x : Nat) : List Nat → Bool
  | [] => false
  | y :: l => Nat.beq x y || memB x l
theorem memB_iff {x : Nat} : ∀ {l : List Nat}, memB x l = true ↔ x ∈ l
  | [] => by simp [memB]
  | y :: l => by
    simp only [memB, Bool.or_eq_true, memB_iff, List.mem_cons]
    constructor
    · rintro (h | h)
      · exact .inl (Nat.eq_of_beq_eq_true h)
      · exact .inr h
    · rintro (rfl | h)
      · exact .inl (Nat.beq_refl _)
      · exact .inr h
def apartS (x y : Sk) : Bool :=
  (match x.1 with
   | some d => !(memB d y.2.1) && (match y.1 with | some e => !(Nat.beq e d) | none => true)
   | none => true) &&
  (match y.1 with
   | some d => !(memB d x.2.1)
   | none => true)
def skOf (ops : Array Oper) (o : Oper) : Sk := (o.dst, o.looksAt ops, (o.after.toList.filter (Region.binds .any)).map (·.on))
def pairB (k : Nat) (x : Sk) : List Sk → Bool
  | [] => true
  | y :: l => (memB k y.2.2 || apartS x y) && pairB k x l
def allLt (k : Nat) : List Nat → Bool
  | [] => true
  | x :: l => Nat.blt x k && allLt k l
def skB (k : Nat) : List Sk → Bool
  | [] => true
  | x :: l => allLt k x.2.2 && pairB k x l && skB (k + 1) l
theorem allLt_iff {k : Nat} : ∀ {l : List Nat}, allLt k l = true → ∀ x ∈ l, x < k
  | [], _, _, hx => by cases hx
  | y :: l, h, x, hx => by
    simp only [allLt, Bool.and_eq_true] at h
    rcases List.mem_cons.1 hx with rfl | hx
    · simpa [Nat.blt_eq] using h.1
    · exact allLt_iff h.2 x hx
theorem pairB_at {k : Nat} {x : Sk} : ∀ {l : List Sk}, pairB k x l = true → ∀ y ∈ l, k ∈ y.2.2 ∨ apartS x y = true
  | [], _, _, hy => by cases hy
  | z :: l, h, y, hy => by
    simp only [pairB, Bool.and_eq_true, Bool.or_eq_true] at h
    rcases List.mem_cons.1 hy with rfl | hy
    · exact h.1.imp (fun h => memB_iff.1 h) id
    · exact pairB_at h.2 y hy
theorem skB_at : ∀ {l : List Sk} {k : Nat}, skB k l = true → ∀ i x, l[i]? = some x → (∀ d ∈ x.2.2, d < k + i) ∧ ∀ j y, i < j → l[j]? = some y → (k + i) ∈ y.2.2 ∨ apartS x y = true
  | [], _, _, i, x, hx => by simp at hx
  | z :: l, k, h, i, x, hx => by
    simp only [skB, Bool.and_eq_true] at h
    cases i with
    | zero =>
      simp only [List.getElem?_cons_zero, Option.some.injEq] at hx
      subst hx
      refine ⟨allLt_iff h.1.1, fun j y hj hy => ?_⟩
      cases j with
      | zero => cases hj
      | succ j =>
        rw [List.getElem?_cons_succ] at hy
        exact pairB_at h.1.2 y (List.mem_of_getElem? hy)
    | succ i =>
      rw [List.getElem?_cons_succ] at hx
      obtain ⟨h1, h2⟩ := skB_at h.2 i x hx
      have e : k + 1 + i = k + (i + 1) := by omega
      rw [e] at h1 h2
      refine ⟨h1, fun j y hj hy => ?_⟩
      cases j with
      | zero => cases hj
      | succ j =>
        rw [List.getElem?_cons_succ] at hy
        exact h2 j y (by omega) hy
theorem contains_memB (d : Nat) (l : List Nat) : l.contains d = memB d l := by
  cases h : memB d l with
  | true => exact List.contains_iff_mem.2 (memB_iff.1 h)
  | false =>
    cases hc : l.contains d with
    | false => rfl
    | true => rw [memB_iff.2 (List.contains_iff_mem.1 hc)] at h; cases h
theorem apart_sk (ops : Array Oper) (x y : Oper) : x.apart ops y = apartS (skOf ops x) (skOf ops y) := by
  unfold Oper.apart apartS skOf
  simp only
  congr 1
  · cases x.dst with
    | none => rfl
    | some d =>
      simp only
      rw [contains_memB]
      congr 1
      cases y.dst with
      | none => rfl
      | some e =>
        simp only
        by_cases h : e = d
        · subst h; simp
        · have h1 : Nat.beq e d = false := beq_ne h
          rw [h1]; simp [h]
  · cases y.dst with
    | none => rfl
    | some d => simp only; rw [contains_memB]
theorem lexB_sk {l : List Oper} (sk : List Sk) (h1 : l.map (skOf l.toArray) = sk) (h2 : skB 0 sk = true) (h3 : Region.noSelect l.toArray = true) : Region.lexB .any l.toArray = true := by
  unfold Region.lexB
  rw [h3, Bool.true_and]
  have key : ∀ (fuel k : Nat) (listed : Array Bool), fuel + k = l.length → listed.size = l.length → (∀ i, i < l.length → listed[i]? = some (decide (i < k))) → Region.lexFrom .any l.toArray fuel k listed = true := by
    intro fuel
    induction fuel with
    | zero =>
      intro k listed hk hs hl
      unfold Region.lexFrom Region.ready
      rw [List.isEmpty_iff, List.filter_eq_nil_iff]
      intro i hi
      have hi' : i < l.length := by simpa using hi
      have e : listed.getD i true = true := by
        rw [Array.getD_eq_getD_getElem?, hl i hi']
        simp; omega
      simp [e]
    | succ fuel ih =>
      intro k listed hk hs hl
      have hkl : k < l.length := by omega
      obtain ⟨o, ho⟩ : ∃ o, l[k]? = some o := ⟨l[k], by simp [hkl]⟩
      have hsk : sk[k]? = some (skOf l.toArray o) := by rw [← h1, List.getElem?_map, ho]; rfl
      obtain ⟨g1, g2⟩ := skB_at h2 k _ hsk
      rw [Nat.zero_add] at g1 g2
      unfold Region.lexFrom
      rw [Bool.and_eq_true, Bool.and_eq_true]
      refine ⟨⟨?_, ?_⟩, ?_⟩
      · rw [List.contains_iff_mem]
        unfold Region.ready
        rw [List.mem_filter]
        refine ⟨by simpa using hkl, ?_⟩
        have e : listed.getD k true = false := by
          rw [Array.getD_eq_getD_getElem?, hl k hkl]; simp
        have e2 : (l.toArray)[k]? = some o := by simpa using ho
        rw [e, e2]
        simp only [Bool.not_false, Option.map_some, Option.getD_some, Bool.true_and]
        rw [Array.all_eq_true_iff_forall_mem]
        intro ed hed
        by_cases hb : Region.binds .any ed = true
        · have hlt : ed.on < k := g1 ed.on (by
            simp only [skOf, List.mem_map, List.mem_filter]
            exact ⟨ed, ⟨by simpa using hed, hb⟩, rfl⟩)
          have : listed.getD ed.on false = true := by
            rw [Array.getD_eq_getD_getElem?, hl ed.on (by omega)]; simp [hlt]
          rw [this]; simp
        · simp [hb]
      · unfold Region.free
        have e2 : (l.toArray)[k]? = some o := by simpa using ho
        rw [e2]
        simp only
        rw [List.all_eq_true]
        intro j hj
        have hj' : j < l.length := by simpa using hj
        by_cases hjk : j = k
        · simp [hjk]
        · by_cases hlt : j < k
          · have : listed.getD j true = true := by rw [Array.getD_eq_getD_getElem?, hl j hj']; simp [hlt]
            simp [this]
          · obtain ⟨oj, hoj⟩ : ∃ o, l[j]? = some o := ⟨l[j], by simp [hj']⟩
            have hskj : sk[j]? = some (skOf l.toArray oj) := by rw [← h1, List.getElem?_map, hoj]; rfl
            have e3 : (l.toArray)[j]? = some oj := by simpa using hoj
            rw [e3]
            simp only [Bool.or_eq_true]
            right
            rcases g2 j _ (by omega) hskj with h | h
            · left
              rw [Array.any_eq_true']
              simp only [skOf, List.mem_map, List.mem_filter] at h
              obtain ⟨ed, ⟨h4, h5⟩, h6⟩ := h
              exact ⟨ed, by simpa using h4, by simp [h5, h6]⟩
            · right
              rw [apart_sk]; exact h
      · refine ih (k + 1) _ (by omega) (by simp [hs]) fun i hi => ?_
        rw [Array.getElem?_setIfInBounds]
        by_cases e : k = i
        · subst e; simp [hs, hkl]
        · rw [if_neg e, hl i hi]
          congr 1
          rw [decide_eq_decide]
          omega
  have := key l.length 0 (Array.replicate l.length false) (by omega) (by simp) (fun i hi => by simp [hi])
  simpa using this
section
variable {P : Program} {r : Option Nat} {N : Nat} {ds : List Deferred} {Q : Post} {E : Env} {w0 : World} {H : List Atom}
theorem HC.quietS [hm : Mixed P] {id : Nat} {l : List Oper} (sk : List Sk) (h1 : l.map (skOf l.toArray) = sk) (h2 : skB 0 sk = true) (h3 : Region.noSelect l.toArray = true) (h : HQ P r N ds l l Q E w0 H) : HC P r N ds (.region id l.toArray true) Q E w0 H := HC.quiet (lexB_sk sk h1 h2 h3) h
end
end Go.Sx
/-
  The layer with atoms: maps whose keys are numbers.
-/
namespace Go.Sx
open Go Go.RowKit
/-- A map of the call's own: what it holds, in the order in which it came. -/
def mpP (q : IntKind) (l : List (Int × Value)) (o : Obj) : Prop := ∃ es clk, o = .map es clk ∧ es.toList.map (fun e => (e.key, e.val)) = l.map fun p => (Value.int q p.1, p.2)
def A.mp (b : Nat) (q : IntKind) (l : List (Int × Value)) : Atom := A.obj b (mpP q l)
def mset : List (Int × Value) → Int → Value → List (Int × Value)
  | [], x, v => [(x, v)]
  | (y, u) :: l, x, v => if x = y then (x, v) :: l else (y, u) :: mset l x v
def mget : List (Int × Value) → Int → Option Value
  | [], _ => none
  | (y, u) :: l, x => if x = y then some u else mget l x
def midx : List (Int × Value) → Int → Option (Nat × Value)
  | [], _ => none
  | (y, u) :: l, x => if x = y then some (0, u) else (midx l x).map fun p => (p.1 + 1, p.2)
theorem findNow_int (q : IntKind) (x : Int) : ∀ (es : List MapEntry) (l : List (Int × Value)) (i : Nat), es.map (fun e => (e.key, e.val)) = l.map (fun p => (Value.int q p.1, p.2)) →
    Instr.findNow (.int q) (.int q x) es i = some ((midx l x).map fun p => (p.1 + i, p.2))
  | [], [], i, _ => rfl
  | [], _ :: _, _, h => by simp at h
  | _ :: _, [], _, h => by simp at h
  | e :: es, (y, u) :: l, i, h => by
    simp only [List.map_cons, List.cons.injEq, Prod.mk.injEq] at h
    obtain ⟨⟨h1, h2⟩, h3⟩ := h
    unfold Instr.findNow
    rw [h1]
    simp only [Instr.sameNow, if_true, midx]
    by_cases hxy : x = y
    · subst hxy
      simp [h2]
    · have : (x == y) = false := by simp [hxy]
      rw [this, if_neg hxy]
      simp only
      rw [findNow_int q x es l (i + 1) h3]
      cases midx l x with
      | none => rfl
      | some p => simp; omega
theorem midx_none {l : List (Int × Value)} {x : Int} (v : Value) (h : midx l x = none) : mset l x v = l ++ [(x, v)] := by
  induction l with
  | nil => rfl
  | cons p l ih =>
    obtain ⟨y, u⟩ := p
    simp only [midx] at h
    by_cases hxy : x = y
    · rw [if_pos hxy] at h; cases h
    · rw [if_neg hxy] at h
      simp only [mset, if_neg hxy, List.cons_append]
      rw [ih (by simpa using h)]
theorem midx_some {l : List (Int × Value)} {x : Int} (v : Value) {i : Nat} {u : Value} (h : midx l x = some (i, u)) : mset l x v = l.set i (x, v) ∧ i < l.length ∧ l[i]? = some (x, u) := by
  induction l generalizing i u with
  | nil => cases h
  | cons p l ih =>
    obtain ⟨y, u'⟩ := p
    simp only [midx] at h
    by_cases hxy : x = y
    · rw [if_pos hxy] at h
      cases h
      simp [mset, hxy]
    · rw [if_neg hxy] at h
      rw [Option.map_eq_some_iff] at h
      obtain ⟨⟨j, u2⟩, h1, h2⟩ := h
      cases h2
      obtain ⟨h3, h4, h5⟩ := ih h1
      simp only [mset, if_neg hxy, h3]
      exact ⟨by simp, by simpa using h4, by simpa using h5⟩
theorem run_checkKey_int {P : Program} {w : World} {k : TypeId} {q : IntKind} (hk : P.underlying k = some (.int q)) (e : Bool) (n : Nat) (x : Int) : (Instr.checkKey e (n + 1) k (.int q x)).run P w = .ok () w := by
  unfold Instr.checkKey
  simp only [Sem.run_bind, run_underlying hk, Result.andThen]
  rfl
theorem run_keyStays {P : Program} {w : World} (q : IntKind) (x : Int) : (Instr.keyThatStays (.int q x) (.int q x)).run P w = .ok (.int q x) w := by
  have : Instr.sameBits 10000 (.int q x) (.int q x) = true := by unfold Instr.sameBits; simp
  unfold Instr.keyThatStays
  rw [this]; rfl
theorem run_getMap {P : Program} {w : World} {b : Nat} {es : Array MapEntry} {clk : Nat} (hb : w.heap[b]? = some (.map es clk)) : (getObj b).run P w = .ok (.map es clk) w := by
  simp [getObj, Sem.run, hb]
theorem run_setMap {P : Program} {w : World} {b : Nat} {es : Array MapEntry} {clk : Nat} (o : Obj) (hb : w.heap[b]? = some (.map es clk)) : (setObj b o).run P w = .ok () (w.putObj b o) := by
  simp [setObj, Sem.run, hb, World.putObj]
theorem run_findKey_int {P : Program} {w : World} {k : TypeId} {q : IntKind} (hk : P.underlying k = some (.int q)) (x : Int) (es : List MapEntry) (l : List (Int × Value)) (hes : es.map (fun e => (e.key, e.val)) = l.map (fun p => (Value.int q p.1, p.2))) :
    (Instr.findKey k (.int q x) es).run P w = .ok (midx l x) w := by
  unfold Instr.findKey
  simp only [Sem.run_bind, run_underlying hk, Result.andThen, findNow_int q x es l 0 hes, Sem.run_pure]
  cases midx l x <;> rfl
section
variable {P : Program} {r : Option Nat} {N : Nat} {ds : List Deferred} {ol rest : List Oper} {Q : Post} {E : Env} {w0 : World} {H : List Atom} {next : Act → World → Prop} {g : Option (Nat × Bool)}
variable {d : Nat} {t ty : TypeId} {pos : String} {af : Array Edge} {x y z : Operand}
end
end Go.Sx
