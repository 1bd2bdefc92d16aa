/-
  The layer with memory as a list of atoms: each atom has a footprint of blocks, all of them apart; whatever lay there before the call lies as it lay.
-/
import Derived.Test.YtacamanakmeebaaDoorRowB
namespace Go.Sx
open Go Go.RowKit

structure Atom where
  fp : List Nat
  p : World → Prop
  loc : ∀ w w' : World, w.heap.size ≤ w'.heap.size → (∀ b, b ∈ fp → w'.heap[b]? = w.heap[b]?) → p w → p w'
def fps (H : List Atom) : List Nat := H.flatMap Atom.fp
structure Mm (w0 : World) (H : List Atom) (w : World) : Prop where
  ext : Ext w0 w
  all : ∀ a ∈ H, a.p w
  nd : (fps H).Nodup
  rng : ∀ b ∈ fps H, w0.heap.size ≤ b ∧ b < w.heap.size
theorem Mm.nil {w0 w : World} (h : Ext w0 w) : Mm w0 [] w := ⟨h, by simp, by simp [fps], by simp [fps]⟩
theorem Mm.refl (w : World) : Mm w [] w := Mm.nil (Ext.refl w)
theorem fps_cons (a : Atom) (H : List Atom) : fps (a :: H) = a.fp ++ fps H := rfl
theorem fps_append (H K : List Atom) : fps (H ++ K) = fps H ++ fps K := by simp [fps]
theorem mem_fps {H : List Atom} {a : Atom} {b : Nat} (ha : a ∈ H) (hb : b ∈ a.fp) : b ∈ fps H := by
  simp only [fps, List.mem_flatMap]; exact ⟨a, ha, hb⟩

theorem mem_hd {α : Type} {a : α} {l : List α} : a ∈ a :: l := List.Mem.head _
theorem mem_tl {α : Type} {a b : α} {l : List α} (h : a ∈ l) : a ∈ b :: l := List.Mem.tail _ h
/-- More memory. -/
theorem Mm.grow {w0 w w' : World} {H Hn : List Atom} (h : Mm w0 H w) (k : Mm w Hn w') : Mm w0 (Hn ++ H) w' := by
  refine ⟨h.ext.trans k.ext, fun a ha => ?_, ?_, fun b hb => ?_⟩
  · rcases List.mem_append.1 ha with ha | ha
    · exact k.all a ha
    · exact a.loc w w' k.ext.size (fun b hb => k.ext.block b (h.rng b (mem_fps ha hb)).2) (h.all a ha)
  · rw [fps_append]
    refine List.nodup_append.2 ⟨k.nd, h.nd, fun x hx y hy e => ?_⟩
    subst e
    have h1 := (k.rng x hx).1
    have h2 := (h.rng x hy).2
    omega
  · rw [fps_append] at hb
    rcases List.mem_append.1 hb with hb | hb
    · have h1 := k.rng b hb
      have h2 := h.ext.size
      omega
    · have h1 := h.rng b hb
      have h2 := k.ext.size
      omega
theorem Mm.more {w0 w w' : World} {H : List Atom} (h : Mm w0 H w) (k : Ext w w') : Mm w0 H w' := h.grow (Mm.nil k)

/-- One atom out of the list; one atom in the place of another. -/
inductive Pick (a : Atom) : List Atom → List Atom → Prop
  | here {H : List Atom} : Pick a (a :: H) H
  | there {x : Atom} {H H' : List Atom} : Pick a H H' → Pick a (x :: H) (x :: H')
theorem Pick.eq {a a' : Atom} {H : List Atom} (h : a' = a) : Pick a (a' :: H) H := h ▸ Pick.here
inductive Rpl (a a' : Atom) : List Atom → List Atom → Prop
  | here {H : List Atom} : Rpl a a' (a :: H) (a' :: H)
  | there {x : Atom} {H H' : List Atom} : Rpl a a' H H' → Rpl a a' (x :: H) (x :: H')
theorem Pick.perm {a : Atom} {H H' : List Atom} (h : Pick a H H') : H.Perm (a :: H') := by
  induction h with
  | here => exact List.Perm.refl _
  | there _ ih => exact (List.Perm.cons _ ih).trans (List.Perm.swap _ _ _)
theorem Rpl.perm {a a' : Atom} {H H' : List Atom} (h : Rpl a a' H H') : ∃ K, H.Perm (a :: K) ∧ H'.Perm (a' :: K) := by
  induction h with
  | here => exact ⟨_, List.Perm.refl _, List.Perm.refl _⟩
  | there _ ih =>
    obtain ⟨K, h1, h2⟩ := ih
    exact ⟨_ :: K, (List.Perm.cons _ h1).trans (List.Perm.swap _ _ _), (List.Perm.cons _ h2).trans (List.Perm.swap _ _ _)⟩
theorem Rpl.mem {a a' : Atom} {H H' : List Atom} (h : Rpl a a' H H') : a ∈ H := by
  obtain ⟨K, h1, -⟩ := h.perm
  exact h1.mem_iff.2 (by simp)
theorem Mm.perm {w0 w : World} {H H' : List Atom} (h : Mm w0 H w) (k : H.Perm H') : Mm w0 H' w := by
  have hp : (fps H).Perm (fps H') := List.Perm.flatMap_right _ k
  exact ⟨h.ext, fun a ha => h.all a (k.mem_iff.2 ha), hp.nodup_iff.1 h.nd, fun b hb => h.rng b (hp.mem_iff.2 hb)⟩
theorem Mm.left {w0 w : World} {H K : List Atom} (h : Mm w0 (H ++ K) w) : Mm w0 H w := by
  refine ⟨h.ext, fun b hb => h.all b (List.mem_append_left _ hb), ?_, fun b hb => h.rng b ?_⟩
  · have := h.nd; rw [fps_append] at this; exact (List.nodup_append.1 this).1
  · rw [fps_append]; exact List.mem_append_left _ hb
theorem Mm.tail {w0 w : World} {a : Atom} {H : List Atom} (h : Mm w0 (a :: H) w) : Mm w0 H w :=
  Mm.left (K := [a]) (h.perm (List.perm_append_comm (l₁ := [a]) (l₂ := H)))
theorem Mm.cons {w0 w : World} {a : Atom} {H : List Atom} (h : Mm w0 H w) (ha : a.p w) (hn : a.fp.Nodup) (hd : ∀ b ∈ a.fp, b ∉ fps H ∧ w0.heap.size ≤ b ∧ b < w.heap.size) : Mm w0 (a :: H) w := by
  refine ⟨h.ext, fun b hb => ?_, ?_, fun b hb => ?_⟩
  · rcases List.mem_cons.1 hb with rfl | hb
    · exact ha
    · exact h.all b hb
  · rw [fps_cons]
    exact List.nodup_append.2 ⟨hn, h.nd, fun x hx y hy e => by subst e; exact (hd x hx).1 hy⟩
  · rw [fps_cons] at hb
    rcases List.mem_append.1 hb with hb | hb
    · exact (hd b hb).2
    · exact h.rng b hb
/-- One list of atoms holds another one. -/
def Hs (H H' : List Atom) : Prop := ∃ K, H.Perm (H' ++ K)
theorem Hs.refl (H : List Atom) : Hs H H := ⟨[], by simp⟩
theorem Hs.nil (H : List Atom) : Hs H [] := ⟨H, List.Perm.refl _⟩
theorem Hs.cons {a : Atom} {H H1 H' : List Atom} (hp : Pick a H H1) (hs : Hs H1 H') : Hs H (a :: H') := by
  obtain ⟨K, hK⟩ := hs
  exact ⟨K, hp.perm.trans (List.Perm.cons _ hK)⟩
theorem Mm.sub {w0 w : World} {H H' : List Atom} (h : Mm w0 H w) (hs : Hs H H') : Mm w0 H' w := by
  obtain ⟨K, hK⟩ := hs
  exact (h.perm hK).left
/-- The blocks of one atom turn, into another atom's. -/
theorem Mm.turn {w0 w w' : World} {H H' : List Atom} {a a' : Atom} (h : Mm w0 H w) (hr : Rpl a a' H H') (hos : w'.os = w.os) (htape : w'.tape = w.tape) (hout : w'.output = w.output) (hsize : w.heap.size ≤ w'.heap.size)
    (hblk : ∀ k, k < w.heap.size → k ∉ a.fp → w'.heap[k]? = w.heap[k]?) (ha : a'.p w') (hn : a'.fp.Nodup) (hfp : ∀ b ∈ a'.fp, b ∈ a.fp ∨ (w.heap.size ≤ b ∧ b < w'.heap.size)) : Mm w0 H' w' := by
  obtain ⟨K, h1, h2⟩ := hr.perm
  have hK := h.perm h1
  have hnd := hK.nd
  rw [fps_cons] at hnd
  have hrng : ∀ b ∈ a.fp, w0.heap.size ≤ b ∧ b < w.heap.size := fun b hb => hK.rng b (by rw [fps_cons]; exact List.mem_append_left _ hb)
  have hrK : ∀ b ∈ fps K, w0.heap.size ≤ b ∧ b < w.heap.size := fun b hb => hK.rng b (by rw [fps_cons]; exact List.mem_append_right _ hb)
  have hKK : Mm w0 K w' := by
    refine ⟨⟨hos.trans h.ext.os, htape.trans h.ext.tape, hout.trans h.ext.output, Nat.le_trans h.ext.size hsize, fun k hk => ?_⟩, fun b hb => ?_, (List.nodup_append.1 hnd).2.1, fun b hb => ?_⟩
    · rw [hblk k (Nat.lt_of_lt_of_le hk h.ext.size) (fun hm => by have := (hrng k hm).1; omega)]
      exact h.ext.block k hk
    · refine b.loc w w' hsize (fun k hk => ?_) (hK.all b (List.mem_cons_of_mem _ hb))
      have hkK : k ∈ fps K := mem_fps hb hk
      exact hblk k (hrK k hkK).2 (fun hm => (List.nodup_append.1 hnd).2.2 k hm k hkK rfl)
    · have := hrK b hb
      omega
  refine (Mm.cons hKK ha hn fun b hb => ?_).perm h2.symm
  have h0 := h.ext.size
  rcases hfp b hb with hb' | hb'
  · have hb2 := hrng b hb'
    exact ⟨fun hm => (List.nodup_append.1 hnd).2.2 b hb' b hm rfl, by omega, by omega⟩
  · exact ⟨fun hm => by have := hrK b hm; omega, by omega, by omega⟩

/- THE KINDS OF ATOMS -/
def A.blk (b : Nat) (cs : List Value) (e : TypeId) : Atom := ⟨[b], fun w => Blk w b cs e, fun _ _ _ h hb => (h b (by simp)).trans hb⟩
def A.obj (b : Nat) (q : Obj → Prop) : Atom := ⟨[b], fun w => ∃ o, w.heap[b]? = some o ∧ q o, fun _ _ _ h ⟨o, h1, h2⟩ => ⟨o, (h b (by simp)).trans h1, h2⟩⟩
/-- A slice of the call's own that may grow. -/
def A.grow (e : TypeId) (sz : Nat) (a : Option Addr) (c n : Nat) (xs : List Value) : Atom :=
  ⟨(Value.slice a n c).ownBlock.toList, fun w => w.ownsRow 0 e sz (.slice a n c) n xs, fun w w' _ h hp => by
    refine ⟨hp.1, ?_⟩
    rcases hp.2 with hn | ⟨g, cap, cur, hv, hb, hg, rest⟩
    · exact .inl hn
    · cases hv
      exact .inr ⟨g, c, cur, rfl, hb, (h g (by simp [Value.ownBlock])).trans hg, rest⟩⟩
/-- A slice, of one-cell elements, that is only read. -/
def A.rd (v : Value) (vs : List Value) : Atom :=
  ⟨if vs.isEmpty then [] else v.ownBlock.toList, fun w => Rd w v vs, fun w w' hs h hp => by
    obtain ⟨a, c, h1, h2, h3⟩ := hp
    refine ⟨a, c, h1, h2, ?_⟩
    rcases h3 with h3 | ⟨b, off, h3, h4, h5⟩
    · exact .inl h3
    · by_cases he : vs = []
      · exact .inl he
      · have hb : w'.heap[b]? = w.heap[b]? := by
          subst h3; subst h1
          refine h b ?_
          have : vs.isEmpty = false := by cases vs <;> simp_all
          simp [this, Value.ownBlock]
        refine .inr ⟨b, off, h3, Nat.lt_of_lt_of_le h4 hs, fun i u hu => ?_⟩
        rw [World.cell?_of_block (w := w) (w' := w') hb]
        exact h5 i u hu⟩
theorem Mm.blk {w0 w : World} {H : List Atom} {b : Nat} {cs : List Value} {e : TypeId} (h : Mm w0 H w) (hm : A.blk b cs e ∈ H) : Blk w b cs e := h.all _ hm
theorem Mm.rd {w0 w : World} {H : List Atom} {v : Value} {vs : List Value} (h : Mm w0 H w) (hm : A.rd v vs ∈ H) : Rd w v vs := h.all _ hm
theorem Mm.own {w0 w : World} {H : List Atom} {e : TypeId} {sz c n : Nat} {a : Option Addr} {xs : List Value} (h : Mm w0 H w) (hm : A.grow e sz a c n xs ∈ H) : w.ownsRow 0 e sz (.slice a n c) n xs := h.all _ hm
theorem Mm.gr {w0 w : World} {H : List Atom} {e : TypeId} {c n : Nat} {a : Option Addr} {xs : List Value} (h : Mm w0 H w) (hm : A.grow e 1 a c n xs ∈ H) : Rd w (.slice a n c) xs := Rd.of_owns (h.own hm)
theorem Mm.obj {w0 w : World} {H : List Atom} {b : Nat} {q : Obj → Prop} (h : Mm w0 H w) (hm : A.obj b q ∈ H) : ∃ o, w.heap[b]? = some o ∧ q o := h.all _ hm
theorem Mm.rd0 {w0 w : World} {H : List Atom} {v : Value} {vs : List Value} (h : Mm w0 H w) (hr : Rd w0 v vs) : Rd w v vs := hr.ext h.ext
theorem Mm.fresh {w0 w : World} {H : List Atom} (h : Mm w0 H w) (cs : List Value) (e : TypeId) : Mm w0 (A.blk w.heap.size cs e :: H) (w.alloc (.cells cs.toArray e)) := by
  have h1 := h.more (Ext.alloc w (.cells cs.toArray e))
  refine h1.cons (Blk.new w cs e) (by simp [A.blk]) fun b hb => ?_
  have hb' : b = w.heap.size := by simpa [A.blk] using hb
  subst hb'
  refine ⟨fun hm => ?_, h.ext.size, by simp⟩
  have := (h.rng _ hm).2
  omega
/-- The atoms that hold nothing. -/
theorem Mm.grow0 {w0 w : World} {H : List Atom} (h : Mm w0 H w) (e : TypeId) (sz : Nat) : Mm w0 (A.grow e sz none 0 0 [] :: H) w :=
  h.cons (World.ownsRow_nil w 0 e sz) (by simp [A.grow, Value.ownBlock]) (by simp [A.grow, Value.ownBlock])

section
variable (P : Program) (r : Option Nat) (N : Nat) (ds : List Deferred)
def HC (c : Code) (Q : Post) (E : Env) (w0 : World) (H : List Atom) : Prop := ∀ w, Mm w0 H w → WC P r N ds c Q E w
def HL (ol l : List Oper) (Q : Post) (E : Env) (w0 : World) (H : List Atom) : Prop := ∀ w, Mm w0 H w → WL P r N ds ol l Q E w
def HX (e : Exit) (Q : Post) (E : Env) (w0 : World) (H : List Atom) : Prop := ∀ w, Mm w0 H w → WX N ds e Q E w
def HN (next : Act → World → Prop) (E : Env) (w0 : World) (H : List Atom) : Prop := ∀ w, Mm w0 H w → NX N ds next E w
def H1 (next : Act → World → Prop) (o : Oper) (Q : Post) (E : Env) (w0 : World) (H : List Atom) : Prop := ∀ w, Mm w0 H w → W1 P r N ds next o Q E w
def HA (ol : List Oper) (fuel : Nat) (listed : Array Bool) (Q : Post) (E : Env) (w0 : World) (H : List Atom) : Prop := ∀ w, Mm w0 H w → WA P N ds ol fuel listed Q E w
def HQ (ol l : List Oper) (Q : Post) (E : Env) (w0 : World) (H : List Atom) : Prop := ∀ w, Mm w0 H w → QL P r N ds w ol l Q E
end
def AgainH {α : Type} (N : Nat) (ds : List Deferred) (Ex : α → Env) (Hx : α → List Atom) (I : α → Prop) (μ : α → Nat) (w0 : World) (m : Nat) : Act → World → Prop :=
  fun a' w' => ∃ x', (I x' ∧ Mm w0 (Hx x') w') ∧ μ x' < m ∧ Rep N ds (Ex x') a'
def CutH {α : Type} (N : Nat) (ds : List Deferred) (Ex : α → Env) (Hx : α → List Atom) (I : α → Prop) (w0 : World) : Act → World → Prop :=
  fun a' w' => ∃ z, (I z ∧ Mm w0 (Hx z) w') ∧ Rep N ds (Ex z) a'

section
variable {P : Program} {r : Option Nat} {N : Nat} {ds : List Deferred} {ol rest : List Oper} {Q : Post} {E : Env} {w0 : World} {H : List Atom} {next : Act → World → Prop} {g : Option (Nat × Bool)} {fuel : Nat} {listed : Array Bool}

theorem HC.sub {c : Code} (E' : Env) (H' : List Atom) (h : HC P r N ds c Q E' w0 H') (hs : Env.sub E E') (hh : Hs H H') : HC P r N ds c Q E w0 H := fun w hM => (h w (hM.sub hh)).sub E' hs
theorem HC.mem {c : Code} (H' : List Atom) (hh : Hs H H') (h : HC P r N ds c Q E w0 H') : HC P r N ds c Q E w0 H := fun w hM => h w (hM.sub hh)
theorem HL.mem {l : List Oper} (H' : List Atom) (hh : Hs H H') (h : HL P r N ds ol l Q E w0 H') : HL P r N ds ol l Q E w0 H := fun w hM => h w (hM.sub hh)
theorem HL.env {l : List Oper} (E' : Env) (hs : Env.sub E E') (h : HL P r N ds ol l Q E' w0 H) : HL P r N ds ol l Q E w0 H := fun w hM => (h w hM).sub E' hs
theorem HC.grow0 {c : Code} (e : TypeId) (sz : Nat) (h : HC P r N ds c Q E w0 (A.grow e sz none 0 0 [] :: H)) : HC P r N ds c Q E w0 H := fun w hM => h w (hM.grow0 e sz)
theorem HL.grow0 {l : List Oper} (e : TypeId) (sz : Nat) (h : HL P r N ds ol l Q E w0 (A.grow e sz none 0 0 [] :: H)) : HL P r N ds ol l Q E w0 H := fun w hM => h w (hM.grow0 e sz)
/-- The world at hand becomes the base. -/
theorem HL.rebase {l : List Oper} (h : ∀ w, Mm w0 H w → HL P r N ds ol l Q E w []) : HL P r N ds ol l Q E w0 H := fun w hM => h w hM w (Mm.refl w)
theorem HC.rebase {c : Code} (h : ∀ w, Mm w0 H w → HC P r N ds c Q E w []) : HC P r N ds c Q E w0 H := fun w hM => h w hM w (Mm.refl w)
theorem HL.world {l : List Oper} (h : ∀ w, Mm w0 H w → HL P r N ds ol l Q E w0 H) : HL P r N ds ol l Q E w0 H := fun w hM => h w hM w hM

theorem HC.skip (h : HX N ds .normal Q E w0 H) : HC P r N ds .skip Q E w0 H := fun w hM => WC.skip (h w hM)
theorem HC.seq {x y : Code} (h : HC P r N ds x (Then P r y Q) E w0 H) : HC P r N ds (.seq x y) Q E w0 H := fun w hM => WC.seq (h w hM)
theorem HC.block {id : Nat} {c : Code} (h : HC P r N ds c (Exit.inBlock id Q) E w0 H) : HC P r N ds (.block id c) Q E w0 H := fun w hM => WC.block (h w hM)
theorem HC.exit {id : Nat} (h : HX N ds (.exit id) Q E w0 H) : HC P r N ds (.exit id) Q E w0 H := fun w hM => WC.exit (h w hM)
theorem HC.ret (h : HX N ds .ret Q E w0 H) : HC P r N ds .ret Q E w0 H := fun w hM => WC.ret (h w hM)
theorem HC.region {id : Nat} {l : List Oper} (h : HL P r N ds l l Q E w0 H) : HC P r N ds (.region id l.toArray false) Q E w0 H := fun w hM => WC.region (h w hM)
theorem HC.cond_b {c : Operand} {x y : Code} {b : Bool} (hc : Env.ev E c = some (.bool b)) (h1 : b = true → HC P r N ds x Q E w0 H) (h2 : b = false → HC P r N ds y Q E w0 H) :
    HC P r N ds (.cond c x y) Q E w0 H := fun w hM => WC.cond_b hc (fun e => h1 e w hM) (fun e => h2 e w hM)
theorem HC.cond {c : Operand} {x y : Code} {p : Prop} {_ : Decidable p} (hc : Env.ev E c = some (.bool (decide p))) (h1 : p → HC P r N ds x Q E w0 H) (h2 : ¬ p → HC P r N ds y Q E w0 H) :
    HC P r N ds (.cond c x y) Q E w0 H := fun w hM => WC.cond hc (fun e => h1 e w hM) (fun e => h2 e w hM)
theorem HC.cond_yes {c : Operand} {x y : Code} {b : Bool} (hc : Env.ev E c = some (.bool b)) (h : HC P r N ds x Q E w0 H)
    (hb : b = true := by
      first | with_reducible rfl | assumption | (simp only [Bool.not_true, Bool.not_false]; done) | (simp only [decide_eq_true_eq, decide_eq_false_iff_not, Bool.not_true, Bool.not_false, not_true_eq_false, not_false_eq_true, reduceCtorEq]; first | done | omega)) : HC P r N ds (.cond c x y) Q E w0 H := HC.cond_b hc (fun _ => h) (fun e => by rw [hb] at e; cases e)
theorem HC.cond_no {c : Operand} {x y : Code} {b : Bool} (hc : Env.ev E c = some (.bool b)) (h : HC P r N ds y Q E w0 H)
    (hb : b = false := by
      first | with_reducible rfl | assumption | (simp only [Bool.not_true, Bool.not_false]; done) | (simp only [decide_eq_true_eq, decide_eq_false_iff_not, Bool.not_true, Bool.not_false, not_true_eq_false, not_false_eq_true, reduceCtorEq]; first | done | omega)) : HC P r N ds (.cond c x y) Q E w0 H := HC.cond_b hc (fun e => by rw [hb] at e; cases e) (fun _ => h)
theorem HC.loop {α : Type} {c : Code} (Ex : α → Env) (Hx : α → List Atom) (I : α → Prop) (μ : α → Nat) (x0 : α) (h0 : I x0) (hs : Env.sub E (Ex x0)) (hh : Hs H (Hx x0))
    (round : ∀ x, I x → HC P r N ds c (Again (AgainH N ds Ex Hx I μ w0 (μ x)) Q) (Ex x) w0 (Hx x)) : HC P r N ds (.loop c) Q E w0 H := fun _ hM =>
  WC.loop Ex (fun x w' => I x ∧ Mm w0 (Hx x) w') μ x0 hs ⟨h0, hM.sub hh⟩ fun x w' hI => round x hI.1 w' hI.2
theorem HX.again {α : Type} {Ex : α → Env} {Hx : α → List Atom} {I : α → Prop} {m : Nat} {μ : α → Nat} (x' : α) (h1 : I x') (h2 : μ x' < m) (hs : Env.sub E (Ex x')) (hh : Hs H (Hx x')) :
    HX N ds .normal (Again (AgainH N ds Ex Hx I μ w0 m) Q) E w0 H := fun _ hM a ha => ⟨x', ⟨h1, hM.sub hh⟩, h2, ha.sub hs⟩
theorem HC.cut {α : Type} {x y : Code} (Ex : α → Env) (Hx : α → List Atom) (I : α → Prop) (h : HC P r N ds x (Again (CutH N ds Ex Hx I w0) Q) E w0 H)
    (h2 : ∀ z, I z → HC P r N ds y Q (Ex z) w0 (Hx z)) : HC P r N ds x (Then P r y Q) E w0 H := fun w hM =>
  WC.cutT Ex (fun z w' => I z ∧ Mm w0 (Hx z) w') (h w hM) fun z w' hI => h2 z hI.1 w' hI.2
theorem HX.cut {α : Type} {Ex : α → Env} {Hx : α → List Atom} {I : α → Prop} (z : α) (h1 : I z) (hs : Env.sub E (Ex z)) (hh : Hs H (Hx z)) :
    HX N ds .normal (Again (CutH N ds Ex Hx I w0) Q) E w0 H := fun _ hM a ha => ⟨z, ⟨h1, hM.sub hh⟩, ha.sub hs⟩

theorem HX.n_then {y : Code} (h : HC P r N ds y Q E w0 H) : HX N ds .normal (Then P r y Q) E w0 H := h
theorem HX.e_then {y : Code} {id : Nat} (h : HX N ds (.exit id) Q E w0 H) : HX N ds (.exit id) (Then P r y Q) E w0 H := h
theorem HX.r_then {y : Code} (h : HX N ds .ret Q E w0 H) : HX N ds .ret (Then P r y Q) E w0 H := h
theorem HX.e_again {I : Act → World → Prop} {id : Nat} (h : HX N ds (.exit id) Q E w0 H) : HX N ds (.exit id) (Again I Q) E w0 H := h
theorem HX.r_again {I : Act → World → Prop} (h : HX N ds .ret Q E w0 H) : HX N ds .ret (Again I Q) E w0 H := h
theorem HX.n_block {id : Nat} (h : HX N ds .normal Q E w0 H) : HX N ds .normal (Exit.inBlock id Q) E w0 H := h
theorem HX.r_block {id : Nat} (h : HX N ds .ret Q E w0 H) : HX N ds .ret (Exit.inBlock id Q) E w0 H := h
theorem HX.e_block {id : Nat} (h : HX N ds .normal Q E w0 H) : HX N ds (.exit id) (Exit.inBlock id Q) E w0 H := fun w hM => WX.e_block (h w hM)
theorem HX.e_other {id id' : Nat} (hne : Nat.beq id' id = false) (h : HX N ds (.exit id') Q E w0 H) : HX N ds (.exit id') (Exit.inBlock id Q) E w0 H := fun w hM => WX.e_other hne (h w hM)

theorem enterH {f : FuncId} {fn : Func} {c : Code} {l : List Value} {R : Value → World → Prop} {w : World} [hf : FnIs P f fn] (hb : fn.body = some c) (hN : fn.ntmps = N) (hl : Nat.ble l.length N = true)
    (h : HC P none N [] c (bodyPost P fn (RetP R)) (Env.of 0 l) w []) : Fn P f l.toArray w R := enter hb hN hl (h w (Mm.refl w))
theorem HX.ret0 {fn : Func} {R : Value → World → Prop} (hr : fn.results = #[]) (h : ∀ w, Mm w0 H w → R (.tuple #[]) w) : HX N [] .ret (bodyPost P fn (RetP R)) E w0 H := fun w hM => WX.ret0 hr (h w hM)
theorem HX.end0 {fn : Func} {R : Value → World → Prop} (hr : fn.results = #[]) (h : ∀ w, Mm w0 H w → R (.tuple #[]) w) : HX N [] .normal (bodyPost P fn (RetP R)) E w0 H := fun w hM => WX.end0 hr (h w hM)
theorem HX.ret1 {fn : Func} {t : Nat} {v : Value} {R : Value → World → Prop} (hr : fn.results = #[.tmp t]) (hv : Env.g E t = some v) (h : ∀ w, Mm w0 H w → R v w) : HX N [] .ret (bodyPost P fn (RetP R)) E w0 H := fun w hM => WX.ret1 hr hv (h w hM)
theorem HX.ret2 {fn : Func} {t u : Nat} {v v' : Value} {R : Value → World → Prop} (hr : fn.results = #[.tmp t, .tmp u]) (hv : Env.g E t = some v) (hv' : Env.g E u = some v') (h : ∀ w, Mm w0 H w → R (.tuple #[v, v']) w) :
    HX N [] .ret (bodyPost P fn (RetP R)) E w0 H := fun w hM => WX.ret2 hr hv hv' (h w hM)

/- ONE OPERATION -/
theorem HL.nil (h : HX N ds .normal Q E w0 H) : HL P r N ds ol [] Q E w0 H := fun w hM => WL.nil (h w hM)
theorem HL.fold {l : List Oper} (h : HL P r N ds ol l Q E w0 H) : HN N ds (wpListIn (FW r) 0 P ol.toArray Q l) E w0 H := h
theorem HA.fold (h : HA P N ds ol fuel listed Q E w0 H) : HN N ds (wpAnyIn (FW none) 0 P .any ol.toArray Q fuel listed) E w0 H := h
theorem HL.one {d : Option Nat} {op : Op} {ty : TypeId} {pos : String} {af : Array Edge} (h : H1 P r N ds (wpListIn (FW r) 0 P ol.toArray Q rest) ⟨d, op, ty, pos, af, none⟩ Q E w0 H) :
    HL P r N ds ol (⟨d, op, ty, pos, af, none⟩ :: rest) Q E w0 H := fun w hM => WL.one (h w hM)
theorem HL.pa {d : Nat} {op : Op} {ty : TypeId} {pos : String} {af : Array Edge} {v : Value} (h : HL P r N ds ol rest Q ((d, v) :: E) w0 H)
    (hp : POp P N ds E op ty v := by
      first
        | (apply POp.move; rfl)
        | (apply POp.assign; rfl)
        | (apply POp.extract; rfl; rfl)
        | (apply POp.len_slice; rfl)
        | (apply POp.len_string; rfl)
        | (apply POp.lss; rfl; rfl)
        | (apply POp.leq; rfl; rfl)
        | (apply POp.gtr; rfl; rfl)
        | (apply POp.geq; rfl; rfl)
        | (apply POp.eql; rfl; rfl)
        | (apply POp.neq; rfl; rfl)
        | (apply POp.not_d; rfl)
        | (apply POp.not_b; rfl)
        | (apply POp.add; rfl; rfl; omega; omega)
        | (apply POp.sub; rfl; rfl; omega; omega)
        | (apply POp.xor; rfl; rfl; (first | with_reducible exact cst _ | with_reducible exact lit _ | exact rfl); (first | with_reducible exact cst _ | with_reducible exact lit _ | exact rfl); (first | omega | assumption | decide | (refine Nat.lt_of_le_of_lt (Nat.shiftRight_le _ _) ?_; omega) | (refine Nat.lt_of_le_of_lt Nat.and_le_right ?_; omega) | (refine Nat.lt_of_le_of_lt Nat.and_le_left ?_; omega) | (refine Nat.xor_lt_two_pow (n := 63) ?_ ?_ <;> omega)); (first | omega | assumption | decide | (refine Nat.lt_of_le_of_lt (Nat.shiftRight_le _ _) ?_; omega) | (refine Nat.lt_of_le_of_lt Nat.and_le_right ?_; omega) | (refine Nat.lt_of_le_of_lt Nat.and_le_left ?_; omega) | (refine Nat.xor_lt_two_pow (n := 63) ?_ ?_ <;> omega)))
        | (apply POp.xor8; rfl; rfl; (first | with_reducible exact cst _ | with_reducible exact lit _ | exact rfl); (first | with_reducible exact cst _ | with_reducible exact lit _ | exact rfl); (first | omega | assumption); (first | omega | assumption))
        | (apply POp.and; rfl; rfl; (first | with_reducible exact cst _ | with_reducible exact lit _ | exact rfl); (first | with_reducible exact cst _ | with_reducible exact lit _ | exact rfl); (first | omega | assumption | decide | (refine Nat.lt_of_le_of_lt (Nat.shiftRight_le _ _) ?_; omega) | (refine Nat.lt_of_le_of_lt Nat.and_le_right ?_; omega) | (refine Nat.lt_of_le_of_lt Nat.and_le_left ?_; omega) | (refine Nat.xor_lt_two_pow (n := 63) ?_ ?_ <;> omega)); (first | omega | assumption | decide | (refine Nat.lt_of_le_of_lt (Nat.shiftRight_le _ _) ?_; omega) | (refine Nat.lt_of_le_of_lt Nat.and_le_right ?_; omega) | (refine Nat.lt_of_le_of_lt Nat.and_le_left ?_; omega) | (refine Nat.xor_lt_two_pow (n := 63) ?_ ?_ <;> omega)))
        | (apply POp.or; rfl; rfl; (first | with_reducible exact cst _ | with_reducible exact lit _ | exact rfl); (first | with_reducible exact cst _ | with_reducible exact lit _ | exact rfl); (first | omega | assumption | decide | (refine Nat.lt_of_le_of_lt (Nat.shiftRight_le _ _) ?_; omega) | (refine Nat.lt_of_le_of_lt Nat.and_le_right ?_; omega) | (refine Nat.lt_of_le_of_lt Nat.and_le_left ?_; omega) | (refine Nat.xor_lt_two_pow (n := 63) ?_ ?_ <;> omega)); (first | omega | assumption | decide | (refine Nat.lt_of_le_of_lt (Nat.shiftRight_le _ _) ?_; omega) | (refine Nat.lt_of_le_of_lt Nat.and_le_right ?_; omega) | (refine Nat.lt_of_le_of_lt Nat.and_le_left ?_; omega) | (refine Nat.xor_lt_two_pow (n := 63) ?_ ?_ <;> omega)))
        | (apply POp.shr; rfl; rfl; (first | with_reducible exact cst _ | with_reducible exact lit _ | exact rfl); (first | with_reducible exact cst _ | with_reducible exact lit _ | exact rfl); omega)
        | (apply POp.shl; rfl; rfl; (first | with_reducible exact cst _ | with_reducible exact lit _ | exact rfl); (first | with_reducible exact cst _ | with_reducible exact lit _ | exact rfl); omega; (first | omega | assumption | decide | (refine Nat.lt_of_le_of_lt (Nat.shiftRight_le _ _) ?_; omega) | (refine Nat.lt_of_le_of_lt Nat.and_le_right ?_; omega) | (refine Nat.lt_of_le_of_lt Nat.and_le_left ?_; omega) | (refine Nat.xor_lt_two_pow (n := 63) ?_ ?_ <;> omega)))
        | (apply POp.quo; rfl; rfl; omega; omega; omega)
        | (apply POp.rem; rfl; rfl; omega; omega)
        | (apply POp.min_int; rfl; rfl)
        | (apply POp.conv_i64; rfl; omega; omega)
        | (apply POp.index_slice; rfl; rfl; omega; omega; (first | (simp only [Nat.zero_add, Nat.add_zero, Nat.mul_one, Int.toNat_natCast, Int.reduceToNat, Nat.reduceMul, Nat.reduceAdd]; done) | (simp only [Nat.zero_add, Nat.add_zero, Nat.mul_one, Int.toNat_natCast, Int.reduceToNat, Nat.reduceMul, Nat.reduceAdd]; rfl) | rfl))
        | (apply POp.index_array; rfl; rfl; omega; omega; (first | (simp only [Nat.zero_add, Nat.add_zero, Nat.mul_one, Int.toNat_natCast, Int.reduceToNat, Nat.reduceMul, Nat.reduceAdd]; done) | (simp only [Nat.zero_add, Nat.add_zero, Nat.mul_one, Int.toNat_natCast, Int.reduceToNat, Nat.reduceMul, Nat.reduceAdd]; rfl) | rfl))
        | (apply POp.makeFunc; rfl; rfl)
        | (apply POp.index_string; rfl; rfl; (first | with_reducible exact cst _ | with_reducible exact lit _ | exact rfl); omega)
        | (apply POp.sub_lh; rfl; rfl; rfl; omega; omega; omega)
        | (apply POp.sub_h; rfl; rfl; omega; omega)
        | (apply POp.sub_l; rfl; rfl; omega; omega)
        | (apply POp.seql; rfl; rfl)
        | (apply POp.sneq; rfl; rfl)
        | (apply POp.conv_u8; rfl; omega; omega)
        | (apply POp.mul; rfl; rfl; omega; omega)
        | (refine POp.pick_t rfl ?_ rfl; (first | with_reducible rfl | assumption | (simp only [Bool.not_true, Bool.not_false]; done) | (simp only [decide_eq_true_eq, decide_eq_false_iff_not, Bool.not_true, Bool.not_false, not_true_eq_false, not_false_eq_true, reduceCtorEq]; first | done | omega)))
        | (refine POp.pick_f rfl ?_ rfl; (first | with_reducible rfl | assumption | (simp only [Bool.not_true, Bool.not_false]; done) | (simp only [decide_eq_true_eq, decide_eq_false_iff_not, Bool.not_true, Bool.not_false, not_true_eq_false, not_false_eq_true, reduceCtorEq]; first | done | omega)))
        | (apply POp.neg; rfl; omega; omega)
        | (apply POp.cat; rfl; rfl; omega)
        | (apply POp.beql; rfl; rfl)
        | (apply POp.bneq; rfl; rfl)
        | (apply POp.field; rfl; rfl)
        | (refine POp.fieldAddr rfl rfl)
        | (apply POp.cut_h; rfl; rfl; omega; omega)) (hi : isDefer op = false := by exact rfl) (hd : Nat.blt d N = true := by exact rfl) :
    HL P r N ds ol (⟨some d, op, ty, pos, af, none⟩ :: rest) Q E w0 H := fun w hM => WL.p hp hi hd (h w hM)
theorem HL.p {d : Nat} {op : Op} {ty : TypeId} {pos : String} {af : Array Edge} {v : Value} (hp : POp P N ds E op ty v) (hi : isDefer op = false) (hd : Nat.blt d N = true) (h : HL P r N ds ol rest Q ((d, v) :: E) w0 H) :
    HL P r N ds ol (⟨some d, op, ty, pos, af, none⟩ :: rest) Q E w0 H := fun w hM => WL.p hp hi hd (h w hM)
theorem HL.ga {d : Option Nat} {op : Op} {ty : TypeId} {pos : String} {af : Array Edge} {j : Nat} {want b : Bool} (hj : guardE ol E j = some b) (h : HL P r N ds ol (⟨d, op, ty, pos, af, none⟩ :: rest) Q E w0 H)
    (hb : b = want := by
      first | with_reducible rfl | assumption | (simp only [Bool.not_true, Bool.not_false]; done) | (simp only [decide_eq_true_eq, decide_eq_false_iff_not, Bool.not_true, Bool.not_false, not_true_eq_false, not_false_eq_true, reduceCtorEq]; first | done | omega)) : HL P r N ds ol (⟨d, op, ty, pos, af, some (j, want)⟩ :: rest) Q E w0 H := fun w hM => WL.gy hj hb (h w hM)
theorem HL.na {d : Option Nat} {op : Op} {ty : TypeId} {pos : String} {af : Array Edge} {j : Nat} {want b : Bool} (hj : guardE ol E j = some b) (h : HL P r N ds ol rest Q (putE d undef E) w0 H)
    (hb : b = !want := by
      first | with_reducible rfl | assumption | (simp only [Bool.not_true, Bool.not_false]; done) | (simp only [decide_eq_true_eq, decide_eq_false_iff_not, Bool.not_true, Bool.not_false, not_true_eq_false, not_false_eq_true, reduceCtorEq]; first | done | omega)) (hd : dOk d N = true := by exact rfl) :
    HL P r N ds ol (⟨d, op, ty, pos, af, some (j, want)⟩ :: rest) Q E w0 H := fun w hM => WL.gn hj hb hd (h w hM)
theorem HL.nu {d : Option Nat} {op : Op} {ty : TypeId} {pos : String} {af : Array Edge} {j : Nat} {want : Bool} (hj : guardU ol E j = true) (hd : dOk d N = true) (h : HL P r N ds ol rest Q (putE d undef E) w0 H) :
    HL P r N ds ol (⟨d, op, ty, pos, af, some (j, want)⟩ :: rest) Q E w0 H := fun w hM => WL.nu hj hd (h w hM)
variable {d : Nat} {t ty : TypeId} {pos : String} {af : Array Edge} {x y : Operand} {k : IntKind} {m n : Int}
theorem H1.pa {op : Op} {v : Value} (h : HN N ds next ((d, v) :: E) w0 H)
    (hp : POp P N ds E op ty v := by
      first
        | (apply POp.move; rfl)
        | (apply POp.assign; rfl)
        | (apply POp.extract; rfl; rfl)
        | (apply POp.len_slice; rfl)
        | (apply POp.len_string; rfl)
        | (apply POp.lss; rfl; rfl)
        | (apply POp.leq; rfl; rfl)
        | (apply POp.gtr; rfl; rfl)
        | (apply POp.geq; rfl; rfl)
        | (apply POp.eql; rfl; rfl)
        | (apply POp.neq; rfl; rfl)
        | (apply POp.not_d; rfl)
        | (apply POp.not_b; rfl)
        | (apply POp.add; rfl; rfl; omega; omega)
        | (apply POp.sub; rfl; rfl; omega; omega)
        | (apply POp.xor; rfl; rfl; (first | with_reducible exact cst _ | with_reducible exact lit _ | exact rfl); (first | with_reducible exact cst _ | with_reducible exact lit _ | exact rfl); (first | omega | assumption | decide | (refine Nat.lt_of_le_of_lt (Nat.shiftRight_le _ _) ?_; omega) | (refine Nat.lt_of_le_of_lt Nat.and_le_right ?_; omega) | (refine Nat.lt_of_le_of_lt Nat.and_le_left ?_; omega) | (refine Nat.xor_lt_two_pow (n := 63) ?_ ?_ <;> omega)); (first | omega | assumption | decide | (refine Nat.lt_of_le_of_lt (Nat.shiftRight_le _ _) ?_; omega) | (refine Nat.lt_of_le_of_lt Nat.and_le_right ?_; omega) | (refine Nat.lt_of_le_of_lt Nat.and_le_left ?_; omega) | (refine Nat.xor_lt_two_pow (n := 63) ?_ ?_ <;> omega)))
        | (apply POp.xor8; rfl; rfl; (first | with_reducible exact cst _ | with_reducible exact lit _ | exact rfl); (first | with_reducible exact cst _ | with_reducible exact lit _ | exact rfl); (first | omega | assumption); (first | omega | assumption))
        | (apply POp.and; rfl; rfl; (first | with_reducible exact cst _ | with_reducible exact lit _ | exact rfl); (first | with_reducible exact cst _ | with_reducible exact lit _ | exact rfl); (first | omega | assumption | decide | (refine Nat.lt_of_le_of_lt (Nat.shiftRight_le _ _) ?_; omega) | (refine Nat.lt_of_le_of_lt Nat.and_le_right ?_; omega) | (refine Nat.lt_of_le_of_lt Nat.and_le_left ?_; omega) | (refine Nat.xor_lt_two_pow (n := 63) ?_ ?_ <;> omega)); (first | omega | assumption | decide | (refine Nat.lt_of_le_of_lt (Nat.shiftRight_le _ _) ?_; omega) | (refine Nat.lt_of_le_of_lt Nat.and_le_right ?_; omega) | (refine Nat.lt_of_le_of_lt Nat.and_le_left ?_; omega) | (refine Nat.xor_lt_two_pow (n := 63) ?_ ?_ <;> omega)))
        | (apply POp.or; rfl; rfl; (first | with_reducible exact cst _ | with_reducible exact lit _ | exact rfl); (first | with_reducible exact cst _ | with_reducible exact lit _ | exact rfl); (first | omega | assumption | decide | (refine Nat.lt_of_le_of_lt (Nat.shiftRight_le _ _) ?_; omega) | (refine Nat.lt_of_le_of_lt Nat.and_le_right ?_; omega) | (refine Nat.lt_of_le_of_lt Nat.and_le_left ?_; omega) | (refine Nat.xor_lt_two_pow (n := 63) ?_ ?_ <;> omega)); (first | omega | assumption | decide | (refine Nat.lt_of_le_of_lt (Nat.shiftRight_le _ _) ?_; omega) | (refine Nat.lt_of_le_of_lt Nat.and_le_right ?_; omega) | (refine Nat.lt_of_le_of_lt Nat.and_le_left ?_; omega) | (refine Nat.xor_lt_two_pow (n := 63) ?_ ?_ <;> omega)))
        | (apply POp.shr; rfl; rfl; (first | with_reducible exact cst _ | with_reducible exact lit _ | exact rfl); (first | with_reducible exact cst _ | with_reducible exact lit _ | exact rfl); omega)
        | (apply POp.shl; rfl; rfl; (first | with_reducible exact cst _ | with_reducible exact lit _ | exact rfl); (first | with_reducible exact cst _ | with_reducible exact lit _ | exact rfl); omega; (first | omega | assumption | decide | (refine Nat.lt_of_le_of_lt (Nat.shiftRight_le _ _) ?_; omega) | (refine Nat.lt_of_le_of_lt Nat.and_le_right ?_; omega) | (refine Nat.lt_of_le_of_lt Nat.and_le_left ?_; omega) | (refine Nat.xor_lt_two_pow (n := 63) ?_ ?_ <;> omega)))
        | (apply POp.quo; rfl; rfl; omega; omega; omega)
        | (apply POp.rem; rfl; rfl; omega; omega)
        | (apply POp.min_int; rfl; rfl)
        | (apply POp.conv_i64; rfl; omega; omega)
        | (apply POp.index_slice; rfl; rfl; omega; omega; (first | (simp only [Nat.zero_add, Nat.add_zero, Nat.mul_one, Int.toNat_natCast, Int.reduceToNat, Nat.reduceMul, Nat.reduceAdd]; done) | (simp only [Nat.zero_add, Nat.add_zero, Nat.mul_one, Int.toNat_natCast, Int.reduceToNat, Nat.reduceMul, Nat.reduceAdd]; rfl) | rfl))
        | (apply POp.index_array; rfl; rfl; omega; omega; (first | (simp only [Nat.zero_add, Nat.add_zero, Nat.mul_one, Int.toNat_natCast, Int.reduceToNat, Nat.reduceMul, Nat.reduceAdd]; done) | (simp only [Nat.zero_add, Nat.add_zero, Nat.mul_one, Int.toNat_natCast, Int.reduceToNat, Nat.reduceMul, Nat.reduceAdd]; rfl) | rfl))
        | (apply POp.makeFunc; rfl; rfl)
        | (apply POp.index_string; rfl; rfl; (first | with_reducible exact cst _ | with_reducible exact lit _ | exact rfl); omega)
        | (apply POp.sub_lh; rfl; rfl; rfl; omega; omega; omega)
        | (apply POp.sub_h; rfl; rfl; omega; omega)
        | (apply POp.sub_l; rfl; rfl; omega; omega)
        | (apply POp.seql; rfl; rfl)
        | (apply POp.sneq; rfl; rfl)
        | (apply POp.conv_u8; rfl; omega; omega)
        | (apply POp.mul; rfl; rfl; omega; omega)
        | (refine POp.pick_t rfl ?_ rfl; (first | with_reducible rfl | assumption | (simp only [Bool.not_true, Bool.not_false]; done) | (simp only [decide_eq_true_eq, decide_eq_false_iff_not, Bool.not_true, Bool.not_false, not_true_eq_false, not_false_eq_true, reduceCtorEq]; first | done | omega)))
        | (refine POp.pick_f rfl ?_ rfl; (first | with_reducible rfl | assumption | (simp only [Bool.not_true, Bool.not_false]; done) | (simp only [decide_eq_true_eq, decide_eq_false_iff_not, Bool.not_true, Bool.not_false, not_true_eq_false, not_false_eq_true, reduceCtorEq]; first | done | omega)))
        | (apply POp.neg; rfl; omega; omega)
        | (apply POp.cat; rfl; rfl; omega)
        | (apply POp.beql; rfl; rfl)
        | (apply POp.bneq; rfl; rfl)
        | (apply POp.field; rfl; rfl)
        | (refine POp.fieldAddr rfl rfl)
        | (apply POp.cut_h; rfl; rfl; omega; omega)) (hi : isDefer op = false := by exact rfl) (hd : Nat.blt d N = true := by exact rfl) :
    H1 P r N ds next ⟨some d, op, ty, pos, af, g⟩ Q E w0 H := fun w hM => W1.p hp hi hd (h w hM)
/- loads -/
theorem H1.ldw {a : Addr} {v : Value} [ha : ATy P t false] (hx : Env.ev E x = some (.pointer (some a))) (hc : ∀ w, Mm w0 H w → w.cell? a = some v) (hd : Nat.blt d N = true)
    (h : HN N ds next ((d, v) :: E) w0 H) : H1 P r N ds next ⟨some d, .load t x, ty, pos, af, g⟩ Q E w0 H := fun w hM => W1.load hx (hc w hM) hd (h w hM)
theorem H1.ldb {b i : Nat} {cs : List Value} {e : TypeId} {v : Value} [ha : ATy P t false] (hx : Env.ev E x = some (.pointer (some ⟨b, i, none⟩))) (hm : A.blk b cs e ∈ H) (hi : cs[i]? = some v) (hd : Nat.blt d N = true)
    (h : HN N ds next ((d, v) :: E) w0 H) : H1 P r N ds next ⟨some d, .load t x, ty, pos, af, g⟩ Q E w0 H := H1.ldw hx (fun _ hM => (hM.blk hm).cell hi) hd h
theorem H1.ld0 {a : Addr} {v : Value} [ha : ATy P t false] (hx : Env.ev E x = some (.pointer (some a))) (hc : w0.cell? a = some v) (hd : Nat.blt d N = true)
    (h : HN N ds next ((d, v) :: E) w0 H) : H1 P r N ds next ⟨some d, .load t x, ty, pos, af, g⟩ Q E w0 H := H1.ldw hx (fun _ hM => cell_ext hM.ext hc) hd h
theorem H1.ldr {b off i l c : Nat} {vs : List Value} {v : Value} [ha : ATy P t false] (hx : Env.ev E x = some (.pointer (some ⟨b, off + i, none⟩))) (hm : A.rd (.slice (some ⟨b, off, none⟩) l c) vs ∈ H) (hi : vs[i]? = some v) (hd : Nat.blt d N = true)
    (h : HN N ds next ((d, v) :: E) w0 H) : H1 P r N ds next ⟨some d, .load t x, ty, pos, af, g⟩ Q E w0 H := H1.ldw hx (fun _ hM => (hM.rd hm).cell hi) hd h
theorem ownsRow_cell {w : World} {base b n c sz : Nat} {e : TypeId} {vs : List Value} (h : w.ownsRow base e sz (.slice (some ⟨b, 0, none⟩) n c) n vs) {i : Nat} {v : Value} (hi : vs[i]? = some v) : w.cell? ⟨b, i, none⟩ = some v := by
  have := h.cells (g := b) rfl i v hi
  rwa [add_lit, Nat.zero_add] at this
theorem H1.ldg {b i c n sz : Nat} {e : TypeId} {vs : List Value} {v : Value} [ha : ATy P t false] (hx : Env.ev E x = some (.pointer (some ⟨b, i, none⟩))) (hm : A.grow e sz (some ⟨b, 0, none⟩) c n vs ∈ H) (hi : vs[i]? = some v) (hd : Nat.blt d N = true)
    (h : HN N ds next ((d, v) :: E) w0 H) : H1 P r N ds next ⟨some d, .load t x, ty, pos, af, g⟩ Q E w0 H := H1.ldw hx (fun _ hM => ownsRow_cell (hM.own hm) hi) hd h
theorem H1.ldAgg {b off : Nat} {vs cs : List Value} {e : TypeId} {z : Value} {n bb : Nat} [ha : ATy P t true] [hi : ITy P t z n bb] (hx : Env.ev E x = some (.pointer (some ⟨b, off, none⟩))) (hm : A.blk b cs e ∈ H)
    (hn : vs.length = n) (hc : ∀ i v, vs[i]? = some v → cs[off + i]? = some v) (hd : Nat.blt d N = true)
    (h : HN N ds next ((d, .agg vs.toArray) :: E) w0 H) : H1 P r N ds next ⟨some d, .load t x, ty, pos, af, g⟩ Q E w0 H :=
  fun w hM => W1.loadAgg hx hn (fun i v hv => (hM.blk hm).cell (hc i v hv)) hd (h w hM)
theorem H1.ldAggw {b off : Nat} {vs : List Value} {z : Value} {n bb : Nat} [ha : ATy P t true] [hi : ITy P t z n bb] (hx : Env.ev E x = some (.pointer (some ⟨b, off, none⟩)))
    (hn : vs.length = n) (hc : ∀ w, Mm w0 H w → ∀ i v, vs[i]? = some v → w.cell? ⟨b, off + i, none⟩ = some v) (hd : Nat.blt d N = true)
    (h : HN N ds next ((d, .agg vs.toArray) :: E) w0 H) : H1 P r N ds next ⟨some d, .load t x, ty, pos, af, g⟩ Q E w0 H :=
  fun w hM => W1.loadAgg hx hn (hc w hM) hd (h w hM)
/- stores -/
theorem H1.st {b i : Nat} {cs : List Value} {e : TypeId} {v : Value} {z : Value} {bb : Nat} {H' : List Atom} [hi : ITy P t z 1 bb] (hx : Env.ev E x = some (.pointer (some ⟨b, i, none⟩))) (hy : Env.ev E y = some v)
    (ha : ∀ vs, v ≠ .agg vs) (ht : ∀ vs, v ≠ .tuple vs) (hr : Rpl (A.blk b cs e) (A.blk b (cs.set i v) e) H H') (hlt : i < cs.length)
    (h : HN N ds next E w0 H') : H1 P r N ds next ⟨none, .store t x y, ty, pos, af, g⟩ Q E w0 H := fun w hM =>
  W1.store' hx hy ha ht (hM.blk hr.mem) hlt fun w1 u1 k1 => h w1 (hM.turn hr u1.os u1.tape u1.output (Nat.le_of_eq u1.size.symm) (fun k _ hk => u1.block k (by simpa [A.blk] using hk)) k1 (by simp [A.blk]) (fun b' hb => .inl hb))
theorem H1.stAgg {b : Nat} {cs vs : List Value} {e : TypeId} {z : Value} {n bb : Nat} {H' : List Atom} [hi : ITy P t z n bb] (hx : Env.ev E x = some (.pointer (some ⟨b, 0, none⟩))) (hy : Env.ev E y = some (.agg vs.toArray))
    (hn : vs.length = n) (h1 : ∀ v ∈ vs, v.oneCell' = true) (hr : Rpl (A.blk b cs e) (A.blk b vs e) H H') (hl : vs.length = cs.length)
    (h : HN N ds next E w0 H') : H1 P r N ds next ⟨none, .store t x y, ty, pos, af, g⟩ Q E w0 H := fun w hM =>
  W1.storeAgg' hx hy hn h1 (hM.blk hr.mem) hl fun w1 u1 k1 => h w1 (hM.turn hr u1.os u1.tape u1.output (Nat.le_of_eq u1.size.symm) (fun k _ hk => u1.block k (by simpa [A.blk] using hk)) k1 (by simp [A.blk]) (fun b' hb => .inl hb))
/- new blocks -/
theorem H1.box {v : Value} (hx : Env.ev E x = some v) (hv : v.cells = #[v]) (hd : Nat.blt d N = true)
    (h : ∀ b, HN N ds next ((d, .pointer (some ⟨b, 0, none⟩)) :: E) w0 (A.blk b [v] t :: H)) : H1 P r N ds next ⟨some d, .box t x, ty, pos, af, g⟩ Q E w0 H := fun w hM =>
  W1.box hx hd (by rw [hv]; exact h _ _ (hM.fresh [v] t))
theorem H1.boxAgg {cs : List Value} (hx : Env.ev E x = some (.agg cs.toArray)) (hd : Nat.blt d N = true)
    (h : ∀ b, HN N ds next ((d, .pointer (some ⟨b, 0, none⟩)) :: E) w0 (A.blk b cs t :: H)) : H1 P r N ds next ⟨some d, .box t x, ty, pos, af, g⟩ Q E w0 H := fun w hM =>
  W1.box hx hd (h _ _ (hM.fresh cs t))
theorem H1.alloc {z : Value} {n bb : Nat} {cs : List Value} [hi : ITy P t z n bb] (hz : z.cells = cs.toArray) (hd : Nat.blt d N = true)
    (h : ∀ b, HN N ds next ((d, .pointer (some ⟨b, 0, none⟩)) :: E) w0 (A.blk b cs t :: H)) : H1 P r N ds next ⟨some d, .alloc t, ty, pos, af, g⟩ Q E w0 H := fun w hM =>
  W1.alloc (z := z) (n := n) (bb := bb) hd (by rw [hz]; exact h _ _ (hM.fresh cs t))
theorem H1.make {e : TypeId} {z : Value} {bb : Nat} {cp : Operand} {l c : Nat} {m n : Int} [h : UTy P t (.slice e)] [hi : ITy P e z 1 bb] (hx : Env.ev E x = some (.int .i64 m)) (hy : Env.ev E cp = some (.int .i64 n))
    (hm : m = (l : Int)) (hnn : n = (c : Int)) (hz : z.cells = #[z]) (hlc : l ≤ c) (hb : bb * c ≤ 281474976710656) (hc : c ≤ 9223372036854775807) (hd : Nat.blt d N = true)
    (hn : ∀ b, HN N ds next ((d, .slice (some ⟨b, 0, none⟩) l c) :: E) w0 (A.blk b (List.replicate c z) e :: H)) :
    H1 P r N ds next ⟨some d, .makeSlice t x cp, ty, pos, af, g⟩ Q E w0 H := fun w hM =>
  W1.make hx hy hm hnn hz hlc hb hc hd (hn _ _ (hM.fresh _ e))
end
end Go.Sx

