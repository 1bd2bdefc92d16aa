/- Chapter 18: sets, an iterator that calls itself. -/
import Derived.Test.YtfjkdciblblalaaGreatDoorT7
namespace Go.Sx
open Go Go.Proofs Go.RowKit
/-- Where a slice begins that is cut from m on. -/
def fromA (a : Option Addr) (c m : Nat) : Option Addr := if c = m then a else a.map (·.add m)
theorem POp.cut_from {P : Program} {N : Nat} {ds : List Deferred} {E : Env} {t ty : TypeId} {x lo : Operand} {k' : IntKind} {n : Int} {e : TypeId} {a : Option Addr} {l c m : Nat} {z : Value} {bb : Nat} [h : UTy P t (.slice e)] [hi' : ITy P e z 1 bb] (hx : Env.ev E x = some (.slice a l c)) (hl : Env.ev E lo = some (.int k' n)) (en : n = (m : Int)) (h1 : m ≤ l) :
    POp P N ds E (.slice t x (some lo) none none) ty (.slice (fromA a c m) (l - m) (c - m)) := fun ac ha d pos af g w => by
  subst en
  simp [execOp, ha.ev hx, ha.ev hl, Instr.sliceAt, Instr.slice, run_underlying h.is, Instr.sliceBounds, run_bound (show 0 ≤ (m : Int) by omega) (show (m : Int) ≤ (l : Int) by omega), Sem.run_bind, run_sizeOf, fromA]
theorem Rd.from {w : World} {a : Option Addr} {n c m : Nat} {vs : List Value} (h : Rd w (.slice a n c) vs) (hm : m ≤ vs.length) : Rd w (.slice (fromA a c m) (n - m) (c - m)) (vs.drop m) := by
  obtain ⟨a', c', h1, h2, h3⟩ := h
  cases h1
  refine ⟨_, _, by rw [List.length_drop], by rw [List.length_drop]; omega, ?_⟩
  by_cases he : vs.drop m = []
  · exact .inl he
  · have hlt : m < vs.length := by
      refine Classical.byContradiction fun hn => he (List.drop_eq_nil_of_le (by omega))
    rcases h3 with h3 | ⟨b, off, h3, h4, h5⟩
    · subst h3; exact absurd hlt (Nat.not_lt_zero _)
    · subst h3
      refine .inr ⟨b, off + m, ?_, h4, fun i u hu => ?_⟩
      · unfold fromA
        rw [if_neg (by omega)]
        show some (Addr.add ⟨b, off, none⟩ m) = _
        rw [add_lit]
      · rw [List.getElem?_drop] at hu
        rw [Nat.add_assoc]
        exact h5 _ u hu
theorem natI_drop (l : List Nat) (m : Nat) : ints (natI (l.drop m)) = (ints (natI l)).drop m := by simp [ints, natI, List.map_drop]
theorem natI_get {l : List Nat} {i : Nat} (h : i < l.length) : (ints (natI l))[i]? = some (zv (l[i] : Int)) := by
  rw [ints_get (by rw [natI_len]; exact h), natI_at h]
theorem Mm.right {w0 w : World} {H K : List Atom} (h : Mm w0 (H ++ K) w) : Mm w0 K w := (h.perm List.perm_append_comm).left
theorem Hs.skipN {K H : List Atom} : Hs (K ++ H) H := ⟨K, List.perm_append_comm⟩
theorem Yld.mono {P : Program} {l : Nat} {args : List Value} {w : World} {R R' : Bool → World → Prop} (h : Yld P l args w R) (hr : ∀ b w', R b w' → R' b w') : Yld P l args w R' := by
  obtain ⟨fn, tmps, assign, body, h1, h2⟩ := h
  exact ⟨fn, tmps, assign, body, h1, RoundIn.mono h2 fun e w' ⟨b, he, hb⟩ => ⟨b, he, hr b w' hb⟩⟩
attribute [local irreducible] WC WL WX POp Then Again Fn NX W1 WA WO QL RP RA Yld LoopAt HC HL HX HN H1 HA HO HQ HB HP A.blk A.grow A.rd A.obj A.mp AgainH CutH
attribute [local irreducible] A.mq A.mit A.dfrs A.loop mapsA A.land
theorem sets_fn (v : Value) (n : Int) (hv : v.cells = #[v]) (w : World) : Fn Tryz.prog 45 #[v, zv n] w fun u w' => ∃ z : Nat × Nat, True ∧ u = .func (.func 85) #[] #[.pointer (some ⟨z.1, 0, none⟩), .pointer (some ⟨z.2, 0, none⟩)] ∧ Mm w [A.blk z.1 [zv n] 3, A.blk z.2 [v] 23] w' := by
  refine enterH (l := [_, _]) rfl Tryz.ntmps45 rfl ?_
  repeat' (first | apply HL.fold | apply HA.fold | apply HL.nil | apply HX.n_then | apply HC.seq | apply HC.region | refine HL.pa ?_ | refine HL.ga rfl ?_ | refine HL.na rfl ?_ | refine HL.nu rfl rfl ?_ | apply HC.block | apply HC.skip | apply HC.exit | apply HC.ret | apply HX.e_block | refine HX.e_other rfl ?_ | apply HX.e_then | apply HX.e_again | apply HX.n_block | apply HX.r_then | apply HX.r_block | apply HX.r_again | refine HC.cond_yes rfl ?_ | refine HC.cond_no rfl ?_ | refine HL.one (H1.ldb rfl memA rfl rfl ?_) | refine HC.cond rfl (fun hc => ?_) (fun hc => ?_) | refine HC.cond_b rfl (fun hc => ?_) (fun hc => ?_))
  refine HL.one (H1.box rfl hv rfl (fun b2 => ?_))
  repeat' (first | apply HL.fold | apply HA.fold | apply HL.nil | apply HX.n_then | apply HC.seq | apply HC.region | refine HL.pa ?_ | refine HL.ga rfl ?_ | refine HL.na rfl ?_ | refine HL.nu rfl rfl ?_ | apply HC.block | apply HC.skip | apply HC.exit | apply HC.ret | apply HX.e_block | refine HX.e_other rfl ?_ | apply HX.e_then | apply HX.e_again | apply HX.n_block | apply HX.r_then | apply HX.r_block | apply HX.r_again | refine HC.cond_yes rfl ?_ | refine HC.cond_no rfl ?_ | refine HL.one (H1.ldb rfl memA rfl rfl ?_) | refine HC.cond rfl (fun hc => ?_) (fun hc => ?_) | refine HC.cond_b rfl (fun hc => ?_) (fun hc => ?_))
  refine HL.one (H1.box rfl rfl rfl (fun b3 => ?_))
  repeat' (first | apply HL.fold | apply HA.fold | apply HL.nil | apply HX.n_then | apply HC.seq | apply HC.region | refine HL.pa ?_ | refine HL.ga rfl ?_ | refine HL.na rfl ?_ | refine HL.nu rfl rfl ?_ | apply HC.block | apply HC.skip | apply HC.exit | apply HC.ret | apply HX.e_block | refine HX.e_other rfl ?_ | apply HX.e_then | apply HX.e_again | apply HX.n_block | apply HX.r_then | apply HX.r_block | apply HX.r_again | refine HC.cond_yes rfl ?_ | refine HC.cond_no rfl ?_ | refine HL.one (H1.ldb rfl memA rfl rfl ?_) | refine HC.cond rfl (fun hc => ?_) (fun hc => ?_) | refine HC.cond_b rfl (fun hc => ?_) (fun hc => ?_))
  exact HX.ret1 rfl rfl fun w' hM => ⟨(b3, b2), trivial, rfl, hM⟩
/-- What the captured variables hold. -/
def CapS (w : World) (bn bl : Nat) (n : Nat) (v : Value) (l : List Nat) : Prop := w.cell? ⟨bn, 0, none⟩ = some (zv (n : Int)) ∧ w.cell? ⟨bl, 0, none⟩ = some v ∧ Rd w v (ints (natI l))
set_option maxHeartbeats 1000000 in
theorem sets1_fn {γ : Type} (w0 : World) : ∀ (n : Nat) (l : List Nat) (bn bl : Nat) (v : Value) (lp : Nat) (Hz : Nat → List Atom) (Hf : γ → List Atom) (K : List Atom) (w : World), n ≤ 1000 → l.length ≤ 9 → (∀ x ∈ l, x < 9) →
    (∀ i w, Mm w0 (Hz i) w → CapS w bn bl n v l) → (∀ z w, Mm w0 (Hf z) w → CapS w bn bl n v l) →
    (∀ i c, (combs l n)[i]? = some c → ∀ (K : List Atom) (w' : World), Mm w0 (Hz i ++ K) w' → Yld Tryz.prog lp [uv (maskOf c)] w' fun b w'' => (b = true ∧ Mm w0 (Hz (i + 1) ++ K) w'') ∨ (b = false ∧ ∃ z, Mm w0 (Hf z ++ K) w'')) →
    Mm w0 (Hz 0 ++ K) w →
    Fn Tryz.prog 85 #[.func (.yield lp) #[] #[], .pointer (some ⟨bn, 0, none⟩), .pointer (some ⟨bl, 0, none⟩)] w fun _ w' => Mm w0 (Hz (combs l n).length ++ K) w' ∨ ∃ z, Mm w0 (Hf z ++ K) w' := by
  intro n
  induction n with
  | zero =>
    intro l bn bl v lp Hz Hf K w hn hl9 hl hcap hcapf hy hM
    rw [combs_zero] at hy ⊢
    refine enterN (l := [_, _, _]) hM rfl Tryz.ntmps85 rfl ?_
    refine HC.dfrs0 ?_
    repeat' (first | apply HL.fold | apply HA.fold | apply HL.nil | apply HX.n_then | apply HC.seq | apply HC.region | refine HL.pa ?_ | refine HL.ga rfl ?_ | refine HL.na rfl ?_ | refine HL.nu rfl rfl ?_ | apply HC.block | apply HC.skip | apply HC.exit | apply HC.ret | apply HX.e_block | refine HX.e_other rfl ?_ | apply HX.e_then | apply HX.e_again | apply HX.n_block | apply HX.r_then | apply HX.r_block | apply HX.r_again | refine HC.cond_yes rfl ?_ | refine HC.cond_no rfl ?_ | refine HL.one (H1.ldb rfl memA rfl rfl ?_) | refine HC.cond rfl (fun hc => ?_) (fun hc => ?_) | refine HC.cond_b rfl (fun hc => ?_) (fun hc => ?_))
    refine HL.one (H1.box rfl rfl rfl (fun b3 => ?_))
    repeat' (first | apply HL.fold | apply HA.fold | apply HL.nil | apply HX.n_then | apply HC.seq | apply HC.region | refine HL.pa ?_ | refine HL.ga rfl ?_ | refine HL.na rfl ?_ | refine HL.nu rfl rfl ?_ | apply HC.block | apply HC.skip | apply HC.exit | apply HC.ret | apply HX.e_block | refine HX.e_other rfl ?_ | apply HX.e_then | apply HX.e_again | apply HX.n_block | apply HX.r_then | apply HX.r_block | apply HX.r_again | refine HC.cond_yes rfl ?_ | refine HC.cond_no rfl ?_ | refine HL.one (H1.ldb rfl memA rfl rfl ?_) | refine HC.cond rfl (fun hc => ?_) (fun hc => ?_) | refine HC.cond_b rfl (fun hc => ?_) (fun hc => ?_))
    refine HL.one (H1.ldw rfl (fun w hM => (hcap 0 w (Mm.left (K := K) hM.tail.tail)).1) rfl ?_)
    repeat' (first | apply HL.fold | apply HA.fold | apply HL.nil | apply HX.n_then | apply HC.seq | apply HC.region | refine HL.pa ?_ | refine HL.ga rfl ?_ | refine HL.na rfl ?_ | refine HL.nu rfl rfl ?_ | apply HC.block | apply HC.skip | apply HC.exit | apply HC.ret | apply HX.e_block | refine HX.e_other rfl ?_ | apply HX.e_then | apply HX.e_again | apply HX.n_block | apply HX.r_then | apply HX.r_block | apply HX.r_again | refine HC.cond_yes rfl ?_ | refine HC.cond_no rfl ?_ | refine HL.one (H1.ldb rfl memA rfl rfl ?_) | refine HC.cond rfl (fun hc => ?_) (fun hc => ?_) | refine HC.cond_b rfl (fun hc => ?_) (fun hc => ?_))
    refine HL.one (H1.yield2 (α := Option γ) (l := lp) (vs := [uv 0]) (Hz := fun z => match z with | none => A.blk b3 [.func (.yield lp) #[] #[]] 145 :: A.dfrs [] :: (Hz 1 ++ K) | some z => A.blk b3 [.func (.yield lp) #[] #[]] 145 :: A.dfrs [] :: (Hf z ++ K)) (I := fun b z => (b = true ∧ z = none) ∨ b = false ∧ ∃ y, z = some y) rfl rfl rfl (fun w' hM' => ?_) ?_)
    · have h1 := hy 0 [] rfl (A.blk b3 [.func (.yield lp) #[] #[]] 145 :: A.dfrs [] :: K) w' (hM'.perm (List.perm_append_comm_assoc [_, _] (Hz 0) K))
      refine Yld.mono h1 ?_
      rintro b w2 (⟨hb, h2⟩ | ⟨hb, z, h2⟩)
      · exact ⟨none, .inl ⟨hb, rfl⟩, h2.perm (List.perm_append_comm_assoc (Hz 1) [_, _] K)⟩
      · exact ⟨some z, .inr ⟨hb, z, rfl⟩, h2.perm (List.perm_append_comm_assoc (Hf z) [_, _] K)⟩
    · rintro b z (⟨rfl, rfl⟩ | ⟨rfl, y, rfl⟩)
      · repeat' (first | apply HL.fold | apply HA.fold | apply HL.nil | apply HX.n_then | apply HC.seq | apply HC.region | refine HL.pa ?_ | refine HL.ga rfl ?_ | refine HL.na rfl ?_ | refine HL.nu rfl rfl ?_ | apply HC.block | apply HC.skip | apply HC.exit | apply HC.ret | apply HX.e_block | refine HX.e_other rfl ?_ | apply HX.e_then | apply HX.e_again | apply HX.n_block | apply HX.r_then | apply HX.r_block | apply HX.r_again | refine HC.cond_yes rfl ?_ | refine HC.cond_no rfl ?_ | refine HL.one (H1.ldb rfl memA rfl rfl ?_) | refine HC.cond rfl (fun hc => ?_) (fun hc => ?_) | refine HC.cond_b rfl (fun hc => ?_) (fun hc => ?_))
        exact HX.retMs0 (Ds := []) rfl (Pick.there Pick.here) fun w' hM' => .inl hM'.tail
      · repeat' (first | apply HL.fold | apply HA.fold | apply HL.nil | apply HX.n_then | apply HC.seq | apply HC.region | refine HL.pa ?_ | refine HL.ga rfl ?_ | refine HL.na rfl ?_ | refine HL.nu rfl rfl ?_ | apply HC.block | apply HC.skip | apply HC.exit | apply HC.ret | apply HX.e_block | refine HX.e_other rfl ?_ | apply HX.e_then | apply HX.e_again | apply HX.n_block | apply HX.r_then | apply HX.r_block | apply HX.r_again | refine HC.cond_yes rfl ?_ | refine HC.cond_no rfl ?_ | refine HL.one (H1.ldb rfl memA rfl rfl ?_) | refine HC.cond rfl (fun hc => ?_) (fun hc => ?_) | refine HC.cond_b rfl (fun hc => ?_) (fun hc => ?_))
        exact HX.retMs0 (Ds := []) rfl (Pick.there Pick.here) fun w' hM' => .inr ⟨y, hM'.tail⟩
  | succ n ih =>
    intro l bn bl v lp Hz Hf K w hn hl9 hl hcap hcapf hy hM
    obtain ⟨hc1, hc2, hR0⟩ := hcap 0 w hM.left
    obtain ⟨a, c, rfl, hlc⟩ := hR0.isInts
    rw [natI_len] at *
    refine enterN (l := [_, _, _]) hM rfl Tryz.ntmps85 rfl ?_
    refine HC.dfrs0 ?_
    repeat' (first | apply HL.fold | apply HA.fold | apply HL.nil | apply HX.n_then | apply HC.seq | apply HC.region | refine HL.pa ?_ | refine HL.ga rfl ?_ | refine HL.na rfl ?_ | refine HL.nu rfl rfl ?_ | apply HC.block | apply HC.skip | apply HC.exit | apply HC.ret | apply HX.e_block | refine HX.e_other rfl ?_ | apply HX.e_then | apply HX.e_again | apply HX.n_block | apply HX.r_then | apply HX.r_block | apply HX.r_again | refine HC.cond_yes rfl ?_ | refine HC.cond_no rfl ?_ | refine HL.one (H1.ldb rfl memA rfl rfl ?_) | refine HC.cond rfl (fun hc => ?_) (fun hc => ?_) | refine HC.cond_b rfl (fun hc => ?_) (fun hc => ?_))
    refine HL.one (H1.box rfl rfl rfl (fun b3 => ?_))
    repeat' (first | apply HL.fold | apply HA.fold | apply HL.nil | apply HX.n_then | apply HC.seq | apply HC.region | refine HL.pa ?_ | refine HL.ga rfl ?_ | refine HL.na rfl ?_ | refine HL.nu rfl rfl ?_ | apply HC.block | apply HC.skip | apply HC.exit | apply HC.ret | apply HX.e_block | refine HX.e_other rfl ?_ | apply HX.e_then | apply HX.e_again | apply HX.n_block | apply HX.r_then | apply HX.r_block | apply HX.r_again | refine HC.cond_yes rfl ?_ | refine HC.cond_no rfl ?_ | refine HL.one (H1.ldb rfl memA rfl rfl ?_) | refine HC.cond rfl (fun hc => ?_) (fun hc => ?_) | refine HC.cond_b rfl (fun hc => ?_) (fun hc => ?_))
    refine HL.one (H1.ldw rfl (fun w hM => (hcap 0 w (Mm.left (K := K) hM.tail.tail)).1) rfl ?_)
    repeat' (first | apply HL.fold | apply HA.fold | apply HL.nil | apply HX.n_then | apply HC.seq | apply HC.region | refine HL.pa ?_ | refine HL.ga rfl ?_ | refine HL.na rfl ?_ | refine HL.nu rfl rfl ?_ | apply HC.block | apply HC.skip | apply HC.exit | apply HC.ret | apply HX.e_block | refine HX.e_other rfl ?_ | apply HX.e_then | apply HX.e_again | apply HX.n_block | apply HX.r_then | apply HX.r_block | apply HX.r_again | refine HC.cond_yes rfl ?_ | refine HC.cond_no rfl ?_ | refine HL.one (H1.ldb rfl memA rfl rfl ?_) | refine HC.cond rfl (fun hc => ?_) (fun hc => ?_) | refine HC.cond_b rfl (fun hc => ?_) (fun hc => ?_))
    refine HL.one (H1.ldw rfl (fun w hM => (hcap 0 w (Mm.left (K := K) hM.tail.tail)).2.1) rfl ?_)
    repeat' (first | apply HL.fold | apply HA.fold | apply HL.nil | apply HX.n_then | apply HC.seq | apply HC.region | refine HL.pa ?_ | refine HL.ga rfl ?_ | refine HL.na rfl ?_ | refine HL.nu rfl rfl ?_ | apply HC.block | apply HC.skip | apply HC.exit | apply HC.ret | apply HX.e_block | refine HX.e_other rfl ?_ | apply HX.e_then | apply HX.e_again | apply HX.n_block | apply HX.r_then | apply HX.r_block | apply HX.r_again | refine HC.cond_yes rfl ?_ | refine HC.cond_no rfl ?_ | refine HL.one (H1.ldb rfl memA rfl rfl ?_) | refine HC.cond rfl (fun hc => ?_) (fun hc => ?_) | refine HC.cond_b rfl (fun hc => ?_) (fun hc => ?_))
    refine HL.one (H1.ldw rfl (fun w hM => (hcap 0 w (Mm.left (K := K) hM.tail.tail)).1) rfl ?_)
    repeat' (first | apply HL.fold | apply HA.fold | apply HL.nil | apply HX.n_then | apply HC.seq | apply HC.region | refine HL.pa ?_ | refine HL.ga rfl ?_ | refine HL.na rfl ?_ | refine HL.nu rfl rfl ?_ | apply HC.block | apply HC.skip | apply HC.exit | apply HC.ret | apply HX.e_block | refine HX.e_other rfl ?_ | apply HX.e_then | apply HX.e_again | apply HX.n_block | apply HX.r_then | apply HX.r_block | apply HX.r_again | refine HC.cond_yes rfl ?_ | refine HC.cond_no rfl ?_ | refine HL.one (H1.ldb rfl memA rfl rfl ?_) | refine HC.cond rfl (fun hc => ?_) (fun hc => ?_) | refine HC.cond_b rfl (fun hc => ?_) (fun hc => ?_))
    have emax : max ((l.length : Int) - ((n + 1 : Nat) : Int) + 1) 0 = ((l.length - n : Nat) : Int) := by omega
    rw [emax]
    refine HC.loopD (α := Nat × Nat × List Nat) (fun z => [(1, .pointer (some ⟨bn, 0, none⟩)), (2, .pointer (some ⟨bl, 0, none⟩)), (3, .pointer (some ⟨b3, 0, none⟩)), (15, zv ((l.length - n : Nat) : Int)), (16, zv (z.1 : Int))])
      (fun z => A.dfrs z.2.2 :: A.blk b3 [.func (.yield lp) #[] #[]] 145 :: (Hz z.2.1 ++ K)) (fun z => marks z.2.2) (fun z => z.1 ≤ l.length - n ∧ ∃ pre, pre.length = z.2.1 ∧ combs l (n + 1) = pre ++ combs (l.drop z.1) (n + 1)) (fun z => l.length - n - z.1) (0, 0, []) ⟨Nat.zero_le _, [], rfl, rfl⟩ rfl esA (Hs.cons (Pick.there Pick.here) (Hs.cons Pick.here (Hs.refl _))) ?_
    rintro ⟨i, j, Ds⟩ ⟨hi, pre, hpre, hcomb⟩
    dsimp only at hi hpre hcomb ⊢
    by_cases hlt : i < l.length - n
    rotate_left
    · have e0 : combs (l.drop i) (n + 1) = [] := combs_short (by rw [List.length_drop]; omega)
      have ej : j = (combs l (n + 1)).length := by rw [hcomb, e0, List.append_nil, hpre]
      repeat' (first | apply HL.fold | apply HA.fold | apply HL.nil | apply HX.n_then | apply HC.seq | apply HC.region | refine HL.pa ?_ | refine HL.ga rfl ?_ | refine HL.na rfl ?_ | refine HL.nu rfl rfl ?_ | apply HC.block | apply HC.skip | apply HC.exit | apply HC.ret | apply HX.e_block | refine HX.e_other rfl ?_ | apply HX.e_then | apply HX.e_again | apply HX.n_block | apply HX.r_then | apply HX.r_block | apply HX.r_again | refine HC.cond_yes rfl ?_ | refine HC.cond_no rfl ?_ | refine HL.one (H1.ldb rfl memA rfl rfl ?_) | refine HC.cond rfl (fun hc => ?_) (fun hc => ?_) | refine HC.cond_b rfl (fun hc => ?_) (fun hc => ?_))
      exact HX.normMs0 rfl Pick.here fun w' hM' => .inl (by rw [← ej]; exact hM'.tail)
    have hil : i < l.length := by omega
    obtain ⟨b, off, rfl, hbw⟩ := hR0.iat (by intro e; have := congrArg List.length e; rw [natI_len] at this; have h2 : l.length = 0 := this; omega)
    have hcomb2 := combs_drop hil n
    rw [hcomb2] at hcomb
    repeat' (first | apply HL.fold | apply HA.fold | apply HL.nil | apply HX.n_then | apply HC.seq | apply HC.region | refine HL.pa ?_ | refine HL.ga rfl ?_ | refine HL.na rfl ?_ | refine HL.nu rfl rfl ?_ | apply HC.block | apply HC.skip | apply HC.exit | apply HC.ret | apply HX.e_block | refine HX.e_other rfl ?_ | apply HX.e_then | apply HX.e_again | apply HX.n_block | apply HX.r_then | apply HX.r_block | apply HX.r_again | refine HC.cond_yes rfl ?_ | refine HC.cond_no rfl ?_ | refine HL.one (H1.ldb rfl memA rfl rfl ?_) | refine HC.cond rfl (fun hc => ?_) (fun hc => ?_) | refine HC.cond_b rfl (fun hc => ?_) (fun hc => ?_))
    refine HL.one (H1.alloc (cs := [zv 0]) rfl rfl (fun b4 => ?_))
    repeat' (first | apply HL.fold | apply HA.fold | apply HL.nil | apply HX.n_then | apply HC.seq | apply HC.region | refine HL.pa ?_ | refine HL.ga rfl ?_ | refine HL.na rfl ?_ | refine HL.nu rfl rfl ?_ | apply HC.block | apply HC.skip | apply HC.exit | apply HC.ret | apply HX.e_block | refine HX.e_other rfl ?_ | apply HX.e_then | apply HX.e_again | apply HX.n_block | apply HX.r_then | apply HX.r_block | apply HX.r_again | refine HC.cond_yes rfl ?_ | refine HC.cond_no rfl ?_ | refine HL.one (H1.ldb rfl memA rfl rfl ?_) | refine HC.cond rfl (fun hc => ?_) (fun hc => ?_) | refine HC.cond_b rfl (fun hc => ?_) (fun hc => ?_))
    refine HL.one (H1.st rfl rfl (by intro _ h; cases h) (by intro _ h; cases h) rplA (by decide) ?_)
    repeat' (first | apply HL.fold | apply HA.fold | apply HL.nil | apply HX.n_then | apply HC.seq | apply HC.region | refine HL.pa ?_ | refine HL.ga rfl ?_ | refine HL.na rfl ?_ | refine HL.nu rfl rfl ?_ | apply HC.block | apply HC.skip | apply HC.exit | apply HC.ret | apply HX.e_block | refine HX.e_other rfl ?_ | apply HX.e_then | apply HX.e_again | apply HX.n_block | apply HX.r_then | apply HX.r_block | apply HX.r_again | refine HC.cond_yes rfl ?_ | refine HC.cond_no rfl ?_ | refine HL.one (H1.ldb rfl memA rfl rfl ?_) | refine HC.cond rfl (fun hc => ?_) (fun hc => ?_) | refine HC.cond_b rfl (fun hc => ?_) (fun hc => ?_))
    have hget : ∀ m d, (combs (l.drop (i + 1)) n)[m]? = some d → (combs l (n + 1))[j + m]? = some (l[i] :: d) := fun m d hd => by
      rw [hcomb, List.getElem?_append_right (by omega), hpre, show j + m - j = m by omega]
      have hm := (List.getElem?_eq_some_iff.1 hd).1
      rw [List.getElem?_append_left (by simpa using hm), List.getElem?_map, hd]; rfl
    have hx9 : l[i] < 9 := hl _ (List.getElem_mem hil)
    refine HC.anyC ([(⟨bl, 0, none⟩, .slice (some ⟨b, off, none⟩) l.length c), (⟨b4, 0, none⟩, zv (i : Int)), (⟨bn, 0, none⟩, zv ((n + 1 : Nat) : Int))]) rfl ?_
    refine HB.ld 0 rfl rfl memD ?_
    refine HB.ld 1 rfl rfl memD ?_
    refine HB.pa 2 rfl ?_
    refine HB.pa (v := .slice (fromA (some ⟨b, off, none⟩) c (i + 1)) (l.length - (i + 1)) (c - (i + 1))) 3 rfl ?_ (POp.cut_from rfl rfl (by omega) (by omega))
    refine HB.ld 4 rfl rfl memD ?_
    refine HB.pa (v := zv (n : Int)) 5 rfl ?_ (by
        rw [show (n : Int) = ((n + 1 : Nat) : Int) - 1 from by omega]
        first
          | (apply POp.move; rfl)
          | (apply POp.assign; rfl)
          | (apply POp.extract; rfl; rfl)
          | (apply POp.len_slice; rfl)
          | (apply POp.len_string; rfl)
          | (apply POp.lss; rfl; rfl)
          | (apply POp.leq; rfl; rfl)
          | (apply POp.gtr; rfl; rfl)
          | (apply POp.geq; rfl; rfl)
          | (apply POp.eql; rfl; rfl)
          | (apply POp.neq; rfl; rfl)
          | (apply POp.not_d; rfl)
          | (apply POp.not_b; rfl)
          | (apply POp.add; rfl; rfl; omega; omega)
          | (apply POp.sub; rfl; rfl; omega; omega)
          | (apply POp.xor; rfl; rfl; (first | with_reducible exact cst _ | with_reducible exact lit _ | exact rfl); (first | with_reducible exact cst _ | with_reducible exact lit _ | exact rfl); (first | omega | assumption | decide | (refine Nat.lt_of_le_of_lt (Nat.shiftRight_le _ _) ?_; omega) | (refine Nat.lt_of_le_of_lt Nat.and_le_right ?_; omega) | (refine Nat.lt_of_le_of_lt Nat.and_le_left ?_; omega) | (refine Nat.xor_lt_two_pow (n := 63) ?_ ?_ <;> omega)); (first | omega | assumption | decide | (refine Nat.lt_of_le_of_lt (Nat.shiftRight_le _ _) ?_; omega) | (refine Nat.lt_of_le_of_lt Nat.and_le_right ?_; omega) | (refine Nat.lt_of_le_of_lt Nat.and_le_left ?_; omega) | (refine Nat.xor_lt_two_pow (n := 63) ?_ ?_ <;> omega)))
          | (apply POp.xor8; rfl; rfl; (first | with_reducible exact cst _ | with_reducible exact lit _ | exact rfl); (first | with_reducible exact cst _ | with_reducible exact lit _ | exact rfl); (first | omega | assumption); (first | omega | assumption))
          | (apply POp.and; rfl; rfl; (first | with_reducible exact cst _ | with_reducible exact lit _ | exact rfl); (first | with_reducible exact cst _ | with_reducible exact lit _ | exact rfl); (first | omega | assumption | decide | (refine Nat.lt_of_le_of_lt (Nat.shiftRight_le _ _) ?_; omega) | (refine Nat.lt_of_le_of_lt Nat.and_le_right ?_; omega) | (refine Nat.lt_of_le_of_lt Nat.and_le_left ?_; omega) | (refine Nat.xor_lt_two_pow (n := 63) ?_ ?_ <;> omega)); (first | omega | assumption | decide | (refine Nat.lt_of_le_of_lt (Nat.shiftRight_le _ _) ?_; omega) | (refine Nat.lt_of_le_of_lt Nat.and_le_right ?_; omega) | (refine Nat.lt_of_le_of_lt Nat.and_le_left ?_; omega) | (refine Nat.xor_lt_two_pow (n := 63) ?_ ?_ <;> omega)))
          | (apply POp.or; rfl; rfl; (first | with_reducible exact cst _ | with_reducible exact lit _ | exact rfl); (first | with_reducible exact cst _ | with_reducible exact lit _ | exact rfl); (first | omega | assumption | decide | (refine Nat.lt_of_le_of_lt (Nat.shiftRight_le _ _) ?_; omega) | (refine Nat.lt_of_le_of_lt Nat.and_le_right ?_; omega) | (refine Nat.lt_of_le_of_lt Nat.and_le_left ?_; omega) | (refine Nat.xor_lt_two_pow (n := 63) ?_ ?_ <;> omega)); (first | omega | assumption | decide | (refine Nat.lt_of_le_of_lt (Nat.shiftRight_le _ _) ?_; omega) | (refine Nat.lt_of_le_of_lt Nat.and_le_right ?_; omega) | (refine Nat.lt_of_le_of_lt Nat.and_le_left ?_; omega) | (refine Nat.xor_lt_two_pow (n := 63) ?_ ?_ <;> omega)))
          | (apply POp.shr; rfl; rfl; (first | with_reducible exact cst _ | with_reducible exact lit _ | exact rfl); (first | with_reducible exact cst _ | with_reducible exact lit _ | exact rfl); omega)
          | (apply POp.shl; rfl; rfl; (first | with_reducible exact cst _ | with_reducible exact lit _ | exact rfl); (first | with_reducible exact cst _ | with_reducible exact lit _ | exact rfl); omega; (first | omega | assumption | decide | (refine Nat.lt_of_le_of_lt (Nat.shiftRight_le _ _) ?_; omega) | (refine Nat.lt_of_le_of_lt Nat.and_le_right ?_; omega) | (refine Nat.lt_of_le_of_lt Nat.and_le_left ?_; omega) | (refine Nat.xor_lt_two_pow (n := 63) ?_ ?_ <;> omega)))
          | (apply POp.quo; rfl; rfl; omega; omega; omega)
          | (apply POp.rem; rfl; rfl; omega; omega)
          | (apply POp.min_int; rfl; rfl)
          | (apply POp.max_int; rfl; rfl)
          | (apply POp.conv_i64; rfl; omega; omega)
          | (apply POp.index_slice; rfl; rfl; omega; omega; (first | (simp only [Nat.zero_add, Nat.add_zero, Nat.mul_one, Int.toNat_natCast, Int.reduceToNat, Nat.reduceMul, Nat.reduceAdd]; done) | (simp only [Nat.zero_add, Nat.add_zero, Nat.mul_one, Int.toNat_natCast, Int.reduceToNat, Nat.reduceMul, Nat.reduceAdd]; rfl) | rfl))
          | (apply POp.index_array; rfl; rfl; omega; omega; (first | (simp only [Nat.zero_add, Nat.add_zero, Nat.mul_one, Int.toNat_natCast, Int.reduceToNat, Nat.reduceMul, Nat.reduceAdd]; done) | (simp only [Nat.zero_add, Nat.add_zero, Nat.mul_one, Int.toNat_natCast, Int.reduceToNat, Nat.reduceMul, Nat.reduceAdd]; rfl) | rfl))
          | (apply POp.makeFunc; rfl; rfl)
          | (apply POp.index_string; rfl; rfl; (first | with_reducible exact cst _ | with_reducible exact lit _ | exact rfl); omega)
          | (apply POp.sub_lh; rfl; rfl; rfl; omega; omega; omega)
          | (apply POp.sub_h; rfl; rfl; omega; omega)
          | (apply POp.sub_l; rfl; rfl; omega; omega)
          | (apply POp.seql; rfl; rfl)
          | (apply POp.sneq; rfl; rfl)
          | (apply POp.conv_u8; rfl; omega; omega)
          | (apply POp.mul; rfl; rfl; omega; omega)
          | (refine POp.pick_t rfl ?_ rfl; (first | with_reducible rfl | assumption | (simp only [Bool.not_true, Bool.not_false]; done) | (simp only [decide_eq_true_eq, decide_eq_false_iff_not, Bool.not_true, Bool.not_false, not_true_eq_false, not_false_eq_true, reduceCtorEq]; first | done | assumption | omega)))
          | (refine POp.pick_f rfl ?_ rfl; (first | with_reducible rfl | assumption | (simp only [Bool.not_true, Bool.not_false]; done) | (simp only [decide_eq_true_eq, decide_eq_false_iff_not, Bool.not_true, Bool.not_false, not_true_eq_false, not_false_eq_true, reduceCtorEq]; first | done | assumption | omega)))
          | (apply POp.neg; rfl; omega; omega)
          | (apply POp.cat; rfl; rfl; omega)
          | (apply POp.beql; rfl; rfl)
          | (apply POp.bneq; rfl; rfl)
          | (apply POp.field; rfl; rfl)
          | (refine POp.fieldAddr rfl rfl)
          | (apply POp.cut_h; rfl; rfl; omega; omega))
    refine HB.all (by first | exact Keep.cons (fun w hM => (hcap j w (Mm.left (K := K) hM.tail.tail.tail)).2.1) (Keep.blk (.head _) rfl (Keep.cons (fun w hM => (hcap j w (Mm.left (K := K) hM.tail.tail.tail)).1) Keep.nil)) | exact Keep.cons (fun w hM => (hcap j w (Mm.left (K := K) hM.tail.tail.tail.tail.tail)).2.1) (Keep.blk (.tail _ (.tail _ (.head _))) rfl (Keep.cons (fun w hM => (hcap j w (Mm.left (K := K) hM.tail.tail.tail.tail.tail)).1) Keep.nil))) [6] (by kernel_rfl) rfl ⟨⟨_, rfl, ?_⟩, trivial⟩
    refine HP.one ?_
    refine H1.callz (vs := [.slice (fromA (some ⟨b, off, none⟩) c (i + 1)) (l.length - (i + 1)) (c - (i + 1)), zv (n : Int)]) rfl rfl (fun w' _ => sets_fn _ _ rfl w') ?_
    rintro ⟨bn2, bl2⟩ -
    dsimp only [List.cons_append, List.nil_append]
    apply HB.fold
    refine HB.done (by first | exact Keep.cons (fun w hM => (hcap j w (Mm.left (K := K) hM.tail.tail.tail)).2.1) (Keep.blk (.head _) rfl (Keep.cons (fun w hM => (hcap j w (Mm.left (K := K) hM.tail.tail.tail)).1) Keep.nil)) | exact Keep.cons (fun w hM => (hcap j w (Mm.left (K := K) hM.tail.tail.tail.tail.tail)).2.1) (Keep.blk (.tail _ (.tail _ (.head _))) rfl (Keep.cons (fun w hM => (hcap j w (Mm.left (K := K) hM.tail.tail.tail.tail.tail)).1) Keep.nil))) (by kernel_rfl) ?_
    skip
    repeat' (first | apply HL.fold | apply HA.fold | apply HL.nil | apply HX.n_then | apply HC.seq | apply HC.region | refine HL.pa ?_ | refine HL.ga rfl ?_ | refine HL.na rfl ?_ | refine HL.nu rfl rfl ?_ | apply HC.block | apply HC.skip | apply HC.exit | apply HC.ret | apply HX.e_block | refine HX.e_other rfl ?_ | apply HX.e_then | apply HX.e_again | apply HX.n_block | apply HX.r_then | apply HX.r_block | apply HX.r_again | refine HC.cond_yes rfl ?_ | refine HC.cond_no rfl ?_ | refine HL.one (H1.ldb rfl memA rfl rfl ?_) | refine HC.cond rfl (fun hc => ?_) (fun hc => ?_) | refine HC.cond_b rfl (fun hc => ?_) (fun hc => ?_))
    refine HC.rangeFuncS (α := Unit) (β := γ) (lb := [.pointer (some ⟨bn2, 0, none⟩), .pointer (some ⟨bl2, 0, none⟩)]) (fun _ => A.blk bn2 [zv (n : Int)] 3 :: A.blk bl2 [.slice (fromA (some ⟨b, off, none⟩) c (i + 1)) (l.length - (i + 1)) (c - (i + 1))] 23 :: A.blk b4 [zv (i : Int)] 3 :: A.blk b3 [.func (.yield lp) #[] #[]] 145 :: A.dfrs Ds :: (Hz (j + (combs (l.drop (i + 1)) n).length) ++ K)) (fun _ => True)
      (fun z => A.blk bn2 [zv (n : Int)] 3 :: A.blk bl2 [.slice (fromA (some ⟨b, off, none⟩) c (i + 1)) (l.length - (i + 1)) (c - (i + 1))] 23 :: A.blk b4 [zv (i : Int)] 3 :: A.blk b3 [.func (.yield lp) #[] #[]] 145 :: A.dfrs Ds :: (Hf z ++ K)) (fun _ => True) (fun _ => .ret) rfl ?_ ?_ ?_
    · intro D lq L hL w1 hM1
      refine (ih (l.drop (i + 1)) bn2 bl2 (.slice (fromA (some ⟨b, off, none⟩) c (i + 1)) (l.length - (i + 1)) (c - (i + 1))) lq
        (fun m => L .ready none :: A.blk bn2 [zv (n : Int)] 3 :: A.blk bl2 [.slice (fromA (some ⟨b, off, none⟩) c (i + 1)) (l.length - (i + 1)) (c - (i + 1))] 23 :: A.blk b4 [zv (i : Int)] 3 :: A.blk b3 [.func (.yield lp) #[] #[]] 145 :: Hz (j + m))
        (fun z => L .done (some .ret) :: A.blk bn2 [zv (n : Int)] 3 :: A.blk bl2 [.slice (fromA (some ⟨b, off, none⟩) c (i + 1)) (l.length - (i + 1)) (c - (i + 1))] 23 :: A.blk b4 [zv (i : Int)] 3 :: A.blk b3 [.func (.yield lp) #[] #[]] 145 :: Hf z)
        (A.dfr D :: A.dfrs Ds :: K) w1 (by omega) (by rw [List.length_drop]; omega) (fun x hx => hl x (List.mem_of_mem_drop hx)) (fun m w2 hM2 => ?_) (fun z w2 hM2 => ?_) ?_ ?_).mono ?_
      · have h3 := (hcap (j + m) w2 hM2.tail.tail.tail.tail.tail).2.2
        refine ⟨(hM2.blk (.tail _ (.head _))).cell rfl, (hM2.blk (.tail _ (.tail _ (.head _)))).cell rfl, ?_⟩
        rw [natI_drop]
        exact h3.from (by rw [ints_len, natI_len]; omega)
      · have h3 := (hcapf z w2 hM2.tail.tail.tail.tail.tail).2.2
        refine ⟨(hM2.blk (.tail _ (.head _))).cell rfl, (hM2.blk (.tail _ (.tail _ (.head _)))).cell rfl, ?_⟩
        rw [natI_drop]
        exact h3.from (by rw [ints_len, natI_len]; omega)
      · intro m d hd K' w2 hM2
        have hgd := hget m d hd
        have hd9 : maskOf d < 512 := mask_lt (n := 9) fun x hx => hl x (List.mem_of_mem_drop ((mem_combs.1 (List.mem_of_getElem? hd)).1.subset hx))
        have hsh : 1 <<< l[i] < 512 := by rw [Nat.one_shiftLeft]; exact Nat.pow_lt_pow_right (by decide) hx9
        refine Yld.ofH (H := L .ready none :: A.blk bn2 [zv (n : Int)] 3 :: A.blk bl2 [.slice (fromA (some ⟨b, off, none⟩) c (i + 1)) (l.length - (i + 1)) (c - (i + 1))] 23 :: A.blk b4 [zv (i : Int)] 3 :: A.blk b3 [.func (.yield lp) #[] #[]] 145 :: (Hz (j + m) ++ K')) hL (.head _) rfl rfl ?_ w2 hM2
        have hkeep : ∀ (st : Atom) (X : List Atom), (∀ w, Mm w0 X w → CapS w bn bl (n + 1) (.slice (some ⟨b, off, none⟩) l.length c) l) → Keep [(⟨b3, 0, none⟩, .func (.yield lp) #[] #[]), (⟨bl, 0, none⟩, .slice (some ⟨b, off, none⟩) l.length c), (⟨b4, 0, none⟩, zv (i : Int)), (⟨b, off + i, none⟩, zv (l[i] : Int))] w0 (st :: A.blk bn2 [zv (n : Int)] 3 :: A.blk bl2 [.slice (fromA (some ⟨b, off, none⟩) c (i + 1)) (l.length - (i + 1)) (c - (i + 1))] 23 :: A.blk b4 [zv (i : Int)] 3 :: A.blk b3 [.func (.yield lp) #[] #[]] 145 :: (X ++ K')) := fun st X hX =>
          Keep.blk (.tail _ (.tail _ (.tail _ (.tail _ (.head _))))) rfl (Keep.cons (fun w hM => (hX w (Mm.left (K := K') hM.tail.tail.tail.tail.tail)).2.1) (Keep.blk (.tail _ (.tail _ (.tail _ (.head _)))) rfl (Keep.cons (fun w hM => ((hX w (Mm.left (K := K') hM.tail.tail.tail.tail.tail)).2.2).cell (natI_get hil)) Keep.nil)))
        obtain ⟨Hm, hm0, hm1⟩ : ∃ Hm : Option γ → List Atom, Hm none = L .busy none :: A.blk bn2 [zv (n : Int)] 3 :: A.blk bl2 [.slice (fromA (some ⟨b, off, none⟩) c (i + 1)) (l.length - (i + 1)) (c - (i + 1))] 23 :: A.blk b4 [zv (i : Int)] 3 :: A.blk b3 [.func (.yield lp) #[] #[]] 145 :: (Hz (j + m + 1) ++ K') ∧ ∀ z, Hm (some z) = L .busy none :: A.blk bn2 [zv (n : Int)] 3 :: A.blk bl2 [.slice (fromA (some ⟨b, off, none⟩) c (i + 1)) (l.length - (i + 1)) (c - (i + 1))] 23 :: A.blk b4 [zv (i : Int)] 3 :: A.blk b3 [.func (.yield lp) #[] #[]] 145 :: (Hf z ++ K') := ⟨fun z => match z with | none => L .busy none :: A.blk bn2 [zv (n : Int)] 3 :: A.blk bl2 [.slice (fromA (some ⟨b, off, none⟩) c (i + 1)) (l.length - (i + 1)) (c - (i + 1))] 23 :: A.blk b4 [zv (i : Int)] 3 :: A.blk b3 [.func (.yield lp) #[] #[]] 145 :: (Hz (j + m + 1) ++ K') | some z => L .busy none :: A.blk bn2 [zv (n : Int)] 3 :: A.blk bl2 [.slice (fromA (some ⟨b, off, none⟩) c (i + 1)) (l.length - (i + 1)) (c - (i + 1))] 23 :: A.blk b4 [zv (i : Int)] 3 :: A.blk b3 [.func (.yield lp) #[] #[]] 145 :: (Hf z ++ K'), rfl, fun _ => rfl⟩
        have hkeepm : ∀ z, Keep [(⟨b3, 0, none⟩, .func (.yield lp) #[] #[]), (⟨bl, 0, none⟩, .slice (some ⟨b, off, none⟩) l.length c), (⟨b4, 0, none⟩, zv (i : Int)), (⟨b, off + i, none⟩, zv (l[i] : Int))] w0 (Hm z) := fun z => by
          cases z with
          | none => rw [hm0]; exact hkeep _ _ (hcap _)
          | some z => rw [hm1]; exact hkeep _ _ (hcapf z)
        repeat' (first | apply HL.fold | apply HA.fold | apply HL.nil | apply HX.n_then | apply HC.seq | apply HC.region | refine HL.pa ?_ | refine HL.ga rfl ?_ | refine HL.na rfl ?_ | refine HL.nu rfl rfl ?_ | apply HC.block | apply HC.skip | apply HC.exit | apply HC.ret | apply HX.e_block | refine HX.e_other rfl ?_ | apply HX.e_then | apply HX.e_again | apply HX.n_block | apply HX.r_then | apply HX.r_block | apply HX.r_again | refine HC.cond_yes rfl ?_ | refine HC.cond_no rfl ?_ | refine HL.one (H1.ldb rfl memA rfl rfl ?_) | refine HC.cond rfl (fun hc => ?_) (fun hc => ?_) | refine HC.cond_b rfl (fun hc => ?_) (fun hc => ?_))
        refine HX.ra hL Rpl.here ?_
        repeat' (first | apply HL.fold | apply HA.fold | apply HL.nil | apply HX.n_then | apply HC.seq | apply HC.region | refine HL.pa ?_ | refine HL.ga rfl ?_ | refine HL.na rfl ?_ | refine HL.nu rfl rfl ?_ | apply HC.block | apply HC.skip | apply HC.exit | apply HC.ret | apply HX.e_block | refine HX.e_other rfl ?_ | apply HX.e_then | apply HX.e_again | apply HX.n_block | apply HX.r_then | apply HX.r_block | apply HX.r_again | refine HC.cond_yes rfl ?_ | refine HC.cond_no rfl ?_ | refine HL.one (H1.ldb rfl memA rfl rfl ?_) | refine HC.cond rfl (fun hc => ?_) (fun hc => ?_) | refine HC.cond_b rfl (fun hc => ?_) (fun hc => ?_))
        refine HC.anyCR ([(⟨b3, 0, none⟩, .func (.yield lp) #[] #[]), (⟨bl, 0, none⟩, .slice (some ⟨b, off, none⟩) l.length c), (⟨b4, 0, none⟩, zv (i : Int)), (⟨b, off + i, none⟩, zv (l[i] : Int))]) rfl ?_
        refine HB.ld 0 rfl rfl memD ?_
        refine HB.pa 1 rfl ?_
        refine HB.ld 2 rfl rfl memD ?_
        refine HB.ld 3 rfl rfl memD ?_
        refine HB.pa 4 rfl ?_
        refine HB.ld 5 rfl rfl memD ?_
        refine HB.pa (v := uv (1 <<< l[i])) 6 rfl ?_ (POp.shl64 (a := 1) (b := l[i]) rfl rfl rfl rfl (by omega) (Nat.lt_trans hsh (by decide)))
        refine HB.pa (v := uv (maskOf d ||| 1 <<< l[i])) 7 rfl ?_ (POp.or64 rfl rfl rfl rfl (by omega) (by omega))
        refine HB.all (by first | exact hkeep _ _ (hcap _) | exact hkeepm _) [8] (by kernel_rfl) rfl ⟨⟨_, rfl, ?_⟩, trivial⟩
        refine HP.one ?_
        refine H1.yield2 (l := lp) (vs := [uv (maskOf d ||| 1 <<< l[i])]) (Hz := Hm) (I := fun b z => (b = true ∧ z = none) ∨ b = false ∧ ∃ y, z = some y) rfl rfl rfl (fun w' hM' => ?_) (fun bb zz hI => ?_)
        · have h1 := hy (j + m) (l[i] :: d) hgd (L .busy none :: A.blk bn2 [zv (n : Int)] 3 :: A.blk bl2 [.slice (fromA (some ⟨b, off, none⟩) c (i + 1)) (l.length - (i + 1)) (c - (i + 1))] 23 :: A.blk b4 [zv (i : Int)] 3 :: A.blk b3 [.func (.yield lp) #[] #[]] 145 :: K') w' (hM'.perm (List.perm_append_comm_assoc [_, _, _, _, _] (Hz (j + m)) K'))
          refine Yld.mono h1 ?_
          rintro b w2 (⟨hb, h2⟩ | ⟨hb, z, h2⟩)
          · exact ⟨none, .inl ⟨hb, rfl⟩, by rw [hm0]; exact h2.perm (List.perm_append_comm_assoc (Hz (j + m + 1)) [_, _, _, _, _] K')⟩
          · exact ⟨some z, .inr ⟨hb, z, rfl⟩, by rw [hm1]; exact h2.perm (List.perm_append_comm_assoc (Hf z) [_, _, _, _, _] K')⟩
        apply HB.fold
        refine HB.pa 9 rfl ?_
        refine HB.done (by first | exact hkeep _ _ (hcap _) | exact hkeepm _) (by kernel_rfl) ?_
        rcases hI with ⟨rfl, rfl⟩ | ⟨rfl, y, rfl⟩
        · rw [hm0]
          repeat' (first | apply HL.fold | apply HA.fold | apply HL.nil | apply HX.n_then | apply HC.seq | apply HC.region | refine HL.pa ?_ | refine HL.ga rfl ?_ | refine HL.na rfl ?_ | refine HL.nu rfl rfl ?_ | apply HC.block | apply HC.skip | apply HC.exit | apply HC.ret | apply HX.e_block | refine HX.e_other rfl ?_ | apply HX.e_then | apply HX.e_again | apply HX.n_block | apply HX.r_then | apply HX.r_block | apply HX.r_again | refine HC.cond_yes rfl ?_ | refine HC.cond_no rfl ?_ | refine HL.one (H1.ldb rfl memA rfl rfl ?_) | refine HC.cond rfl (fun hc => ?_) (fun hc => ?_) | refine HC.cond_b rfl (fun hc => ?_) (fun hc => ?_))
          exact HX.rp_n hL Rpl.here fun w' hM' => .inl ⟨rfl, hM'⟩
        · rw [hm1]
          repeat' (first | apply HL.fold | apply HA.fold | apply HL.nil | apply HX.n_then | apply HC.seq | apply HC.region | refine HL.pa ?_ | refine HL.ga rfl ?_ | refine HL.na rfl ?_ | refine HL.nu rfl rfl ?_ | apply HC.block | apply HC.skip | apply HC.exit | apply HC.ret | apply HX.e_block | refine HX.e_other rfl ?_ | apply HX.e_then | apply HX.e_again | apply HX.n_block | apply HX.r_then | apply HX.r_block | apply HX.r_again | refine HC.cond_yes rfl ?_ | refine HC.cond_no rfl ?_ | refine HL.one (H1.ldb rfl memA rfl rfl ?_) | refine HC.cond rfl (fun hc => ?_) (fun hc => ?_) | refine HC.cond_b rfl (fun hc => ?_) (fun hc => ?_))
          exact HX.rp_r hL Rpl.here fun w' hM' => .inr ⟨rfl, y, hM'⟩
      · exact Mm.perm (H := L .ready none :: A.blk bn2 [zv (n : Int)] 3 :: A.blk bl2 [.slice (fromA (some ⟨b, off, none⟩) c (i + 1)) (l.length - (i + 1)) (c - (i + 1))] 23 :: A.blk b4 [zv (i : Int)] 3 :: A.blk b3 [.func (.yield lp) #[] #[]] 145 :: A.dfr D :: A.dfrs Ds :: (Hz j ++ K)) (hM1.sub (Hs.cons pickA (Hs.cons pickA (Hs.cons pickA (Hs.cons pickA (Hs.cons pickA (Hs.cons pickA (Hs.cons pickA (Hs.refl _))))))))) (List.Perm.append_left [_, _, _, _, _] (List.perm_append_comm_assoc [A.dfr D, A.dfrs Ds] (Hz j) K))
      · rintro u w' (h1 | ⟨z, h1⟩)
        · refine .inl ⟨(), trivial, Mm.sub (H := L .ready none :: A.blk bn2 [zv (n : Int)] 3 :: A.blk bl2 [.slice (fromA (some ⟨b, off, none⟩) c (i + 1)) (l.length - (i + 1)) (c - (i + 1))] 23 :: A.blk b4 [zv (i : Int)] 3 :: A.blk b3 [.func (.yield lp) #[] #[]] 145 :: A.dfr D :: A.dfrs Ds :: (Hz (j + (combs (l.drop (i + 1)) n).length) ++ K)) (h1.perm (List.Perm.append_left [_, _, _, _, _] (List.perm_append_comm_assoc (Hz (j + (combs (l.drop (i + 1)) n).length)) [A.dfr D, A.dfrs Ds] K))) (Hs.cons pickA (Hs.cons pickA (Hs.cons pickA (Hs.cons pickA (Hs.cons pickA (Hs.cons pickA (Hs.cons pickA (Hs.refl _))))))))⟩
        · refine .inr ⟨z, trivial, Mm.sub (H := L .done (some .ret) :: A.blk bn2 [zv (n : Int)] 3 :: A.blk bl2 [.slice (fromA (some ⟨b, off, none⟩) c (i + 1)) (l.length - (i + 1)) (c - (i + 1))] 23 :: A.blk b4 [zv (i : Int)] 3 :: A.blk b3 [.func (.yield lp) #[] #[]] 145 :: A.dfr D :: A.dfrs Ds :: (Hf z ++ K)) (h1.perm (List.Perm.append_left [_, _, _, _, _] (List.perm_append_comm_assoc (Hf z) [A.dfr D, A.dfrs Ds] K))) (Hs.cons pickA (Hs.cons pickA (Hs.cons pickA (Hs.cons pickA (Hs.cons pickA (Hs.cons pickA (Hs.cons pickA (Hs.refl _))))))))⟩
    · intro D z _
      repeat' (first | apply HL.fold | apply HA.fold | apply HL.nil | apply HX.n_then | apply HC.seq | apply HC.region | refine HL.pa ?_ | refine HL.ga rfl ?_ | refine HL.na rfl ?_ | refine HL.nu rfl rfl ?_ | apply HC.block | apply HC.skip | apply HC.exit | apply HC.ret | apply HX.e_block | refine HX.e_other rfl ?_ | apply HX.e_then | apply HX.e_again | apply HX.n_block | apply HX.r_then | apply HX.r_block | apply HX.r_again | refine HC.cond_yes rfl ?_ | refine HC.cond_no rfl ?_ | refine HL.one (H1.ldb rfl memA rfl rfl ?_) | refine HC.cond rfl (fun hc => ?_) (fun hc => ?_) | refine HC.cond_b rfl (fun hc => ?_) (fun hc => ?_))
      refine HX.againDm (i + 1, j + (combs (l.drop (i + 1)) n).length, D :: Ds) ⟨by show i + 1 ≤ _; omega, pre ++ (combs (l.drop (i + 1)) n).map (l[i] :: ·), by simp [hpre], by rw [hcomb, List.append_assoc]⟩ (by show l.length - n - (i + 1) < l.length - n - i; omega) rfl esA fun w hM => ?_
      exact Mm.dfrs1 (hM.sub (Hs.cons pickA (Hs.cons pickA (Hs.cons pickA (Hs.skipN (K := [_, _, _]))))))
    · intro D z _
      repeat' (first | apply HL.fold | apply HA.fold | apply HL.nil | apply HX.n_then | apply HC.seq | apply HC.region | refine HL.pa ?_ | refine HL.ga rfl ?_ | refine HL.na rfl ?_ | refine HL.nu rfl rfl ?_ | apply HC.block | apply HC.skip | apply HC.exit | apply HC.ret | apply HX.e_block | refine HX.e_other rfl ?_ | apply HX.e_then | apply HX.e_again | apply HX.n_block | apply HX.r_then | apply HX.r_block | apply HX.r_again | refine HC.cond_yes rfl ?_ | refine HC.cond_no rfl ?_ | refine HL.one (H1.ldb rfl memA rfl rfl ?_) | refine HC.cond rfl (fun hc => ?_) (fun hc => ?_) | refine HC.cond_b rfl (fun hc => ?_) (fun hc => ?_))
      refine HX.conv (H2 := A.dfrs (D :: Ds) :: A.blk b3 [.func (.yield lp) #[] #[]] 145 :: (Hf z ++ K)) (fun w hM => ?_) (HX.retMs0 (Ds := D :: Ds) rfl Pick.here fun w' hM' => .inr ⟨z, hM'.tail⟩)
      exact Mm.dfrs1 (hM.sub (Hs.cons pickA (Hs.cons pickA (Hs.cons pickA (Hs.skipN (K := [_, _, _]))))))
end Go.Sx

