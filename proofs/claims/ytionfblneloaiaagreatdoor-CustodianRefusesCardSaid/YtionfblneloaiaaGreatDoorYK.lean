/- Chapter 27: opened, and the fixed examples: the walks. -/
import Derived.Test.YtionfblneloaiaaGreatDoorYJ
namespace Go.Sx
open Go Go.Proofs Go.RowKit
theorem hwYK {G G2 : Prop} (x : G2) (hwq : Hold G2 → G := by
    intro hQq
    repeat' (first | refine HL.pa ?_ (POp.pneN rfl rfl) | refine HL.pa ?_ (POp.pnil1 rfl rfl) | refine HL.pa ?_ (POp.pnil0 rfl rfl) | refine HL.pa ?_ (POp.nilCheck rfl) | apply HL.fold | apply HA.fold | apply HL.nil | apply HX.n_then | apply HC.seq | apply HC.region | refine HL.pa ?_ | refine HL.ga rfl ?_ | refine HL.na rfl ?_ | refine HL.nu rfl rfl ?_ | apply HC.block | apply HC.skip | apply HC.exit | apply HC.ret | apply HX.e_block | refine HX.e_other rfl ?_ | apply HX.e_then | apply HX.e_again | apply HX.n_block | apply HX.r_then | apply HX.r_block | apply HX.r_again | refine HC.cond_yes rfl ?_ | refine HC.cond_no rfl ?_ | refine HL.one (H1.ldb rfl memA rfl rfl ?_) | refine HC.cond rfl (fun hc => ?_) (fun hc => ?_) | refine HC.cond_b rfl (fun hc => ?_) (fun hc => ?_))
    exact hQq.get) : G := hwq ⟨x⟩
theorem sorted_eq : ∀ {l l' : List PK}, l.Perm l' → (l.Pairwise fun x y => ¬ leP y x) → (l'.Pairwise fun x y => ¬ leP y x) → l = l'
  | [], l', h, _, _ => (List.nil_perm.1 h).symm
  | a :: t, [], h, _, _ => by cases List.perm_nil.1 h
  | a :: t, b :: t', h, h1, h2 => by
    rw [List.pairwise_cons] at h1 h2
    have e : a = b := by
      have ha := h.subset (List.mem_cons_self ..)
      have hb := h.symm.subset (List.mem_cons_self ..)
      rcases List.mem_cons.1 ha with ha | ha
      · exact ha
      rcases List.mem_cons.1 hb with hb | hb
      · exact hb.symm
      have k1 := h2.1 a ha
      have k2 := h1.1 b hb
      unfold leP at k1 k2
      exact Prod.ext (by omega) (by omega)
    subst e
    rw [sorted_eq ((List.perm_cons a).1 h) h1.2 h2.2]
theorem SortedP.eq {l l' : List PK} {m : PM} (h : SortedP l m) (h' : SortedP l' m) : l = l' := sorted_eq (h.1.trans h'.1.symm) h.2 h'.2
theorem CClean.jeq {m : PM} {j : Jn} {N : Nat} {l : List ByteArray} (h : CClean m j N l) : j = ⟨adds t00 l, j.k, false⟩ := by
  have h1 := h.jn.t
  have h2 := h.jn.br
  obtain ⟨t, k, br⟩ := j
  dsimp only at h1 h2
  rw [h1, h2]
theorem copen_F {w0 w : World} {H : List Atom} {bd b1 b2 pc : Nat} {pa : Option Addr} {k : Dk} {ea ec : Addr} (hG : RoundG w0) (hE : ErrG ea w0) (hC : CErrG ec w0) (hM : Mm w0 (dkH bd b1 b2 pa pc k H) w) (hk : k.Ok) (hp : k.pend.length ≤ 9000)
    (hop : (∃ t k', openF k = (0, k', some t) ∧ t.recs.length ≤ 100000 ∧ ∀ r ∈ t.recs, r.size ≤ 65536) ∨ (∃ e k', openF k = (e, k', none) ∧ e ≠ 0)) :
    Fn Tryz.prog 25 #[.pointer (some ⟨bd, 0, none⟩)] w fun v w' => copenP w0 bd b1 b2 H (openF k) v w' := copen_all hG hE hC hM hk hp hop
theorem HX.ret3y {P : Program} {N : Nat} {E : Env} {w0 : World} {H : List Atom} {fn : Func} {t1 t2 t3 : Nat} {v1 v2 v3 : Value} {R : Value → World → Prop} (hr : fn.results = #[.tmp t1, .tmp t2, .tmp t3]) (h1 : Env.g E t1 = some v1) (h2 : Env.g E t2 = some v2) (h3 : Env.g E t3 = some v3) (h : ∀ w, Mm w0 H w → R (.tuple #[v1, v2, v3]) w) :
    HX N [] .ret (bodyPost P fn (RetP R)) E w0 H := fun w hM => WX.ret3 (P := P) hr h1 h2 h3 (h w hM)
attribute [local irreducible] WC WL WX POp Then Again Fn NX W1 WA WO QL RP RA Yld LoopAt HC HL HX HN H1 HA HO HQ HB HP A.blk A.grow A.rd A.obj A.mp AgainH CutH
attribute [local irreducible] A.pm A.mx A.mit sumS newK
theorem copen_fn {w0 w : World} {H : List Atom} {bd b1 b2 pc N : Nat} {pa : Option Addr} {m : PM} {j : Jn} {l : List ByteArray} {ea ec : Addr} (hG : RoundG w0) (hE : ErrG ea w0) (hC : CErrG ec w0) (h : CClean m j N l) (hl : l.length ≤ 100000) (hM : Mm w0 (dkH bd b1 b2 pa pc j.k H) w) :
    Fn Tryz.prog 25 #[.pointer (some ⟨bd, 0, none⟩)] w fun v w' => ∃ z : Nat × Nat × Nat × (Option Addr × Nat) × (Option Addr × Nat), True ∧ v = .tuple #[.pointer (some ⟨z.1, 0, none⟩), zv 0] ∧ Mm w0 (cuH z.1 z.2.1 z.2.2.1 bd b1 b2 z.2.2.2.1.1 z.2.2.2.1.2 z.2.2.2.2.1 z.2.2.2.2.2 m j H) w' := by
  have hop := h.opens
  have hr : (adds t00 l).recs = l := adds0_recs l
  have hF : Fn Tryz.prog 25 #[.pointer (some ⟨bd, 0, none⟩)] w fun v w' => copenP w0 bd b1 b2 H (openF j.k) v w' :=
    copen_F hG hE hC hM h.jn.ok (by rw [h.jn.pend]; exact Nat.zero_le _) (.inl ⟨_, _, hop, by rw [hr]; exact hl, by rw [hr]; exact fun r hr => Nat.le_trans (h.rcs r hr) (by decide)⟩)
  refine hF.mono fun v w2 h1 => ?_
  rw [hop] at h1
  unfold copenP at h1
  dsimp only at h1
  rw [hr, h.rep] at h1
  obtain ⟨z, h2, h3⟩ := h1
  refine ⟨z, trivial, h2, ?_⟩
  rw [h.jeq]; exact h3
theorem opened_fn {w : World} {ea ec : Addr} (hG : RoundG w) (hE : ErrG ea w) (hC : CErrG ec w) (N : Nat) (h1 : 1 ≤ N) (h2 : N ≤ 4194304) :
    Fn Tryz.prog 12 #[zv (N : Int)] w fun v w' => ∃ z : (Nat × Nat × Nat) × Nat × Nat × Nat × (Option Addr × Nat) × (Option Addr × Nat), True ∧ v = .tuple #[.pointer (some ⟨z.2.1, 0, none⟩), .pointer (some ⟨z.1.1, 0, none⟩), .bool true] ∧
      Mm w (cuH z.2.1 z.2.2.1 z.2.2.2.1 z.1.1 z.1.2.1 z.1.2.2 z.2.2.2.2.1.1 z.2.2.2.2.1.2 z.2.2.2.2.2.1 z.2.2.2.2.2.2 [] ⟨t00, newK N, false⟩ []) w' := by
  refine enterH (l := [_]) rfl Tryz.ntmps12 rfl ?_
  refine hwYK ?_
  refine HL.one (H1.callz (vs := [zv (N : Int)]) rfl rfl (fun w' hM => new_fn N h1 h2 w') ?_)
  rintro ⟨bd, b1, b2⟩ -
  dsimp only
  refine hwYK ?_
  refine HL.one (H1.callk (α := Nat × Nat × Nat × (Option Addr × Nat) × (Option Addr × Nat)) (V := fun z => .tuple #[.pointer (some ⟨z.1, 0, none⟩), zv 0]) (I := fun _ => True) (H' := fun z => cuH z.1 z.2.1 z.2.2.1 bd b1 b2 z.2.2.2.1.1 z.2.2.2.1.2 z.2.2.2.2.1 z.2.2.2.2.2 [] ⟨t00, newK N, false⟩ []) (vs := [_]) rfl rfl
    (fun w' hM => copen_fn hG hE hC (cclean0 h1 h2) (Nat.zero_le _) hM) ?_)
  rintro ⟨bx, bm, bj, ⟨a, c⟩, ⟨pa, pc⟩⟩ -
  dsimp only
  refine hwYK ?_
  exact HX.ret3y (P := Tryz.prog) rfl rfl rfl rfl fun w' hM => ⟨((bd, b1, b2), bx, bm, bj, (a, c), (pa, pc)), trivial, rfl, hM⟩
end Go.Sx

