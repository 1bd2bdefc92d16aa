/- Chapter 26: the law JournalReopens: the walk. -/
import Derived.Test.YtlihcenahjgnmaaDoorJS
namespace Go.Sx
open Go Go.Proofs Go.RowKit
theorem POp.pneN {P : Program} {N : Nat} {ds : List Deferred} {E : Env} {t t' ty e : TypeId} {x y : Operand} {a : Addr} [h : UTy P t (.pointer e)] (hx : Env.ev E x = some (.pointer (some a))) (hy : Env.ev E y = some (.pointer none)) : POp P N ds E (.binOp .neq t x y t') ty (.bool true) :=
  POp.bin hx hy (fun w => by rw [eqGuard_at_pointer]; rfl) fun w => by
    have e1 := run_equalIn_pnil (P := P) (t := t) w 9999 (some a)
    show ((Op.equalIn (9999 + 1) t (.pointer (some a)) (.pointer none)) >>= fun r => pure (Value.bool !r)).run P w = _
    rw [Sem.run_bind, e1]; rfl
theorem few_need2 (l : List ByteArray) : needL (few26 l) ≤ 900 := by
  have h1 : ∀ (l : List ByteArray), (∀ r ∈ l, r.size ≤ 100) → needL l ≤ 150 * l.length := by
    intro l
    induction l with
    | nil => exact fun _ => Nat.zero_le _
    | cons r l ih =>
      intro h
      have h1 := ih fun x hx => h x (List.mem_cons_of_mem _ hx)
      have h2 := h r (List.mem_cons_self ..)
      have h3 := strN_size (n := r.size) (by omega)
      show (33 + (strN r.size).size + r.size) + needL l ≤ 150 * (l.length + 1)
      omega
  have h2 := h1 _ (few26_size l)
  have h3 := few26_len l
  omega
theorem few_long2 (l : List ByteArray) : (few26 l).any isLong = false := not_long fun r hr => Nat.le_trans (few26_size l r hr) (by decide)
/-- A slice of slices of strings. -/
def RdGS (w : World) (v : Value) (G : List (List ByteArray)) (hV : Nat → Value) : Prop := Rd w v ((List.range G.length).map hV) ∧ ∀ i (hi : i < G.length), Rd w (hV i) (strs G[i])
theorem RdGS.ext {w w' : World} {v : Value} {G : List (List ByteArray)} {hV : Nat → Value} (h : RdGS w v G hV) (k : Ext w w') : RdGS w' v G hV := ⟨h.1.ext k, fun i hi => (h.2 i hi).ext k⟩
theorem Clean.step {j : Jn} {n : Nat} {l g : List ByteArray} (h : Clean j n l) (hg : g.any isLong = false) : ∃ (e : Int) (j' : Jn) (l' : List ByteArray), j.append g = (e, j') ∧ Clean j' n l' ∧ (l' = l ++ g ∨ l' = l) := by
  by_cases hf : j.t.size + (outsL j.t.head g).length ≤ n
  · obtain ⟨j', h1, h2⟩ := h.app hg hf
    exact ⟨0, j', l ++ g, h1, h2, .inl rfl⟩
  · exact ⟨261, j, l, h.full hg hf, h, .inr rfl⟩
theorem cut_ok2 {k : Dk} (hk : k.Ok) (ho : k.off = false) (n : Nat) (hn : n ≤ 1000000) : (k.cut n).2.Ok ∧ (k.cut n).2.dur = k.dur ∧ (k.cut n).2.pend = k.pend ∧ (k.cut n).2.vis = k.vis ∧ (k.cut n).1 = 0 ∧ (k.cut n).2.off = decide (n = 0) := by
  rw [Dk.cut_on ho]
  exact ⟨⟨hk.len, hk.lo, hk.hi, hn, hk.pend⟩, rfl, rfl, rfl, rfl, rfl⟩
attribute [local irreducible] WC WL WX POp Then Again Fn NX W1 WA WO QL RP RA Yld LoopAt HC HL HX HN H1 HA HO HQ HB HP A.blk A.grow A.rd A.obj A.mp AgainH CutH
attribute [local irreducible] newK needL few26 size26
set_option maxHeartbeats 4000000 in
theorem journalReopens_fn {w : World} {ea : Addr} (hG : RoundG w) (hE : ErrG ea w) (n : Int) (v : Value) (GG : List (List ByteArray)) (hV : Nat → Value) (hn1 : -9223372036854775808 ≤ n) (hn2 : n ≤ 9223372036854775807)
    (hR : RdGS w v GG hV) (hs : ∀ i (hi : i < GG.length), (∀ s ∈ GG[i], s.size ≤ 9223372036854775807) ∧ GG[i].length ≤ 9223372036854775807) (hl : GG.length ≤ 9223372036854775807) :
    Fn Tryd.prog 4 #[zv n, v] w fun v w' => v = .bool true ∧ Ext w w' := by
  obtain ⟨N, hN⟩ : ∃ N, N = size26 n := ⟨_, rfl⟩
  have hNb := size26_b n
  rw [← hN] at hNb
  have h0 := clean0 (n := N) hNb.1 (by omega)
  have hrl : ((List.range GG.length).map hV).length = GG.length := by simp
  obtain ⟨a0, c0, rfl, hc0⟩ : ∃ a0 c0, v = .slice a0 GG.length c0 ∧ GG.length ≤ c0 := by
    obtain ⟨a, c, h1, h2, -⟩ := hR.1
    rw [hrl] at h1 h2
    exact ⟨a, c, h1, h2⟩
  refine enterH (l := [_, _]) rfl Tryd.ntmps4 rfl ?_
  repeat' (first | refine HL.pa ?_ (POp.pneN rfl rfl) | refine HL.pa ?_ (POp.pnil1 rfl rfl) | refine HL.pa ?_ (POp.pnil0 rfl rfl) | refine HL.pa ?_ (POp.nilCheck rfl) | apply HL.fold | apply HA.fold | apply HL.nil | apply HX.n_then | apply HC.seq | apply HC.region | refine HL.pa ?_ | refine HL.ga rfl ?_ | refine HL.na rfl ?_ | refine HL.nu rfl rfl ?_ | apply HC.block | apply HC.skip | apply HC.exit | apply HC.ret | apply HX.e_block | refine HX.e_other rfl ?_ | apply HX.e_then | apply HX.e_again | apply HX.n_block | apply HX.r_then | apply HX.r_block | apply HX.r_again | refine HC.cond_yes rfl ?_ | refine HC.cond_no rfl ?_ | refine HL.one (H1.ldb rfl memA rfl rfl ?_) | refine HC.cond rfl (fun hc => ?_) (fun hc => ?_) | refine HC.cond_b rfl (fun hc => ?_) (fun hc => ?_))
  refine HL.one (H1.callx (vs := []) rfl rfl (fun w' hM => sane26_fn (hG.ext hM.ext) (hE.ext hM.ext)) ?_)
  repeat' (first | refine HL.pa ?_ (POp.pneN rfl rfl) | refine HL.pa ?_ (POp.pnil1 rfl rfl) | refine HL.pa ?_ (POp.pnil0 rfl rfl) | refine HL.pa ?_ (POp.nilCheck rfl) | apply HL.fold | apply HA.fold | apply HL.nil | apply HX.n_then | apply HC.seq | apply HC.region | refine HL.pa ?_ | refine HL.ga rfl ?_ | refine HL.na rfl ?_ | refine HL.nu rfl rfl ?_ | apply HC.block | apply HC.skip | apply HC.exit | apply HC.ret | apply HX.e_block | refine HX.e_other rfl ?_ | apply HX.e_then | apply HX.e_again | apply HX.n_block | apply HX.r_then | apply HX.r_block | apply HX.r_again | refine HC.cond_yes rfl ?_ | refine HC.cond_no rfl ?_ | refine HL.one (H1.ldb rfl memA rfl rfl ?_) | refine HC.cond rfl (fun hc => ?_) (fun hc => ?_) | refine HC.cond_b rfl (fun hc => ?_) (fun hc => ?_))
  refine HL.one (H1.call0 (vs := [_]) rfl rfl (fun w' hM => size26_fn n hn1 hn2 w') ?_)
  rw [← hN]
  repeat' (first | refine HL.pa ?_ (POp.pneN rfl rfl) | refine HL.pa ?_ (POp.pnil1 rfl rfl) | refine HL.pa ?_ (POp.pnil0 rfl rfl) | refine HL.pa ?_ (POp.nilCheck rfl) | apply HL.fold | apply HA.fold | apply HL.nil | apply HX.n_then | apply HC.seq | apply HC.region | refine HL.pa ?_ | refine HL.ga rfl ?_ | refine HL.na rfl ?_ | refine HL.nu rfl rfl ?_ | apply HC.block | apply HC.skip | apply HC.exit | apply HC.ret | apply HX.e_block | refine HX.e_other rfl ?_ | apply HX.e_then | apply HX.e_again | apply HX.n_block | apply HX.r_then | apply HX.r_block | apply HX.r_again | refine HC.cond_yes rfl ?_ | refine HC.cond_no rfl ?_ | refine HL.one (H1.ldb rfl memA rfl rfl ?_) | refine HC.cond rfl (fun hc => ?_) (fun hc => ?_) | refine HC.cond_b rfl (fun hc => ?_) (fun hc => ?_))
  refine HL.one (H1.callz (vs := [zv (N : Int)]) rfl rfl (fun w' hM => new_fn N hNb.1 (by omega) w') ?_)
  rintro ⟨bd, b1, b2⟩ -
  dsimp only
  repeat' (first | refine HL.pa ?_ (POp.pneN rfl rfl) | refine HL.pa ?_ (POp.pnil1 rfl rfl) | refine HL.pa ?_ (POp.pnil0 rfl rfl) | refine HL.pa ?_ (POp.nilCheck rfl) | apply HL.fold | apply HA.fold | apply HL.nil | apply HX.n_then | apply HC.seq | apply HC.region | refine HL.pa ?_ | refine HL.ga rfl ?_ | refine HL.na rfl ?_ | refine HL.nu rfl rfl ?_ | apply HC.block | apply HC.skip | apply HC.exit | apply HC.ret | apply HX.e_block | refine HX.e_other rfl ?_ | apply HX.e_then | apply HX.e_again | apply HX.n_block | apply HX.r_then | apply HX.r_block | apply HX.r_again | refine HC.cond_yes rfl ?_ | refine HC.cond_no rfl ?_ | refine HL.one (H1.ldb rfl memA rfl rfl ?_) | refine HC.cond rfl (fun hc => ?_) (fun hc => ?_) | refine HC.cond_b rfl (fun hc => ?_) (fun hc => ?_))
  refine HL.one (H1.callk (α := Nat × (Option Addr × Nat) × (Option Addr × Nat)) (V := fun z => .tuple #[.pointer (some ⟨z.1, 0, none⟩), zv 0]) (I := fun _ => True) (H' := fun z => jnlH z.1 bd b1 b2 z.2.1.1 z.2.1.2 z.2.2.1 z.2.2.2 ⟨t00, newK N, false⟩ []) (vs := [_]) rfl rfl
    (fun w' hM => jopen_ok (h0.opens (fun _ h => by cases h)) hG hE hM h0.ok (by rw [h0.pend]; exact Nat.zero_le _)) ?_)
  rintro ⟨bj, ⟨a, c⟩, ⟨pa, pc⟩⟩ -
  dsimp only
  repeat' (first | refine HL.pa ?_ (POp.pneN rfl rfl) | refine HL.pa ?_ (POp.pnil1 rfl rfl) | refine HL.pa ?_ (POp.pnil0 rfl rfl) | refine HL.pa ?_ (POp.nilCheck rfl) | apply HL.fold | apply HA.fold | apply HL.nil | apply HX.n_then | apply HC.seq | apply HC.region | refine HL.pa ?_ | refine HL.ga rfl ?_ | refine HL.na rfl ?_ | refine HL.nu rfl rfl ?_ | apply HC.skip | apply HC.exit | apply HC.ret | apply HX.e_block | refine HX.e_other rfl ?_ | apply HX.e_then | apply HX.e_again | apply HX.n_block | apply HX.r_then | apply HX.r_block | apply HX.r_again | refine HC.cond_yes rfl ?_ | refine HC.cond_no rfl ?_ | refine HL.one (H1.ldb rfl memA rfl rfl ?_) | refine HC.cond rfl (fun hc => ?_) (fun hc => ?_) | refine HC.cond_b rfl (fun hc => ?_) (fun hc => ?_))
  repeat refine HC.seq ?_
  refine HC.cut (α := (Jn × List ByteArray) × (Option Addr × Nat) × (Option Addr × Nat)) (fun _ => [(0, zv n), (5, .bool true), (6, .pointer (some ⟨bd, 0, none⟩)), (8, .pointer (some ⟨bj, 0, none⟩))])
    (fun z => jnlH bj bd b1 b2 z.2.1.1 z.2.1.2 z.2.2.1 z.2.2.2 z.1.1 []) (fun z => Clean z.1.1 N z.1.2 ∧ z.1.2.length ≤ 48 ∧ ∀ r ∈ z.1.2, r.size ≤ 100) ?_ ?_
  rotate_left
  · rintro ⟨⟨j, l⟩, ⟨a, c⟩, ⟨pa, pc⟩⟩ ⟨hc, hll, hrs⟩
    dsimp only at hc hll hrs ⊢
    obtain ⟨hk4, hd4, hp4, hv4, he4, ho4⟩ := cut_ok2 hc.ok hc.off 1 (by decide)
    have hlen := hc.len
    have hfit := hc.fit
    have hcp := hc.pend
    have hrec := hc.recs
    have hct := hc.t
    have hop : openF (j.k.cut 1).2 = (0, (j.k.cut 1).2, some j.t) := by
      rw [hct]
      exact open_vis (n := N - j.t.size) (by rw [ho4]; rfl) (by rw [hv4]; exact hc.vis) (fun r h => Nat.le_trans (hrs r h) (by decide))
    have hp0 : (j.k.cut 1).2.pend.length = 0 := by rw [hp4, hcp]; rfl
    have hdl : (j.k.cut 1).2.dur.length = N := by rw [hd4, hc.dur, hlen]
    have hvl : (j.k.cut 1).2.vis.length = N := by rw [hv4, hlen]
    have ho1 : (j.k.cut 1).2.off = false := by rw [ho4]; rfl
    repeat' (first | refine HL.pa ?_ (POp.pneN rfl rfl) | refine HL.pa ?_ (POp.pnil1 rfl rfl) | refine HL.pa ?_ (POp.pnil0 rfl rfl) | refine HL.pa ?_ (POp.nilCheck rfl) | apply HL.fold | apply HA.fold | apply HL.nil | apply HX.n_then | apply HC.seq | apply HC.region | refine HL.pa ?_ | refine HL.ga rfl ?_ | refine HL.na rfl ?_ | refine HL.nu rfl rfl ?_ | apply HC.block | apply HC.skip | apply HC.exit | apply HC.ret | apply HX.e_block | refine HX.e_other rfl ?_ | apply HX.e_then | apply HX.e_again | apply HX.n_block | apply HX.r_then | apply HX.r_block | apply HX.r_again | refine HC.cond_yes rfl ?_ | refine HC.cond_no rfl ?_ | refine HL.one (H1.ldb rfl memA rfl rfl ?_) | refine HC.cond rfl (fun hc => ?_) (fun hc => ?_) | refine HC.cond_b rfl (fun hc => ?_) (fun hc => ?_))
    refine HL.one (H1.callk (α := Unit) (V := fun _ => zv 0) (I := fun _ => True) (H' := fun _ => dkH bd b1 b2 pa pc (j.k.cut 1).2 [A.blk bj (tpC a c j.t (jnR bd j.br)) 58, A.grow 9 1 a c j.t.recs.length (strs j.t.recs)]) (vs := [_, zv ((1 : Nat) : Int)]) rfl rfl
      (fun w' hM => (cut_fn (k := j.k) 1 (hM.sub (Hs.cons (Pick.there (Pick.there Pick.here)) (Hs.cons (Pick.there (Pick.there Pick.here)) (Hs.cons (Pick.there (Pick.there Pick.here)) (Hs.cons (Pick.there (Pick.there Pick.here)) (Hs.refl _))))))).mono fun v w2 h => ⟨(), trivial, by rw [h.1, he4], h.2⟩) ?_)
    rintro - -
    generalize (j.k.cut 1).2 = k4 at hk4 hop hp0 hdl hvl ho1
    repeat' (first | refine HL.pa ?_ (POp.pneN rfl rfl) | refine HL.pa ?_ (POp.pnil1 rfl rfl) | refine HL.pa ?_ (POp.pnil0 rfl rfl) | refine HL.pa ?_ (POp.nilCheck rfl) | apply HL.fold | apply HA.fold | apply HL.nil | apply HX.n_then | apply HC.seq | apply HC.region | refine HL.pa ?_ | refine HL.ga rfl ?_ | refine HL.na rfl ?_ | refine HL.nu rfl rfl ?_ | apply HC.block | apply HC.skip | apply HC.exit | apply HC.ret | apply HX.e_block | refine HX.e_other rfl ?_ | apply HX.e_then | apply HX.e_again | apply HX.n_block | apply HX.r_then | apply HX.r_block | apply HX.r_again | refine HC.cond_yes rfl ?_ | refine HC.cond_no rfl ?_ | refine HL.one (H1.ldb rfl memA rfl rfl ?_) | refine HC.cond rfl (fun hc => ?_) (fun hc => ?_) | refine HC.cond_b rfl (fun hc => ?_) (fun hc => ?_))
    refine HL.one (H1.callk (α := Nat × (Option Addr × Nat) × (Option Addr × Nat)) (V := fun z => .tuple #[.pointer (some ⟨z.1, 0, none⟩), zv 0]) (I := fun _ => True) (H' := fun z => jnlH z.1 bd b1 b2 z.2.1.1 z.2.1.2 z.2.2.1 z.2.2.2 ⟨j.t, k4, false⟩ [A.blk bj (tpC a c j.t (jnR bd j.br)) 58, A.grow 9 1 a c j.t.recs.length (strs j.t.recs)]) (vs := [_]) rfl rfl
      (fun w' hM => jopen_ok hop hG hE hM hk4 (by omega)) ?_)
    rintro ⟨bk, ⟨a2, c2⟩, ⟨pa2, pc2⟩⟩ -
    dsimp only
    repeat' (first | refine HL.pa ?_ (POp.pneN rfl rfl) | refine HL.pa ?_ (POp.pnil1 rfl rfl) | refine HL.pa ?_ (POp.pnil0 rfl rfl) | refine HL.pa ?_ (POp.nilCheck rfl) | apply HL.fold | apply HA.fold | apply HL.nil | apply HX.n_then | apply HC.seq | apply HC.region | refine HL.pa ?_ | refine HL.ga rfl ?_ | refine HL.na rfl ?_ | refine HL.nu rfl rfl ?_ | apply HC.block | apply HC.skip | apply HC.exit | apply HC.ret | apply HX.e_block | refine HX.e_other rfl ?_ | apply HX.e_then | apply HX.e_again | apply HX.n_block | apply HX.r_then | apply HX.r_block | apply HX.r_again | refine HC.cond_yes rfl ?_ | refine HC.cond_no rfl ?_ | refine HL.one (H1.ldb rfl memA rfl rfl ?_) | refine HC.cond rfl (fun hc => ?_) (fun hc => ?_) | refine HC.cond_b rfl (fun hc => ?_) (fun hc => ?_))
    refine HL.one (H1.callz (vs := [_]) rfl rfl (fun w' hM => records2_fn (bj := bj) (bd := bd) (a := a) (c := c) (t := j.t) (br := j.br) (hM.blk (b := bj) memA) (Mm.gr (e := 9) (a := a) (c := c) hM memA) (by rw [hrec]; omega)) ?_)
    rintro ⟨ax, cx⟩ -
    dsimp only
    repeat' (first | refine HL.pa ?_ (POp.pneN rfl rfl) | refine HL.pa ?_ (POp.pnil1 rfl rfl) | refine HL.pa ?_ (POp.pnil0 rfl rfl) | refine HL.pa ?_ (POp.nilCheck rfl) | apply HL.fold | apply HA.fold | apply HL.nil | apply HX.n_then | apply HC.seq | apply HC.region | refine HL.pa ?_ | refine HL.ga rfl ?_ | refine HL.na rfl ?_ | refine HL.nu rfl rfl ?_ | apply HC.block | apply HC.skip | apply HC.exit | apply HC.ret | apply HX.e_block | refine HX.e_other rfl ?_ | apply HX.e_then | apply HX.e_again | apply HX.n_block | apply HX.r_then | apply HX.r_block | apply HX.r_again | refine HC.cond_yes rfl ?_ | refine HC.cond_no rfl ?_ | refine HL.one (H1.ldb rfl memA rfl rfl ?_) | refine HC.cond rfl (fun hc => ?_) (fun hc => ?_) | refine HC.cond_b rfl (fun hc => ?_) (fun hc => ?_))
    refine HL.one (H1.callz (vs := [_]) rfl rfl (fun w' hM => records2_fn (bj := bk) (bd := bd) (a := a2) (c := c2) (t := j.t) (br := false) (hM.blk (b := bk) memA) (Mm.gr (e := 9) (a := a2) (c := c2) hM memA) (by rw [hrec]; omega)) ?_)
    rintro ⟨ay, cy⟩ -
    dsimp only
    repeat' (first | refine HL.pa ?_ (POp.pneN rfl rfl) | refine HL.pa ?_ (POp.pnil1 rfl rfl) | refine HL.pa ?_ (POp.pnil0 rfl rfl) | refine HL.pa ?_ (POp.nilCheck rfl) | apply HL.fold | apply HA.fold | apply HL.nil | apply HX.n_then | apply HC.seq | apply HC.region | refine HL.pa ?_ | refine HL.ga rfl ?_ | refine HL.na rfl ?_ | refine HL.nu rfl rfl ?_ | apply HC.block | apply HC.skip | apply HC.exit | apply HC.ret | apply HX.e_block | refine HX.e_other rfl ?_ | apply HX.e_then | apply HX.e_again | apply HX.n_block | apply HX.r_then | apply HX.r_block | apply HX.r_again | refine HC.cond_yes rfl ?_ | refine HC.cond_no rfl ?_ | refine HL.one (H1.ldb rfl memA rfl rfl ?_) | refine HC.cond rfl (fun hc => ?_) (fun hc => ?_) | refine HC.cond_b rfl (fun hc => ?_) (fun hc => ?_))
    refine HL.one (H1.callx (u := .bool true) (vs := [_, _]) rfl rfl (fun w' hM => by
      have := same26_fn (.slice ax j.t.recs.length cx) (.slice ay j.t.recs.length cy) j.t.recs j.t.recs (by rw [hrec]; omega) (by rw [hrec]; omega) w' (Mm.gr (e := 9) (a := ax) (c := cx) hM (.tail _ (.head _))) (Mm.gr (e := 9) (a := ay) (c := cy) hM (.head _))
      rw [decide_eq_true rfl] at this
      exact this) ?_)
    repeat' (first | refine HL.pa ?_ (POp.pneN rfl rfl) | refine HL.pa ?_ (POp.pnil1 rfl rfl) | refine HL.pa ?_ (POp.pnil0 rfl rfl) | refine HL.pa ?_ (POp.nilCheck rfl) | apply HL.fold | apply HA.fold | apply HL.nil | apply HX.n_then | apply HC.seq | apply HC.region | refine HL.pa ?_ | refine HL.ga rfl ?_ | refine HL.na rfl ?_ | refine HL.nu rfl rfl ?_ | apply HC.block | apply HC.skip | apply HC.exit | apply HC.ret | apply HX.e_block | refine HX.e_other rfl ?_ | apply HX.e_then | apply HX.e_again | apply HX.n_block | apply HX.r_then | apply HX.r_block | apply HX.r_again | refine HC.cond_yes rfl ?_ | refine HC.cond_no rfl ?_ | refine HL.one (H1.ldb rfl memA rfl rfl ?_) | refine HC.cond rfl (fun hc => ?_) (fun hc => ?_) | refine HC.cond_b rfl (fun hc => ?_) (fun hc => ?_))
    refine HL.one (H1.callx (u := zv ((N : Int) - (j.t.size : Int))) (vs := [_]) rfl rfl (fun w' hM => by
      have := room2_fn (bj := bj) (bd := bd) (b1 := b1) (b2 := b2) (a := a) (c := c) (pa := pa2) (pc := pc2) (t := j.t) (k := k4) (br := j.br) (hM.blk memA) (hM.blk memA) hk4 (by omega)
      rw [hdl] at this
      exact this) ?_)
    repeat' (first | refine HL.pa ?_ (POp.pneN rfl rfl) | refine HL.pa ?_ (POp.pnil1 rfl rfl) | refine HL.pa ?_ (POp.pnil0 rfl rfl) | refine HL.pa ?_ (POp.nilCheck rfl) | apply HL.fold | apply HA.fold | apply HL.nil | apply HX.n_then | apply HC.seq | apply HC.region | refine HL.pa ?_ | refine HL.ga rfl ?_ | refine HL.na rfl ?_ | refine HL.nu rfl rfl ?_ | apply HC.block | apply HC.skip | apply HC.exit | apply HC.ret | apply HX.e_block | refine HX.e_other rfl ?_ | apply HX.e_then | apply HX.e_again | apply HX.n_block | apply HX.r_then | apply HX.r_block | apply HX.r_again | refine HC.cond_yes rfl ?_ | refine HC.cond_no rfl ?_ | refine HL.one (H1.ldb rfl memA rfl rfl ?_) | refine HC.cond rfl (fun hc => ?_) (fun hc => ?_) | refine HC.cond_b rfl (fun hc => ?_) (fun hc => ?_))
    refine HL.one (H1.callx (u := zv ((N : Int) - (j.t.size : Int))) (vs := [_]) rfl rfl (fun w' hM => by
      have := room2_fn (bj := bk) (bd := bd) (b1 := b1) (b2 := b2) (a := a2) (c := c2) (pa := pa2) (pc := pc2) (t := j.t) (k := k4) (br := false) (hM.blk memA) (hM.blk memA) hk4 (by omega)
      rw [hdl] at this
      exact this) ?_)
    repeat' (first | refine HL.pa ?_ (POp.pneN rfl rfl) | refine HL.pa ?_ (POp.pnil1 rfl rfl) | refine HL.pa ?_ (POp.pnil0 rfl rfl) | refine HL.pa ?_ (POp.nilCheck rfl) | apply HL.fold | apply HA.fold | apply HL.nil | apply HX.n_then | apply HC.seq | apply HC.region | refine HL.pa ?_ | refine HL.ga rfl ?_ | refine HL.na rfl ?_ | refine HL.nu rfl rfl ?_ | apply HC.block | apply HC.skip | apply HC.exit | apply HC.ret | apply HX.e_block | refine HX.e_other rfl ?_ | apply HX.e_then | apply HX.e_again | apply HX.n_block | apply HX.r_then | apply HX.r_block | apply HX.r_again | refine HC.cond_yes rfl ?_ | refine HC.cond_no rfl ?_ | refine HL.one (H1.ldb rfl memA rfl rfl ?_) | refine HC.cond rfl (fun hc => ?_) (fun hc => ?_) | refine HC.cond_b rfl (fun hc => ?_) (fun hc => ?_))
    refine HL.one (H1.call0 (vs := [_]) rfl rfl (fun w' hM => pending_fn (hM.blk (b := bd) memA)) ?_)
    rw [hp0]
    repeat' (first | refine HL.pa ?_ (POp.pneN rfl rfl) | refine HL.pa ?_ (POp.pnil1 rfl rfl) | refine HL.pa ?_ (POp.pnil0 rfl rfl) | refine HL.pa ?_ (POp.nilCheck rfl) | apply HL.fold | apply HA.fold | apply HL.nil | apply HX.n_then | apply HC.seq | apply HC.region | refine HL.pa ?_ | refine HL.ga rfl ?_ | refine HL.na rfl ?_ | refine HL.nu rfl rfl ?_ | apply HC.block | apply HC.skip | apply HC.exit | apply HC.ret | apply HX.e_block | refine HX.e_other rfl ?_ | apply HX.e_then | apply HX.e_again | apply HX.n_block | apply HX.r_then | apply HX.r_block | apply HX.r_again | refine HC.cond_yes rfl ?_ | refine HC.cond_no rfl ?_ | refine HL.one (H1.ldb rfl memA rfl rfl ?_) | refine HC.cond rfl (fun hc => ?_) (fun hc => ?_) | refine HC.cond_b rfl (fun hc => ?_) (fun hc => ?_))
    refine HL.one (H1.callx (u := .string (mkBA k4.vis)) (vs := [_]) rfl rfl (fun w' hM => by
      have := content26_fn (hM.blk (b := bd) memA) (hM.blk (b := b2) memA) hk4
      rw [ho1] at this
      exact this) ?_)
    have hms : (mkBA k4.vis).size = N := by show k4.vis.toArray.size = N; rw [List.size_toArray, hvl]
    repeat' (first | refine HL.pa ?_ (POp.pneN rfl rfl) | refine HL.pa ?_ (POp.pnil1 rfl rfl) | refine HL.pa ?_ (POp.pnil0 rfl rfl) | refine HL.pa ?_ (POp.nilCheck rfl) | apply HL.fold | apply HA.fold | apply HL.nil | apply HX.n_then | apply HC.seq | apply HC.region | refine HL.pa ?_ | refine HL.ga rfl ?_ | refine HL.na rfl ?_ | refine HL.nu rfl rfl ?_ | apply HC.block | apply HC.skip | apply HC.exit | apply HC.ret | apply HX.e_block | refine HX.e_other rfl ?_ | apply HX.e_then | apply HX.e_again | apply HX.n_block | apply HX.r_then | apply HX.r_block | apply HX.r_again | refine HC.cond_yes rfl ?_ | refine HC.cond_no rfl ?_ | refine HL.one (H1.ldb rfl memA rfl rfl ?_) | refine HC.cond rfl (fun hc => ?_) (fun hc => ?_) | refine HC.cond_b rfl (fun hc => ?_) (fun hc => ?_))
    refine HL.one (H1.call0 (vs := [_]) rfl rfl (fun w' hM => size26_fn n hn1 hn2 w') ?_)
    rw [← hN]
    repeat' (first | refine HL.pa ?_ (POp.pneN rfl rfl) | refine HL.pa ?_ (POp.pnil1 rfl rfl) | refine HL.pa ?_ (POp.pnil0 rfl rfl) | refine HL.pa ?_ (POp.nilCheck rfl) | apply HL.fold | apply HA.fold | apply HL.nil | apply HX.n_then | apply HC.seq | apply HC.region | refine HL.pa ?_ | refine HL.ga rfl ?_ | refine HL.na rfl ?_ | refine HL.nu rfl rfl ?_ | apply HC.block | apply HC.skip | apply HC.exit | apply HC.ret | apply HX.e_block | refine HX.e_other rfl ?_ | apply HX.e_then | apply HX.e_again | apply HX.n_block | apply HX.r_then | apply HX.r_block | apply HX.r_again | refine HC.cond_yes rfl ?_ | refine HC.cond_no rfl ?_ | refine HL.one (H1.ldb rfl memA rfl rfl ?_) | refine HC.cond rfl (fun hc => ?_) (fun hc => ?_) | refine HC.cond_b rfl (fun hc => ?_) (fun hc => ?_))
    exact HX.ret1 rfl rfl fun w' hM => ⟨by rw [hms, decide_eq_true rfl], hM.ext⟩
  refine HC.block ?_
  refine HC.loop (α := Nat × (Jn × List ByteArray) × (Option Addr × Nat) × (Option Addr × Nat)) (fun z => [(0, zv n), (1, .slice a0 GG.length c0), (5, .bool true), (6, .pointer (some ⟨bd, 0, none⟩)), (8, .pointer (some ⟨bj, 0, none⟩)), (10, zv (z.1 : Int))])
    (fun z => jnlH bj bd b1 b2 z.2.2.1.1 z.2.2.1.2 z.2.2.2.1 z.2.2.2.2 z.2.1.1 []) (fun z => z.1 ≤ GG.length ∧ z.1 ≤ 8 ∧ Clean z.2.1.1 N z.2.1.2 ∧ z.2.1.2.length ≤ 6 * z.1 ∧ ∀ r ∈ z.2.1.2, r.size ≤ 100) (fun z => 8 - z.1)
    (0, (⟨t00, newK N, false⟩, []), (a, c), (pa, pc)) ⟨Nat.zero_le _, Nat.zero_le _, h0, Nat.le_refl _, fun _ h => by cases h⟩ esA (Hs.refl _) ?_
  rintro ⟨i, ⟨j, l⟩, ⟨a, c⟩, ⟨pa, pc⟩⟩ ⟨hi, h8, hc, hll, hrs⟩
  dsimp only at hi h8 hc hll hrs ⊢
  by_cases hlt : i < GG.length ∧ i < 8
  · obtain ⟨hlt, hl8⟩ := hlt
    obtain ⟨b, off, hab, hcell⟩ : ∃ b off, a0 = some ⟨b, off, none⟩ ∧ w.cell? ⟨b, off + i, none⟩ = some (hV i) := by
      obtain ⟨a', c', h1, h2, h3⟩ := hR.1
      injection h1 with h1 _ _
      subst h1
      rcases h3 with h3 | ⟨b, off, h4, -, h5⟩
      · rw [h3] at hrl; simp at hrl; omega
      · exact ⟨b, off, h4, h5 i (hV i) (by simp [hlt])⟩
    subst hab
    have hsl := hs i hlt
    have hRi := hR.2 i hlt
    generalize GG[i] = gi at hsl hRi
    obtain ⟨G, hGd⟩ : ∃ G, G = few26 gi := ⟨_, rfl⟩
    have hneed := few_need2 gi
    have hlong := few_long2 gi
    have hlen := few26_len gi
    have hsz := few26_size gi
    rw [← hGd] at hneed hlong hlen hsz
    obtain ⟨e1, j1, l1, hap, hc1, hl1⟩ := hc.step hlong
    repeat' (first | refine HL.pa ?_ (POp.pneN rfl rfl) | refine HL.pa ?_ (POp.pnil1 rfl rfl) | refine HL.pa ?_ (POp.pnil0 rfl rfl) | refine HL.pa ?_ (POp.nilCheck rfl) | apply HL.fold | apply HA.fold | apply HL.nil | apply HX.n_then | apply HC.seq | apply HC.region | refine HL.pa ?_ | refine HL.ga rfl ?_ | refine HL.na rfl ?_ | refine HL.nu rfl rfl ?_ | apply HC.block | apply HC.skip | apply HC.exit | apply HC.ret | apply HX.e_block | refine HX.e_other rfl ?_ | apply HX.e_then | apply HX.e_again | apply HX.n_block | apply HX.r_then | apply HX.r_block | apply HX.r_again | refine HC.cond_yes rfl ?_ | refine HC.cond_no rfl ?_ | refine HL.one (H1.ldb rfl memA rfl rfl ?_) | refine HC.cond rfl (fun hc => ?_) (fun hc => ?_) | refine HC.cond_b rfl (fun hc => ?_) (fun hc => ?_))
    refine HL.one (H1.ld0 rfl hcell rfl ?_)
    repeat' (first | refine HL.pa ?_ (POp.pneN rfl rfl) | refine HL.pa ?_ (POp.pnil1 rfl rfl) | refine HL.pa ?_ (POp.pnil0 rfl rfl) | refine HL.pa ?_ (POp.nilCheck rfl) | apply HL.fold | apply HA.fold | apply HL.nil | apply HX.n_then | apply HC.seq | apply HC.region | refine HL.pa ?_ | refine HL.ga rfl ?_ | refine HL.na rfl ?_ | refine HL.nu rfl rfl ?_ | apply HC.block | apply HC.skip | apply HC.exit | apply HC.ret | apply HX.e_block | refine HX.e_other rfl ?_ | apply HX.e_then | apply HX.e_again | apply HX.n_block | apply HX.r_then | apply HX.r_block | apply HX.r_again | refine HC.cond_yes rfl ?_ | refine HC.cond_no rfl ?_ | refine HL.one (H1.ldb rfl memA rfl rfl ?_) | refine HC.cond rfl (fun hc => ?_) (fun hc => ?_) | refine HC.cond_b rfl (fun hc => ?_) (fun hc => ?_))
    refine HL.one (H1.callz (vs := [_]) rfl rfl (fun w' hM => few26_fn (hV i) gi hsl.1 hsl.2 w' (hRi.ext hM.ext)) ?_)
    rw [← hGd]
    rintro ⟨a9, c9⟩ -
    dsimp only
    repeat' (first | refine HL.pa ?_ (POp.pneN rfl rfl) | refine HL.pa ?_ (POp.pnil1 rfl rfl) | refine HL.pa ?_ (POp.pnil0 rfl rfl) | refine HL.pa ?_ (POp.nilCheck rfl) | apply HL.fold | apply HA.fold | apply HL.nil | apply HX.n_then | apply HC.seq | apply HC.region | refine HL.pa ?_ | refine HL.ga rfl ?_ | refine HL.na rfl ?_ | refine HL.nu rfl rfl ?_ | apply HC.block | apply HC.skip | apply HC.exit | apply HC.ret | apply HX.e_block | refine HX.e_other rfl ?_ | apply HX.e_then | apply HX.e_again | apply HX.n_block | apply HX.r_then | apply HX.r_block | apply HX.r_again | refine HC.cond_yes rfl ?_ | refine HC.cond_no rfl ?_ | refine HL.one (H1.ldb rfl memA rfl rfl ?_) | refine HC.cond rfl (fun hc => ?_) (fun hc => ?_) | refine HC.cond_b rfl (fun hc => ?_) (fun hc => ?_))
    refine HL.mem (jnlH bj bd b1 b2 a c pa pc j [A.grow 9 1 a9 c9 G.length (strs G)]) (Hs.cons (Pick.there Pick.here) (Hs.cons (Pick.there Pick.here) (Hs.cons (Pick.there Pick.here) (Hs.cons (Pick.there Pick.here) (Hs.cons (Pick.there Pick.here) (Hs.cons (Pick.there Pick.here) (Hs.refl _))))))) ?_
    refine HL.one (H1.callk (α := (Option Addr × Nat) × (Option Addr × Nat)) (V := fun _ => zv e1) (I := fun _ => True) (H' := fun q => jnlH bj bd b1 b2 q.1.1 q.1.2 q.2.1 q.2.2 j1 [A.grow 9 1 a9 c9 G.length (strs G)]) (vs := [_, _]) rfl rfl
      (fun w' hM => appendG_fn hap hG hM (.head _) (hc.jok (by omega)) (by omega) (fun _ => by rw [outsL_need]; omega)) ?_)
    rintro ⟨⟨a2, c2⟩, ⟨pa2, pc2⟩⟩ -
    dsimp only
    repeat' (first | refine HL.pa ?_ (POp.pneN rfl rfl) | refine HL.pa ?_ (POp.pnil1 rfl rfl) | refine HL.pa ?_ (POp.pnil0 rfl rfl) | refine HL.pa ?_ (POp.nilCheck rfl) | apply HL.fold | apply HA.fold | apply HL.nil | apply HX.n_then | apply HC.seq | apply HC.region | refine HL.pa ?_ | refine HL.ga rfl ?_ | refine HL.na rfl ?_ | refine HL.nu rfl rfl ?_ | apply HC.block | apply HC.skip | apply HC.exit | apply HC.ret | apply HX.e_block | refine HX.e_other rfl ?_ | apply HX.e_then | apply HX.e_again | apply HX.n_block | apply HX.r_then | apply HX.r_block | apply HX.r_again | refine HC.cond_yes rfl ?_ | refine HC.cond_no rfl ?_ | refine HL.one (H1.ldb rfl memA rfl rfl ?_) | refine HC.cond rfl (fun hc => ?_) (fun hc => ?_) | refine HC.cond_b rfl (fun hc => ?_) (fun hc => ?_))
    refine HX.again (i + 1, (j1, l1), (a2, c2), (pa2, pc2)) ⟨hlt, hl8, hc1, ?_, ?_⟩ (by show 8 - (i + 1) < 8 - i; omega) esA (Hs.cons Pick.here (Hs.cons Pick.here (Hs.cons Pick.here (Hs.cons Pick.here (Hs.cons Pick.here (Hs.cons Pick.here (Hs.refl _).skip))))))
    · show l1.length ≤ 6 * (i + 1)
      rcases hl1 with rfl | rfl
      · rw [List.length_append]; omega
      · omega
    · show ∀ r ∈ l1, r.size ≤ 100
      rcases hl1 with rfl | rfl
      · intro r hr
        rcases List.mem_append.1 hr with hr | hr
        · exact hrs r hr
        · exact hsz r hr
      · exact hrs
  · by_cases hin : i < GG.length
    · have hn8 : ¬ i < 8 := fun h => hlt ⟨hin, h⟩
      repeat' (first | refine HL.pa ?_ (POp.pneN rfl rfl) | refine HL.pa ?_ (POp.pnil1 rfl rfl) | refine HL.pa ?_ (POp.pnil0 rfl rfl) | refine HL.pa ?_ (POp.nilCheck rfl) | apply HL.fold | apply HA.fold | apply HL.nil | apply HX.n_then | apply HC.seq | apply HC.region | refine HL.pa ?_ | refine HL.ga rfl ?_ | refine HL.na rfl ?_ | refine HL.nu rfl rfl ?_ | apply HC.block | apply HC.skip | apply HC.exit | apply HC.ret | apply HX.e_block | refine HX.e_other rfl ?_ | apply HX.e_then | apply HX.e_again | apply HX.n_block | apply HX.r_then | apply HX.r_block | apply HX.r_again | refine HC.cond_yes rfl ?_ | refine HC.cond_no rfl ?_ | refine HL.one (H1.ldb rfl memA rfl rfl ?_) | refine HC.cond rfl (fun hc => ?_) (fun hc => ?_) | refine HC.cond_b rfl (fun hc => ?_) (fun hc => ?_))
      exact HX.cut ((j, l), (a, c), (pa, pc)) ⟨hc, by show l.length ≤ 48; omega, hrs⟩ esA (Hs.refl _)
    · repeat' (first | refine HL.pa ?_ (POp.pneN rfl rfl) | refine HL.pa ?_ (POp.pnil1 rfl rfl) | refine HL.pa ?_ (POp.pnil0 rfl rfl) | refine HL.pa ?_ (POp.nilCheck rfl) | apply HL.fold | apply HA.fold | apply HL.nil | apply HX.n_then | apply HC.seq | apply HC.region | refine HL.pa ?_ | refine HL.ga rfl ?_ | refine HL.na rfl ?_ | refine HL.nu rfl rfl ?_ | apply HC.block | apply HC.skip | apply HC.exit | apply HC.ret | apply HX.e_block | refine HX.e_other rfl ?_ | apply HX.e_then | apply HX.e_again | apply HX.n_block | apply HX.r_then | apply HX.r_block | apply HX.r_again | refine HC.cond_yes rfl ?_ | refine HC.cond_no rfl ?_ | refine HL.one (H1.ldb rfl memA rfl rfl ?_) | refine HC.cond rfl (fun hc => ?_) (fun hc => ?_) | refine HC.cond_b rfl (fun hc => ?_) (fun hc => ?_))
      exact HX.cut ((j, l), (a, c), (pa, pc)) ⟨hc, by show l.length ≤ 48; omega, hrs⟩ esA (Hs.refl _)
end Go.Sx

