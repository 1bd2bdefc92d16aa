/- Chapter 26: the calls as the laws make them. -/
import Derived.Test.YtlihcenahjgnmaaGreatDoorJN
namespace Go.Sx
open Go Go.Proofs Go.RowKit
/-- What the walks ask of a journal. -/
structure JOk (j : Jn) : Prop where
  k : j.k.Ok
  pend : j.k.pend.length ≤ 9000
  fit : j.t.size ≤ j.k.dur.length
  recs : j.t.recs.length ≤ 90000
  head : j.t.head.size ≤ 32
theorem Clean.jok {j : Jn} {n : Nat} {l : List ByteArray} (h : Clean j n l) (hl : l.length ≤ 90000) : JOk j :=
  ⟨h.ok, by rw [h.pend]; exact Nat.zero_le _, by rw [h.dur, h.len]; exact h.fit, by rw [h.recs]; exact hl, by rw [h.t]; exact adds_head _ _ (Nat.le_refl _)⟩
attribute [local irreducible] WC WL WX POp Then Again Fn NX W1 WA WO QL RP RA Yld LoopAt HC HL HX HN H1 HA HO HQ HB HP A.blk A.grow A.rd A.obj A.mp AgainH CutH
theorem room2_fn {w : World} {bj bd b1 b2 c pc : Nat} {a pa : Option Addr} {t : Tp} {k : Dk} {br : Bool} (hb : Blk w bj (tpC a c t (jnR bd br)) 74) (hd : Blk w bd (dkC b1 b2 pa pc k) 97) (hk : k.Ok) (ht : t.size ≤ k.dur.length) :
    Fn Tryz.prog 20 #[.pointer (some ⟨bj, 0, none⟩)] w fun v w' => v = zv ((k.dur.length : Int) - (t.size : Int)) ∧ Ext w w' := by
  have hhi := hk.hi
  refine enterH (l := [_]) rfl Tryz.ntmps20 rfl ?_
  repeat' (first | refine HL.pa ?_ (POp.pnil1 rfl rfl) | refine HL.pa ?_ (POp.pnil0 rfl rfl) | refine HL.pa ?_ (POp.nilCheck rfl) | apply HL.fold | apply HA.fold | apply HL.nil | apply HX.n_then | apply HC.seq | apply HC.region | refine HL.pa ?_ | refine HL.ga rfl ?_ | refine HL.na rfl ?_ | refine HL.nu rfl rfl ?_ | apply HC.block | apply HC.skip | apply HC.exit | apply HC.ret | apply HX.e_block | refine HX.e_other rfl ?_ | apply HX.e_then | apply HX.e_again | apply HX.n_block | apply HX.r_then | apply HX.r_block | apply HX.r_again | refine HC.cond_yes rfl ?_ | refine HC.cond_no rfl ?_ | refine HL.one (H1.ldb rfl memA rfl rfl ?_) | refine HC.cond rfl (fun hc => ?_) (fun hc => ?_) | refine HC.cond_b rfl (fun hc => ?_) (fun hc => ?_))
  refine HC.anyC ([(⟨bj, 3, none⟩, .pointer (some ⟨bd, 0, none⟩)), (⟨bj, 2, none⟩, zv (t.size : Int))]) rfl ?_
  refine HB.pa 0 rfl ?_
  refine HB.pa 1 rfl ?_ (POp.nilCheck rfl)
  refine HB.pa 2 rfl ?_
  refine HB.ld 3 rfl rfl memD ?_
  refine HB.pa 5 rfl ?_
  refine HB.pa 6 rfl ?_ (POp.nilCheck rfl)
  refine HB.pa 7 rfl ?_
  refine HB.pa 8 rfl ?_
  refine HB.ld 9 rfl rfl memD ?_
  refine HB.all (by (exact Keep.base (hb.cell rfl) (Keep.base (hb.cell rfl) Keep.nil))) [4] (by kernel_rfl) rfl ⟨⟨_, rfl, ?_⟩, trivial⟩
  refine HP.one ?_
  refine H1.call0 (vs := [_]) rfl rfl (fun w' hM => dsize_fn (blk_ext hd hM.ext)) ?_
  apply HB.fold
  refine HB.pa 10 rfl ?_
  refine HB.pa 11 rfl ?_
  refine HB.done (by (exact Keep.base (hb.cell rfl) (Keep.base (hb.cell rfl) Keep.nil))) (by kernel_rfl) ?_
  repeat' (first | refine HL.pa ?_ (POp.pnil1 rfl rfl) | refine HL.pa ?_ (POp.pnil0 rfl rfl) | refine HL.pa ?_ (POp.nilCheck rfl) | apply HL.fold | apply HA.fold | apply HL.nil | apply HX.n_then | apply HC.seq | apply HC.region | refine HL.pa ?_ | refine HL.ga rfl ?_ | refine HL.na rfl ?_ | refine HL.nu rfl rfl ?_ | apply HC.block | apply HC.skip | apply HC.exit | apply HC.ret | apply HX.e_block | refine HX.e_other rfl ?_ | apply HX.e_then | apply HX.e_again | apply HX.n_block | apply HX.r_then | apply HX.r_block | apply HX.r_again | refine HC.cond_yes rfl ?_ | refine HC.cond_no rfl ?_ | refine HL.one (H1.ldb rfl memA rfl rfl ?_) | refine HC.cond rfl (fun hc => ?_) (fun hc => ?_) | refine HC.cond_b rfl (fun hc => ?_) (fun hc => ?_))
  exact HX.ret1 rfl rfl fun w' hM => ⟨rfl, hM.ext⟩
theorem records2_fn {w : World} {bj bd c : Nat} {a : Option Addr} {t : Tp} {br : Bool} (hb : Blk w bj (tpC a c t (jnR bd br)) 74) (hR : Rd w (.slice a t.recs.length c) (strs t.recs)) (hl : t.recs.length ≤ 1000000) :
    Fn Tryz.prog 19 #[.pointer (some ⟨bj, 0, none⟩)] w fun v w' => ∃ z : Option Addr × Nat, True ∧ v = .slice z.1 t.recs.length z.2 ∧ Mm w [A.grow 9 1 z.1 z.2 t.recs.length (strs t.recs)] w' := by
  refine enterH (l := [_]) rfl Tryz.ntmps19 rfl ?_
  repeat' (first | refine HL.pa ?_ (POp.pnil1 rfl rfl) | refine HL.pa ?_ (POp.pnil0 rfl rfl) | refine HL.pa ?_ (POp.nilCheck rfl) | apply HL.fold | apply HA.fold | apply HL.nil | apply HX.n_then | apply HC.seq | apply HC.region | refine HL.pa ?_ | refine HL.ga rfl ?_ | refine HL.na rfl ?_ | refine HL.nu rfl rfl ?_ | apply HC.block | apply HC.skip | apply HC.exit | apply HC.ret | apply HX.e_block | refine HX.e_other rfl ?_ | apply HX.e_then | apply HX.e_again | apply HX.n_block | apply HX.r_then | apply HX.r_block | apply HX.r_again | refine HC.cond_yes rfl ?_ | refine HC.cond_no rfl ?_ | refine HL.one (H1.ldb rfl memA rfl rfl ?_) | refine HC.cond rfl (fun hc => ?_) (fun hc => ?_) | refine HC.cond_b rfl (fun hc => ?_) (fun hc => ?_))
  refine HL.one (H1.ld0 rfl (hb.cell rfl) rfl ?_)
  repeat' (first | refine HL.pa ?_ (POp.pnil1 rfl rfl) | refine HL.pa ?_ (POp.pnil0 rfl rfl) | refine HL.pa ?_ (POp.nilCheck rfl) | apply HL.fold | apply HA.fold | apply HL.nil | apply HX.n_then | apply HC.seq | apply HC.region | refine HL.pa ?_ | refine HL.ga rfl ?_ | refine HL.na rfl ?_ | refine HL.nu rfl rfl ?_ | apply HC.block | apply HC.skip | apply HC.exit | apply HC.ret | apply HX.e_block | refine HX.e_other rfl ?_ | apply HX.e_then | apply HX.e_again | apply HX.n_block | apply HX.r_then | apply HX.r_block | apply HX.r_again | refine HC.cond_yes rfl ?_ | refine HC.cond_no rfl ?_ | refine HL.one (H1.ldb rfl memA rfl rfl ?_) | refine HC.cond rfl (fun hc => ?_) (fun hc => ?_) | refine HC.cond_b rfl (fun hc => ?_) (fun hc => ?_))
  refine HL.one (H1.callz (vs := [_]) rfl rfl (fun w' hM' => cloneS_fn _ t.recs hl w' (hR.ext hM'.ext)) ?_)
  rintro ⟨a', c'⟩ -
  repeat' (first | refine HL.pa ?_ (POp.pnil1 rfl rfl) | refine HL.pa ?_ (POp.pnil0 rfl rfl) | refine HL.pa ?_ (POp.nilCheck rfl) | apply HL.fold | apply HA.fold | apply HL.nil | apply HX.n_then | apply HC.seq | apply HC.region | refine HL.pa ?_ | refine HL.ga rfl ?_ | refine HL.na rfl ?_ | refine HL.nu rfl rfl ?_ | apply HC.block | apply HC.skip | apply HC.exit | apply HC.ret | apply HX.e_block | refine HX.e_other rfl ?_ | apply HX.e_then | apply HX.e_again | apply HX.n_block | apply HX.r_then | apply HX.r_block | apply HX.r_again | refine HC.cond_yes rfl ?_ | refine HC.cond_no rfl ?_ | refine HL.one (H1.ldb rfl memA rfl rfl ?_) | refine HC.cond rfl (fun hc => ?_) (fun hc => ?_) | refine HC.cond_b rfl (fun hc => ?_) (fun hc => ?_))
  exact HX.ret1 rfl rfl fun w' hM => ⟨(a', c'), trivial, rfl, hM⟩
theorem jopen_ok {w0 w : World} {H : List Atom} {bd b1 b2 pc : Nat} {pa : Option Addr} {k k' : Dk} {t : Tp} {ea : Addr} (h : openF k = (0, k', some t)) (hG : RoundG w0) (hE : ErrG ea w0) (hM : Mm w0 (dkH bd b1 b2 pa pc k H) w) (hk : k.Ok) (hp : k.pend.length ≤ 9000) :
    Fn Tryz.prog 25 #[.pointer (some ⟨bd, 0, none⟩)] w fun v w' => ∃ z : Nat × (Option Addr × Nat) × (Option Addr × Nat), True ∧ v = .tuple #[.pointer (some ⟨z.1, 0, none⟩), zv 0] ∧ Mm w0 (jnlH z.1 bd b1 b2 z.2.1.1 z.2.1.2 z.2.2.1 z.2.2.2 ⟨t, k', false⟩ H) w' :=
  (jopen_fn hG hE hM hk (by omega)).mono fun v w2 h1 => by
    rw [h] at h1
    obtain ⟨z, h2, h3⟩ := h1
    exact ⟨z, trivial, h2, h3⟩
theorem jopen_no {w0 w : World} {H : List Atom} {bd b1 b2 pc : Nat} {pa : Option Addr} {k k' : Dk} {e : Int} {ea : Addr} (h : openF k = (e, k', none)) (hG : RoundG w0) (hE : ErrG ea w0) (hM : Mm w0 (dkH bd b1 b2 pa pc k H) w) (hk : k.Ok) (hp : k.pend.length ≤ 9000) :
    Fn Tryz.prog 25 #[.pointer (some ⟨bd, 0, none⟩)] w fun v w' => ∃ q : Option Addr × Nat, True ∧ v = .tuple #[.pointer none, zv e] ∧ Mm w0 (dkH bd b1 b2 q.1 q.2 k' H) w' :=
  (jopen_fn hG hE hM hk (by omega)).mono fun v w2 h1 => by
    rw [h] at h1
    obtain ⟨z, h2, h3⟩ := h1
    exact ⟨z, trivial, h2, h3⟩
/-- Append of strings that stand in a block. -/
theorem appendB_fn {w0 w : World} {H : List Atom} {bj bd b1 b2 b9 c pc : Nat} {a pa : Option Addr} {j : Jn} {g : List ByteArray} {r : Int × Jn} (hr : j.append g = r) (hG : RoundG w0) (hM : Mm w0 (A.blk b9 (strs g) 9 :: jnlH bj bd b1 b2 a c pa pc j H) w) (hj : JOk j) (hg : g.length ≤ 1000) (hb : g.any isLong = false → (outsL j.t.head g).length ≤ 900000) :
    Fn Tryz.prog 10 #[.pointer (some ⟨bj, 0, none⟩), .slice (some ⟨b9, 0, none⟩) g.length g.length] w fun v w' => ∃ q : (Option Addr × Nat) × (Option Addr × Nat), True ∧ v = zv r.1 ∧ Mm w0 (jnlH bj bd b1 b2 q.1.1 q.1.2 q.2.1 q.2.2 r.2 H) w' := by
  subst hr
  have h := append_fn (H := A.blk b9 (strs g) 9 :: H) (v := .slice (some ⟨b9, 0, none⟩) g.length g.length) (l := g) hG
    (hM.sub (Hs.cons (Pick.there Pick.here) (Hs.cons (Pick.there Pick.here) (Hs.cons (Pick.there Pick.here) (Hs.cons (Pick.there Pick.here) (Hs.cons (Pick.there Pick.here) (Hs.cons (Pick.there Pick.here) (Hs.refl _))))))))
    (fun H1 w' hs hM' => blk_rd (hM'.blk (e := 9) (hs _ (.head _))) (by simp [strs])) hj.k (by have := hj.pend; omega) hj.fit (by have := hj.recs; omega) hj.head (by omega) hb
  exact h.mono fun v w2 h1 => by
    obtain ⟨q, h2, h3, h4⟩ := h1
    exact ⟨q, trivial, h3, h4.sub (Hs.cons Pick.here (Hs.cons Pick.here (Hs.cons Pick.here (Hs.cons Pick.here (Hs.cons Pick.here (Hs.cons Pick.here (Hs.refl _).skip))))))⟩
/-- Append of strings that stand in a slice of the caller's own, which stays. -/
theorem appendG_fn {w0 w : World} {H : List Atom} {bj bd b1 b2 c c9 pc : Nat} {a a9 pa : Option Addr} {j : Jn} {g : List ByteArray} {r : Int × Jn} (hr : j.append g = r) (hG : RoundG w0) (hM : Mm w0 (jnlH bj bd b1 b2 a c pa pc j H) w) (hm : A.grow 9 1 a9 c9 g.length (strs g) ∈ H) (hj : JOk j) (hg : g.length ≤ 1000) (hb : g.any isLong = false → (outsL j.t.head g).length ≤ 900000) :
    Fn Tryz.prog 10 #[.pointer (some ⟨bj, 0, none⟩), .slice a9 g.length c9] w fun v w' => ∃ q : (Option Addr × Nat) × (Option Addr × Nat), True ∧ v = zv r.1 ∧ Mm w0 (jnlH bj bd b1 b2 q.1.1 q.1.2 q.2.1 q.2.2 r.2 H) w' := by
  subst hr
  exact append_fn (v := .slice a9 g.length c9) (l := g) hG hM (fun H1 w' hs hM' => Mm.gr (e := 9) hM' (hs _ hm)) hj.k (by have := hj.pend; omega) hj.fit (by have := hj.recs; omega) hj.head (by omega) hb
/-- Append of nothing. -/
theorem append0_fn {w0 w : World} {H : List Atom} {bj bd b1 b2 c pc : Nat} {a pa : Option Addr} {j : Jn} {r : Int × Jn} (hr : j.append [] = r) (hG : RoundG w0) (hM : Mm w0 (jnlH bj bd b1 b2 a c pa pc j H) w) (hj : JOk j) :
    Fn Tryz.prog 10 #[.pointer (some ⟨bj, 0, none⟩), .slice none 0 0] w fun v w' => ∃ q : (Option Addr × Nat) × (Option Addr × Nat), True ∧ v = zv r.1 ∧ Mm w0 (jnlH bj bd b1 b2 q.1.1 q.1.2 q.2.1 q.2.2 r.2 H) w' := by
  subst hr
  exact append_fn (v := .slice none 0 0) (l := []) hG hM (fun H1 w' hs hM' => ⟨none, 0, rfl, Nat.le_refl _, .inl rfl⟩) hj.k (by have := hj.pend; omega) hj.fit (by have := hj.recs; omega) hj.head (by simp) (fun _ => Nat.zero_le _)
end Go.Sx
/- Chapter 26: the fixed examples: the walk. -/
namespace Go.Sx
open Go Go.Proofs Go.RowKit
def sg1 : List ByteArray := [ByteArray.mk #[97, 98], ByteArray.mk #[]]
def sz (n : Nat) : ByteArray := mkBA (List.replicate n 0)
theorem sz_size (n : Nat) : (sz n).size = n := by show (List.replicate n (0 : UInt8)).toArray.size = n; rw [List.size_toArray, List.length_replicate]
theorem need1 : needL sg1 = 70 := by
  unfold needL sg1
  simp only [List.map_cons, List.map_nil, List.sum_cons, List.sum_nil, strN_len]
  rw [show (ByteArray.mk #[97, 98]).size = 2 from rfl, show (ByteArray.mk #[]).size = 0 from rfl, putN_1 (by decide), putN_1 (by decide)]
  rfl
theorem need96 : needL [sz 96] = 131 := by
  unfold needL
  simp only [List.map_cons, List.map_nil, List.sum_cons, List.sum_nil, strN_len, sz_size]
  rw [putN_2 (by decide) (by decide)]
  rfl
theorem need95 : needL [sz 95] = 130 := by
  unfold needL
  simp only [List.map_cons, List.map_nil, List.sum_cons, List.sum_nil, strN_len, sz_size]
  rw [putN_2 (by decide) (by decide)]
  rfl
theorem long1 : ∀ r ∈ sg1, r.size ≤ 65536 := by
  intro r hr
  rcases List.mem_cons.1 hr with rfl | hr
  · decide
  rcases List.mem_cons.1 hr with rfl | hr
  · decide
  · cases hr
theorem long_sz {n : Nat} (h : n ≤ 65536) : ∀ r ∈ [sz n], r.size ≤ 65536 := by
  intro r hr
  rcases List.mem_cons.1 hr with rfl | hr
  · rw [sz_size]; exact h
  · cases hr
theorem Clean.size {j : Jn} {n : Nat} {l : List ByteArray} (h : Clean j n l) : j.t.size = needL l := by rw [h.t, adds0_size, outsL_need]
theorem needL_app (l m : List ByteArray) : needL (l ++ m) = needL l + needL m := by unfold needL; rw [List.map_append, List.sum_append]
theorem sane_plain : ∃ j1 j2 : Jn, Clean j1 200 sg1 ∧ Clean j2 200 (sg1 ++ [sz 95]) ∧ (⟨t00, newK 200, false⟩ : Jn).append sg1 = (0, j1) ∧ j1.append [sz 96] = (261, j1) ∧ j1.append [sz 95] = (0, j2) ∧ j1.t.size = 70 ∧ j2.t.size = 200 := by
  have h0 := clean0 (n := 200) (by decide) (by decide)
  obtain ⟨j1, e1, h1⟩ := h0.app (not_long long1) (by rw [outsL_need, need1]; decide)
  rw [List.nil_append] at h1
  have s1 : j1.t.size = 70 := by rw [h1.size, need1]
  obtain ⟨j2, e2, h2⟩ := h1.app (not_long (long_sz (n := 95) (by decide))) (by rw [outsL_need, need95, s1]; decide)
  have s2 : j2.t.size = 200 := by rw [h2.size, needL_app, need1, need95]
  exact ⟨j1, j2, h1, h2, e1, h1.full (not_long (long_sz (by decide))) (by rw [outsL_need, need96, s1]; decide), e2, s1, s2⟩
theorem put_vis {k : Dk} {off : Nat} {s : ByteArray} (ho : k.off = false) (hl : k.left = 0) (hf : off + s.size ≤ k.dur.length) : k.write off s = (0, ⟨false, 0, k.dur, splice k.vis off s.data.toList, k.pend ++ [(off, s)]⟩) := by
  rw [Dk.write_on ho hf]
  show (0, Dk.used _) = _
  rw [used_zero (k := ⟨k.off, k.left, k.dur, splice k.vis off s.data.toList, k.pend ++ [(off, s)]⟩) hl, ho, hl]
/-- A first byte that is neither 0 nor 1. -/
theorem bad_first {k : Dk} (ho : k.off = false) (h : ∃ r, k.vis = 2 :: r) : openF k = (262, k, none) := by
  obtain ⟨r, hr⟩ := h
  refine openF_bad ho (loadF_bad ⟨?_, ?_⟩ ?_)
  · rw [hr]; exact Nat.zero_lt_succ _
  · rw [hr]; show (2 : UInt8) ≠ 0; decide
  · rw [hr]; show (2 : UInt8) ≠ 1; decide
theorem fr_sg1 : fr (sg1 ++ [sz 95]) 0 = ByteArray.mk #[97, 98] := rfl
theorem rec3 : (sg1 ++ [sz 95]).length = 3 := rfl
theorem HN.openg2 {N : Nat} {ds : List Deferred} {K : Act → World → Prop} {E : Env} {w0 : World} {H : List Atom} {e : TypeId} {sz c n : Nat} {a : Option Addr} {xs : List Value} (hm : A.grow e sz a c n xs ∈ H) (hn : n ≠ 0) (h : ∀ b, a = some ⟨b, 0, none⟩ → HN N ds K E w0 H) : HN N ds K E w0 H := fun w hM => by
  rcases (hM.own hm).2 with ⟨-, h0⟩ | ⟨g, cap, cur, hv, -⟩
  · exact absurd h0 hn
  · cases hv; exact h g rfl w hM
attribute [local irreducible] WC WL WX POp Then Again Fn NX W1 WA WO QL RP RA Yld LoopAt HC HL HX HN H1 HA HO HQ HB HP A.blk A.grow A.rd A.obj A.mp AgainH CutH
attribute [local irreducible] newK
set_option maxHeartbeats 4000000 in
theorem sane26_fn {w : World} {ea : Addr} (hG : RoundG w) (hE : ErrG ea w) : Fn Tryz.prog 8 #[] w fun v w' => v = .bool true ∧ Ext w w' := by
  obtain ⟨j1, j2, h1, h2, e1, e2, e3, s1, s2⟩ := sane_plain
  have h0 := clean0 (n := 200) (by decide) (by decide)
  have hz : (newK 200).dur.length = 200 := by have := h0.len; rw [← h0.dur] at this; exact this
  have ht0 : t00.size = 0 := rfl
  have hr0 : t00.recs.length = 0 := rfl
  have hd1 : j1.k.dur.length = 200 := by rw [h1.dur, h1.len]
  have hd2 : j2.k.dur.length = 200 := by rw [h2.dur, h2.len]
  refine enterH (l := []) rfl Tryz.ntmps8 rfl ?_
  repeat' (first | refine HL.pa ?_ (POp.pnil1 rfl rfl) | refine HL.pa ?_ (POp.pnil0 rfl rfl) | refine HL.pa ?_ (POp.nilCheck rfl) | apply HL.fold | apply HA.fold | apply HL.nil | apply HX.n_then | apply HC.seq | apply HC.region | refine HL.pa ?_ | refine HL.ga rfl ?_ | refine HL.na rfl ?_ | refine HL.nu rfl rfl ?_ | apply HC.block | apply HC.skip | apply HC.exit | apply HC.ret | apply HX.e_block | refine HX.e_other rfl ?_ | apply HX.e_then | apply HX.e_again | apply HX.n_block | apply HX.r_then | apply HX.r_block | apply HX.r_again | refine HC.cond_yes rfl ?_ | refine HC.cond_no rfl ?_ | refine HL.one (H1.ldb rfl memA rfl rfl ?_) | refine HC.cond rfl (fun hc => ?_) (fun hc => ?_) | refine HC.cond_b rfl (fun hc => ?_) (fun hc => ?_))
  refine HL.one (H1.callz (vs := [zv 200]) rfl rfl (fun w' hM => new_fn 200 (by decide) (by decide) w') ?_)
  rintro ⟨bd, b1, b2⟩ -
  dsimp only
  repeat' (first | refine HL.pa ?_ (POp.pnil1 rfl rfl) | refine HL.pa ?_ (POp.pnil0 rfl rfl) | refine HL.pa ?_ (POp.nilCheck rfl) | apply HL.fold | apply HA.fold | apply HL.nil | apply HX.n_then | apply HC.seq | apply HC.region | refine HL.pa ?_ | refine HL.ga rfl ?_ | refine HL.na rfl ?_ | refine HL.nu rfl rfl ?_ | apply HC.block | apply HC.skip | apply HC.exit | apply HC.ret | apply HX.e_block | refine HX.e_other rfl ?_ | apply HX.e_then | apply HX.e_again | apply HX.n_block | apply HX.r_then | apply HX.r_block | apply HX.r_again | refine HC.cond_yes rfl ?_ | refine HC.cond_no rfl ?_ | refine HL.one (H1.ldb rfl memA rfl rfl ?_) | refine HC.cond rfl (fun hc => ?_) (fun hc => ?_) | refine HC.cond_b rfl (fun hc => ?_) (fun hc => ?_))
  refine HL.one (H1.callk (α := Nat × (Option Addr × Nat) × (Option Addr × Nat)) (V := fun z => .tuple #[.pointer (some ⟨z.1, 0, none⟩), zv 0]) (I := fun _ => True) (H' := fun z => jnlH z.1 bd b1 b2 z.2.1.1 z.2.1.2 z.2.2.1 z.2.2.2 ⟨t00, newK 200, false⟩ []) (vs := [_]) rfl rfl
    (fun w' hM => jopen_ok (h0.opens (fun _ h => by cases h)) hG hE hM h0.ok (by rw [h0.pend]; exact Nat.zero_le _)) ?_)
  rintro ⟨bj, ⟨a, c⟩, ⟨pa, pc⟩⟩ -
  dsimp only
  repeat' (first | refine HL.pa ?_ (POp.pnil1 rfl rfl) | refine HL.pa ?_ (POp.pnil0 rfl rfl) | refine HL.pa ?_ (POp.nilCheck rfl) | apply HL.fold | apply HA.fold | apply HL.nil | apply HX.n_then | apply HC.seq | apply HC.region | refine HL.pa ?_ | refine HL.ga rfl ?_ | refine HL.na rfl ?_ | refine HL.nu rfl rfl ?_ | apply HC.block | apply HC.skip | apply HC.exit | apply HC.ret | apply HX.e_block | refine HX.e_other rfl ?_ | apply HX.e_then | apply HX.e_again | apply HX.n_block | apply HX.r_then | apply HX.r_block | apply HX.r_again | refine HC.cond_yes rfl ?_ | refine HC.cond_no rfl ?_ | refine HL.one (H1.ldb rfl memA rfl rfl ?_) | refine HC.cond rfl (fun hc => ?_) (fun hc => ?_) | refine HC.cond_b rfl (fun hc => ?_) (fun hc => ?_))
  refine HL.one (H1.callz (vs := [_]) rfl rfl (fun w' hM => records2_fn (bj := bj) (bd := bd) (a := a) (c := c) (t := t00) (br := false) (hM.blk memA) (Mm.gr (e := 9) hM memA) (by decide)) ?_)
  rintro ⟨a', c'⟩ -
  dsimp only
  repeat' (first | refine HL.pa ?_ (POp.pnil1 rfl rfl) | refine HL.pa ?_ (POp.pnil0 rfl rfl) | refine HL.pa ?_ (POp.nilCheck rfl) | apply HL.fold | apply HA.fold | apply HL.nil | apply HX.n_then | apply HC.seq | apply HC.region | refine HL.pa ?_ | refine HL.ga rfl ?_ | refine HL.na rfl ?_ | refine HL.nu rfl rfl ?_ | apply HC.block | apply HC.skip | apply HC.exit | apply HC.ret | apply HX.e_block | refine HX.e_other rfl ?_ | apply HX.e_then | apply HX.e_again | apply HX.n_block | apply HX.r_then | apply HX.r_block | apply HX.r_again | refine HC.cond_yes rfl ?_ | refine HC.cond_no rfl ?_ | refine HL.one (H1.ldb rfl memA rfl rfl ?_) | refine HC.cond rfl (fun hc => ?_) (fun hc => ?_) | refine HC.cond_b rfl (fun hc => ?_) (fun hc => ?_))
  refine HL.mem (jnlH bj bd b1 b2 a c pa pc ⟨t00, newK 200, false⟩ []) (Hs.refl _).skip ?_
  refine HL.one (H1.callx (vs := [_]) rfl rfl (fun w' hM => room2_fn (bj := bj) (bd := bd) (b1 := b1) (b2 := b2) (a := a) (c := c) (pa := pa) (pc := pc) (t := t00) (k := newK 200) (br := false) (hM.blk memA) (hM.blk memA) h0.ok (Nat.zero_le _)) ?_)
  repeat' (first | refine HL.pa ?_ (POp.pnil1 rfl rfl) | refine HL.pa ?_ (POp.pnil0 rfl rfl) | refine HL.pa ?_ (POp.nilCheck rfl) | apply HL.fold | apply HA.fold | apply HL.nil | apply HX.n_then | apply HC.seq | apply HC.region | refine HL.pa ?_ | refine HL.ga rfl ?_ | refine HL.na rfl ?_ | refine HL.nu rfl rfl ?_ | apply HC.block | apply HC.skip | apply HC.exit | apply HC.ret | apply HX.e_block | refine HX.e_other rfl ?_ | apply HX.e_then | apply HX.e_again | apply HX.n_block | apply HX.r_then | apply HX.r_block | apply HX.r_again | refine HC.cond_yes rfl ?_ | refine HC.cond_no rfl ?_ | refine HL.one (H1.ldb rfl memA rfl rfl ?_) | refine HC.cond rfl (fun hc => ?_) (fun hc => ?_) | refine HC.cond_b rfl (fun hc => ?_) (fun hc => ?_))
  refine HL.one (H1.lit (cs := strs sg1) rfl rfl rfl rfl rfl rfl (fun b9 => ?_))
  repeat' (first | refine HL.pa ?_ (POp.pnil1 rfl rfl) | refine HL.pa ?_ (POp.pnil0 rfl rfl) | refine HL.pa ?_ (POp.nilCheck rfl) | apply HL.fold | apply HA.fold | apply HL.nil | apply HX.n_then | apply HC.seq | apply HC.region | refine HL.pa ?_ | refine HL.ga rfl ?_ | refine HL.na rfl ?_ | refine HL.nu rfl rfl ?_ | apply HC.block | apply HC.skip | apply HC.exit | apply HC.ret | apply HX.e_block | refine HX.e_other rfl ?_ | apply HX.e_then | apply HX.e_again | apply HX.n_block | apply HX.r_then | apply HX.r_block | apply HX.r_again | refine HC.cond_yes rfl ?_ | refine HC.cond_no rfl ?_ | refine HL.one (H1.ldb rfl memA rfl rfl ?_) | refine HC.cond rfl (fun hc => ?_) (fun hc => ?_) | refine HC.cond_b rfl (fun hc => ?_) (fun hc => ?_))
  refine HL.one (H1.callk (α := (Option Addr × Nat) × (Option Addr × Nat)) (V := fun _ => zv 0) (I := fun _ => True) (H' := fun q => jnlH bj bd b1 b2 q.1.1 q.1.2 q.2.1 q.2.2 j1 []) (vs := [_, .slice (some ⟨b9, 0, none⟩) 2 2]) rfl rfl
    (fun w' hM => appendB_fn (g := sg1) e1 hG hM (h0.jok (Nat.zero_le _)) (by decide) (fun _ => by rw [outsL_need, need1]; decide)) ?_)
  rintro ⟨⟨a, c⟩, ⟨pa, pc⟩⟩ -
  dsimp only
  repeat' (first | refine HL.pa ?_ (POp.pnil1 rfl rfl) | refine HL.pa ?_ (POp.pnil0 rfl rfl) | refine HL.pa ?_ (POp.nilCheck rfl) | apply HL.fold | apply HA.fold | apply HL.nil | apply HX.n_then | apply HC.seq | apply HC.region | refine HL.pa ?_ | refine HL.ga rfl ?_ | refine HL.na rfl ?_ | refine HL.nu rfl rfl ?_ | apply HC.block | apply HC.skip | apply HC.exit | apply HC.ret | apply HX.e_block | refine HX.e_other rfl ?_ | apply HX.e_then | apply HX.e_again | apply HX.n_block | apply HX.r_then | apply HX.r_block | apply HX.r_again | refine HC.cond_yes rfl ?_ | refine HC.cond_no rfl ?_ | refine HL.one (H1.ldb rfl memA rfl rfl ?_) | refine HC.cond rfl (fun hc => ?_) (fun hc => ?_) | refine HC.cond_b rfl (fun hc => ?_) (fun hc => ?_))
  refine HL.one (H1.make (l := 96) (c := 96) rfl rfl rfl rfl rfl (Nat.le_refl _) (by decide) (by decide) rfl (fun bm => ?_))
  rw [ub_zero]
  repeat' (first | refine HL.pa ?_ (POp.pnil1 rfl rfl) | refine HL.pa ?_ (POp.pnil0 rfl rfl) | refine HL.pa ?_ (POp.nilCheck rfl) | apply HL.fold | apply HA.fold | apply HL.nil | apply HX.n_then | apply HC.seq | apply HC.region | refine HL.pa ?_ | refine HL.ga rfl ?_ | refine HL.na rfl ?_ | refine HL.nu rfl rfl ?_ | apply HC.block | apply HC.skip | apply HC.exit | apply HC.ret | apply HX.e_block | refine HX.e_other rfl ?_ | apply HX.e_then | apply HX.e_again | apply HX.n_block | apply HX.r_then | apply HX.r_block | apply HX.r_again | refine HC.cond_yes rfl ?_ | refine HC.cond_no rfl ?_ | refine HL.one (H1.ldb rfl memA rfl rfl ?_) | refine HC.cond rfl (fun hc => ?_) (fun hc => ?_) | refine HC.cond_b rfl (fun hc => ?_) (fun hc => ?_))
  refine HL.one (H1.bstrC (ys := List.replicate 96 0) rfl (by rw [List.length_replicate]) (fun w' hM => blk_rd (e := 5) (hM.blk memA) (by rw [ub_len, List.length_replicate])) rfl ?_)
  repeat' (first | refine HL.pa ?_ (POp.pnil1 rfl rfl) | refine HL.pa ?_ (POp.pnil0 rfl rfl) | refine HL.pa ?_ (POp.nilCheck rfl) | apply HL.fold | apply HA.fold | apply HL.nil | apply HX.n_then | apply HC.seq | apply HC.region | refine HL.pa ?_ | refine HL.ga rfl ?_ | refine HL.na rfl ?_ | refine HL.nu rfl rfl ?_ | apply HC.block | apply HC.skip | apply HC.exit | apply HC.ret | apply HX.e_block | refine HX.e_other rfl ?_ | apply HX.e_then | apply HX.e_again | apply HX.n_block | apply HX.r_then | apply HX.r_block | apply HX.r_again | refine HC.cond_yes rfl ?_ | refine HC.cond_no rfl ?_ | refine HL.one (H1.ldb rfl memA rfl rfl ?_) | refine HC.cond rfl (fun hc => ?_) (fun hc => ?_) | refine HC.cond_b rfl (fun hc => ?_) (fun hc => ?_))
  refine HL.mem (jnlH bj bd b1 b2 a c pa pc j1 []) (Hs.refl _).skip ?_
  refine HL.one (H1.lit (cs := strs [sz 96]) rfl rfl rfl rfl rfl rfl (fun b9 => ?_))
  repeat' (first | refine HL.pa ?_ (POp.pnil1 rfl rfl) | refine HL.pa ?_ (POp.pnil0 rfl rfl) | refine HL.pa ?_ (POp.nilCheck rfl) | apply HL.fold | apply HA.fold | apply HL.nil | apply HX.n_then | apply HC.seq | apply HC.region | refine HL.pa ?_ | refine HL.ga rfl ?_ | refine HL.na rfl ?_ | refine HL.nu rfl rfl ?_ | apply HC.block | apply HC.skip | apply HC.exit | apply HC.ret | apply HX.e_block | refine HX.e_other rfl ?_ | apply HX.e_then | apply HX.e_again | apply HX.n_block | apply HX.r_then | apply HX.r_block | apply HX.r_again | refine HC.cond_yes rfl ?_ | refine HC.cond_no rfl ?_ | refine HL.one (H1.ldb rfl memA rfl rfl ?_) | refine HC.cond rfl (fun hc => ?_) (fun hc => ?_) | refine HC.cond_b rfl (fun hc => ?_) (fun hc => ?_))
  refine HL.one (H1.callk (α := (Option Addr × Nat) × (Option Addr × Nat)) (V := fun _ => zv 261) (I := fun _ => True) (H' := fun q => jnlH bj bd b1 b2 q.1.1 q.1.2 q.2.1 q.2.2 j1 []) (vs := [_, .slice (some ⟨b9, 0, none⟩) 1 1]) rfl rfl
    (fun w' hM => appendB_fn (g := [sz 96]) e2 hG hM (h1.jok (by decide)) (by decide) (fun _ => by rw [outsL_need, need96]; decide)) ?_)
  rintro ⟨⟨a, c⟩, ⟨pa, pc⟩⟩ -
  dsimp only
  repeat' (first | refine HL.pa ?_ (POp.pnil1 rfl rfl) | refine HL.pa ?_ (POp.pnil0 rfl rfl) | refine HL.pa ?_ (POp.nilCheck rfl) | apply HL.fold | apply HA.fold | apply HL.nil | apply HX.n_then | apply HC.seq | apply HC.region | refine HL.pa ?_ | refine HL.ga rfl ?_ | refine HL.na rfl ?_ | refine HL.nu rfl rfl ?_ | apply HC.block | apply HC.skip | apply HC.exit | apply HC.ret | apply HX.e_block | refine HX.e_other rfl ?_ | apply HX.e_then | apply HX.e_again | apply HX.n_block | apply HX.r_then | apply HX.r_block | apply HX.r_again | refine HC.cond_yes rfl ?_ | refine HC.cond_no rfl ?_ | refine HL.one (H1.ldb rfl memA rfl rfl ?_) | refine HC.cond rfl (fun hc => ?_) (fun hc => ?_) | refine HC.cond_b rfl (fun hc => ?_) (fun hc => ?_))
  refine HL.one (H1.callx (vs := [_]) rfl rfl (fun w' hM => room2_fn (bj := bj) (bd := bd) (b1 := b1) (b2 := b2) (a := a) (c := c) (pa := pa) (pc := pc) (t := j1.t) (k := j1.k) (br := j1.br) (hM.blk memA) (hM.blk memA) h1.ok (by omega)) ?_)
  repeat' (first | refine HL.pa ?_ (POp.pnil1 rfl rfl) | refine HL.pa ?_ (POp.pnil0 rfl rfl) | refine HL.pa ?_ (POp.nilCheck rfl) | apply HL.fold | apply HA.fold | apply HL.nil | apply HX.n_then | apply HC.seq | apply HC.region | refine HL.pa ?_ | refine HL.ga rfl ?_ | refine HL.na rfl ?_ | refine HL.nu rfl rfl ?_ | apply HC.block | apply HC.skip | apply HC.exit | apply HC.ret | apply HX.e_block | refine HX.e_other rfl ?_ | apply HX.e_then | apply HX.e_again | apply HX.n_block | apply HX.r_then | apply HX.r_block | apply HX.r_again | refine HC.cond_yes rfl ?_ | refine HC.cond_no rfl ?_ | refine HL.one (H1.ldb rfl memA rfl rfl ?_) | refine HC.cond rfl (fun hc => ?_) (fun hc => ?_) | refine HC.cond_b rfl (fun hc => ?_) (fun hc => ?_))
  refine HL.one (H1.make (l := 95) (c := 95) rfl rfl rfl rfl rfl (Nat.le_refl _) (by decide) (by decide) rfl (fun bm => ?_))
  rw [ub_zero]
  repeat' (first | refine HL.pa ?_ (POp.pnil1 rfl rfl) | refine HL.pa ?_ (POp.pnil0 rfl rfl) | refine HL.pa ?_ (POp.nilCheck rfl) | apply HL.fold | apply HA.fold | apply HL.nil | apply HX.n_then | apply HC.seq | apply HC.region | refine HL.pa ?_ | refine HL.ga rfl ?_ | refine HL.na rfl ?_ | refine HL.nu rfl rfl ?_ | apply HC.block | apply HC.skip | apply HC.exit | apply HC.ret | apply HX.e_block | refine HX.e_other rfl ?_ | apply HX.e_then | apply HX.e_again | apply HX.n_block | apply HX.r_then | apply HX.r_block | apply HX.r_again | refine HC.cond_yes rfl ?_ | refine HC.cond_no rfl ?_ | refine HL.one (H1.ldb rfl memA rfl rfl ?_) | refine HC.cond rfl (fun hc => ?_) (fun hc => ?_) | refine HC.cond_b rfl (fun hc => ?_) (fun hc => ?_))
  refine HL.one (H1.bstrC (ys := List.replicate 95 0) rfl (by rw [List.length_replicate]) (fun w' hM => blk_rd (e := 5) (hM.blk memA) (by rw [ub_len, List.length_replicate])) rfl ?_)
  repeat' (first | refine HL.pa ?_ (POp.pnil1 rfl rfl) | refine HL.pa ?_ (POp.pnil0 rfl rfl) | refine HL.pa ?_ (POp.nilCheck rfl) | apply HL.fold | apply HA.fold | apply HL.nil | apply HX.n_then | apply HC.seq | apply HC.region | refine HL.pa ?_ | refine HL.ga rfl ?_ | refine HL.na rfl ?_ | refine HL.nu rfl rfl ?_ | apply HC.block | apply HC.skip | apply HC.exit | apply HC.ret | apply HX.e_block | refine HX.e_other rfl ?_ | apply HX.e_then | apply HX.e_again | apply HX.n_block | apply HX.r_then | apply HX.r_block | apply HX.r_again | refine HC.cond_yes rfl ?_ | refine HC.cond_no rfl ?_ | refine HL.one (H1.ldb rfl memA rfl rfl ?_) | refine HC.cond rfl (fun hc => ?_) (fun hc => ?_) | refine HC.cond_b rfl (fun hc => ?_) (fun hc => ?_))
  refine HL.mem (jnlH bj bd b1 b2 a c pa pc j1 []) (Hs.refl _).skip ?_
  refine HL.one (H1.lit (cs := strs [sz 95]) rfl rfl rfl rfl rfl rfl (fun b9 => ?_))
  repeat' (first | refine HL.pa ?_ (POp.pnil1 rfl rfl) | refine HL.pa ?_ (POp.pnil0 rfl rfl) | refine HL.pa ?_ (POp.nilCheck rfl) | apply HL.fold | apply HA.fold | apply HL.nil | apply HX.n_then | apply HC.seq | apply HC.region | refine HL.pa ?_ | refine HL.ga rfl ?_ | refine HL.na rfl ?_ | refine HL.nu rfl rfl ?_ | apply HC.block | apply HC.skip | apply HC.exit | apply HC.ret | apply HX.e_block | refine HX.e_other rfl ?_ | apply HX.e_then | apply HX.e_again | apply HX.n_block | apply HX.r_then | apply HX.r_block | apply HX.r_again | refine HC.cond_yes rfl ?_ | refine HC.cond_no rfl ?_ | refine HL.one (H1.ldb rfl memA rfl rfl ?_) | refine HC.cond rfl (fun hc => ?_) (fun hc => ?_) | refine HC.cond_b rfl (fun hc => ?_) (fun hc => ?_))
  refine HL.one (H1.callk (α := (Option Addr × Nat) × (Option Addr × Nat)) (V := fun _ => zv 0) (I := fun _ => True) (H' := fun q => jnlH bj bd b1 b2 q.1.1 q.1.2 q.2.1 q.2.2 j2 []) (vs := [_, .slice (some ⟨b9, 0, none⟩) 1 1]) rfl rfl
    (fun w' hM => appendB_fn (g := [sz 95]) e3 hG hM (h1.jok (by decide)) (by decide) (fun _ => by rw [outsL_need, need95]; decide)) ?_)
  rintro ⟨⟨a, c⟩, ⟨pa, pc⟩⟩ -
  dsimp only
  repeat' (first | refine HL.pa ?_ (POp.pnil1 rfl rfl) | refine HL.pa ?_ (POp.pnil0 rfl rfl) | refine HL.pa ?_ (POp.nilCheck rfl) | apply HL.fold | apply HA.fold | apply HL.nil | apply HX.n_then | apply HC.seq | apply HC.region | refine HL.pa ?_ | refine HL.ga rfl ?_ | refine HL.na rfl ?_ | refine HL.nu rfl rfl ?_ | apply HC.block | apply HC.skip | apply HC.exit | apply HC.ret | apply HX.e_block | refine HX.e_other rfl ?_ | apply HX.e_then | apply HX.e_again | apply HX.n_block | apply HX.r_then | apply HX.r_block | apply HX.r_again | refine HC.cond_yes rfl ?_ | refine HC.cond_no rfl ?_ | refine HL.one (H1.ldb rfl memA rfl rfl ?_) | refine HC.cond rfl (fun hc => ?_) (fun hc => ?_) | refine HC.cond_b rfl (fun hc => ?_) (fun hc => ?_))
  have k2 := h2.off
  have l2 := h2.left
  have p2 := h2.pend
  have ok2 := h2.ok
  have hop := h2.opens (l := sg1 ++ [sz 95]) (by
    intro r hr
    rcases List.mem_append.1 hr with hr | hr
    · exact long1 r hr
    · exact long_sz (by decide) r hr)
  obtain ⟨t2, ht2⟩ : ∃ t2, t2 = adds t00 (sg1 ++ [sz 95]) := ⟨_, rfl⟩
  have hrec : t2.recs = sg1 ++ [sz 95] := by rw [ht2, adds0_recs]
  rw [← ht2] at hop
  have hvl := h2.len
  have hwr := put_vis (k := j2.k) (off := 0) (s := mkB 2) k2 l2 (by rw [hd2]; decide)
  obtain ⟨k3, hk3⟩ : ∃ k3, k3 = (j2.k.write 0 (mkB 2)).2 := ⟨_, rfl⟩
  have hw1 : (j2.k.write 0 (mkB 2)).1 = 0 := by rw [hwr]
  have hbad : openF k3 = (262, k3, none) := by
    rw [hk3, hwr]
    exact bad_first rfl ⟨j2.k.vis.drop 1, rfl⟩
  have hok3 : k3.Ok := by rw [hk3]; exact (DOp.wr 0 (mkB 2)).run_ok ok2 (by rw [p2]; decide)
  have hpl3 : k3.pend.length ≤ 9000 := by rw [hk3, hwr, p2]; show 1 ≤ 9000; decide
  have hd3 : k3.dur.length = 200 := by rw [hk3, hwr]; exact hd2
  refine HL.one (H1.callk (α := Nat × (Option Addr × Nat) × (Option Addr × Nat)) (V := fun z => .tuple #[.pointer (some ⟨z.1, 0, none⟩), zv 0]) (I := fun _ => True)
    (H' := fun z => jnlH z.1 bd b1 b2 z.2.1.1 z.2.1.2 z.2.2.1 z.2.2.2 ⟨t2, j2.k, false⟩ [A.blk bj (tpC a c j2.t (jnR bd j2.br)) 74, A.grow 9 1 a c j2.t.recs.length (strs j2.t.recs)]) (vs := [_]) rfl rfl
    (fun w' hM => jopen_ok hop hG hE (hM.sub (Hs.cons (Pick.there (Pick.there Pick.here)) (Hs.cons (Pick.there (Pick.there Pick.here)) (Hs.cons (Pick.there (Pick.there Pick.here)) (Hs.cons (Pick.there (Pick.there Pick.here)) (Hs.refl _)))))) ok2 (by rw [p2]; exact Nat.zero_le _)) ?_)
  rintro ⟨bk, ⟨a2, c2⟩, ⟨pa2, pc2⟩⟩ -
  dsimp only
  repeat' (first | refine HL.pa ?_ (POp.pnil1 rfl rfl) | refine HL.pa ?_ (POp.pnil0 rfl rfl) | refine HL.pa ?_ (POp.nilCheck rfl) | apply HL.fold | apply HA.fold | apply HL.nil | apply HX.n_then | apply HC.seq | apply HC.region | refine HL.pa ?_ | refine HL.ga rfl ?_ | refine HL.na rfl ?_ | refine HL.nu rfl rfl ?_ | apply HC.block | apply HC.skip | apply HC.exit | apply HC.ret | apply HX.e_block | refine HX.e_other rfl ?_ | apply HX.e_then | apply HX.e_again | apply HX.n_block | apply HX.r_then | apply HX.r_block | apply HX.r_again | refine HC.cond_yes rfl ?_ | refine HC.cond_no rfl ?_ | refine HL.one (H1.ldb rfl memA rfl rfl ?_) | refine HC.cond rfl (fun hc => ?_) (fun hc => ?_) | refine HC.cond_b rfl (fun hc => ?_) (fun hc => ?_))
  refine HL.one (H1.callk (α := Option Addr × Nat) (V := fun _ => zv 0) (I := fun _ => True)
    (H' := fun q => dkH bd b1 b2 q.1 q.2 k3 [A.blk bk (tpC a2 c2 t2 (jnR bd false)) 74, A.grow 9 1 a2 c2 t2.recs.length (strs t2.recs), A.blk bj (tpC a c j2.t (jnR bd j2.br)) 74, A.grow 9 1 a c j2.t.recs.length (strs j2.t.recs)]) (vs := [_, zv ((0 : Nat) : Int), .string (mkB 2)]) rfl rfl
    (fun w' hM => by
      have h := write_fn (k := j2.k) 0 (mkB 2) (hM.sub (Hs.cons (Pick.there (Pick.there Pick.here)) (Hs.cons (Pick.there (Pick.there Pick.here)) (Hs.cons (Pick.there (Pick.there Pick.here)) (Hs.cons (Pick.there (Pick.there Pick.here)) (Hs.refl _)))))) ok2 (by decide) (by decide)
      rw [← hk3, hw1] at h
      exact h) ?_)
  rintro ⟨pa3, pc3⟩ -
  dsimp only
  repeat' (first | refine HL.pa ?_ (POp.pnil1 rfl rfl) | refine HL.pa ?_ (POp.pnil0 rfl rfl) | refine HL.pa ?_ (POp.nilCheck rfl) | apply HL.fold | apply HA.fold | apply HL.nil | apply HX.n_then | apply HC.seq | apply HC.region | refine HL.pa ?_ | refine HL.ga rfl ?_ | refine HL.na rfl ?_ | refine HL.nu rfl rfl ?_ | apply HC.block | apply HC.skip | apply HC.exit | apply HC.ret | apply HX.e_block | refine HX.e_other rfl ?_ | apply HX.e_then | apply HX.e_again | apply HX.n_block | apply HX.r_then | apply HX.r_block | apply HX.r_again | refine HC.cond_yes rfl ?_ | refine HC.cond_no rfl ?_ | refine HL.one (H1.ldb rfl memA rfl rfl ?_) | refine HC.cond rfl (fun hc => ?_) (fun hc => ?_) | refine HC.cond_b rfl (fun hc => ?_) (fun hc => ?_))
  refine HL.one (H1.callk (α := Option Addr × Nat) (V := fun _ => .tuple #[.pointer none, zv 262]) (I := fun _ => True)
    (H' := fun q => dkH bd b1 b2 q.1 q.2 k3 [A.blk bk (tpC a2 c2 t2 (jnR bd false)) 74, A.grow 9 1 a2 c2 t2.recs.length (strs t2.recs), A.blk bj (tpC a c j2.t (jnR bd j2.br)) 74, A.grow 9 1 a c j2.t.recs.length (strs j2.t.recs)]) (vs := [_]) rfl rfl
    (fun w' hM => jopen_no hbad hG hE hM hok3 hpl3) ?_)
  rintro ⟨pa4, pc4⟩ -
  dsimp only
  repeat' (first | refine HL.pa ?_ (POp.pnil1 rfl rfl) | refine HL.pa ?_ (POp.pnil0 rfl rfl) | refine HL.pa ?_ (POp.nilCheck rfl) | apply HL.fold | apply HA.fold | apply HL.nil | apply HX.n_then | apply HC.seq | apply HC.region | refine HL.pa ?_ | refine HL.ga rfl ?_ | refine HL.na rfl ?_ | refine HL.nu rfl rfl ?_ | apply HC.block | apply HC.skip | apply HC.exit | apply HC.ret | apply HX.e_block | refine HX.e_other rfl ?_ | apply HX.e_then | apply HX.e_again | apply HX.n_block | apply HX.r_then | apply HX.r_block | apply HX.r_again | refine HC.cond_yes rfl ?_ | refine HC.cond_no rfl ?_ | refine HL.one (H1.ldb rfl memA rfl rfl ?_) | refine HC.cond rfl (fun hc => ?_) (fun hc => ?_) | refine HC.cond_b rfl (fun hc => ?_) (fun hc => ?_))
  refine HL.one (H1.call0 (vs := [.pointer none]) rfl rfl (fun w' hM => jopenNil_fn w') ?_)
  repeat' (first | refine HL.pa ?_ (POp.pnil1 rfl rfl) | refine HL.pa ?_ (POp.pnil0 rfl rfl) | refine HL.pa ?_ (POp.nilCheck rfl) | apply HL.fold | apply HA.fold | apply HL.nil | apply HX.n_then | apply HC.seq | apply HC.region | refine HL.pa ?_ | refine HL.ga rfl ?_ | refine HL.na rfl ?_ | refine HL.nu rfl rfl ?_ | apply HC.block | apply HC.skip | apply HC.exit | apply HC.ret | apply HX.e_block | refine HX.e_other rfl ?_ | apply HX.e_then | apply HX.e_again | apply HX.n_block | apply HX.r_then | apply HX.r_block | apply HX.r_again | refine HC.cond_yes rfl ?_ | refine HC.cond_no rfl ?_ | refine HL.one (H1.ldb rfl memA rfl rfl ?_) | refine HC.cond rfl (fun hc => ?_) (fun hc => ?_) | refine HC.cond_b rfl (fun hc => ?_) (fun hc => ?_))
  have hj1s : ((j1.k.dur.length : Int) - (j1.t.size : Int)) = 130 := by omega
  refine HL.one (H1.callx (vs := [_]) rfl rfl (fun w' hM => room2_fn (bj := bj) (bd := bd) (b1 := b1) (b2 := b2) (a := a) (c := c) (pa := pa4) (pc := pc4) (t := j2.t) (k := k3) (br := j2.br) (hM.blk memA) (hM.blk memA) hok3 (by omega)) ?_)
  repeat' (first | refine HL.pa ?_ (POp.pnil1 rfl rfl) | refine HL.pa ?_ (POp.pnil0 rfl rfl) | refine HL.pa ?_ (POp.nilCheck rfl) | apply HL.fold | apply HA.fold | apply HL.nil | apply HX.n_then | apply HC.seq | apply HC.region | refine HL.pa ?_ | refine HL.ga rfl ?_ | refine HL.na rfl ?_ | refine HL.nu rfl rfl ?_ | apply HC.block | apply HC.skip | apply HC.exit | apply HC.ret | apply HX.e_block | refine HX.e_other rfl ?_ | apply HX.e_then | apply HX.e_again | apply HX.n_block | apply HX.r_then | apply HX.r_block | apply HX.r_again | refine HC.cond_yes rfl ?_ | refine HC.cond_no rfl ?_ | refine HL.one (H1.ldb rfl memA rfl rfl ?_) | refine HC.cond rfl (fun hc => ?_) (fun hc => ?_) | refine HC.cond_b rfl (fun hc => ?_) (fun hc => ?_))
  refine HL.one (H1.callz (vs := [_]) rfl rfl (fun w' hM => records2_fn (bj := bk) (bd := bd) (a := a2) (c := c2) (t := t2) (br := false) (hM.blk memA) (Mm.gr (e := 9) hM memA) (by rw [hrec]; decide)) ?_)
  rintro ⟨a5, c5⟩ -
  dsimp only
  have hrl : t2.recs.length = 3 := by rw [hrec]; rfl
  repeat' (first | refine HL.pa ?_ (POp.pnil1 rfl rfl) | refine HL.pa ?_ (POp.pnil0 rfl rfl) | refine HL.pa ?_ (POp.nilCheck rfl) | apply HL.fold | apply HA.fold | apply HL.nil | apply HX.n_then | apply HC.seq | apply HC.region | refine HL.pa ?_ | refine HL.ga rfl ?_ | refine HL.na rfl ?_ | refine HL.nu rfl rfl ?_ | apply HC.block | apply HC.skip | apply HC.exit | apply HC.ret | apply HX.e_block | refine HX.e_other rfl ?_ | apply HX.e_then | apply HX.e_again | apply HX.n_block | apply HX.r_then | apply HX.r_block | apply HX.r_again | refine HC.cond_yes rfl ?_ | refine HC.cond_no rfl ?_ | refine HL.one (H1.ldb rfl memA rfl rfl ?_) | refine HC.cond rfl (fun hc => ?_) (fun hc => ?_) | refine HC.cond_b rfl (fun hc => ?_) (fun hc => ?_))
  refine HL.one (H1.callz (vs := [_]) rfl rfl (fun w' hM => records2_fn (bj := bk) (bd := bd) (a := a2) (c := c2) (t := t2) (br := false) (hM.blk (b := bk) memA) (Mm.gr (e := 9) (a := a2) (c := c2) hM memA) (by omega)) ?_)
  rintro ⟨a6, c6⟩ -
  dsimp only
  refine HN.openg2 (e := 9) (sz := 1) (a := a6) (c := c6) (n := t2.recs.length) (xs := strs t2.recs) (.head _) (by omega) ?_
  rintro g6 rfl
  repeat' (first | refine HL.pa ?_ (POp.pnil1 rfl rfl) | refine HL.pa ?_ (POp.pnil0 rfl rfl) | refine HL.pa ?_ (POp.nilCheck rfl) | apply HL.fold | apply HA.fold | apply HL.nil | apply HX.n_then | apply HC.seq | apply HC.region | refine HL.pa ?_ | refine HL.ga rfl ?_ | refine HL.na rfl ?_ | refine HL.nu rfl rfl ?_ | apply HC.block | apply HC.skip | apply HC.exit | apply HC.ret | apply HX.e_block | refine HX.e_other rfl ?_ | apply HX.e_then | apply HX.e_again | apply HX.n_block | apply HX.r_then | apply HX.r_block | apply HX.r_again | refine HC.cond_yes rfl ?_ | refine HC.cond_no rfl ?_ | refine HL.one (H1.ldb rfl memA rfl rfl ?_) | refine HC.cond rfl (fun hc => ?_) (fun hc => ?_) | refine HC.cond_b rfl (fun hc => ?_) (fun hc => ?_))
  refine HL.one (H1.ldg (b := g6) (c := c6) (n := t2.recs.length) (vs := strs t2.recs) (v := .string (ByteArray.mk #[97, 98])) rfl (.head _) (by rw [hrec]; rfl) rfl ?_)
  repeat' (first | refine HL.pa ?_ (POp.pnil1 rfl rfl) | refine HL.pa ?_ (POp.pnil0 rfl rfl) | refine HL.pa ?_ (POp.nilCheck rfl) | apply HL.fold | apply HA.fold | apply HL.nil | apply HX.n_then | apply HC.seq | apply HC.region | refine HL.pa ?_ | refine HL.ga rfl ?_ | refine HL.na rfl ?_ | refine HL.nu rfl rfl ?_ | apply HC.block | apply HC.skip | apply HC.exit | apply HC.ret | apply HX.e_block | refine HX.e_other rfl ?_ | apply HX.e_then | apply HX.e_again | apply HX.n_block | apply HX.r_then | apply HX.r_block | apply HX.r_again | refine HC.cond_yes rfl ?_ | refine HC.cond_no rfl ?_ | refine HL.one (H1.ldb rfl memA rfl rfl ?_) | refine HC.cond rfl (fun hc => ?_) (fun hc => ?_) | refine HC.cond_b rfl (fun hc => ?_) (fun hc => ?_))
  exact HX.ret1 rfl rfl fun w' hM => ⟨rfl, hM.ext⟩
end Go.Sx

