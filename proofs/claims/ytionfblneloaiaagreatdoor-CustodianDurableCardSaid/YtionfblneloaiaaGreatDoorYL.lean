/- Chapter 27: the fixed examples: the walk. -/
import Derived.Test.YtionfblneloaiaaGreatDoorYK
namespace Go.Sx
open Go Go.Proofs Go.RowKit
theorem hwYL {G G2 : Prop} (x : G2) (hwq : Hold G2 → G := by
    intro hQq
    repeat' (first | refine HL.pa ?_ (POp.pneN rfl rfl) | refine HL.pa ?_ (POp.pnil1 rfl rfl) | refine HL.pa ?_ (POp.pnil0 rfl rfl) | refine HL.pa ?_ (POp.nilCheck rfl) | apply HL.fold | apply HA.fold | apply HL.nil | apply HX.n_then | apply HC.seq | apply HC.region | refine HL.pa ?_ | refine HL.ga rfl ?_ | refine HL.na rfl ?_ | refine HL.nu rfl rfl ?_ | apply HC.block | apply HC.skip | apply HC.exit | apply HC.ret | apply HX.e_block | refine HX.e_other rfl ?_ | apply HX.e_then | apply HX.e_again | apply HX.n_block | apply HX.r_then | apply HX.r_block | apply HX.r_again | refine HC.cond_yes rfl ?_ | refine HC.cond_no rfl ?_ | refine HL.one (H1.ldb rfl memA rfl rfl ?_) | refine HC.cond rfl (fun hc => ?_) (fun hc => ?_) | refine HC.cond_b rfl (fun hc => ?_) (fun hc => ?_))
    exact hQq.get) : G := hwq ⟨x⟩
theorem needL_le27 : ∀ (l : List ByteArray), (∀ r ∈ l, r.size ≤ 100) → needL l ≤ 150 * l.length
  | [], _ => Nat.zero_le _
  | r :: l, h => by
    have h1 := needL_le27 l fun x hx => h x (List.mem_cons_of_mem _ hx)
    have h2 := h r (List.mem_cons_self ..)
    have h3 := strN_size (n := r.size) (by omega)
    show (33 + (strN r.size).size + r.size) + needL l ≤ 150 * (l.length + 1)
    omega
theorem recS_le {p : PK} {s : ByteArray} (hp : okP p) (hs : s.size ≤ 60) : (recS p s).size ≤ 100 := by
  obtain ⟨h1, h2, h3, h4⟩ := hp
  have h5 := putsB_size [p.1.toNat, p.2.toNat] (mkB 115) (by
    intro n hn
    rcases List.mem_cons.1 hn with rfl | hn
    · omega
    rcases List.mem_cons.1 hn with rfl | hn
    · omega
    · cases hn)
  have h6 := strN_size (n := s.size) (by omega)
  have h7 : (mkB 115).size = 1 := rfl
  unfold recS
  rw [ByteArray.size_append, ByteArray.size_append]
  simp only [List.length_cons, List.length_nil] at h5
  omega
abbrev ab27 : ByteArray := ByteArray.mk #[97, 98]
abbrev cd27 : ByteArray := ByteArray.mk #[99, 100]
abbrev ef27 : ByteArray := ByteArray.mk #[101, 102]
abbrev x27 : ByteArray := ByteArray.mk #[120]
def m27 : PM := [((5, 0), ef27), ((5, 3), cd27)]
def l27 : List ByteArray := [recS (5, 0) ab27, recS (5, 3) cd27, recS (5, 0) ef27]
theorem l27_size : ∀ r ∈ l27, r.size ≤ 100 := by
  intro r hr
  rcases List.mem_cons.1 hr with rfl | hr
  · exact recS_le (by decide) (by decide)
  rcases List.mem_cons.1 hr with rfl | hr
  · exact recS_le (by decide) (by decide)
  rcases List.mem_cons.1 hr with rfl | hr
  · exact recS_le (by decide) (by decide)
  · cases hr
theorem sane_plain27 : ∃ j1 j2 j3 j4 : Jn, storeF [] ⟨t00, newK 2000, false⟩ (5, 0) ab27 = (0, [((5, 0), ab27)], j1) ∧ CClean [((5, 0), ab27)] j1 2000 [recS (5, 0) ab27]
    ∧ storeF [((5, 0), ab27)] j1 (5, 3) cd27 = (0, [((5, 0), ab27), ((5, 3), cd27)], j2) ∧ CClean [((5, 0), ab27), ((5, 3), cd27)] j2 2000 [recS (5, 0) ab27, recS (5, 3) cd27]
    ∧ storeF [((5, 0), ab27), ((5, 3), cd27)] j2 (5, 0) ef27 = (0, m27, j3) ∧ CClean m27 j3 2000 l27
    ∧ dropF m27 j3 5 = (2, 0, [], j4) ∧ CClean [] j4 2000 (l27 ++ [recD 5]) := by
  have h0 := cclean0 (N := 2000) (by decide) (by decide)
  have z := l27_size
  have z1 : (recS (5, 0) ab27).size ≤ 100 := z _ (.head _)
  have z2 : (recS (5, 3) cd27).size ≤ 100 := z _ (.tail _ (.head _))
  obtain ⟨j1, e1, h1⟩ := h0.store (p := (5, 0)) (s := ab27) (by decide) (by decide) (by
    refine Nat.le_trans (needL_le27 _ fun r hr => ?_) (show 150 * 1 ≤ 2000 by decide)
    rcases List.mem_cons.1 hr with rfl | hr
    · exact z1
    · cases hr)
  obtain ⟨j2, e2, h2⟩ := h1.store (p := (5, 3)) (s := cd27) (by decide) (by decide) (by
    refine Nat.le_trans (needL_le27 _ fun r hr => ?_) (show 150 * 2 ≤ 2000 by decide)
    rcases List.mem_cons.1 hr with rfl | hr
    · exact z1
    rcases List.mem_cons.1 hr with rfl | hr
    · exact z2
    · cases hr)
  obtain ⟨j3, e3, h3⟩ := h2.store (p := (5, 0)) (s := ef27) (by decide) (by decide) (Nat.le_trans (needL_le27 l27 z) (show 150 * 3 ≤ 2000 by decide))
  have z4 := recD_size (o := 5) (by decide)
  obtain ⟨j4, e4, h4⟩ := CClean.drop (m := m27) (l := l27) (j := j3) h3 (o := 5) (by decide) (by decide) (by
    refine Nat.le_trans (needL_le27 _ fun r hr => ?_) (show 150 * 4 ≤ 2000 by decide)
    rcases List.mem_append.1 hr with hr | hr
    · exact z r hr
    rcases List.mem_cons.1 hr with rfl | hr
    · omega
    · cases hr)
  exact ⟨j1, j2, j3, j4, e1, h1, e2, h2, e3, h3, e4, h4⟩
def ps27 : List PK := [(5, 0), (5, 3)]
theorem ps27_sorted : SortedP ps27 m27 := ⟨List.Perm.refl _, by unfold ps27 leP; simp⟩
theorem ps27_rd {w : World} {b : Nat} {e : TypeId} (h : Blk w b (pcl ps27) e) : RdP w (.slice (some ⟨b, 0, none⟩) 2 2) ps27 :=
  ⟨_, _, rfl, Nat.le_refl _, .inr ⟨b, 0, rfl, fun i u hu => by rw [Nat.zero_add]; exact h.cell hu⟩⟩
theorem fetch27 : fetchV m27 (5, 0) = .tuple #[.string ef27, zv 0] := rfl
theorem ans27 : ansV m27 (5, 3) x27 = .tuple #[.string (expB cd27 x27), zv 0] := by
  unfold ansV
  rw [if_neg (by decide)]
  rfl
theorem ans27n : ansV m27 (5, 1) x27 = .tuple #[.string (ByteArray.mk #[]), zv 271] := by
  unfold ansV
  rw [if_neg (by decide)]
  rfl
theorem exp27 : (expB cd27 x27).size = 32 := by
  unfold expB
  rw [if_neg (by decide)]
  exact sumS_size _
theorem get27 (s : ByteArray) {p : PK} (h : getM m27 p = some s) : s.size ≤ 100000 := by
  have h1 : getM m27 p = if p = (5, 0) then some ef27 else if p = (5, 3) then some cd27 else none := rfl
  rw [h1] at h
  split at h
  · cases h; decide
  split at h
  · cases h; decide
  · cases h
attribute [local irreducible] WC WL WX POp Then Again Fn NX W1 WA WO QL RP RA Yld LoopAt HC HL HX HN H1 HA HO HQ HB HP A.blk A.grow A.rd A.obj A.mp AgainH CutH
attribute [local irreducible] A.pm A.mx A.mit sumS newK expB
set_option maxHeartbeats 4000000 in
theorem sane27_fn {w : World} {ea ec : Addr} (hG : RoundG w) (hE : ErrG ea w) (hC : CErrG ec w) : Fn Tryz.prog 10 #[] w fun v w' => v = .bool true ∧ Ext w w' := by
  obtain ⟨j1, j2, j3, j4, e1, h1, e2, h2, e3, h3, e4, h4⟩ := sane_plain27
  have h0 := cclean0 (N := 2000) (by decide) (by decide)
  have e5 : dropF [] j4 5 = (0, 0, [], j4) := dropF_none (by decide) rfl
  refine enterH (l := []) rfl Tryz.ntmps10 rfl ?_
  refine hwYL ?_
  refine HL.one (H1.callz (α := (Nat × Nat × Nat) × Nat × Nat × Nat × (Option Addr × Nat) × (Option Addr × Nat)) (V := fun z => .tuple #[.pointer (some ⟨z.2.1, 0, none⟩), .pointer (some ⟨z.1.1, 0, none⟩), .bool true])
    (Hn := fun z => cuH z.2.1 z.2.2.1 z.2.2.2.1 z.1.1 z.1.2.1 z.1.2.2 z.2.2.2.2.1.1 z.2.2.2.2.1.2 z.2.2.2.2.2.1 z.2.2.2.2.2.2 [] ⟨t00, newK 2000, false⟩ []) (I := fun _ => True) (vs := [zv 2000]) rfl rfl (fun w' hM => opened_fn (hG.ext hM.ext) (hE.ext hM.ext) (hC.ext hM.ext) 2000 (by decide) (by decide)) ?_)
  rintro ⟨⟨bd, b1, b2⟩, bx, bm, bj, ⟨a, c⟩, ⟨pa, pc⟩⟩ -
  dsimp only
  refine hwYL ?_
  refine HL.one (H1.callk (α := (Option Addr × Nat) × (Option Addr × Nat)) (V := fun _ => zv 0) (I := fun _ => True) (H' := fun q => cuH bx bm bj bd b1 b2 q.1.1 q.1.2 q.2.1 q.2.2 [((5, 0), ab27)] j1 []) (vs := [_, zv 5, zv 0, .string ab27]) rfl rfl
    (fun w' hM => by
      have h := store_fn (5, 0) ab27 hG hM (h0.jn.jok (Nat.zero_le _))
      rw [e1] at h
      exact h) ?_)
  rintro ⟨⟨a, c⟩, ⟨pa, pc⟩⟩ -
  dsimp only
  refine hwYL ?_
  refine HL.one (H1.callk (α := (Option Addr × Nat) × (Option Addr × Nat)) (V := fun _ => zv 0) (I := fun _ => True) (H' := fun q => cuH bx bm bj bd b1 b2 q.1.1 q.1.2 q.2.1 q.2.2 [((5, 0), ab27), ((5, 3), cd27)] j2 []) (vs := [_, zv 5, zv 3, .string cd27]) rfl rfl
    (fun w' hM => by
      have h := store_fn (5, 3) cd27 hG hM (h1.jn.jok (by decide))
      rw [e2] at h
      exact h) ?_)
  rintro ⟨⟨a, c⟩, ⟨pa, pc⟩⟩ -
  dsimp only
  refine hwYL ?_
  refine HL.one (H1.callk (α := (Option Addr × Nat) × (Option Addr × Nat)) (V := fun _ => zv 0) (I := fun _ => True) (H' := fun q => cuH bx bm bj bd b1 b2 q.1.1 q.1.2 q.2.1 q.2.2 m27 j3 []) (vs := [_, zv 5, zv 0, .string ef27]) rfl rfl
    (fun w' hM => by
      have h := store_fn (5, 0) ef27 hG hM (h2.jn.jok (by decide))
      rw [e3] at h
      exact h) ?_)
  rintro ⟨⟨a, c⟩, ⟨pa, pc⟩⟩ -
  dsimp only
  refine hwYL ?_
  refine HL.one (H1.callk (α := Unit) (V := fun _ => .tuple #[.string ef27, zv 0]) (I := fun _ => True) (H' := fun _ => cuH bx bm bj bd b1 b2 a c pa pc m27 j3 []) (vs := [_, zv 5, zv 0]) rfl rfl
    (fun w' hM => by
      have h := fetch_fn (5, 0) hM
      rw [fetch27] at h
      exact h) ?_)
  rintro - -
  refine hwYL ?_
  refine HL.one (H1.callk (α := Unit) (V := fun _ => .tuple #[.string (expB cd27 x27), zv 0]) (I := fun _ => True) (H' := fun _ => cuH bx bm bj bd b1 b2 a c pa pc m27 j3 []) (vs := [_, zv 5, zv 3, .string x27]) rfl rfl
    (fun w' hM => by
      have h := answer_fn (5, 3) x27 hG hM (fun s hs => get27 s hs)
      rw [ans27] at h
      exact h) ?_)
  rintro - -
  refine hwYL ?_
  refine HL.one (H1.callk (α := Unit) (V := fun _ => .tuple #[.string (ByteArray.mk #[]), zv 271]) (I := fun _ => True) (H' := fun _ => cuH bx bm bj bd b1 b2 a c pa pc m27 j3 []) (vs := [_, zv 5, zv 1, .string x27]) rfl rfl
    (fun w' hM => by
      have h := answer_fn (5, 1) x27 hG hM (fun s hs => get27 s hs)
      rw [ans27n] at h
      exact h) ?_)
  rintro - -
  refine hwYL ?_
  refine HL.one (H1.callk (α := Nat × Nat × Nat × (Option Addr × Nat) × (Option Addr × Nat)) (V := fun z => .tuple #[.pointer (some ⟨z.1, 0, none⟩), zv 0]) (I := fun _ => True)
    (H' := fun z => cuH z.1 z.2.1 z.2.2.1 bd b1 b2 z.2.2.2.1.1 z.2.2.2.1.2 z.2.2.2.2.1 z.2.2.2.2.2 m27 j3 [A.blk bx (cuC bm bj) 84, A.pm bm (liftP m27), A.blk bj (tpC a c j3.t (jnR bd j3.br)) 179, A.grow 9 1 a c j3.t.recs.length (strs j3.t.recs)]) (vs := [_]) rfl rfl
    (fun w' hM => copen_fn hG hE hC h3 (by decide) (hM.sub (Hs.cons (Pick.there (Pick.there (Pick.there (Pick.there Pick.here)))) (Hs.cons (Pick.there (Pick.there (Pick.there (Pick.there Pick.here)))) (Hs.cons (Pick.there (Pick.there (Pick.there (Pick.there Pick.here)))) (Hs.cons (Pick.there (Pick.there (Pick.there (Pick.there Pick.here)))) (Hs.refl _))))))) ?_)
  rintro ⟨by_, bn, bk, ⟨a2, c2⟩, ⟨pa2, pc2⟩⟩ -
  dsimp only
  refine hwYL ?_
  refine HL.one (H1.callk (α := List PK × Option Addr × Nat) (V := fun z => .slice z.2.1 z.1.length z.2.2) (I := fun z => SortedP z.1 m27)
    (H' := fun z => A.grow 43 2 z.2.1 z.2.2 z.1.length (pcl z.1) :: A.blk bx (cuC bm bj) 84 :: A.pm bm (liftP m27) :: A.blk by_ (cuC bn bk) 84 :: A.pm bn (liftP m27) :: jnlH bk bd b1 b2 a2 c2 pa2 pc2 j3 [A.blk bj (tpC a c j3.t (jnR bd j3.br)) 179, A.grow 9 1 a c j3.t.recs.length (strs j3.t.recs)]) (vs := [_]) rfl rfl
    (fun w' hM => holds27_fn (hM.sub (Hs.cons (Pick.there (Pick.there (Pick.there (Pick.there (Pick.there (Pick.there (Pick.there (Pick.there Pick.here)))))))) (Hs.cons (Pick.there (Pick.there (Pick.there (Pick.there (Pick.there (Pick.there (Pick.there (Pick.there Pick.here)))))))) (Hs.refl _)))) h3.nd (by decide)) ?_)
  rintro ⟨q1, a3, c3⟩ hS
  dsimp only at hS ⊢
  obtain rfl := hS.eq ps27_sorted
  refine hwYL ?_
  refine HL.build (cs := [zv 5, zv 0]) rfl rfl rfl ?_
  refine HL.build (cs := [zv 5, zv 3]) rfl rfl rfl ?_
  refine HL.one (H1.lit (cs := pcl ps27) rfl rfl rfl rfl rfl rfl (fun b9 => ?_))
  refine hwYL ?_
  refine HL.one (H1.callx (vs := [.slice a3 2 c3, .slice (some ⟨b9, 0, none⟩) 2 2]) rfl rfl (fun w' hM => samePairs_fn (.slice a3 2 c3) (.slice (some ⟨b9, 0, none⟩) 2 2) ps27 ps27 (by decide) (by decide) w' (hM.grP (e := 43) (l := ps27) memA) (ps27_rd (hM.blk (b := b9) memA))) ?_)
  rw [decide_eq_true rfl]
  refine hwYL ?_
  refine HL.one (H1.callk (α := List PK × Option Addr × Nat) (V := fun z => .slice z.2.1 z.1.length z.2.2) (I := fun z => SortedP z.1 m27)
    (H' := fun z => A.grow 43 2 z.2.1 z.2.2 z.1.length (pcl z.1) :: A.blk by_ (cuC bn bk) 84 :: A.pm bn (liftP m27) :: A.blk bx (cuC bm bj) 84 :: A.pm bm (liftP m27) :: jnlH bk bd b1 b2 a2 c2 pa2 pc2 j3 [A.blk bj (tpC a c j3.t (jnR bd j3.br)) 179, A.grow 9 1 a c j3.t.recs.length (strs j3.t.recs)]) (vs := [_]) rfl rfl
    (fun w' hM => holds27_fn (hM.sub (Hs.cons (Pick.there (Pick.there (Pick.there (Pick.there Pick.here)))) (Hs.cons (Pick.there (Pick.there (Pick.there (Pick.there Pick.here)))) (Hs.refl _).skip.skip))) h3.nd (by decide)) ?_)
  rintro ⟨q2, a4, c4⟩ hS
  dsimp only at hS ⊢
  obtain rfl := hS.eq ps27_sorted
  refine hwYL ?_
  refine HL.one (H1.callk (α := List PK × Option Addr × Nat) (V := fun z => .slice z.2.1 z.1.length z.2.2) (I := fun z => SortedP z.1 m27)
    (H' := fun z => A.grow 43 2 z.2.1 z.2.2 z.1.length (pcl z.1) :: A.grow 43 2 a4 c4 ps27.length (pcl ps27) :: A.blk bx (cuC bm bj) 84 :: A.pm bm (liftP m27) :: jnlH bk bd b1 b2 a2 c2 pa2 pc2 j3 [A.blk bj (tpC a c j3.t (jnR bd j3.br)) 179, A.grow 9 1 a c j3.t.recs.length (strs j3.t.recs)]) (vs := [_]) rfl rfl
    (fun w' hM => (holds27_fn (H := A.grow 43 2 a4 c4 ps27.length (pcl ps27) :: jnlH bk bd b1 b2 a2 c2 pa2 pc2 j3 [A.blk bj (tpC a c j3.t (jnR bd j3.br)) 179, A.grow 9 1 a c j3.t.recs.length (strs j3.t.recs)]) (hM.sub (Hs.cons (Pick.there (Pick.there (Pick.there Pick.here))) (Hs.cons (Pick.there (Pick.there (Pick.there Pick.here))) (Hs.cons Pick.here (Hs.refl _).skip.skip)))) h3.nd (by decide)).mono fun v w2 h => by
      obtain ⟨z, k1, k2, k3⟩ := h
      exact ⟨z, k1, k2, k3.sub (Hs.cons Pick.here (Hs.cons (Pick.there (Pick.there Pick.here)) (Hs.refl _)))⟩) ?_)
  rintro ⟨q3, a5, c5⟩ hS
  dsimp only at hS ⊢
  obtain rfl := hS.eq ps27_sorted
  refine hwYL ?_
  refine HL.one (H1.callx (vs := [.slice a4 2 c4, .slice a5 2 c5]) rfl rfl (fun w' hM => samePairs_fn (.slice a4 2 c4) (.slice a5 2 c5) ps27 ps27 (by decide) (by decide) w' (hM.grP (e := 43) (a := a4) (c := c4) (l := ps27) memA) (hM.grP (e := 43) (a := a5) (c := c5) (l := ps27) memA)) ?_)
  rw [decide_eq_true rfl]
  refine hwYL ?_
  refine HL.one (H1.callk (α := Nat × (Option Addr × Nat) × (Option Addr × Nat)) (V := fun _ => .tuple #[zv 2, zv 0]) (I := fun _ => True) (H' := fun q => cuH bx q.1 bj bd b1 b2 q.2.1.1 q.2.1.2 q.2.2.1 q.2.2.2 [] j4 []) (vs := [_, zv 5]) rfl rfl
    (fun w' hM => by
      have h := cdrop_fn (m := m27) (j := j3) (H := []) 5 hG (hM.sub (Hs.cons (Pick.there (Pick.there Pick.here)) (Hs.cons (Pick.there (Pick.there Pick.here)) (Hs.cons (Pick.there (Pick.there (Pick.there (Pick.there (Pick.there (Pick.there (Pick.there (Pick.there Pick.here)))))))) (Hs.cons (Pick.there (Pick.there (Pick.there (Pick.there (Pick.there (Pick.there (Pick.there (Pick.there Pick.here)))))))) (Hs.cons (Pick.there (Pick.there (Pick.there (Pick.there Pick.here)))) (Hs.cons (Pick.there (Pick.there (Pick.there (Pick.there Pick.here)))) (Hs.cons (Pick.there (Pick.there (Pick.there (Pick.there Pick.here)))) (Hs.cons (Pick.there (Pick.there (Pick.there (Pick.there Pick.here)))) (Hs.refl _).skip.skip.skip.skip))))))))) (h3.jn.jok (by decide)) h3.nd (by decide)
      rw [e4] at h
      exact h) ?_)
  rintro ⟨bm, ⟨a, c⟩, ⟨pa, pc⟩⟩ -
  dsimp only
  refine hwYL ?_
  refine HL.one (H1.callk (α := Nat × (Option Addr × Nat) × (Option Addr × Nat)) (V := fun _ => .tuple #[zv 0, zv 0]) (I := fun _ => True) (H' := fun q => cuH bx q.1 bj bd b1 b2 q.2.1.1 q.2.1.2 q.2.2.1 q.2.2.2 [] j4 []) (vs := [_, zv 5]) rfl rfl
    (fun w' hM => by
      have h := cdrop_fn (m := []) (j := j4) (H := []) 5 hG hM (h4.jn.jok (by decide)) h4.nd (by decide)
      rw [e5] at h
      exact h) ?_)
  rintro ⟨bm, ⟨a, c⟩, ⟨pa, pc⟩⟩ -
  dsimp only
  refine hwYL ?_
  refine HL.one (H1.callk (α := (Option Addr × Nat) × (Option Addr × Nat)) (V := fun _ => zv 270) (I := fun _ => True) (H' := fun q => cuH bx bm bj bd b1 b2 q.1.1 q.1.2 q.2.1 q.2.2 [] j4 []) (vs := [_, zv 0, zv 0, .string (ByteArray.mk #[97])]) rfl rfl
    (fun w' hM => by
      have h := store_fn (0, 0) (ByteArray.mk #[97]) hG hM (h4.jn.jok (by decide))
      rw [storeF_bad (.inl (by decide))] at h
      exact h) ?_)
  rintro ⟨⟨a, c⟩, ⟨pa, pc⟩⟩ -
  dsimp only
  refine hwYL ?_
  refine HL.one (H1.callk (α := (Option Addr × Nat) × (Option Addr × Nat)) (V := fun _ => zv 270) (I := fun _ => True) (H' := fun q => cuH bx bm bj bd b1 b2 q.1.1 q.1.2 q.2.1 q.2.2 [] j4 []) (vs := [_, zv 1, zv 9, .string (ByteArray.mk #[97])]) rfl rfl
    (fun w' hM => by
      have h := store_fn (1, 9) (ByteArray.mk #[97]) hG hM (h4.jn.jok (by decide))
      rw [storeF_bad (.inl (by decide))] at h
      exact h) ?_)
  rintro ⟨⟨a, c⟩, ⟨pa, pc⟩⟩ -
  dsimp only
  refine hwYL ?_
  refine HL.one (H1.callx (vs := [.string cd27, .string x27]) rfl rfl (fun w' hM => expected_fn cd27 x27 (hG.ext hM.ext) (by decide)) ?_)
  have h32 := exp27
  obtain ⟨xb, hxb⟩ : ∃ xb, xb = expB cd27 x27 := ⟨_, rfl⟩
  rw [← hxb] at h32 ⊢
  refine hwYL ?_
  exact HX.ret1 rfl rfl fun w' hM => ⟨rfl, hM.ext⟩
end Go.Sx
/- Chapter 27: pick; what a custodian on any disk has; what is left of other objects. -/
namespace Go.Sx
open Go Go.Proofs Go.RowKit
theorem setM_good {m : PM} {p : PK} {s : ByteArray} (hp : okP p) (hs : s.size ≤ 4096) (hm : ∀ x ∈ m, okP x.1 ∧ x.2.size ≤ 4096) : ∀ x ∈ setM m p s, okP x.1 ∧ x.2.size ≤ 4096 := fun x hx => by
  rcases setM_mem hx with hx | rfl
  · exact hm x hx
  · exact ⟨hp, hs⟩
theorem dropM_good {m : PM} {o : Int} (hm : ∀ x ∈ m, okP x.1 ∧ x.2.size ≤ 4096) : ∀ x ∈ dropM m o, okP x.1 ∧ x.2.size ≤ 4096 := fun x hx => hm x (List.mem_filter.1 hx).1
theorem replay_good {m m2 : PM} {s : ByteArray} (h : replayF m s = some m2) (hm : ∀ x ∈ m, okP x.1 ∧ x.2.size ≤ 4096) : ∀ x ∈ m2, okP x.1 ∧ x.2.size ≤ 4096 := by
  unfold replayF at h
  split at h
  · cases h
  split at h
  · cases h
  split at h
  · split at h
    · cases h
    split at h
    · cases h
    split at h
    · rename_i h1
      split at h
      · cases h
        exact setM_good h1.1 (by rw [mkBA_size2]; exact h1.2) hm
      · cases h
    · cases h
  split at h
  · split at h
    · split at h
      · cases h
        exact dropM_good hm
      · cases h
    · cases h
  · cases h
theorem replays_good : ∀ (l : List ByteArray) {m m2 : PM}, replaysF m l = some m2 → (∀ x ∈ m, okP x.1 ∧ x.2.size ≤ 4096) → (m.map Prod.fst).Nodup → (∀ x ∈ m2, okP x.1 ∧ x.2.size ≤ 4096) ∧ (m2.map Prod.fst).Nodup ∧ m2.length ≤ m.length + l.length
  | [], m, m2, h, hm, hn => by
    have h1 : some m = some m2 := h
    cases h1
    exact ⟨hm, hn, Nat.le_refl _⟩
  | s :: l, m, m2, h, hm, hn => by
    have h1 : (replayF m s).bind (fun m3 => replaysF m3 l) = some m2 := h
    cases h3 : replayF m s with
    | none => rw [h3] at h1; cases h1
    | some m3 =>
      rw [h3] at h1
      obtain ⟨k1, k2⟩ := replay_keeps h3 hn
      obtain ⟨q1, q2, q3⟩ := replays_good l h1 (replay_good h3 hm) k1
      refine ⟨q1, q2, ?_⟩
      rw [List.length_cons]
      omega
/-- A disk that was written to once, and never cut: what Open makes of it. -/
theorem open_written {k : Dk} (ho : k.off = false) (hl : k.left = 0) (hv : k.vis.length = k.dur.length) (hd : k.dur.length ≤ 4194304) (hlo : 1 ≤ k.dur.length) : (∃ k', openF k = (262, k', none)) ∨ ∃ t k', openF k = (0, k', some t) ∧ TpOk t ∧ t.size ≤ k.dur.length ∧ k'.off = false ∧ k'.left = 0 := by
  cases hF : loadF k.vis t00 with
  | none => exact .inl ⟨k, openF_bad ho hF⟩
  | some t =>
    have hT : TpOk t := loadF_inv (P := TpOk) TpOk.step _ (Nat.le_refl _) tpOk0 hF
    have hle := loadF_le _ (Nat.le_refl _) (Nat.zero_le _) hF
    by_cases hz : isZero (k.vis.drop t.size) = true
    · exact .inr ⟨t, k, openF_zero ho hF hz, hT, by omega, ho, hl⟩
    have hcl : clr k t = [.wr t.size (mkBA (List.replicate (k.vis.length - t.size) 0)), .sy] := rfl
    have hfit : t.size + (mkBA (List.replicate (k.vis.length - t.size) 0)).size ≤ k.dur.length := by rw [mkBA_size2, List.length_replicate]; omega
    have hw := Dk.write_on ho hfit
    have e1 : (DOp.wr t.size (mkBA (List.replicate (k.vis.length - t.size) 0))).run k = (0, k.put t.size (mkBA (List.replicate (k.vis.length - t.size) 0))) := hw
    generalize hk1 : k.put t.size (mkBA (List.replicate (k.vis.length - t.size) 0)) = k1 at e1
    have hk1o : k1.off = false ∧ k1.left = 0 := by
      rw [← hk1]
      unfold Dk.put Dk.used
      rw [if_pos hl]
      exact ⟨ho, hl⟩
    have e2 : DOp.sy.run k1 = (0, { k1 with dur := k1.vis, pend := [] }) := Dk.sync_on hk1o.1
    have hr : runOps (clr k t) k = (0, { k1 with dur := k1.vis, pend := [] }) := by
      rw [hcl, runOps_ok (by rw [e1]), e1]
      dsimp only
      rw [runOps_ok (by rw [e2]), e2]
      rfl
    refine .inr ⟨t, _, openF_clr ho hF hz (by rw [hr]), hT, by omega, ?_⟩
    rw [hr]
    exact hk1o
theorem used_on {k : Dk} (hl : k.left = 0) : k.used = k := by unfold Dk.used; rw [if_pos hl]
theorem written27 (S : ByteArray) (hS : S.size ≤ 300) : ∃ k : Dk, (newK 400).write 0 S = (0, k) ∧ k.Ok ∧ k.pend.length ≤ 9000 ∧ ((∃ k', openF k = (262, k', none)) ∨ ∃ t k', openF k = (0, k', some t) ∧ TpOk t ∧ t.size ≤ 400 ∧ k'.off = false ∧ k'.left = 0) := by
  have hok := newK_ok (n := 400) (by decide) (by decide)
  have hdl : (newK 400).dur.length = 400 := List.length_replicate
  have hfit : 0 + S.size ≤ (newK 400).dur.length := by rw [hdl]; omega
  obtain ⟨p1, p2, p3⟩ := put_parts (newK 400) 0 S
  have hw := Dk.write_on (k := newK 400) rfl hfit
  have hr : (DOp.wr 0 S).run (newK 400) = (0, (newK 400).put 0 S) := hw
  have hrl := (DOp.wr 0 S).run_len (newK 400) hok.len
  rw [hr] at hrl
  dsimp only at hrl
  have hk := (DOp.wr 0 S).run_ok hok (by show 0 + 1 ≤ 10000; decide)
  rw [hr] at hk
  have hol : ((newK 400).put 0 S).off = false ∧ ((newK 400).put 0 S).left = 0 := by
    unfold Dk.put
    rw [used_on rfl]
    exact ⟨rfl, rfl⟩
  generalize (newK 400).put 0 S = k at hw hk hrl hol p1 p2 p3
  have hdk : k.dur.length = 400 := by rw [p1, hdl]
  refine ⟨k, hw, hk, by rw [p3]; show 1 ≤ 9000; omega, ?_⟩
  have h := open_written hol.1 hol.2 hrl.1 (by omega) (by omega)
  rw [hdk] at h
  exact h
/-- Stores and removals of other objects. -/
theorem dropM_set_own {m : PM} {o f : Int} (s : ByteArray) : dropM (setM m (o, f) s) o = dropM m o := by
  induction m with
  | nil => show List.filter _ [((o, f), s)] = []; simp
  | cons p m ih =>
    obtain ⟨y, u⟩ := p
    show dropM (if (o, f) = y then ((o, f), s) :: m else (y, u) :: setM m (o, f) s) o = dropM ((y, u) :: m) o
    by_cases h : (o, f) = y
    · rw [if_pos h]
      subst h
      show List.filter _ (((o, f), s) :: m) = List.filter _ (((o, f), u) :: m)
      simp
    · rw [if_neg h]
      unfold dropM at ih ⊢
      simp only [List.filter_cons]
      rw [ih]
theorem dropM_set_other {m : PM} {o : Int} {p : PK} (s : ByteArray) (h0 : p.1 ≠ o) : dropM (setM m p s) o = setM (dropM m o) p s := by
  induction m with
  | nil => show List.filter _ [(p, s)] = [(p, s)]; simp [h0]
  | cons x m ih =>
    obtain ⟨y, u⟩ := x
    show dropM (if p = y then (p, s) :: m else (y, u) :: setM m p s) o = setM (dropM ((y, u) :: m) o) p s
    by_cases h : p = y
    · rw [if_pos h]
      subst h
      have e1 : dropM ((p, u) :: m) o = (p, u) :: dropM m o := by unfold dropM; rw [List.filter_cons_of_pos (by simpa using h0)]
      have e2 : dropM ((p, s) :: m) o = (p, s) :: dropM m o := by unfold dropM; rw [List.filter_cons_of_pos (by simpa using h0)]
      rw [e1, e2]
      show _ = if p = p then (p, s) :: dropM m o else _
      rw [if_pos rfl]
    · rw [if_neg h]
      by_cases hy : y.1 = o
      · have e1 : dropM ((y, u) :: m) o = dropM m o := by unfold dropM; rw [List.filter_cons_of_neg (by simpa using hy)]
        have e2 : dropM ((y, u) :: setM m p s) o = dropM (setM m p s) o := by unfold dropM; rw [List.filter_cons_of_neg (by simpa using hy)]
        rw [e1, e2, ih]
      · have e1 : dropM ((y, u) :: m) o = (y, u) :: dropM m o := by unfold dropM; rw [List.filter_cons_of_pos (by simpa using hy)]
        have e2 : dropM ((y, u) :: setM m p s) o = (y, u) :: dropM (setM m p s) o := by unfold dropM; rw [List.filter_cons_of_pos (by simpa using hy)]
        rw [e1, e2, ih]
        show _ = if p = y then _ else (y, u) :: setM (dropM m o) p s
        rw [if_neg h]
theorem dropM_comm (m : PM) (o o2 : Int) : dropM (dropM m o2) o = dropM (dropM m o) o2 := by
  unfold dropM
  rw [List.filter_filter, List.filter_filter]
  congr 1
  funext x
  exact Bool.and_comm _ _
theorem dropM_idem (m : PM) (o : Int) : dropM (dropM m o) o = dropM m o := by
  unfold dropM
  rw [List.filter_filter]
  congr 1
  funext x
  exact Bool.and_self _
/-- How many places of a list are of an object. -/
def ownC (o : Int) (l : List PK) : Nat := (l.filter fun p => decide (p.1 = o)).length
theorem ownC_snoc {o : Int} (l : List PK) (p : PK) : ownC o (l ++ [p]) = ownC o l + if p.1 = o then 1 else 0 := by
  unfold ownC
  rw [List.filter_append, List.length_append]
  by_cases h : p.1 = o
  · rw [if_pos h, List.filter_cons_of_pos (by simpa using h)]; rfl
  · rw [if_neg h, List.filter_cons_of_neg (by simpa using h)]; rfl
theorem ownC_le (o : Int) (l : List PK) : ownC o l ≤ l.length := List.length_filter_le _ _
theorem ownC_map (o : Int) : ∀ m : PM, ownC o (m.map Prod.fst) + (dropM m o).length = m.length
  | [] => rfl
  | p :: m => by
    have ih := ownC_map o m
    unfold ownC dropM at ih ⊢
    rw [List.map_cons]
    by_cases h : p.1.1 = o
    · rw [List.filter_cons_of_pos (by simpa using h), List.filter_cons_of_neg (by simpa using h)]
      simp only [List.length_cons]
      omega
    · rw [List.filter_cons_of_neg (by simpa using h), List.filter_cons_of_pos (by simpa using h)]
      simp only [List.length_cons]
      omega
theorem SortedP.ownC {l : List PK} {m : PM} (h : SortedP l m) (o : Int) : Go.Sx.ownC o l + (dropM m o).length = m.length := by
  rw [← ownC_map o m]
  congr 1
  exact (h.1.filter _).length_eq
theorem getM_some {m : PM} {p : PK} (h : p ∈ m.map Prod.fst) : ∃ s, getM m p = some s := by
  induction m with
  | nil => cases h
  | cons x m ih =>
    obtain ⟨y, u⟩ := x
    have h1 : getM ((y, u) :: m) p = if p = y then some u else getM m p := rfl
    rw [h1]
    by_cases e : p = y
    · rw [if_pos e]; exact ⟨u, rfl⟩
    · rw [if_neg e]
      rw [List.map_cons] at h
      rcases List.mem_cons.1 h with h | h
      · exact absurd h e
      · exact ih h
theorem getM_mem2 {m : PM} {x : PK} {s : ByteArray} (h : getM m x = some s) : (x, s) ∈ m := by
  induction m with
  | nil => cases h
  | cons p m ih =>
    obtain ⟨y, u⟩ := p
    have h1 : getM ((y, u) :: m) x = if x = y then some u else getM m x := rfl
    rw [h1] at h
    split at h
    · next e => cases h; rw [e]; exact .head _
    · exact .tail _ (ih h)
theorem SortedP.get {l : List PK} {m : PM} (h : SortedP l m) {p : PK} (hp : p ∈ l) : ∃ s, getM m p = some s ∧ (p, s) ∈ m := by
  obtain ⟨s, hs⟩ := getM_some (h.1.subset hp)
  exact ⟨s, hs, getM_mem2 hs⟩
theorem fetchV_some {m : PM} {p : PK} {s : ByteArray} (h : getM m p = some s) : fetchV m p = .tuple #[.string s, zv 0] := by unfold fetchV; rw [h]
theorem fetchV_none {m : PM} {p : PK} (h : getM m p = none) : fetchV m p = .tuple #[.string (ByteArray.mk #[]), zv 271] := by unfold fetchV; rw [h]
attribute [local irreducible] WC WL WX POp Then Again Fn NX W1 WA WO QL RP RA Yld LoopAt HC HL HX HN H1 HA HO HQ HB HP A.blk A.grow A.rd A.obj A.mp AgainH CutH
theorem pick27_fn (c n : Int) (h1 : -9223372036854775808 ≤ c) (h2 : c ≤ 9223372036854775807) (hn : 0 < n) (w : World) : Fn Tryz.prog 18 #[zv c, zv n] w fun v w' => v = zv (pk c n) ∧ w = w' := by
  refine enter (l := [_, _]) rfl Tryz.ntmps18 rfl ?_
  by_cases h : c < 0
  · repeat' (first | apply WL.fold | apply WA.fold | apply WL.nil | apply WX.n_then | apply WC.seq | apply WC.region | refine WL.pa ?_ | refine WL.ga rfl ?_ | refine WL.na rfl ?_ | refine WL.nu rfl rfl ?_ | apply WC.block | apply WC.skip | apply WC.exit | apply WC.ret | apply WX.e_block | refine WX.e_other rfl ?_ | apply WX.e_then | apply WX.e_again | apply WX.n_block | apply WX.r_then | apply WX.r_block | apply WX.r_again | refine WC.cond_yes rfl ?_ | refine WC.cond_no rfl ?_ | refine WC.cond rfl (fun hc => ?_) (fun hc => ?_) | refine WC.cond_b rfl (fun hc => ?_) (fun hc => ?_))
    exact WX.ret1 rfl rfl ⟨by rw [pk, if_pos h], rfl⟩
  · repeat' (first | apply WL.fold | apply WA.fold | apply WL.nil | apply WX.n_then | apply WC.seq | apply WC.region | refine WL.pa ?_ | refine WL.ga rfl ?_ | refine WL.na rfl ?_ | refine WL.nu rfl rfl ?_ | apply WC.block | apply WC.skip | apply WC.exit | apply WC.ret | apply WX.e_block | refine WX.e_other rfl ?_ | apply WX.e_then | apply WX.e_again | apply WX.n_block | apply WX.r_then | apply WX.r_block | apply WX.r_again | refine WC.cond_yes rfl ?_ | refine WC.cond_no rfl ?_ | refine WC.cond rfl (fun hc => ?_) (fun hc => ?_) | refine WC.cond_b rfl (fun hc => ?_) (fun hc => ?_))
    exact WX.ret1 rfl rfl ⟨by rw [pk, if_neg h], rfl⟩
theorem cut27_fn (s : ByteArray) (n : Nat) (hs : s.size ≤ 9223372036854775807) (w : World) : Fn Tryz.prog 11 #[.string s, zv (n : Int)] w fun v w' => v = .string (cutS n s) ∧ w = w' := by
  have hm : min (s.size : Int) (n : Int) = ((min s.size n : Nat) : Int) := by omega
  refine enter (l := [_, _]) rfl Tryz.ntmps11 rfl ?_
  repeat' (first | apply WL.fold | apply WA.fold | apply WL.nil | apply WX.n_then | apply WC.seq | apply WC.region | refine WL.pa ?_ | refine WL.ga rfl ?_ | refine WL.na rfl ?_ | refine WL.nu rfl rfl ?_ | apply WC.block | apply WC.skip | apply WC.exit | apply WC.ret | apply WX.e_block | refine WX.e_other rfl ?_ | apply WX.e_then | apply WX.e_again | apply WX.n_block | apply WX.r_then | apply WX.r_block | apply WX.r_again | refine WC.cond_yes rfl ?_ | refine WC.cond_no rfl ?_ | refine WC.cond rfl (fun hc => ?_) (fun hc => ?_) | refine WC.cond_b rfl (fun hc => ?_) (fun hc => ?_))
  exact WX.ret1 rfl rfl ⟨by rw [hm, Int.toNat_natCast]; rfl, rfl⟩
end Go.Sx

