/- Chapter 27: the fixed examples: the walk. -/
import Derived.Test.YtionfblneloaiaaGreatDoorYK
namespace Go.Sx
open Go Go.Proofs Go.RowKit
theorem hwYL {G G2 : Prop} (x : G2) (hwq : Hold G2 → G := by
    intro hQq
    repeat' (first | refine HL.pa ?_ (POp.pneN rfl rfl) | refine HL.pa ?_ (POp.pnil1 rfl rfl) | refine HL.pa ?_ (POp.pnil0 rfl rfl) | refine HL.pa ?_ (POp.nilCheck rfl) | apply HL.fold | apply HA.fold | apply HL.nil | apply HX.n_then | apply HC.seq | apply HC.region | refine HL.pa ?_ | refine HL.ga rfl ?_ | refine HL.na rfl ?_ | refine HL.nu rfl rfl ?_ | apply HC.block | apply HC.skip | apply HC.exit | apply HC.ret | apply HX.e_block | refine HX.e_other rfl ?_ | apply HX.e_then | apply HX.e_again | apply HX.n_block | apply HX.r_then | apply HX.r_block | apply HX.r_again | refine HC.cond_yes rfl ?_ | refine HC.cond_no rfl ?_ | refine HL.one (H1.ldb rfl memA rfl rfl ?_) | refine HC.cond rfl (fun hc => ?_) (fun hc => ?_) | refine HC.cond_b rfl (fun hc => ?_) (fun hc => ?_))
    exact hQq.get) : G := hwq ⟨x⟩
theorem needL_le27 : ∀ (l : List ByteArray), (∀ r ∈ l, r.size ≤ 100) → needL l ≤ 150 * l.length
  | [], _ => Nat.zero_le _
  | r :: l, h => by
    have h1 := needL_le27 l fun x hx => h x (List.mem_cons_of_mem _ hx)
    have h2 := h r (List.mem_cons_self ..)
    have h3 := strN_size (n := r.size) (by omega)
    show (33 + (strN r.size).size + r.size) + needL l ≤ 150 * (l.length + 1)
    omega
theorem recS_le {p : PK} {s : ByteArray} (hp : okP p) (hs : s.size ≤ 60) : (recS p s).size ≤ 100 := by
  obtain ⟨h1, h2, h3, h4⟩ := hp
  have h5 := putsB_size [p.1.toNat, p.2.toNat] (mkB 115) (by
    intro n hn
    rcases List.mem_cons.1 hn with rfl | hn
    · omega
    rcases List.mem_cons.1 hn with rfl | hn
    · omega
    · cases hn)
  have h6 := strN_size (n := s.size) (by omega)
  have h7 : (mkB 115).size = 1 := rfl
  unfold recS
  rw [ByteArray.size_append, ByteArray.size_append]
  simp only [List.length_cons, List.length_nil] at h5
  omega
abbrev ab27 : ByteArray := ByteArray.mk #[97, 98]
abbrev cd27 : ByteArray := ByteArray.mk #[99, 100]
abbrev ef27 : ByteArray := ByteArray.mk #[101, 102]
abbrev x27 : ByteArray := ByteArray.mk #[120]
def m27 : PM := [((5, 0), ef27), ((5, 3), cd27)]
def l27 : List ByteArray := [recS (5, 0) ab27, recS (5, 3) cd27, recS (5, 0) ef27]
theorem l27_size : ∀ r ∈ l27, r.size ≤ 100 := by
  intro r hr
  rcases List.mem_cons.1 hr with rfl | hr
  · exact recS_le (by decide) (by decide)
  rcases List.mem_cons.1 hr with rfl | hr
  · exact recS_le (by decide) (by decide)
  rcases List.mem_cons.1 hr with rfl | hr
  · exact recS_le (by decide) (by decide)
  · cases hr
theorem sane_plain27 : ∃ j1 j2 j3 j4 : Jn, storeF [] ⟨t00, newK 2000, false⟩ (5, 0) ab27 = (0, [((5, 0), ab27)], j1) ∧ CClean [((5, 0), ab27)] j1 2000 [recS (5, 0) ab27]
    ∧ storeF [((5, 0), ab27)] j1 (5, 3) cd27 = (0, [((5, 0), ab27), ((5, 3), cd27)], j2) ∧ CClean [((5, 0), ab27), ((5, 3), cd27)] j2 2000 [recS (5, 0) ab27, recS (5, 3) cd27]
    ∧ storeF [((5, 0), ab27), ((5, 3), cd27)] j2 (5, 0) ef27 = (0, m27, j3) ∧ CClean m27 j3 2000 l27
    ∧ dropF m27 j3 5 = (2, 0, [], j4) ∧ CClean [] j4 2000 (l27 ++ [recD 5]) := by
  have h0 := cclean0 (N := 2000) (by decide) (by decide)
  have z := l27_size
  have z1 : (recS (5, 0) ab27).size ≤ 100 := z _ (.head _)
  have z2 : (recS (5, 3) cd27).size ≤ 100 := z _ (.tail _ (.head _))
  obtain ⟨j1, e1, h1⟩ := h0.store (p := (5, 0)) (s := ab27) (by decide) (by decide) (by
    refine Nat.le_trans (needL_le27 _ fun r hr => ?_) (show 150 * 1 ≤ 2000 by decide)
    rcases List.mem_cons.1 hr with rfl | hr
    · exact z1
    · cases hr)
  obtain ⟨j2, e2, h2⟩ := h1.store (p := (5, 3)) (s := cd27) (by decide) (by decide) (by
    refine Nat.le_trans (needL_le27 _ fun r hr => ?_) (show 150 * 2 ≤ 2000 by decide)
    rcases List.mem_cons.1 hr with rfl | hr
    · exact z1
    rcases List.mem_cons.1 hr with rfl | hr
    · exact z2
    · cases hr)
  obtain ⟨j3, e3, h3⟩ := h2.store (p := (5, 0)) (s := ef27) (by decide) (by decide) (Nat.le_trans (needL_le27 l27 z) (show 150 * 3 ≤ 2000 by decide))
  have z4 := recD_size (o := 5) (by decide)
  obtain ⟨j4, e4, h4⟩ := CClean.drop (m := m27) (l := l27) (j := j3) h3 (o := 5) (by decide) (by decide) (by
    refine Nat.le_trans (needL_le27 _ fun r hr => ?_) (show 150 * 4 ≤ 2000 by decide)
    rcases List.mem_append.1 hr with hr | hr
    · exact z r hr
    rcases List.mem_cons.1 hr with rfl | hr
    · omega
    · cases hr)
  exact ⟨j1, j2, j3, j4, e1, h1, e2, h2, e3, h3, e4, h4⟩
def ps27 : List PK := [(5, 0), (5, 3)]
theorem ps27_sorted : SortedP ps27 m27 := ⟨List.Perm.refl _, by unfold ps27 leP; simp⟩
theorem ps27_rd {w : World} {b : Nat} {e : TypeId} (h : Blk w b (pcl ps27) e) : RdP w (.slice (some ⟨b, 0, none⟩) 2 2) ps27 :=
  ⟨_, _, rfl, Nat.le_refl _, .inr ⟨b, 0, rfl, fun i u hu => by rw [Nat.zero_add]; exact h.cell hu⟩⟩
theorem fetch27 : fetchV m27 (5, 0) = .tuple #[.string ef27, zv 0] := rfl
theorem ans27 : ansV m27 (5, 3) x27 = .tuple #[.string (expB cd27 x27), zv 0] := by
  unfold ansV
  rw [if_neg (by decide)]
  rfl
theorem ans27n : ansV m27 (5, 1) x27 = .tuple #[.string (ByteArray.mk #[]), zv 271] := by
  unfold ansV
  rw [if_neg (by decide)]
  rfl
theorem exp27 : (expB cd27 x27).size = 32 := by
  unfold expB
  rw [if_neg (by decide)]
  exact sumS_size _
theorem get27 (s : ByteArray) {p : PK} (h : getM m27 p = some s) : s.size ≤ 100000 := by
  have h1 : getM m27 p = if p = (5, 0) then some ef27 else if p = (5, 3) then some cd27 else none := rfl
  rw [h1] at h
  split at h
  · cases h; decide
  split at h
  · cases h; decide
  · cases h
attribute [local irreducible] WC WL WX POp Then Again Fn NX W1 WA WO QL RP RA Yld LoopAt HC HL HX HN H1 HA HO HQ HB HP A.blk A.grow A.rd A.obj A.mp AgainH CutH
attribute [local irreducible] A.pm A.mx A.mit sumS newK expB
set_option maxHeartbeats 4000000 in
theorem sane27_fn {w : World} {ea ec : Addr} (hG : RoundG w) (hE : ErrG ea w) (hC : CErrG ec w) : Fn Tryz.prog 10 #[] w fun v w' => v = .bool true ∧ Ext w w' := by
  obtain ⟨j1, j2, j3, j4, e1, h1, e2, h2, e3, h3, e4, h4⟩ := sane_plain27
  have h0 := cclean0 (N := 2000) (by decide) (by decide)
  have e5 : dropF [] j4 5 = (0, 0, [], j4) := dropF_none (by decide) rfl
  refine enterH (l := []) rfl Tryz.ntmps10 rfl ?_
  refine hwYL ?_
  refine HL.one (H1.callz (α := (Nat × Nat × Nat) × Nat × Nat × Nat × (Option Addr × Nat) × (Option Addr × Nat)) (V := fun z => .tuple #[.pointer (some ⟨z.2.1, 0, none⟩), .pointer (some ⟨z.1.1, 0, none⟩), .bool true])
    (Hn := fun z => cuH z.2.1 z.2.2.1 z.2.2.2.1 z.1.1 z.1.2.1 z.1.2.2 z.2.2.2.2.1.1 z.2.2.2.2.1.2 z.2.2.2.2.2.1 z.2.2.2.2.2.2 [] ⟨t00, newK 2000, false⟩ []) (I := fun _ => True) (vs := [zv 2000]) rfl rfl (fun w' hM => opened_fn (hG.ext hM.ext) (hE.ext hM.ext) (hC.ext hM.ext) 2000 (by decide) (by decide)) ?_)
  rintro ⟨⟨bd, b1, b2⟩, bx, bm, bj, ⟨a, c⟩, ⟨pa, pc⟩⟩ -
  dsimp only
  refine hwYL ?_
  refine HL.one (H1.callk (α := (Option Addr × Nat) × (Option Addr × Nat)) (V := fun _ => zv 0) (I := fun _ => True) (H' := fun q => cuH bx bm bj bd b1 b2 q.1.1 q.1.2 q.2.1 q.2.2 [((5, 0), ab27)] j1 []) (vs := [_, zv 5, zv 0, .string ab27]) rfl rfl
    (fun w' hM => by
      have h := store_fn (5, 0) ab27 hG hM (h0.jn.jok (Nat.zero_le _))
      rw [e1] at h
      exact h) ?_)
  rintro ⟨⟨a, c⟩, ⟨pa, pc⟩⟩ -
  dsimp only
  refine hwYL ?_
  refine HL.one (H1.callk (α := (Option Addr × Nat) × (Option Addr × Nat)) (V := fun _ => zv 0) (I := fun _ => True) (H' := fun q => cuH bx bm bj bd b1 b2 q.1.1 q.1.2 q.2.1 q.2.2 [((5, 0), ab27), ((5, 3), cd27)] j2 []) (vs := [_, zv 5, zv 3, .string cd27]) rfl rfl
    (fun w' hM => by
      have h := store_fn (5, 3) cd27 hG hM (h1.jn.jok (by decide))
      rw [e2] at h
      exact h) ?_)
  rintro ⟨⟨a, c⟩, ⟨pa, pc⟩⟩ -
  dsimp only
  refine hwYL ?_
  refine HL.one (H1.callk (α := (Option Addr × Nat) × (Option Addr × Nat)) (V := fun _ => zv 0) (I := fun _ => True) (H' := fun q => cuH bx bm bj bd b1 b2 q.1.1 q.1.2 q.2.1 q.2.2 m27 j3 []) (vs := [_, zv 5, zv 0, .string ef27]) rfl rfl
    (fun w' hM => by
      have h := store_fn (5, 0) ef27 hG hM (h2.jn.jok (by decide))
      rw [e3] at h
      exact h) ?_)
  rintro ⟨⟨a, c⟩, ⟨pa, pc⟩⟩ -
  dsimp only
  refine hwYL ?_
  refine HL.one (H1.callk (α := Unit) (V := fun _ => .tuple #[.string ef27, zv 0]) (I := fun _ => True) (H' := fun _ => cuH bx bm bj bd b1 b2 a c pa pc m27 j3 []) (vs := [_, zv 5, zv 0]) rfl rfl
    (fun w' hM => by
      have h := fetch_fn (5, 0) hM
      rw [fetch27] at h
      exact h) ?_)
  rintro - -
  refine hwYL ?_
  refine HL.one (H1.callk (α := Unit) (V := fun _ => .tuple #[.string (expB cd27 x27), zv 0]) (I := fun _ => True) (H' := fun _ => cuH bx bm bj bd b1 b2 a c pa pc m27 j3 []) (vs := [_, zv 5, zv 3, .string x27]) rfl rfl
    (fun w' hM => by
      have h := answer_fn (5, 3) x27 hG hM (fun s hs => get27 s hs)
      rw [ans27] at h
      exact h) ?_)
  rintro - -
  refine hwYL ?_
  refine HL.one (H1.callk (α := Unit) (V := fun _ => .tuple #[.string (ByteArray.mk #[]), zv 271]) (I := fun _ => True) (H' := fun _ => cuH bx bm bj bd b1 b2 a c pa pc m27 j3 []) (vs := [_, zv 5, zv 1, .string x27]) rfl rfl
    (fun w' hM => by
      have h := answer_fn (5, 1) x27 hG hM (fun s hs => get27 s hs)
      rw [ans27n] at h
      exact h) ?_)
  rintro - -
  refine hwYL ?_
  refine HL.one (H1.callk (α := Nat × Nat × Nat × (Option Addr × Nat) × (Option Addr × Nat)) (V := fun z => .tuple #[.pointer (some ⟨z.1, 0, none⟩), zv 0]) (I := fun _ => True)
    (H' := fun z => cuH z.1 z.2.1 z.2.2.1 bd b1 b2 z.2.2.2.1.1 z.2.2.2.1.2 z.2.2.2.2.1 z.2.2.2.2.2 m27 j3 [A.blk bx (cuC bm bj) 84, A.pm bm (liftP m27), A.blk bj (tpC a c j3.t (jnR bd j3.br)) 179, A.grow 9 1 a c j3.t.recs.length (strs j3.t.recs)]) (vs := [_]) rfl rfl
    (fun w' hM => copen_fn hG hE hC h3 (by decide) (hM.sub (Hs.cons (Pick.there (Pick.there (Pick.there (Pick.there Pick.here)))) (Hs.cons (Pick.there (Pick.there (Pick.there (Pick.there Pick.here)))) (Hs.cons (Pick.there (Pick.there (Pick.there (Pick.there Pick.here)))) (Hs.cons (Pick.there (Pick.there (Pick.there (Pick.there Pick.here)))) (Hs.refl _))))))) ?_)
  rintro ⟨by_, bn, bk, ⟨a2, c2⟩, ⟨pa2, pc2⟩⟩ -
  dsimp only
  refine hwYL ?_
  refine HL.one (H1.callk (α := List PK × Option Addr × Nat) (V := fun z => .slice z.2.1 z.1.length z.2.2) (I := fun z => SortedP z.1 m27)
    (H' := fun z => A.grow 43 2 z.2.1 z.2.2 z.1.length (pcl z.1) :: A.blk bx (cuC bm bj) 84 :: A.pm bm (liftP m27) :: A.blk by_ (cuC bn bk) 84 :: A.pm bn (liftP m27) :: jnlH bk bd b1 b2 a2 c2 pa2 pc2 j3 [A.blk bj (tpC a c j3.t (jnR bd j3.br)) 179, A.grow 9 1 a c j3.t.recs.length (strs j3.t.recs)]) (vs := [_]) rfl rfl
    (fun w' hM => holds27_fn (hM.sub (Hs.cons (Pick.there (Pick.there (Pick.there (Pick.there (Pick.there (Pick.there (Pick.there (Pick.there Pick.here)))))))) (Hs.cons (Pick.there (Pick.there (Pick.there (Pick.there (Pick.there (Pick.there (Pick.there (Pick.there Pick.here)))))))) (Hs.refl _)))) h3.nd (by decide)) ?_)
  rintro ⟨q1, a3, c3⟩ hS
  dsimp only at hS ⊢
  obtain rfl := hS.eq ps27_sorted
  refine hwYL ?_
  refine HL.build (cs := [zv 5, zv 0]) rfl rfl rfl ?_
  refine HL.build (cs := [zv 5, zv 3]) rfl rfl rfl ?_
  refine HL.one (H1.lit (cs := pcl ps27) rfl rfl rfl rfl rfl rfl (fun b9 => ?_))
  refine hwYL ?_
  refine HL.one (H1.callx (vs := [.slice a3 2 c3, .slice (some ⟨b9, 0, none⟩) 2 2]) rfl rfl (fun w' hM => samePairs_fn (.slice a3 2 c3) (.slice (some ⟨b9, 0, none⟩) 2 2) ps27 ps27 (by decide) (by decide) w' (hM.grP (e := 43) (l := ps27) memA) (ps27_rd (hM.blk (b := b9) memA))) ?_)
  rw [decide_eq_true rfl]
  refine hwYL ?_
  refine HL.one (H1.callk (α := List PK × Option Addr × Nat) (V := fun z => .slice z.2.1 z.1.length z.2.2) (I := fun z => SortedP z.1 m27)
    (H' := fun z => A.grow 43 2 z.2.1 z.2.2 z.1.length (pcl z.1) :: A.blk by_ (cuC bn bk) 84 :: A.pm bn (liftP m27) :: A.blk bx (cuC bm bj) 84 :: A.pm bm (liftP m27) :: jnlH bk bd b1 b2 a2 c2 pa2 pc2 j3 [A.blk bj (tpC a c j3.t (jnR bd j3.br)) 179, A.grow 9 1 a c j3.t.recs.length (strs j3.t.recs)]) (vs := [_]) rfl rfl
    (fun w' hM => holds27_fn (hM.sub (Hs.cons (Pick.there (Pick.there (Pick.there (Pick.there Pick.here)))) (Hs.cons (Pick.there (Pick.there (Pick.there (Pick.there Pick.here)))) (Hs.refl _).skip.skip))) h3.nd (by decide)) ?_)
  rintro ⟨q2, a4, c4⟩ hS
  dsimp only at hS ⊢
  obtain rfl := hS.eq ps27_sorted
  refine hwYL ?_
  refine HL.one (H1.callk (α := List PK × Option Addr × Nat) (V := fun z => .slice z.2.1 z.1.length z.2.2) (I := fun z => SortedP z.1 m27)
    (H' := fun z => A.grow 43 2 z.2.1 z.2.2 z.1.length (pcl z.1) :: A.grow 43 2 a4 c4 ps27.length (pcl ps27) :: A.blk bx (cuC bm bj) 84 :: A.pm bm (liftP m27) :: jnlH bk bd b1 b2 a2 c2 pa2 pc2 j3 [A.blk bj (tpC a c j3.t (jnR bd j3.br)) 179, A.grow 9 1 a c j3.t.recs.length (strs j3.t.recs)]) (vs := [_]) rfl rfl
    (fun w' hM => (holds27_fn (H := A.grow 43 2 a4 c4 ps27.length (pcl ps27) :: jnlH bk bd b1 b2 a2 c2 pa2 pc2 j3 [A.blk bj (tpC a c j3.t (jnR bd j3.br)) 179, A.grow 9 1 a c j3.t.recs.length (strs j3.t.recs)]) (hM.sub (Hs.cons (Pick.there (Pick.there (Pick.there Pick.here))) (Hs.cons (Pick.there (Pick.there (Pick.there Pick.here))) (Hs.cons Pick.here (Hs.refl _).skip.skip)))) h3.nd (by decide)).mono fun v w2 h => by
      obtain ⟨z, k1, k2, k3⟩ := h
      exact ⟨z, k1, k2, k3.sub (Hs.cons Pick.here (Hs.cons (Pick.there (Pick.there Pick.here)) (Hs.refl _)))⟩) ?_)
  rintro ⟨q3, a5, c5⟩ hS
  dsimp only at hS ⊢
  obtain rfl := hS.eq ps27_sorted
  refine hwYL ?_
  refine HL.one (H1.callx (vs := [.slice a4 2 c4, .slice a5 2 c5]) rfl rfl (fun w' hM => samePairs_fn (.slice a4 2 c4) (.slice a5 2 c5) ps27 ps27 (by decide) (by decide) w' (hM.grP (e := 43) (a := a4) (c := c4) (l := ps27) memA) (hM.grP (e := 43) (a := a5) (c := c5) (l := ps27) memA)) ?_)
  rw [decide_eq_true rfl]
  refine hwYL ?_
  refine HL.one (H1.callk (α := Nat × (Option Addr × Nat) × (Option Addr × Nat)) (V := fun _ => .tuple #[zv 2, zv 0]) (I := fun _ => True) (H' := fun q => cuH bx q.1 bj bd b1 b2 q.2.1.1 q.2.1.2 q.2.2.1 q.2.2.2 [] j4 []) (vs := [_, zv 5]) rfl rfl
    (fun w' hM => by
      have h := cdrop_fn (m := m27) (j := j3) (H := []) 5 hG (hM.sub (Hs.cons (Pick.there (Pick.there Pick.here)) (Hs.cons (Pick.there (Pick.there Pick.here)) (Hs.cons (Pick.there (Pick.there (Pick.there (Pick.there (Pick.there (Pick.there (Pick.there (Pick.there Pick.here)))))))) (Hs.cons (Pick.there (Pick.there (Pick.there (Pick.there (Pick.there (Pick.there (Pick.there (Pick.there Pick.here)))))))) (Hs.cons (Pick.there (Pick.there (Pick.there (Pick.there Pick.here)))) (Hs.cons (Pick.there (Pick.there (Pick.there (Pick.there Pick.here)))) (Hs.cons (Pick.there (Pick.there (Pick.there (Pick.there Pick.here)))) (Hs.cons (Pick.there (Pick.there (Pick.there (Pick.there Pick.here)))) (Hs.refl _).skip.skip.skip.skip))))))))) (h3.jn.jok (by decide)) h3.nd (by decide)
      rw [e4] at h
      exact h) ?_)
  rintro ⟨bm, ⟨a, c⟩, ⟨pa, pc⟩⟩ -
  dsimp only
  refine hwYL ?_
  refine HL.one (H1.callk (α := Nat × (Option Addr × Nat) × (Option Addr × Nat)) (V := fun _ => .tuple #[zv 0, zv 0]) (I := fun _ => True) (H' := fun q => cuH bx q.1 bj bd b1 b2 q.2.1.1 q.2.1.2 q.2.2.1 q.2.2.2 [] j4 []) (vs := [_, zv 5]) rfl rfl
    (fun w' hM => by
      have h := cdrop_fn (m := []) (j := j4) (H := []) 5 hG hM (h4.jn.jok (by decide)) h4.nd (by decide)
      rw [e5] at h
      exact h) ?_)
  rintro ⟨bm, ⟨a, c⟩, ⟨pa, pc⟩⟩ -
  dsimp only
  refine hwYL ?_
  refine HL.one (H1.callk (α := (Option Addr × Nat) × (Option Addr × Nat)) (V := fun _ => zv 270) (I := fun _ => True) (H' := fun q => cuH bx bm bj bd b1 b2 q.1.1 q.1.2 q.2.1 q.2.2 [] j4 []) (vs := [_, zv 0, zv 0, .string (ByteArray.mk #[97])]) rfl rfl
    (fun w' hM => by
      have h := store_fn (0, 0) (ByteArray.mk #[97]) hG hM (h4.jn.jok (by decide))
      rw [storeF_bad (.inl (by decide))] at h
      exact h) ?_)
  rintro ⟨⟨a, c⟩, ⟨pa, pc⟩⟩ -
  dsimp only
  refine hwYL ?_
  refine HL.one (H1.callk (α := (Option Addr × Nat) × (Option Addr × Nat)) (V := fun _ => zv 270) (I := fun _ => True) (H' := fun q => cuH bx bm bj bd b1 b2 q.1.1 q.1.2 q.2.1 q.2.2 [] j4 []) (vs := [_, zv 1, zv 9, .string (ByteArray.mk #[97])]) rfl rfl
    (fun w' hM => by
      have h := store_fn (1, 9) (ByteArray.mk #[97]) hG hM (h4.jn.jok (by decide))
      rw [storeF_bad (.inl (by decide))] at h
      exact h) ?_)
  rintro ⟨⟨a, c⟩, ⟨pa, pc⟩⟩ -
  dsimp only
  refine hwYL ?_
  refine HL.one (H1.callx (vs := [.string cd27, .string x27]) rfl rfl (fun w' hM => expected_fn cd27 x27 (hG.ext hM.ext) (by decide)) ?_)
  have h32 := exp27
  obtain ⟨xb, hxb⟩ : ∃ xb, xb = expB cd27 x27 := ⟨_, rfl⟩
  rw [← hxb] at h32 ⊢
  refine hwYL ?_
  exact HX.ret1 rfl rfl fun w' hM => ⟨rfl, hM.ext⟩
end Go.Sx

