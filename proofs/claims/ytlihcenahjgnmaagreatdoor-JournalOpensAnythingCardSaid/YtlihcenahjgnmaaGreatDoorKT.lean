/- Chapter 26: a journal and its reference: the walks. -/
import Derived.Test.YtlihcenahjgnmaaGreatDoorKR
import Derived.Test.YtlihcenahjgnmaaGreatDoorKF
namespace Go.Sx
open Go Go.Proofs Go.RowKit
theorem hwKT {G G2 : Prop} (x : G2) (hwq : Hold G2 → G := by
    intro hQq
    repeat' (first | refine HL.pa ?_ (POp.peqT rfl rfl) | refine HL.pa ?_ (POp.pnil1 rfl rfl) | refine HL.pa ?_ (POp.pnil0 rfl rfl) | refine HL.pa ?_ (POp.nilCheck rfl) | apply HL.fold | apply HA.fold | apply HL.nil | apply HX.n_then | apply HC.seq | apply HC.region | refine HL.pa ?_ | refine HL.ga rfl ?_ | refine HL.na rfl ?_ | refine HL.nu rfl rfl ?_ | apply HC.block | apply HC.skip | apply HC.exit | apply HC.ret | apply HX.e_block | refine HX.e_other rfl ?_ | apply HX.e_then | apply HX.e_again | apply HX.n_block | apply HX.r_then | apply HX.r_block | apply HX.r_again | refine HC.cond_yes rfl ?_ | refine HC.cond_no rfl ?_ | refine HL.one (H1.ldb rfl memA rfl rfl ?_) | refine HC.cond rfl (fun hc => ?_) (fun hc => ?_) | refine HC.cond_b rfl (fun hc => ?_) (fun hc => ?_))
    exact hQq.get) : G := hwq ⟨x⟩
theorem POp.peqT {P : Program} {N : Nat} {ds : List Deferred} {E : Env} {t t' ty e : TypeId} {x y : Operand} {a : Addr} [h : UTy P t (.pointer e)] (hx : Env.ev E x = some (.pointer (some a))) (hy : Env.ev E y = some (.pointer none)) : POp P N ds E (.binOp .eql t x y t') ty (.bool false) :=
  POp.bin hx hy (fun w => by rw [eqGuard_at_pointer]; rfl) fun w => by
    have e1 := run_equalIn_pnil (P := P) (t := t) w 9999 (some a)
    show (Op.equalIn (9999 + 1) t (.pointer (some a)) (.pointer none) >>= fun r => pure (Value.bool r)).run P w = _
    rw [Sem.run_bind, e1]; rfl
/-- A journal and its reference, each with its disk. -/
def wdC (bd bf : Nat) (jp kp : Option Addr) : List Value := [.pointer (some ⟨bd, 0, none⟩), .pointer jp, .pointer (some ⟨bf, 0, none⟩), .pointer kp]
structure QS where
  bj : Nat
  bk : Nat
  a : Option Addr × Nat
  pa : Option Addr × Nat
  ja : Option Addr × Nat
  sa : Option Addr × Nat
  la : Option Addr × Nat
def jpO (b : Nat) : Option (Tp × Bool) → Option Addr
  | some _ => some ⟨b, 0, none⟩
  | none => none
def jrO (bd bf : Nat) (q : QS) (o : Option (Tp × Bool)) (H : List Atom) : List Atom := match o with
  | some x => A.blk q.bj (tpC q.a.1 q.a.2 x.1 (jnR bd x.2)) 74 :: A.grow 9 1 q.a.1 q.a.2 x.1.recs.length (strs x.1.recs) :: A.blk q.bk (rjC bf q.ja.1 q.ja.2 x.1 x.2) 43 :: A.grow 9 1 q.ja.1 q.ja.2 x.1.recs.length (strs x.1.recs) :: H
  | none => H
/-- The disks' atoms, then the journals'. -/
abbrev dwH (bw bd b1 b2 bf : Nat) (q : QS) (k : Dk) (jp kp : Option Addr) (H : List Atom) : List Atom :=
  A.blk bw (wdC bd bf jp kp) 32 :: dkH bd b1 b2 q.pa.1 q.pa.2 k (rfH bf q.sa.1 q.sa.2 q.la.1 q.la.2 k H)
abbrev stH (bw bd b1 b2 bf : Nat) (q : QS) (k : Dk) (o : Option (Tp × Bool)) (H : List Atom) : List Atom :=
  dwH bw bd b1 b2 bf q k (jpO q.bj o) (jpO q.bk o) (jrO bd bf q o H)
/-- What opening leaves. -/
def OpI (N p : Nat) (k : Dk) (z : QS × Dk × Option (Tp × Bool)) : Prop := JInv N p z.2.1 z.2.2 ∧ z.2.1 = (openF k).2.1 ∧ z.2.2 = (openF k).2.2.map fun t => (t, false)
attribute [local irreducible] WC WL WX POp Then Again Fn NX W1 WA WO QL RP RA Yld LoopAt HC HL HX HN H1 HA HO HQ HB HP A.blk A.grow A.rd A.obj A.mp AgainH CutH
attribute [local irreducible] sumS chainS
set_option maxHeartbeats 1000000 in
/-- Both are opened. -/
theorem wopen_fn {w0 w : World} {H : List Atom} {bw bd b1 b2 bf N p : Nat} {q : QS} {k : Dk} {jp kp : Option Addr} {ea : Addr} (hG : RoundG w0) (hE : ErrG ea w0) (hM : Mm w0 (dwH bw bd b1 b2 bf q k jp kp H) w) (hI : JInv N p k none) (hp : p ≤ 9000) (hN : N ≤ 100000) :
    Fn Tryz.prog 17 #[.pointer (some ⟨bw, 0, none⟩)] w fun v w' => ∃ z : QS × Dk × Option (Tp × Bool), OpI N (p + 4) k z ∧ v = .bool true ∧ Mm w0 (stH bw bd b1 b2 bf z.1 z.2.1 z.2.2 H) w' := by
  obtain ⟨bj, bk, ⟨a, c⟩, ⟨pa, pc⟩, ⟨ja, jc⟩, ⟨sa, sc⟩, ⟨la, lc⟩⟩ := q
  have hM : Mm w0 (A.blk bw (wdC bd bf jp kp) 32 :: dkH bd b1 b2 pa pc k (rfH bf sa sc la lc k H)) w := hM
  have hlen := hI.len
  have hpl := hI.pend
  refine enterK (l := [_]) hM rfl Tryz.ntmps17 rfl ?_
  refine hwKT ?_
  rcases hI.opens hp with ⟨t, k', ho, hI'⟩ | ⟨e, k', ho, hne, hI'⟩
  · refine HL.one (H1.callk (α := Nat × (Option Addr × Nat) × (Option Addr × Nat)) (V := fun z => .tuple #[.pointer (some ⟨z.1, 0, none⟩), zv 0]) (I := fun _ => True) (H' := fun z => jnlH z.1 bd b1 b2 z.2.1.1 z.2.1.2 z.2.2.1 z.2.2.2 ⟨t, k', false⟩ (A.blk bw (wdC bd bf jp kp) 32 :: rfH bf sa sc la lc k H)) (vs := [_]) rfl rfl
      (fun w' hM => jopen_ok ho hG hE (hM.sub (Hs.cons (Pick.there Pick.here) (Hs.cons (Pick.there Pick.here) (Hs.cons (Pick.there Pick.here) (Hs.cons (Pick.there Pick.here) (Hs.refl _)))))) hI.ok (by omega)) ?_)
    rintro ⟨bj, ⟨a, c⟩, ⟨pa, pc⟩⟩ -
    dsimp only
    refine hwKT ?_
    refine HL.one (H1.callk (α := Nat × (Option Addr × Nat) × (Option Addr × Nat) × (Option Addr × Nat)) (V := fun z => .tuple #[.pointer (some ⟨z.1, 0, none⟩), zv 0]) (I := fun _ => True) (H' := fun z => rjH z.1 bf z.2.1.1 z.2.1.2 z.2.2.1.1 z.2.2.1.2 z.2.2.2.1 z.2.2.2.2 t k' false (jnlH bj bd b1 b2 a c pa pc ⟨t, k', false⟩ (A.blk bw (wdC bd bf jp kp) 32 :: H))) (vs := [_]) rfl rfl
      (fun w' hM => (ropen_fn (H := jnlH bj bd b1 b2 a c pa pc ⟨t, k', false⟩ (A.blk bw (wdC bd bf jp kp) 32 :: H)) (hM.sub (Hs.cons (Pick.there (Pick.there (Pick.there (Pick.there (Pick.there (Pick.there (Pick.there Pick.here))))))) (Hs.cons (Pick.there (Pick.there (Pick.there (Pick.there (Pick.there (Pick.there (Pick.there Pick.here))))))) (Hs.cons (Pick.there (Pick.there (Pick.there (Pick.there (Pick.there (Pick.there (Pick.there Pick.here))))))) (Hs.refl _))))) hI.ok hI.fit hI.vis (by omega) (by omega)).mono fun v w2 h => by
        rw [ho] at h
        obtain ⟨z, h1, h2⟩ := h
        exact ⟨z, trivial, h1, h2⟩) ?_)
    rintro ⟨bk2, ⟨ja2, jc2⟩, ⟨sa2, sc2⟩, ⟨la2, lc2⟩⟩ -
    dsimp only
    refine hwKT ?_
    refine HL.one (H1.st (b := bw) rfl rfl (by intro _ h; cases h) (by intro _ h; cases h) rplA (by show 1 < 4; decide) ?_)
    refine hwKT ?_
    refine HL.one (H1.st (b := bw) rfl rfl (by intro _ h; cases h) (by intro _ h; cases h) rplA (by show 3 < 4; decide) ?_)
    refine hwKT ?_
    refine HX.ret1 rfl rfl fun w' hM => ⟨(⟨bj, bk2, (a, c), (pa, pc), (ja2, jc2), (sa2, sc2), (la2, lc2)⟩, k', some (t, false)), ⟨hI', by rw [ho], by rw [ho]; rfl⟩, rfl, ?_⟩
    exact hM.sub (Hs.cons (Pick.there (Pick.there (Pick.there (Pick.there (Pick.there (Pick.there (Pick.there (Pick.there (Pick.there (Pick.there (Pick.there Pick.here))))))))))) (Hs.cons (Pick.there (Pick.there (Pick.there (Pick.there (Pick.there (Pick.there (Pick.there Pick.here))))))) (Hs.cons (Pick.there (Pick.there (Pick.there (Pick.there (Pick.there (Pick.there (Pick.there Pick.here))))))) (Hs.cons (Pick.there (Pick.there (Pick.there (Pick.there (Pick.there (Pick.there (Pick.there Pick.here))))))) (Hs.cons (Pick.there (Pick.there (Pick.there (Pick.there (Pick.there (Pick.there (Pick.there Pick.here))))))) (Hs.cons (Pick.there (Pick.there Pick.here)) (Hs.cons (Pick.there (Pick.there Pick.here)) (Hs.cons (Pick.there (Pick.there Pick.here)) (Hs.cons (Pick.there (Pick.there Pick.here)) (Hs.cons (Pick.there (Pick.there Pick.here)) (Hs.refl _)))))))))))
  · refine HL.one (H1.callk (α := Option Addr × Nat) (V := fun _ => .tuple #[.pointer none, zv e]) (I := fun _ => True) (H' := fun q => dkH bd b1 b2 q.1 q.2 k' (A.blk bw (wdC bd bf jp kp) 32 :: rfH bf sa sc la lc k H)) (vs := [_]) rfl rfl
      (fun w' hM => jopen_no ho hG hE (hM.sub (Hs.cons (Pick.there Pick.here) (Hs.cons (Pick.there Pick.here) (Hs.cons (Pick.there Pick.here) (Hs.cons (Pick.there Pick.here) (Hs.refl _)))))) hI.ok (by omega)) ?_)
    rintro ⟨pa, pc⟩ -
    dsimp only
    refine hwKT ?_
    refine HL.one (H1.callk (α := (Option Addr × Nat) × (Option Addr × Nat)) (V := fun _ => .tuple #[.pointer none, zv e]) (I := fun _ => True) (H' := fun q => rfH bf q.1.1 q.1.2 q.2.1 q.2.2 k' (dkH bd b1 b2 pa pc k' (A.blk bw (wdC bd bf jp kp) 32 :: H))) (vs := [_]) rfl rfl
      (fun w' hM => (ropen_fn (H := dkH bd b1 b2 pa pc k' (A.blk bw (wdC bd bf jp kp) 32 :: H)) (hM.sub (Hs.cons (Pick.there (Pick.there (Pick.there (Pick.there (Pick.there Pick.here))))) (Hs.cons (Pick.there (Pick.there (Pick.there (Pick.there (Pick.there Pick.here))))) (Hs.cons (Pick.there (Pick.there (Pick.there (Pick.there (Pick.there Pick.here))))) (Hs.refl _))))) hI.ok hI.fit hI.vis (by omega) (by omega)).mono fun v w2 h => by
        rw [ho] at h
        obtain ⟨z, h1, h2⟩ := h
        exact ⟨z, trivial, h1, h2⟩) ?_)
    rintro ⟨⟨sa2, sc2⟩, ⟨la2, lc2⟩⟩ -
    dsimp only
    refine hwKT ?_
    refine HL.one (H1.st (b := bw) rfl rfl (by intro _ h; cases h) (by intro _ h; cases h) rplA (by show 1 < 4; decide) ?_)
    refine hwKT ?_
    refine HL.one (H1.st (b := bw) rfl rfl (by intro _ h; cases h) (by intro _ h; cases h) rplA (by show 3 < 4; decide) ?_)
    refine hwKT ?_
    exact HX.ret1 rfl rfl fun w' hM => ⟨(⟨bj, bk, (a, c), (pa, pc), (ja, jc), (sa2, sc2), (la2, lc2)⟩, k', none), ⟨hI', by rw [ho], by rw [ho]; rfl⟩, (by rw [decide_eq_true hne]; rfl), hM.sub (Hs.cons (Pick.there (Pick.there (Pick.there (Pick.there (Pick.there (Pick.there (Pick.there Pick.here))))))) (Hs.cons (Pick.there (Pick.there (Pick.there Pick.here))) (Hs.cons (Pick.there (Pick.there (Pick.there Pick.here))) (Hs.cons (Pick.there (Pick.there (Pick.there Pick.here))) (Hs.cons (Pick.there (Pick.there (Pick.there Pick.here))) (Hs.refl _))))))⟩
theorem jrO_sub (bd bf : Nat) (q : QS) (o : Option (Tp × Bool)) (H : List Atom) : Hs (jrO bd bf q o H) H := by
  cases o with
  | none => exact Hs.refl _
  | some x => exact (Hs.refl _).skip.skip.skip.skip
theorem few_sz {l : List ByteArray} : ∀ r ∈ few26 l, r.size ≤ 65536 := fun r hr => Nat.le_trans (few26_size l r hr) (by decide)
attribute [local irreducible] few26
set_option maxHeartbeats 4000000 in
/-- A call of both. -/
theorem does_fn {w0 w : World} {H : List Atom} {bw bd b1 b2 bf N p : Nat} {q : QS} {k : Dk} {o : Option (Tp × Bool)} {ea : Addr} (op : OpV) (hG : RoundG w0) (hE : ErrG ea w0) (hM : Mm w0 (stH bw bd b1 b2 bf q k o H) w) (hI : JInv N p k o) (hp : p ≤ 8900) (hN : N ≤ 100000)
    (hkind : -9223372036854775808 ≤ op.kind ∧ op.kind ≤ 9223372036854775807) (hnn : -9223372036854775808 ≤ op.n ∧ op.n ≤ 9223372036854775807)
    (hrs : Rd w0 op.vl (strs op.l) ∧ (∀ s ∈ op.l, s.size ≤ 9223372036854775807) ∧ op.l.length ≤ 9223372036854775807) (hrk : Rd w0 op.vk (ints op.keep) ∧ op.keep.length ≤ 9223372036854775807) :
    Fn Tryz.prog 31 #[.pointer (some ⟨bw, 0, none⟩), .agg (opC op).toArray] w fun v w' => ∃ z : QS × Dk × Option (Tp × Bool), JInv N (p + 8) z.2.1 z.2.2 ∧ v = .bool true ∧ Mm w0 (stH bw bd b1 b2 bf z.1 z.2.1 z.2.2 H) w' := by
  obtain ⟨kind, gi, nn, K, vl, vk⟩ := op
  obtain ⟨bj, bk, ⟨a, c⟩, ⟨pa, pc⟩, ⟨ja, jc⟩, ⟨sa, sc⟩, ⟨la, lc⟩⟩ := q
  dsimp only at hkind hnn hrs hrk
  obtain ⟨jp, hjp⟩ : ∃ jp, jp = jpO bj o := ⟨_, rfl⟩
  obtain ⟨kp, hkp⟩ : ∃ kp, kp = jpO bk o := ⟨_, rfl⟩
  obtain ⟨R, hR⟩ : ∃ R, R = jrO bd bf ⟨bj, bk, (a, c), (pa, pc), (ja, jc), (sa, sc), (la, lc)⟩ o H := ⟨_, rfl⟩
  have hM : Mm w0 (A.blk bw (wdC bd bf jp kp) 32 :: dkH bd b1 b2 pa pc k (rfH bf sa sc la lc k R)) w := by
    rw [hjp, hkp, hR]; exact hM
  obtain ⟨ak, ck, rfl, hck⟩ : ∃ ak ck, vk = .slice ak K.length ck ∧ K.length ≤ ck := by
    obtain ⟨a, c, h1, h2, -⟩ := hrk.1
    rw [ints_len] at h1 h2
    exact ⟨a, c, h1, h2⟩
  refine enterK (l := [_, _]) hM rfl Tryz.ntmps31 rfl ?_
  refine hwKT ?_
  refine HL.one (H1.boxAgg (cs := [zv kind, vl, zv nn, .slice ak K.length ck]) rfl rfl (fun bo => ?_))
  refine hwKT ?_
  refine HL.one (H1.call0 (vs := [_, zv 8]) rfl rfl (fun w' hM => pick26_fn kind 8 hkind.1 hkind.2 (by decide) w') ?_)
  obtain ⟨κ, hκ⟩ : ∃ κ, κ = pk kind 8 := ⟨_, rfl⟩
  rw [← hκ]
  have hkl := pk_lt kind (n := 8) (by decide)
  rw [← hκ] at hkl
  have hRs : Hs R H := by rw [hR]; exact jrO_sub ..
  have hfin : ∀ k' w', Mm w0 (A.blk bw (wdC bd bf jp kp) 32 :: dkH bd b1 b2 pa pc k' (rfH bf sa sc la lc k' R)) w' → Mm w0 (stH bw bd b1 b2 bf ⟨bj, bk, (a, c), (pa, pc), (ja, jc), (sa, sc), (la, lc)⟩ k' o H) w' := fun k' w' h => by
    rw [hjp, hkp, hR] at h; exact h
  by_cases h5 : κ = 5
  · obtain ⟨m, hm, hm5⟩ : ∃ m : Nat, 1 + pk nn 5 = (m : Int) ∧ m ≤ 5 := ⟨(1 + pk nn 5).toNat, by have := pk_lt nn (n := 5) (by decide); omega⟩
    refine hwKT ?_
    refine HC.anyC ([(⟨bw, 0, none⟩, .pointer (some ⟨bd, 0, none⟩)), (⟨bw, 2, none⟩, .pointer (some ⟨bf, 0, none⟩)), (⟨bo, 2, none⟩, zv nn)]) rfl ?_
    refine HB.pa 0 rfl ?_
    refine HB.pa 1 rfl ?_ (POp.nilCheck rfl)
    refine HB.pa 2 rfl ?_
    refine HB.ld 3 rfl rfl memD ?_
    refine HB.pa 4 rfl ?_
    refine HB.ld 5 rfl rfl memD ?_
    refine HB.pa 9 rfl ?_
    refine HB.pa 10 rfl ?_ (POp.nilCheck rfl)
    refine HB.pa 11 rfl ?_
    refine HB.ld 12 rfl rfl memD ?_
    refine HB.pa 13 rfl ?_
    refine HB.ld 14 rfl rfl memD ?_
    refine HB.all (by (exact Keep.blk (b := bw) memD rfl (Keep.blk (b := bw) memD rfl (Keep.blk (b := bo) memD rfl Keep.nil)))) [6] (by kernel_rfl) rfl ⟨⟨_, rfl, ?_⟩, trivial⟩
    refine HP.one ?_
    refine H1.call0 (vs := [_, zv 5]) rfl rfl (fun w' hM => pick26_fn nn 5 hnn.1 hnn.2 (by decide) w') ?_
    apply HB.fold
    refine HB.pa 7 rfl ?_ ((POp.add rfl rfl (by omega) (by omega)).of (congrArg zv hm))
    refine HB.all (by (exact Keep.blk (b := bw) memD rfl (Keep.blk (b := bw) memD rfl (Keep.blk (b := bo) memD rfl Keep.nil)))) [8] (by kernel_rfl) rfl ⟨⟨_, rfl, ?_⟩, trivial⟩
    refine HP.one ?_
    refine H1.callk (α := Unit) (V := fun _ => zv (k.cut m).1) (I := fun _ => True) (H' := fun _ => dkH bd b1 b2 pa pc (k.cut m).2 (A.blk bo [zv kind, vl, zv nn, .slice ak K.length ck] 62 :: A.blk bw (wdC bd bf jp kp) 32 :: rfH bf sa sc la lc k R)) (vs := [_, zv (m : Int)]) rfl rfl
        (fun w' hM => (cut_fn (k := k) m (hM.sub (Hs.cons (Pick.there (Pick.there Pick.here)) (Hs.cons (Pick.there (Pick.there Pick.here)) (Hs.cons (Pick.there (Pick.there Pick.here)) (Hs.cons (Pick.there (Pick.there Pick.here)) (Hs.refl _))))))).mono fun v w2 h => ⟨(), trivial, h.1, h.2⟩) ?_
    rintro - -
    apply HB.fold
    refine HB.all (by (exact Keep.blk (b := bw) memD rfl (Keep.blk (b := bw) memD rfl (Keep.blk (b := bo) memD rfl Keep.nil)))) [15] (by kernel_rfl) rfl ⟨⟨_, rfl, ?_⟩, trivial⟩
    refine HP.one ?_
    refine H1.call0 (vs := [_, zv 5]) rfl rfl (fun w' hM => pick26_fn nn 5 hnn.1 hnn.2 (by decide) w') ?_
    apply HB.fold
    refine HB.pa 16 rfl ?_ ((POp.add rfl rfl (by omega) (by omega)).of (congrArg zv hm))
    refine HB.all (by (exact Keep.blk (b := bw) memD rfl (Keep.blk (b := bw) memD rfl (Keep.blk (b := bo) memD rfl Keep.nil)))) [17] (by kernel_rfl) rfl ⟨⟨_, rfl, ?_⟩, trivial⟩
    refine HP.one ?_
    refine H1.callk (α := Unit) (V := fun _ => zv (k.cut m).1) (I := fun _ => True) (H' := fun _ => rfH bf sa sc la lc (k.cut m).2 (dkH bd b1 b2 pa pc (k.cut m).2 (A.blk bo [zv kind, vl, zv nn, .slice ak K.length ck] 62 :: A.blk bw (wdC bd bf jp kp) 32 :: R))) (vs := [_, zv (m : Int)]) rfl rfl
        (fun w' hM => rcut_fn m (hM.sub (Hs.cons (Pick.there (Pick.there (Pick.there (Pick.there (Pick.there (Pick.there Pick.here)))))) (Hs.cons (Pick.there (Pick.there (Pick.there (Pick.there (Pick.there (Pick.there Pick.here)))))) (Hs.cons (Pick.there (Pick.there (Pick.there (Pick.there (Pick.there (Pick.there Pick.here)))))) (Hs.refl _)))))) ?_
    rintro - -
    apply HB.fold
    refine HB.pa 18 rfl ?_
    refine HB.pa 19 rfl ?_
    refine HB.done (by (exact Keep.blk (b := bw) memD rfl (Keep.blk (b := bw) memD rfl (Keep.blk (b := bo) memD rfl Keep.nil)))) (by kernel_rfl) ?_
    refine hwKT ?_
    exact HX.ret1 rfl rfl fun w' hM => ⟨(⟨bj, bk, (a, c), (pa, pc), (ja, jc), (sa, sc), (la, lc)⟩, (k.cut m).2, o), (hI.cut m (by omega)).more, by rw [decide_eq_true rfl], hfin _ _ (hM.sub (Hs.cons (Pick.there (Pick.there (Pick.there (Pick.there (Pick.there (Pick.there (Pick.there (Pick.there Pick.here)))))))) (Hs.cons (Pick.there (Pick.there (Pick.there Pick.here))) (Hs.cons (Pick.there (Pick.there (Pick.there Pick.here))) (Hs.cons (Pick.there (Pick.there (Pick.there Pick.here))) (Hs.cons (Pick.there (Pick.there (Pick.there Pick.here))) (Hs.cons Pick.here (Hs.cons Pick.here (Hs.cons Pick.here (Hs.refl _).skip)))))))))⟩
  by_cases h6 : κ = 6
  · have hm20 : min (K.length : Int) 20 = ((min K.length 20 : Nat) : Int) := by omega
    obtain ⟨K2, hK2⟩ : ∃ K2, K2 = K.take (min K.length 20) := ⟨_, rfl⟩
    have hK2l : K2.length = min K.length 20 := by rw [hK2, List.length_take]; omega
    have hrd : ∀ w2, Ext w0 w2 → Rd w2 (.slice ak K2.length ck) (ints K2) := fun w2 hx => by
      have := (hrk.1.ext hx).ipre (k := K2.length) (by omega)
      rw [hK2l, ← hK2] at this
      rw [hK2l]
      exact this
    refine hwKT ?_
    refine HL.pa ?_ (POp.pre_any rfl rfl (by omega) (by omega))
    rw [hm20, Int.toNat_natCast, ← hK2l]
    refine hwKT ?_
    refine HC.cut (α := Unit) (fun _ => [(0, .pointer (some ⟨bw, 0, none⟩)), (3, .pointer (some ⟨bo, 0, none⟩)), (5, .slice ak K2.length ck)]) (fun _ => dkH bd b1 b2 pa pc (k.crash K2 nn) (A.blk bo [zv kind, vl, zv nn, .slice ak K.length ck] 62 :: A.blk bw (wdC bd bf jp kp) 32 :: rfH bf sa sc la lc k R)) (fun _ => True) ?_ ?_
    · refine HC.anyC ([(⟨bw, 0, none⟩, .pointer (some ⟨bd, 0, none⟩)), (⟨bo, 2, none⟩, zv nn)]) rfl ?_
      refine HB.pa 0 rfl ?_
      refine HB.pa 1 rfl ?_ (POp.nilCheck rfl)
      refine HB.pa 2 rfl ?_
      refine HB.ld 3 rfl rfl memD ?_
      refine HB.pa 4 rfl ?_
      refine HB.pa 5 rfl ?_
      refine HB.ld 6 rfl rfl memD ?_
      refine HB.all (by (exact Keep.blk (b := bw) memD rfl (Keep.blk (b := bo) memD rfl Keep.nil))) [7] (by kernel_rfl) rfl ⟨⟨_, rfl, ?_⟩, trivial⟩
      refine HP.one ?_
      refine H1.callk (α := Unit) (V := fun _ => zv 0) (I := fun _ => True) (H' := fun _ => dkH bd b1 b2 pa pc (k.crash K2 nn) (A.blk bo [zv kind, vl, zv nn, .slice ak K.length ck] 62 :: A.blk bw (wdC bd bf jp kp) 32 :: rfH bf sa sc la lc k R)) (vs := [_, _, _]) rfl rfl
          (fun w' hM => (crash_fn K2 nn hnn.1 hnn.2 (hM.sub (Hs.cons (Pick.there (Pick.there Pick.here)) (Hs.cons (Pick.there (Pick.there Pick.here)) (Hs.cons (Pick.there (Pick.there Pick.here)) (Hs.cons (Pick.there (Pick.there Pick.here)) (Hs.refl _)))))) hI.ok hI.fit (by omega) (fun w2 hM2 => hrd w2 hM2.ext)).mono fun v w2 h => ⟨(), trivial, h⟩) ?_
      rintro - -
      apply HB.fold
      refine HB.done (by (exact Keep.blk (b := bw) memD rfl (Keep.blk (b := bo) memD rfl Keep.nil))) (by kernel_rfl) ?_
      refine hwKT ?_
      exact HX.cut () trivial esA (Hs.refl _)
    rintro - -
    refine hwKT ?_
    refine HC.cut (α := Unit) (fun _ => [(0, .pointer (some ⟨bw, 0, none⟩))]) (fun _ => rfH bf sa sc none 0 (k.crash K2 nn) (dkH bd b1 b2 pa pc (k.crash K2 nn) (A.blk bo [zv kind, vl, zv nn, .slice ak K.length ck] 62 :: A.blk bw (wdC bd bf jp kp) 32 :: R))) (fun _ => True) ?_ ?_
    · refine HC.anyC ([(⟨bw, 2, none⟩, .pointer (some ⟨bf, 0, none⟩)), (⟨bo, 2, none⟩, zv nn)]) rfl ?_
      refine HB.pa 0 rfl ?_
      refine HB.pa 1 rfl ?_ (POp.nilCheck rfl)
      refine HB.pa 2 rfl ?_
      refine HB.ld 3 rfl rfl memD ?_
      refine HB.pa 4 rfl ?_
      refine HB.pa 5 rfl ?_
      refine HB.ld 6 rfl rfl memD ?_
      refine HB.all (by (exact Keep.blk (b := bw) memD rfl (Keep.blk (b := bo) memD rfl Keep.nil))) [7] (by kernel_rfl) rfl ⟨⟨_, rfl, ?_⟩, trivial⟩
      refine HP.one ?_
      refine H1.callk (α := Unit) (V := fun _ => .tuple #[]) (I := fun _ => True) (H' := fun _ => rfH bf sa sc none 0 (k.crash K2 nn) (dkH bd b1 b2 pa pc (k.crash K2 nn) (A.blk bo [zv kind, vl, zv nn, .slice ak K.length ck] 62 :: A.blk bw (wdC bd bf jp kp) 32 :: R))) (vs := [_, _, _]) rfl rfl
          (fun w' hM => rcrash_fn K2 nn hnn.1 hnn.2 (hM.sub (Hs.cons (Pick.there (Pick.there (Pick.there (Pick.there (Pick.there (Pick.there Pick.here)))))) (Hs.cons (Pick.there (Pick.there (Pick.there (Pick.there (Pick.there (Pick.there Pick.here)))))) (Hs.cons (Pick.there (Pick.there (Pick.there (Pick.there (Pick.there (Pick.there Pick.here)))))) (Hs.refl _))))) hI.ok hI.fit (by omega) (fun w2 hM2 => hrd w2 hM2.ext)) ?_
      rintro - -
      apply HB.fold
      refine HB.done (by (exact Keep.blk (b := bw) memD rfl (Keep.blk (b := bo) memD rfl Keep.nil))) (by kernel_rfl) ?_
      refine hwKT ?_
      exact HX.cut () trivial esA (Hs.refl _)
    rintro - -
    refine hwKT ?_
    refine HL.one (H1.callk (α := QS × Dk × Option (Tp × Bool)) (V := fun _ => .bool true) (I := fun z => OpI N (p + 4) (k.crash K2 nn) z) (H' := fun z => stH bw bd b1 b2 bf z.1 z.2.1 z.2.2 H) (vs := [_]) rfl rfl
      (fun w' hM => wopen_fn (q := ⟨bj, bk, (a, c), (pa, pc), (ja, jc), (sa, sc), (none, 0)⟩) hG hE (hM.sub (Hs.cons (Pick.there (Pick.there (Pick.there (Pick.there (Pick.there (Pick.there (Pick.there (Pick.there Pick.here)))))))) (Hs.cons (Pick.there (Pick.there (Pick.there Pick.here))) (Hs.cons (Pick.there (Pick.there (Pick.there Pick.here))) (Hs.cons (Pick.there (Pick.there (Pick.there Pick.here))) (Hs.cons (Pick.there (Pick.there (Pick.there Pick.here))) (Hs.cons Pick.here (Hs.cons Pick.here (Hs.cons Pick.here (hRs).skip))))))))) (hI.crash K2 nn) (by omega) hN) ?_)
    rintro ⟨q', k', o'⟩ hI'
    dsimp only at hI' ⊢
    refine hwKT ?_
    exact HX.ret1 rfl rfl fun w' hM => ⟨(q', k', o'), hI'.1.more, rfl, hM⟩
  by_cases h7 : κ = 7
  · refine hwKT ?_
    refine HL.one (H1.callk (α := QS × Dk × Option (Tp × Bool)) (V := fun _ => .bool true) (I := fun z => OpI N (p + 4) k z) (H' := fun z => stH bw bd b1 b2 bf z.1 z.2.1 z.2.2 H) (vs := [_]) rfl rfl
      (fun w' hM => wopen_fn (q := ⟨bj, bk, (a, c), (pa, pc), (ja, jc), (sa, sc), (la, lc)⟩) hG hE (hM.sub (Hs.cons (Pick.there Pick.here) (Hs.cons (Pick.there Pick.here) (Hs.cons (Pick.there Pick.here) (Hs.cons (Pick.there Pick.here) (Hs.cons (Pick.there Pick.here) (Hs.cons (Pick.there Pick.here) (Hs.cons (Pick.there Pick.here) (Hs.cons (Pick.there Pick.here) (hRs).skip))))))))) (hI.put fun _ _ e => by cases e) (by omega) hN) ?_)
    rintro ⟨q', k', o'⟩ hI'
    dsimp only at hI' ⊢
    refine hwKT ?_
    exact HX.ret1 rfl rfl fun w' hM => ⟨(q', k', o'), hI'.1.more, rfl, hM⟩
  obtain ⟨G, hGd⟩ : ∃ G, G = few26 gi := ⟨_, rfl⟩
  have hlong := few_long2 gi
  have hlen := few26_len gi
  have hsz := few26_size gi
  rw [← hGd] at hlong hlen hsz
  cases o with
  | none =>
    obtain rfl : jp = none := hjp
    obtain rfl : R = H := hR
    refine hwKT ?_
    refine HC.anyC ([(⟨bw, 1, none⟩, .pointer none), (⟨bo, 1, none⟩, vl)]) rfl ?_
    refine HB.pa 0 rfl ?_
    refine HB.pa 1 rfl ?_ (POp.nilCheck rfl)
    refine HB.pa 2 rfl ?_
    refine HB.ld 3 rfl rfl memD ?_
    refine HB.pa 4 rfl ?_
    refine HB.ld 5 rfl rfl memD ?_
    refine HB.all (by (exact Keep.blk (b := bw) memD rfl (Keep.blk (b := bo) memD rfl Keep.nil))) [6] (by kernel_rfl) rfl ⟨⟨_, rfl, ?_⟩, trivial⟩
    refine HP.one ?_
    refine H1.callz (vs := [_]) rfl rfl (fun w' hM => few26_fn vl gi hrs.2.1 hrs.2.2 w' (hrs.1.ext hM.ext)) ?_
    rintro ⟨a9, c9⟩ -
    dsimp only
    apply HB.fold
    refine HB.all (by (exact Keep.blk (b := bw) memD rfl (Keep.blk (b := bo) memD rfl Keep.nil))) [7] (by kernel_rfl) rfl ⟨⟨_, rfl, ?_⟩, trivial⟩
    refine HP.one ?_
    refine H1.call0 (vs := [.pointer none, _]) rfl rfl (fun w' hM => appendNil_fn _ w') ?_
    apply HB.fold
    refine HB.pa 8 rfl ?_
    refine HB.pa 9 rfl ?_
    refine HB.done (by (exact Keep.blk (b := bw) memD rfl (Keep.blk (b := bo) memD rfl Keep.nil))) (by kernel_rfl) ?_
    refine hwKT ?_
    exact HX.ret1 rfl rfl fun w' hM => ⟨(⟨bj, bk, (a, c), (pa, pc), (ja, jc), (sa, sc), (la, lc)⟩, k, none), hI.more.more, rfl, hfin _ _ (hM.sub (Hs.refl _).skip.skip)⟩
  | some x =>
    obtain ⟨t, br⟩ := x
    obtain rfl : jp = some ⟨bj, 0, none⟩ := hjp
    obtain rfl : kp = some ⟨bk, 0, none⟩ := hkp
    obtain rfl : R = A.blk bj (tpC a c t (jnR bd br)) 74 :: A.grow 9 1 a c t.recs.length (strs t.recs) :: A.blk bk (rjC bf ja jc t br) 43 :: A.grow 9 1 ja jc t.recs.length (strs t.recs) :: H := hR
    obtain ⟨e, j2, hap, hI2⟩ := hI.app (by omega) G hlong
    have hjok := hI.jok hN (by omega)
    obtain ⟨ht1, ht2⟩ := hI.t t br rfl
    have hol := outsL_le G t.head hsz
    have hlN := hI.len
    refine hwKT ?_
    refine HC.anyC ([(⟨bw, 1, none⟩, .pointer (some ⟨bj, 0, none⟩)), (⟨bw, 3, none⟩, .pointer (some ⟨bk, 0, none⟩)), (⟨bo, 1, none⟩, vl)]) rfl ?_
    refine HB.pa 0 rfl ?_
    refine HB.pa 1 rfl ?_ (POp.nilCheck rfl)
    refine HB.pa 2 rfl ?_
    refine HB.ld 3 rfl rfl memD ?_
    refine HB.pa 4 rfl ?_
    refine HB.ld 5 rfl rfl memD ?_
    refine HB.pa 8 rfl ?_
    refine HB.pa 9 rfl ?_ (POp.nilCheck rfl)
    refine HB.pa 10 rfl ?_
    refine HB.ld 11 rfl rfl memD ?_
    refine HB.pa 12 rfl ?_
    refine HB.ld 13 rfl rfl memD ?_
    refine HB.all (by (exact Keep.blk (b := bw) memD rfl (Keep.blk (b := bw) memD rfl (Keep.blk (b := bo) memD rfl Keep.nil)))) [6] (by kernel_rfl) rfl ⟨⟨_, rfl, ?_⟩, trivial⟩
    refine HP.one ?_
    refine H1.callz (vs := [_]) rfl rfl (fun w' hM => few26_fn vl gi hrs.2.1 hrs.2.2 w' (hrs.1.ext hM.ext)) ?_
    rw [← hGd]
    rintro ⟨a9, c9⟩ -
    dsimp only
    apply HB.fold
    refine HB.all (by (exact Keep.blk (b := bw) memD rfl (Keep.blk (b := bw) memD rfl (Keep.blk (b := bo) memD rfl Keep.nil)))) [7] (by kernel_rfl) rfl ⟨⟨_, rfl, ?_⟩, trivial⟩
    refine HP.one ?_
    refine H1.callk (α := (Option Addr × Nat) × (Option Addr × Nat)) (V := fun _ => zv e) (I := fun _ => True) (H' := fun q => jnlH bj bd b1 b2 q.1.1 q.1.2 q.2.1 q.2.2 j2 (A.grow 9 1 a9 c9 G.length (strs G) :: A.blk bo [zv kind, vl, zv nn, .slice ak K.length ck] 62 :: A.blk bw (wdC bd bf (some ⟨bj, 0, none⟩) (some ⟨bk, 0, none⟩)) 32 :: rfH bf sa sc la lc k (A.blk bk (rjC bf ja jc t br) 43 :: A.grow 9 1 ja jc t.recs.length (strs t.recs) :: H))) (vs := [_, _]) rfl rfl
        (fun w' hM => appendG_fn hap hG (hM.sub (Hs.cons (Pick.there (Pick.there (Pick.there (Pick.there (Pick.there (Pick.there (Pick.there (Pick.there (Pick.there (Pick.there Pick.here)))))))))) (Hs.cons (Pick.there (Pick.there (Pick.there (Pick.there (Pick.there (Pick.there (Pick.there (Pick.there (Pick.there (Pick.there Pick.here)))))))))) (Hs.cons (Pick.there (Pick.there (Pick.there Pick.here))) (Hs.cons (Pick.there (Pick.there (Pick.there Pick.here))) (Hs.cons (Pick.there (Pick.there (Pick.there Pick.here))) (Hs.cons (Pick.there (Pick.there (Pick.there Pick.here))) (Hs.refl _)))))))) (.head _) hjok (by omega) (fun _ => by show (outsL t.head G).length ≤ _; omega)) ?_
    rintro ⟨⟨a2, c2⟩, ⟨pa2, pc2⟩⟩ -
    dsimp only
    apply HB.fold
    refine HB.all (by (exact Keep.blk (b := bw) memD rfl (Keep.blk (b := bw) memD rfl (Keep.blk (b := bo) memD rfl Keep.nil)))) [14] (by kernel_rfl) rfl ⟨⟨_, rfl, ?_⟩, trivial⟩
    refine HP.one ?_
    refine H1.callz (vs := [_]) rfl rfl (fun w' hM => few26_fn vl gi hrs.2.1 hrs.2.2 w' (hrs.1.ext hM.ext)) ?_
    rw [← hGd]
    rintro ⟨a5, c5⟩ -
    dsimp only
    apply HB.fold
    refine HB.all (by (exact Keep.blk (b := bw) memD rfl (Keep.blk (b := bw) memD rfl (Keep.blk (b := bo) memD rfl Keep.nil)))) [15] (by kernel_rfl) rfl ⟨⟨_, rfl, ?_⟩, trivial⟩
    refine HP.one ?_
    refine H1.callk (α := (Option Addr × Nat) × (Option Addr × Nat) × (Option Addr × Nat)) (V := fun _ => zv e) (I := fun _ => True) (H' := fun q => rjH bk bf q.1.1 q.1.2 q.2.1.1 q.2.1.2 q.2.2.1 q.2.2.2 j2.t j2.k j2.br (A.grow 9 1 a5 c5 G.length (strs G) :: jnlH bj bd b1 b2 a2 c2 pa2 pc2 j2 (A.grow 9 1 a9 c9 G.length (strs G) :: A.blk bo [zv kind, vl, zv nn, .slice ak K.length ck] 62 :: A.blk bw (wdC bd bf (some ⟨bj, 0, none⟩) (some ⟨bk, 0, none⟩)) 32 :: H))) (vs := [_, _]) rfl rfl
        (fun w' hM => by
          have h := rappend_fn (j := ⟨t, k, br⟩) (g := G) (a9 := a5) (c9 := c5) (hM.sub (Hs.cons (Pick.there (Pick.there (Pick.there (Pick.there (Pick.there (Pick.there (Pick.there (Pick.there (Pick.there (Pick.there (Pick.there (Pick.there (Pick.there Pick.here))))))))))))) (Hs.cons (Pick.there (Pick.there (Pick.there (Pick.there (Pick.there (Pick.there (Pick.there (Pick.there (Pick.there (Pick.there (Pick.there (Pick.there (Pick.there Pick.here))))))))))))) (Hs.cons (Pick.there (Pick.there (Pick.there (Pick.there (Pick.there (Pick.there (Pick.there (Pick.there (Pick.there (Pick.there Pick.here)))))))))) (Hs.cons (Pick.there (Pick.there (Pick.there (Pick.there (Pick.there (Pick.there (Pick.there (Pick.there (Pick.there (Pick.there Pick.here)))))))))) (Hs.cons (Pick.there (Pick.there (Pick.there (Pick.there (Pick.there (Pick.there (Pick.there (Pick.there (Pick.there (Pick.there Pick.here)))))))))) (Hs.refl _))))))) (.head _) hjok ht1 hI.fit hI.vis (by show k.dur.length ≤ _; omega) hlen hsz
          rw [hap] at h
          exact h) ?_
    rintro ⟨⟨ja2, jc2⟩, ⟨sa2, sc2⟩, ⟨la2, lc2⟩⟩ -
    dsimp only
    apply HB.fold
    refine HB.pa 16 rfl ?_
    refine HB.pa 17 rfl ?_
    refine HB.done (by (exact Keep.blk (b := bw) memD rfl (Keep.blk (b := bw) memD rfl (Keep.blk (b := bo) memD rfl Keep.nil)))) (by kernel_rfl) ?_
    refine hwKT ?_
    exact HX.ret1 rfl rfl fun w' hM => ⟨(⟨bj, bk, (a2, c2), (pa2, pc2), (ja2, jc2), (sa2, sc2), (la2, lc2)⟩, j2.k, some (j2.t, j2.br)), hI2.more, by rw [decide_eq_true rfl], hM.sub (Hs.cons (Pick.there (Pick.there (Pick.there (Pick.there (Pick.there (Pick.there (Pick.there (Pick.there (Pick.there (Pick.there (Pick.there (Pick.there (Pick.there (Pick.there Pick.here)))))))))))))) (Hs.cons (Pick.there (Pick.there (Pick.there (Pick.there (Pick.there (Pick.there (Pick.there (Pick.there Pick.here)))))))) (Hs.cons (Pick.there (Pick.there (Pick.there (Pick.there (Pick.there (Pick.there (Pick.there (Pick.there Pick.here)))))))) (Hs.cons (Pick.there (Pick.there (Pick.there (Pick.there (Pick.there (Pick.there (Pick.there (Pick.there Pick.here)))))))) (Hs.cons (Pick.there (Pick.there (Pick.there (Pick.there (Pick.there (Pick.there (Pick.there (Pick.there Pick.here)))))))) (Hs.cons (Pick.there (Pick.there Pick.here)) (Hs.cons (Pick.there (Pick.there Pick.here)) (Hs.cons (Pick.there (Pick.there Pick.here)) (Hs.cons (Pick.there (Pick.there (Pick.there Pick.here))) (Hs.cons (Pick.there (Pick.there (Pick.there Pick.here))) (Hs.cons Pick.here (Hs.cons Pick.here (Hs.refl _).skip.skip.skip))))))))))))⟩
end Go.Sx

