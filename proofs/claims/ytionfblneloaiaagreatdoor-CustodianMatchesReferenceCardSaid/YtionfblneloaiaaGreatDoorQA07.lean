/- Chapter 27: Open: the walk. -/
import Derived.Test.YtionfblneloaiaaGreatDoorQA06
import Derived.Shelf.SlSortCmp.NoneTotal
namespace Go.Sx
open Go Go.Proofs Go.RowKit
theorem hwYF {G G2 : Prop} (x : G2) (hwq : Hold G2 → G := by
    intro hQq
    repeat' (first | refine HL.pa ?_ (POp.pnil1 rfl rfl) | refine HL.pa ?_ (POp.pnil0 rfl rfl) | refine HL.pa ?_ (POp.nilCheck rfl) | apply HL.fold | apply HA.fold | apply HL.nil | apply HX.n_then | apply HC.seq | apply HC.region | refine HL.pa ?_ | refine HL.ga rfl ?_ | refine HL.na rfl ?_ | refine HL.nu rfl rfl ?_ | apply HC.block | apply HC.skip | apply HC.exit | apply HC.ret | apply HX.e_block | refine HX.e_other rfl ?_ | apply HX.e_then | apply HX.e_again | apply HX.n_block | apply HX.r_then | apply HX.r_block | apply HX.r_again | refine HC.cond_yes rfl ?_ | refine HC.cond_no rfl ?_ | refine HL.one (H1.ldb rfl memA rfl rfl ?_) | refine HC.cond rfl (fun hc => ?_) (fun hc => ?_) | refine HC.cond_b rfl (fun hc => ?_) (fun hc => ?_))
    exact hQq.get) : G := hwq ⟨x⟩
theorem hbYF {G G2 : Prop} (x : G2) (hwq : Hold G2 → G := by
    intro hQq
    repeat' (first | refine HL.pa ?_ (POp.pnil1 rfl rfl) | refine HL.pa ?_ (POp.pnil0 rfl rfl) | refine HL.pa ?_ (POp.nilCheck rfl) | apply HL.fold | apply HA.fold | apply HL.nil | apply HX.n_then | apply HC.seq | apply HC.region | refine HL.pa ?_ | refine HL.ga rfl ?_ | refine HL.na rfl ?_ | refine HL.nu rfl rfl ?_ | apply HC.skip | apply HC.exit | apply HC.ret | apply HX.e_block | refine HX.e_other rfl ?_ | apply HX.e_then | apply HX.e_again | apply HX.n_block | apply HX.r_then | apply HX.r_block | apply HX.r_again | refine HC.cond_yes rfl ?_ | refine HC.cond_no rfl ?_ | refine HL.one (H1.ldb rfl memA rfl rfl ?_) | refine HC.cond rfl (fun hc => ?_) (fun hc => ?_) | refine HC.cond_b rfl (fun hc => ?_) (fun hc => ?_))
    exact hQq.get) : G := hwq ⟨x⟩
/-- A return ahead of any closure that is deferred. -/
theorem HX.door0 {P : Program} {N : Nat} {E : Env} {w0 : World} {H : List Atom} {fn : Func} {R : Ending → World → Prop} (h : ∀ w, Mm w0 H w → ∀ a, Rep N [] E a → ∃ v, (results fn a.tmps).run P w = .ok v w ∧ R (.returned v) w) :
    HX N [] .ret (bodyPostDIn Fence.wide 0 P fn R) E w0 H := fun w hM a ha => by
  simp only [bodyPostDIn, ha.defers]
  exact h w hM a ha
/-- What records do, one after the other. -/
def replaysF (m : PM) : List ByteArray → Option PM
  | [] => some m
  | s :: l => (replayF m s).bind fun m2 => replaysF m2 l
theorem replaysF_snoc : ∀ (l : List ByteArray) (m : PM) (s : ByteArray), replaysF m (l ++ [s]) = (replaysF m l).bind fun m2 => replayF m2 s
  | [], m, s => by
    show (replayF m s).bind _ = replayF m s
    cases replayF m s <;> rfl
  | x :: l, m, s => by
    show (replayF m x).bind _ = ((replayF m x).bind _).bind _
    cases replayF m x with
    | none => rfl
    | some m2 => exact replaysF_snoc l m2 s
theorem replaysF_app (l l2 : List ByteArray) (m : PM) : replaysF m (l ++ l2) = (replaysF m l).bind fun m2 => replaysF m2 l2 := by
  induction l generalizing m with
  | nil => rfl
  | cons x l ih =>
    show (replayF m x).bind _ = ((replayF m x).bind _).bind _
    cases replayF m x with
    | none => rfl
    | some m2 => exact ih m2
theorem replay_keeps {m m2 : PM} {s : ByteArray} (h : replayF m s = some m2) (hk : (m.map Prod.fst).Nodup) : (m2.map Prod.fst).Nodup ∧ m2.length ≤ m.length + 1 := by
  unfold replayF at h
  split at h
  · cases h
  split at h
  · cases h
  split at h
  · split at h
    · cases h
    split at h
    · cases h
    split at h
    · split at h
      · cases h
        exact ⟨setM_nodup _ _ hk, setM_len _ _ _⟩
      · cases h
    · cases h
  split at h
  · split at h
    · split at h
      · cases h
        exact ⟨dropM_nodup _ hk, Nat.le_succ_of_le (dropM_len _ _)⟩
      · cases h
    · cases h
  · cases h
attribute [local irreducible] WC WL WX POp Then Again Fn NX W1 WA WO QL RP RA Yld LoopAt HC HL HX HN H1 HA HO HQ HB HP A.blk A.grow A.rd A.obj A.mp AgainH CutH
attribute [local irreducible] A.pm A.mx A.mit sumS
set_option maxHeartbeats 1000000 in
theorem crecover_no {w : World} (b4 b5 : Nat) : DFn Tryz.prog 60 #[.pointer (some ⟨b4, 0, none⟩), .pointer (some ⟨b5, 0, none⟩)] .returning .returning w (fun w' => Ext w w') := by
  refine callsDIn_of_wpSIn Tryz.func60 rfl trivial fun c₀ cs hu => ?_
  apply wpSIn_seq
  apply wpSIn_region
  have hrec : recoverD (c₀ :: cs) = none := by simp [recoverD, hu]
  have hta : ∀ w, (Instr.typeAssert .nilIface 20 111 true).run Tryz.prog w = .ok (.tuple #[.nilIface, .bool false]) w := fun _ => by kernel_rfl
  simp [wpOpsSIn, go_sem, hrec, hta, Tryz.ntmps60, Exit.thenS, Region.wanted]
  have hc : c₀ = { c₀ with mode := .returning } := frame_same hu
  rw [hc]
  refine wpS_of_HC (N := 15) (E := [(3, .bool false)]) (Mm.refl w) (Rep.cons' (Rep.nil' (by simp) rfl) (by rfl)) ?_
  refine hwYF ?_
  exact HX.endS rfl fun w' hM => ⟨rfl, rfl, hM.ext⟩
set_option maxHeartbeats 1000000 in
theorem crecover_yes {w0 w : World} {H : List Atom} {v4 v5 : Value} {a : Addr} (b4 b5 : Nat) (hE : CErrG a w0) (hM : Mm w0 (A.blk b4 [v4] 24 :: A.blk b5 [v5] 28 :: H) w) :
    DFn Tryz.prog 60 #[.pointer (some ⟨b4, 0, none⟩), .pointer (some ⟨b5, 0, none⟩)] (.panicking (errP a)) (.panicking (errQ a)) w (fun w' => Mm w0 (A.blk b4 [.pointer none] 24 :: A.blk b5 [zv 270] 28 :: H) w') := by
  refine callsDIn_of_wpSIn Tryz.func60 rfl trivial fun c₀ cs hu => ?_
  apply wpSIn_seq
  apply wpSIn_region
  have hrec : recoverD (c₀ :: cs) = some (errV a, { c₀ with mode := .panicking (errQ a) } :: cs) := by simp [recoverD, hu, errP, errQ]
  have hta : ∀ w, (Instr.typeAssert (errV a) 20 111 true).run Tryz.prog w = .ok (.tuple #[errV a, .bool true]) w := fun w => isAssert_e _ w
  simp [wpOpsSIn, go_sem, hrec, hta, Tryz.ntmps60, Exit.thenS, Region.wanted]
  refine wpS_of_HC (N := 15) (E := [(0, .pointer (some ⟨b4, 0, none⟩)), (1, .pointer (some ⟨b5, 0, none⟩)), (2, errV a), (3, .bool true)]) hM (Rep.cons' (Rep.cons' (Rep.cons' (Rep.cons' (Rep.nil' (by simp) rfl) (by simp)) (by simp)) (by simp)) (by simp)) ?_
  refine hwYF ?_
  refine HL.one (H1.ld0 rfl hE rfl ?_)
  refine hwYF ?_
  refine HL.one (H1.call0 (u := .bool true) (vs := [errV a, errV a]) rfl rfl (fun w' hM => is_same_fn a w') ?_)
  refine hwYF ?_
  refine HL.one (H1.st rfl rfl (by intro _ h; cases h) (by intro _ h; cases h) rplA (by exact Nat.zero_lt_one) ?_)
  refine hwYF ?_
  refine HL.one (H1.st rfl rfl (by intro _ h; cases h) (by intro _ h; cases h) rplA (by exact Nat.zero_lt_one) ?_)
  refine hwYF ?_
  exact HX.endS rfl fun w' hM => ⟨rfl, rfl, hM⟩
/-- Open: what comes of it. -/
def copenP (w0 : World) (bd b1 b2 : Nat) (H : List Atom) (r : Int × Dk × Option Tp) (v : Value) (w' : World) : Prop :=
  match r.2.2 with
  | some t => match replaysF [] t.recs with
    | some m => ∃ z : Nat × Nat × Nat × (Option Addr × Nat) × (Option Addr × Nat), v = .tuple #[.pointer (some ⟨z.1, 0, none⟩), zv 0] ∧ Mm w0 (cuH z.1 z.2.1 z.2.2.1 bd b1 b2 z.2.2.2.1.1 z.2.2.2.1.2 z.2.2.2.2.1 z.2.2.2.2.2 m ⟨t, r.2.1, false⟩ H) w'
    | none => ∃ q : Option Addr × Nat, v = .tuple #[.pointer none, zv 270] ∧ Mm w0 (dkH bd b1 b2 q.1 q.2 r.2.1 H) w'
  | none => ∃ q : Option Addr × Nat, v = .tuple #[.pointer none, zv r.1] ∧ Mm w0 (dkH bd b1 b2 q.1 q.2 r.2.1 H) w'
set_option maxHeartbeats 2000000 in
theorem copen_all {w0 w : World} {H : List Atom} {bd b1 b2 pc : Nat} {pa : Option Addr} {k : Dk} {ea ec : Addr} (hG : RoundG w0) (hE : ErrG ea w0) (hC : CErrG ec w0) (hM : Mm w0 (dkH bd b1 b2 pa pc k H) w) (hk : k.Ok) (hp : k.pend.length ≤ 9000)
    (hop : (∃ t k', openF k = (0, k', some t) ∧ t.recs.length ≤ 100000 ∧ ∀ r ∈ t.recs, r.size ≤ 65536) ∨ (∃ e k', openF k = (e, k', none) ∧ e ≠ 0)) :
    Calls Tryz.prog 25 #[.pointer (some ⟨bd, 0, none⟩)] w fun e w' => ∃ v, e = .returned v ∧ copenP w0 bd b1 b2 H (openF k) v w' := by
  refine enterD (l := [_]) hM rfl Tryz.ntmps25 rfl ?_
  refine hwYF ?_
  refine HL.one (H1.alloc (cs := [.pointer none]) rfl rfl (fun b4 => ?_))
  refine hwYF ?_
  refine HL.one (H1.alloc (cs := [zv 0]) rfl rfl (fun b5 => ?_))
  refine hwYF ?_
  rcases hop with ⟨t, k', ho, hrl, hrs⟩ | ⟨e, k', ho, hne⟩
  · rw [ho]
    refine HL.one (H1.callk (α := Nat × (Option Addr × Nat) × (Option Addr × Nat)) (V := fun z => .tuple #[.pointer (some ⟨z.1, 0, none⟩), zv 0]) (I := fun _ => True) (H' := fun z => jnlH z.1 bd b1 b2 z.2.1.1 z.2.1.2 z.2.2.1 z.2.2.2 ⟨t, k', false⟩ (A.blk b5 [zv 0] 28 :: A.blk b4 [.pointer none] 24 :: H)) (vs := [_]) rfl rfl
      (fun w' hM => jopen_ok ho hG hE (hM.sub (Hs.cons (Pick.there (Pick.there Pick.here)) (Hs.cons (Pick.there (Pick.there Pick.here)) (Hs.cons (Pick.there (Pick.there Pick.here)) (Hs.cons (Pick.there (Pick.there Pick.here)) (Hs.refl _)))))) hk (by omega)) ?_)
    rintro ⟨bj, ⟨a, c⟩, ⟨pa, pc⟩⟩ -
    dsimp only
    refine hwYF ?_
    refine HL.one (H1.st rfl rfl (by intro _ h; cases h) (by intro _ h; cases h) rplA (by exact Nat.zero_lt_one) ?_)
    refine hwYF ?_
    refine HL.defer (f := 60) (cap := [.pointer (some ⟨b4, 0, none⟩), .pointer (some ⟨b5, 0, none⟩)]) rfl ?_
    refine hwYF ?_
    refine HL.one (H1.mkpm rfl (fun bm => ?_))
    refine hwYF ?_
    refine HL.build (cs := cuC bm bj) rfl rfl rfl ?_
    refine hwYF ?_
    refine HL.one (H1.boxAgg (cs := cuC bm bj) rfl rfl (fun bx => ?_))
    refine hwYF ?_
    refine HL.one (H1.st (b := b4) rfl rfl (by intro _ h; cases h) (by intro _ h; cases h) rplA (by exact Nat.zero_lt_one) ?_)
    refine hwYF ?_
    refine HL.one (H1.callz (α := Option Addr × Nat) (V := fun z => .slice z.1 t.recs.length z.2) (Hn := fun z => [A.grow 9 1 z.1 z.2 t.recs.length (strs t.recs)]) (I := fun _ => True) (vs := [_]) rfl rfl (fun w' hM => records2_fn (bj := bj) (bd := bd) (a := a) (c := c) (t := t) (br := false) (hM.blk memA) (Mm.gr (e := 9) (a := a) (c := c) hM memA) (by omega)) ?_)
    rintro ⟨ax, cx⟩ -
    dsimp only
    refine hbYF ?_
    refine HC.cut (α := PM) (fun _ => [(2, .pointer (some ⟨b4, 0, none⟩)), (3, .pointer (some ⟨b5, 0, none⟩))]) (fun m => A.pm bm (liftP m) :: A.blk b4 [.pointer (some ⟨bx, 0, none⟩)] 24 :: A.blk b5 [zv 0] 28 :: A.blk bx (cuC bm bj) 84 :: jnlH bj bd b1 b2 a c pa pc ⟨t, k', false⟩ (A.grow 9 1 ax cx t.recs.length (strs t.recs) :: H)) (fun m => replaysF [] t.recs = some m) ?_ ?_
    · refine HC.block ?_
      refine HC.loop (α := Nat × PM) (fun z => [(2, .pointer (some ⟨b4, 0, none⟩)), (3, .pointer (some ⟨b5, 0, none⟩)), (21, .slice ax t.recs.length cx), (22, zv (t.recs.length : Int)), (23, zv (z.1 : Int))]) (fun z => A.pm bm (liftP z.2) :: A.blk b4 [.pointer (some ⟨bx, 0, none⟩)] 24 :: A.blk b5 [zv 0] 28 :: A.blk bx (cuC bm bj) 84 :: jnlH bj bd b1 b2 a c pa pc ⟨t, k', false⟩ (A.grow 9 1 ax cx t.recs.length (strs t.recs) :: H))
        (fun z => z.1 ≤ t.recs.length ∧ replaysF [] (t.recs.take z.1) = some z.2 ∧ (z.2.map Prod.fst).Nodup ∧ z.2.length ≤ z.1) (fun z => t.recs.length - z.1) (0, []) ⟨Nat.zero_le _, rfl, List.nodup_nil, Nat.le_refl _⟩ esA (Hs.cons (Pick.there (Pick.there Pick.here)) (Hs.cons (Pick.there (Pick.there (Pick.there (Pick.there (Pick.there (Pick.there (Pick.there (Pick.there (Pick.there Pick.here))))))))) (Hs.cons (Pick.there (Pick.there (Pick.there (Pick.there (Pick.there (Pick.there (Pick.there (Pick.there Pick.here)))))))) (Hs.cons (Pick.there Pick.here) (Hs.cons (Pick.there Pick.here) (Hs.cons (Pick.there Pick.here) (Hs.cons (Pick.there Pick.here) (Hs.cons (Pick.there Pick.here) (Hs.cons (Pick.there Pick.here) (Hs.cons (Pick.there Pick.here) (Hs.refl _))))))))))) ?_
      rintro ⟨i, m⟩ ⟨hi, hF, hnd, hml⟩
      dsimp only at hi hF hnd hml ⊢
      by_cases hlt : i < t.recs.length
      · have hget := strs_get hlt
        have hsz := hrs (fr t.recs i) (by unfold fr; simp [hlt])
        have htk := take_fr hlt
        have hF2 := replaysF_snoc (t.recs.take i) [] (fr t.recs i)
        rw [← htk, hF] at hF2
        have hF3 := replaysF_app (t.recs.take (i + 1)) (t.recs.drop (i + 1)) []
        rw [List.take_append_drop] at hF3
        generalize fr t.recs i = s at hget hsz hF2
        refine HC.openg (e := 9) (sz := 1) (a := ax) (c := cx) (n := t.recs.length) (xs := strs t.recs) memA (by omega) ?_
        rintro bg rfl
        refine hwYF ?_
        refine HL.one (H1.ldg rfl memA hget rfl ?_)
        refine hwYF ?_
        refine HL.one (H1.callE (vs := [.map (some bm), .string s]) rfl rfl (fun w' hM => replay_fn s hC hM (by omega) hnd (by omega)) (fun m2 hm2 => ?_) (fun _ hb2 => ?_))
        · have hF4 : replaysF [] (t.recs.take (i + 1)) = some m2 := hF2.trans hm2
          have hnl := replay_keeps hm2 hnd
          refine hwYF ?_
          exact HX.again (i + 1, m2) ⟨hlt, hF4, hnl.1, by show m2.length ≤ i + 1; omega⟩ (by show t.recs.length - (i + 1) < t.recs.length - i; omega) esA (Hs.refl _)
        · have hF4 : replaysF [] (t.recs.take (i + 1)) = none := hF2.trans hb2
          rw [hF4] at hF3
          have hF5 : replaysF [] t.recs = none := hF3
          rw [show copenP w0 bd b1 b2 H (0, k', some t) = fun v w' => ∃ q : Option Addr × Nat, v = .tuple #[.pointer none, zv 270] ∧ Mm w0 (dkH bd b1 b2 q.1 q.2 k' H) w' from by unfold copenP; dsimp only; rw [hF5]]
          repeat (first | apply HX.p_then | apply HX.p_block | apply HX.p_again)
          refine HX.doorP (ch := errP ec) (u' := .panicking (errQ ec)) (R' := fun _ w' => Mm w0 (A.blk b4 [.pointer none] 24 :: A.blk b5 [zv 270] 28 :: A.blk bx (cuC bm bj) 84 :: jnlH bj bd b1 b2 a c pa pc ⟨t, k', false⟩ (A.grow 9 1 (some ⟨bg, 0, none⟩) cx t.recs.length (strs t.recs) :: H)) w') rfl (fun w hM => crecover_yes b4 b5 hC hM) fun w1 w2 hM hM2 a3 ha => ?_
          exact ⟨.tuple #[.pointer none, zv 270], res_cells2 rfl ha rfl rfl ((hM2.blk (b := b4) (e := 24) (.head _)).cell rfl) ((hM2.blk (b := b5) (e := 28) (.tail _ (.head _))).cell rfl), _, rfl, (pa, pc), rfl, hM2.sub (Hs.cons (Pick.there (Pick.there (Pick.there (Pick.there (Pick.there Pick.here))))) (Hs.cons (Pick.there (Pick.there (Pick.there (Pick.there (Pick.there Pick.here))))) (Hs.cons (Pick.there (Pick.there (Pick.there (Pick.there (Pick.there Pick.here))))) (Hs.cons (Pick.there (Pick.there (Pick.there (Pick.there (Pick.there Pick.here))))) (Hs.refl _).skip.skip.skip.skip.skip.skip))))⟩
      · obtain rfl : i = t.recs.length := by omega
        rw [List.take_length] at hF
        refine hwYF ?_
        exact HX.cut m hF esA (Hs.refl _)
    intro m hF
    rw [show copenP w0 bd b1 b2 H (0, k', some t) = fun v w' => ∃ z : Nat × Nat × Nat × (Option Addr × Nat) × (Option Addr × Nat), v = .tuple #[.pointer (some ⟨z.1, 0, none⟩), zv 0] ∧ Mm w0 (cuH z.1 z.2.1 z.2.2.1 bd b1 b2 z.2.2.2.1.1 z.2.2.2.1.2 z.2.2.2.2.1 z.2.2.2.2.2 m ⟨t, k', false⟩ H) w' from by unfold copenP; dsimp only; rw [hF]]
    refine hwYF ?_
    refine HL.one (H1.st rfl rfl (by intro _ h; cases h) (by intro _ h; cases h) rplA (by exact Nat.zero_lt_one) ?_)
    refine hwYF ?_
    refine HL.one (H1.st rfl rfl (by intro _ h; cases h) (by intro _ h; cases h) rplA (by exact Nat.zero_lt_one) ?_)
    refine hwYF ?_
    refine HX.door (u' := .returning) (R' := fun w w' => Ext w w') rfl (fun w hM => crecover_no b4 b5) fun w1 w2 hM hx a3 ha => ?_
    have hM2 := hM.more hx
    exact ⟨.tuple #[.pointer (some ⟨bx, 0, none⟩), zv 0], res_cells2 rfl ha rfl rfl ((hM2.blk (b := b4) (e := 24) (.tail _ (.head _))).cell rfl) ((hM2.blk (b := b5) (e := 28) (.tail _ (.tail _ (.head _)))).cell rfl), _, rfl, (bx, bm, bj, (a, c), (pa, pc)), rfl, hM2.sub (Hs.cons (Pick.there (Pick.there (Pick.there Pick.here))) (Hs.cons Pick.here (Hs.cons (Pick.there (Pick.there Pick.here)) (Hs.cons (Pick.there (Pick.there Pick.here)) (Hs.cons (Pick.there (Pick.there Pick.here)) (Hs.cons (Pick.there (Pick.there Pick.here)) (Hs.cons (Pick.there (Pick.there Pick.here)) (Hs.cons (Pick.there (Pick.there Pick.here)) (Hs.refl _).skip.skip.skip))))))))⟩
  · rw [ho]
    refine HL.one (H1.callk (α := Option Addr × Nat) (V := fun _ => .tuple #[.pointer none, zv e]) (I := fun _ => True) (H' := fun q => dkH bd b1 b2 q.1 q.2 k' (A.blk b5 [zv 0] 28 :: A.blk b4 [.pointer none] 24 :: H)) (vs := [_]) rfl rfl
      (fun w' hM => jopen_no ho hG hE (hM.sub (Hs.cons (Pick.there (Pick.there Pick.here)) (Hs.cons (Pick.there (Pick.there Pick.here)) (Hs.cons (Pick.there (Pick.there Pick.here)) (Hs.cons (Pick.there (Pick.there Pick.here)) (Hs.refl _)))))) hk (by omega)) ?_)
    rintro ⟨pa, pc⟩ -
    dsimp only
    refine hwYF ?_
    refine HL.one (H1.st rfl rfl (by intro _ h; cases h) (by intro _ h; cases h) rplA (by exact Nat.zero_lt_one) ?_)
    refine hwYF ?_
    refine HC.sub [(2, .pointer (some ⟨b4, 0, none⟩)), (3, .pointer (some ⟨b5, 0, none⟩))] (dkH bd b1 b2 pa pc k' (A.blk b5 [zv e] 28 :: A.blk b4 [.pointer none] 24 :: H)) ?_ esA (Hs.refl _)
    refine HC.any rfl ?_
    refine HA.all [0, 1] (by kernel_rfl) rfl ⟨⟨_, rfl, ?_⟩, ⟨_, rfl, ?_⟩, trivial⟩
    · refine HO.one ?_
      refine H1.ldb rfl memA rfl rfl ?_
      apply HA.fold
      refine HA.all [1] (by kernel_rfl) rfl ⟨⟨_, rfl, ?_⟩, trivial⟩
      refine HO.one ?_
      refine H1.st (b := b4) rfl rfl (by intro _ h; cases h) (by intro _ h; cases h) rplA (by exact Nat.zero_lt_one) ?_
      apply HA.fold
      refine HA.all [2] (by kernel_rfl) rfl ⟨⟨_, rfl, ?_⟩, trivial⟩
      refine HO.one ?_
      refine H1.st (b := b5) rfl rfl (by intro _ h; cases h) (by intro _ h; cases h) rplA (by exact Nat.zero_lt_one) ?_
      apply HA.fold
      refine HA.done (by kernel_rfl) ?_
      refine hwYF ?_
      refine HX.door0 fun w1 hM a ha => ?_
      exact ⟨.tuple #[.pointer none, zv e], res_cells2 rfl ha rfl rfl ((hM.blk (b := b4) (e := 24) (.tail _ (.tail _ (.tail _ (.tail _ (.tail _ (.head _))))))).cell rfl) ((hM.blk (b := b5) (e := 28) (.tail _ (.tail _ (.tail _ (.tail _ (.head _)))))).cell rfl), _, rfl, (pa, pc), rfl, hM.sub (Hs.cons Pick.here (Hs.cons Pick.here (Hs.cons Pick.here (Hs.cons Pick.here (Hs.refl _).skip.skip))))⟩
    · refine HO.one ?_
      refine H1.st (b := b4) rfl rfl (by intro _ h; cases h) (by intro _ h; cases h) rplA (by exact Nat.zero_lt_one) ?_
      apply HA.fold
      refine HA.all [0] (by kernel_rfl) rfl ⟨⟨_, rfl, ?_⟩, trivial⟩
      refine HO.one ?_
      refine H1.ldb rfl memA rfl rfl ?_
      apply HA.fold
      refine HA.all [2] (by kernel_rfl) rfl ⟨⟨_, rfl, ?_⟩, trivial⟩
      refine HO.one ?_
      refine H1.st (b := b5) rfl rfl (by intro _ h; cases h) (by intro _ h; cases h) rplA (by exact Nat.zero_lt_one) ?_
      apply HA.fold
      refine HA.done (by kernel_rfl) ?_
      refine hwYF ?_
      refine HX.door0 fun w1 hM a ha => ?_
      exact ⟨.tuple #[.pointer none, zv e], res_cells2 rfl ha rfl rfl ((hM.blk (b := b4) (e := 24) (.tail _ (.tail _ (.tail _ (.tail _ (.tail _ (.head _))))))).cell rfl) ((hM.blk (b := b5) (e := 28) (.tail _ (.tail _ (.tail _ (.tail _ (.head _)))))).cell rfl), _, rfl, (pa, pc), rfl, hM.sub (Hs.cons Pick.here (Hs.cons Pick.here (Hs.cons Pick.here (Hs.cons Pick.here (Hs.refl _).skip.skip))))⟩
end Go.Sx
/- Sorting by a function that is given: worlds that are known but for draws and new blocks. -/
namespace Go.Sx
open Go Go.Proofs Go.RowKit
/-- Nothing but draws and new blocks. -/
def Gr (W w : World) : Prop := ∃ q os, w = Go.Sort.grow (W.drewN q) os
theorem Gr.refl (W : World) : Gr W W := ⟨0, #[], by simp [Go.Sort.grow, World.drewN]⟩
theorem Gr.trans {W w w' : World} (h : Gr W w) (k : Gr w w') : Gr W w' := by
  obtain ⟨q, os, rfl⟩ := h
  obtain ⟨q', os', rfl⟩ := k
  exact ⟨q + q', os ++ os', by simp [Go.Sort.grow, World.drewN, Array.append_assoc, Nat.add_assoc]⟩
theorem Gr.alloc {W w : World} (h : Gr W w) (o : Obj) : Gr W (w.alloc o) := h.trans ⟨0, #[o], by rw [Go.Sort.alloc_eq_grow]; rfl⟩
theorem Gr.drew {W w : World} (h : Gr W w) : Gr W w.drew := h.trans ⟨1, #[], by show w.drew = { w with heap := w.heap ++ #[], drawn := w.drawn + 1 }; rw [Array.append_empty]; rfl⟩
theorem WC.anyE {P : Program} {N : Nat} {ds : List Deferred} {Q : Post} {E : Env} {w : World} [hm : Mixed P] {id : Nat} {l : List Oper} {fuel : Nat} (hf : l.length = fuel) (h : WA P N ds l fuel (Array.replicate l.length false) Q E w.drew) :
    WC P none N ds (.region id l.toArray true) Q E w := fun a ha =>
  wpIn_region_any hm.is (by subst hf; simpa using h a ha)
theorem compareG (x y : Int) (W : World) : Fn Tryz.prog 100 #[zv x, zv y] W fun v w' => v = zv (Lib.compareInt x y) ∧ Gr W w' :=
  Calls.mono (Tryz.cmp_Compare_int x y W) (by
    rintro e w' ⟨rfl, rfl⟩
    exact ⟨_, rfl, rfl, Gr.refl _⟩)
theorem Gr.ext {W w : World} (h : Gr W w) : Ext W w := by
  obtain ⟨q, os, rfl⟩ := h
  refine ⟨rfl, rfl, rfl, by simp [Go.Sort.grow, World.drewN], fun k hk => ?_⟩
  show (W.heap ++ os)[k]? = _
  rw [Array.getElem?_append, if_pos hk]
theorem arr_at {F : Array Value} {i : Nat} (h : i < F.size) : F.toList[i]? = some F[i]! := by rw [Array.getElem?_toList, Array.getElem?_eq_getElem h, getElem!_pos F i h]
theorem putCells_id (F cur : Array Value) (h : F.size ≤ cur.size) : (Go.Sort.putCells id 0 F cur).toList.take F.size = F.toList := by
  apply List.ext_getElem?
  intro i
  rw [List.getElem?_take]
  by_cases hi : i < F.size
  · have hi2 : i < cur.size := by omega
    simp [Go.Sort.putCells, hi2, hi]
  · rw [if_neg hi, List.getElem?_eq_none (by rw [Array.length_toList]; omega)]
end Go.Sx
/- Chapter 27: places in their order: slices.SortFunc. -/
namespace Go.Sx
open Go Go.Proofs Go.RowKit
theorem W1.lit {P : Program} {r : Option Nat} {N : Nat} {ds : List Deferred} {Q : Post} {E : Env} {w : World} {next : Act → World → Prop} {g : Option (Nat × Bool)} {ty : TypeId} {pos : String} {af : Array Edge} {d : Nat} {t e : TypeId} {z : Value} {sz bb len : Nat} {parts : List (Nat × Operand)} {pv : List (Nat × Value)} {zs cs : List Value} [h : UTy P t (.slice e)] [hi : ITy P e z sz bb]
    (hx : Env.evp E parts = some pv) (hz : z.cells = zs.toArray) (hc : litC (fun i => some (i * sz, sz)) (zeroRow (len * sz) zs) pv = some cs) (hn : Nat.ble (len * sz) 16777216 = true) (h0 : Nat.beq (len * sz) 0 = false) (hd : Nat.blt d N = true)
    (hh : NX N ds next ((d, .slice (some ⟨w.heap.size, 0, none⟩) len len) :: E) (w.alloc (.cells cs.toArray e))) :
    W1 P r N ds next ⟨some d, .buildSlice t len parts.toArray, ty, pos, af, g⟩ Q E w :=
  W1.run (v := .slice (some ⟨w.heap.size, 0, none⟩) len len) (w' := w.alloc (.cells cs.toArray e)) (fun a ha => by
    have hp : Array.map (fun (p : Nat × Operand) => (p.1, a.eval p.2)) parts.toArray = pv.toArray := by simp [ha.evp hx]
    have h1 : ¬ (len * sz > 2 ^ 24) := by have := Nat.le_of_ble_eq_true hn; omega
    have h2 : ¬ (len * sz = 0) := fun e => by rw [e] at h0; cases h0
    have hzr : (Array.range (len * sz)).map (fun i => zs.toArray[i % zs.toArray.size]!) = (zeroRow (len * sz) zs).toArray := by
      apply Array.ext
      · simp [zeroRow]
      · intro i h1 h2
        simp [zeroRow, List.getD_eq_getElem?_getD]
    have hfill := litC_fill _ _ _ _ hc
    simp only [execOp, Instr.buildSlice, Sem.run_bind, run_underlying h.is, run_sizeOf (h := hi), Result.andThen, h1, h2, if_false, run_zeroValue (h := hi), hp, hz, Sem.run_pure, hzr, hfill, newRow, run_newObj]
    rfl) rfl hd hh
/-- Places in their order. -/
def cfP (x y : PK) : Int := if Lib.compareInt x.1 y.1 ≠ 0 then Lib.compareInt x.1 y.1 else Lib.compareInt x.2 y.2
def leP (x y : PK) : Prop := x.1 < y.1 ∨ (x.1 = y.1 ∧ x.2 < y.2)
instance (x y : PK) : Decidable (leP x y) := by unfold leP; infer_instance
theorem ltP (x y : PK) : ltOf cfP x y = decide (leP x y) := by
  unfold ltOf cfP leP Lib.compareInt
  by_cases h1 : x.1 < y.1
  · simp [h1]
  · by_cases h2 : y.1 < x.1
    · have h3 : ¬ x.1 = y.1 := by omega
      simp [h1, h2, h3]
    · have h3 : x.1 = y.1 := by omega
      by_cases h4 : x.2 < y.2
      · simp [h3, h4]
      · by_cases h5 : y.2 < x.2 <;> simp [h3, h4, h5]
theorem swoP : Go.Sort.SWO (ltOf cfP) where
  irrefl x := by rw [ltP]; exact decide_eq_false (by unfold leP; omega)
  trans x y z h1 h2 := by
    rw [ltP] at h1 h2 ⊢
    have h3 := of_decide_eq_true h1
    have h4 := of_decide_eq_true h2
    exact decide_eq_true (by unfold leP at *; omega)
  ntrans x y z h1 h2 := by
    rw [ltP] at h1 h2 ⊢
    have h3 := of_decide_eq_false h1
    have h4 := of_decide_eq_false h2
    exact decide_eq_false (by unfold leP at *; omega)
attribute [local irreducible] WC WL WX POp Then Again Fn NX W1 WA WO QL RP RA Yld LoopAt
theorem orG (a b : Int) (bk : Nat) (W : World) (hb : Blk W bk [zv a, zv b] 3) : Fn Tryz.prog 99 #[.slice (some ⟨bk, 0, none⟩) 2 2] W fun v w' => v = zv (if a ≠ 0 then a else b) ∧ Gr W w' := by
  have h0 := hb.cell (i := 0) rfl
  have h1 := hb.cell (i := 1) rfl
  refine enter (l := [_]) rfl Tryz.ntmps99 rfl ?_
  repeat' (first | apply WL.fold | apply WA.fold | apply WL.nil | apply WX.n_then | apply WC.seq | apply WC.region | refine WL.pa ?_ | refine WL.ga rfl ?_ | refine WL.na rfl ?_ | refine WL.nu rfl rfl ?_ | apply WC.block | apply WC.skip | apply WC.exit | apply WC.ret | apply WX.e_block | refine WX.e_other rfl ?_ | apply WX.e_then | apply WX.e_again | apply WX.n_block | apply WX.r_then | apply WX.r_block | apply WX.r_again | refine WC.cond_yes rfl ?_ | refine WC.cond_no rfl ?_ | refine WC.cond rfl (fun hc => ?_) (fun hc => ?_) | refine WC.cond_b rfl (fun hc => ?_) (fun hc => ?_))
  refine WC.loop (α := Nat) (fun i => [(3, zv 0), (6, .slice (some ⟨bk, 0, none⟩) 2 2), (7, zv 2), (8, zv (i : Int))]) (fun i w => w = W ∧ i ≤ 2 ∧ (0 < i → a = 0) ∧ (1 < i → b = 0)) (fun i => 2 - i) 0 esA ⟨rfl, by decide, fun h => absurd h (by decide), fun h => absurd h (by decide)⟩ ?_
  rintro i w ⟨rfl, hi, ha, hb2⟩
  match i, hi with
  | 0, _ =>
    repeat' (first | apply WL.fold | apply WA.fold | apply WL.nil | apply WX.n_then | apply WC.seq | apply WC.region | refine WL.pa ?_ | refine WL.ga rfl ?_ | refine WL.na rfl ?_ | refine WL.nu rfl rfl ?_ | apply WC.block | apply WC.skip | apply WC.exit | apply WC.ret | apply WX.e_block | refine WX.e_other rfl ?_ | apply WX.e_then | apply WX.e_again | apply WX.n_block | apply WX.r_then | apply WX.r_block | apply WX.r_again | refine WC.cond_yes rfl ?_ | refine WC.cond_no rfl ?_ | refine WC.cond rfl (fun hc => ?_) (fun hc => ?_) | refine WC.cond_b rfl (fun hc => ?_) (fun hc => ?_))
    refine WL.load rfl h0 rfl ?_
    by_cases hz : a = 0
    · repeat' (first | apply WL.fold | apply WA.fold | apply WL.nil | apply WX.n_then | apply WC.seq | apply WC.region | refine WL.pa ?_ | refine WL.ga rfl ?_ | refine WL.na rfl ?_ | refine WL.nu rfl rfl ?_ | apply WC.block | apply WC.skip | apply WC.exit | apply WC.ret | apply WX.e_block | refine WX.e_other rfl ?_ | apply WX.e_then | apply WX.e_again | apply WX.n_block | apply WX.r_then | apply WX.r_block | apply WX.r_again | refine WC.cond_yes rfl ?_ | refine WC.cond_no rfl ?_ | refine WC.cond rfl (fun hc => ?_) (fun hc => ?_) | refine WC.cond_b rfl (fun hc => ?_) (fun hc => ?_))
      exact WX.again 1 ⟨rfl, by decide, fun _ => hz, fun h => absurd h (by decide)⟩ (by decide) esA
    · repeat' (first | apply WL.fold | apply WA.fold | apply WL.nil | apply WX.n_then | apply WC.seq | apply WC.region | refine WL.pa ?_ | refine WL.ga rfl ?_ | refine WL.na rfl ?_ | refine WL.nu rfl rfl ?_ | apply WC.block | apply WC.skip | apply WC.exit | apply WC.ret | apply WX.e_block | refine WX.e_other rfl ?_ | apply WX.e_then | apply WX.e_again | apply WX.n_block | apply WX.r_then | apply WX.r_block | apply WX.r_again | refine WC.cond_yes rfl ?_ | refine WC.cond_no rfl ?_ | refine WC.cond rfl (fun hc => ?_) (fun hc => ?_) | refine WC.cond_b rfl (fun hc => ?_) (fun hc => ?_))
      exact WX.ret1 rfl rfl ⟨by rw [if_pos hz], Gr.refl _⟩
  | 1, _ =>
    have ha0 := ha (by decide)
    repeat' (first | apply WL.fold | apply WA.fold | apply WL.nil | apply WX.n_then | apply WC.seq | apply WC.region | refine WL.pa ?_ | refine WL.ga rfl ?_ | refine WL.na rfl ?_ | refine WL.nu rfl rfl ?_ | apply WC.block | apply WC.skip | apply WC.exit | apply WC.ret | apply WX.e_block | refine WX.e_other rfl ?_ | apply WX.e_then | apply WX.e_again | apply WX.n_block | apply WX.r_then | apply WX.r_block | apply WX.r_again | refine WC.cond_yes rfl ?_ | refine WC.cond_no rfl ?_ | refine WC.cond rfl (fun hc => ?_) (fun hc => ?_) | refine WC.cond_b rfl (fun hc => ?_) (fun hc => ?_))
    refine WL.load rfl h1 rfl ?_
    by_cases hz : b = 0
    · repeat' (first | apply WL.fold | apply WA.fold | apply WL.nil | apply WX.n_then | apply WC.seq | apply WC.region | refine WL.pa ?_ | refine WL.ga rfl ?_ | refine WL.na rfl ?_ | refine WL.nu rfl rfl ?_ | apply WC.block | apply WC.skip | apply WC.exit | apply WC.ret | apply WX.e_block | refine WX.e_other rfl ?_ | apply WX.e_then | apply WX.e_again | apply WX.n_block | apply WX.r_then | apply WX.r_block | apply WX.r_again | refine WC.cond_yes rfl ?_ | refine WC.cond_no rfl ?_ | refine WC.cond rfl (fun hc => ?_) (fun hc => ?_) | refine WC.cond_b rfl (fun hc => ?_) (fun hc => ?_))
      exact WX.again 2 ⟨rfl, by decide, fun _ => ha0, fun _ => hz⟩ (by decide) esA
    · repeat' (first | apply WL.fold | apply WA.fold | apply WL.nil | apply WX.n_then | apply WC.seq | apply WC.region | refine WL.pa ?_ | refine WL.ga rfl ?_ | refine WL.na rfl ?_ | refine WL.nu rfl rfl ?_ | apply WC.block | apply WC.skip | apply WC.exit | apply WC.ret | apply WX.e_block | refine WX.e_other rfl ?_ | apply WX.e_then | apply WX.e_again | apply WX.n_block | apply WX.r_then | apply WX.r_block | apply WX.r_again | refine WC.cond_yes rfl ?_ | refine WC.cond_no rfl ?_ | refine WC.cond rfl (fun hc => ?_) (fun hc => ?_) | refine WC.cond_b rfl (fun hc => ?_) (fun hc => ?_))
      exact WX.ret1 rfl rfl ⟨by rw [if_neg (fun h => h ha0)], Gr.refl _⟩
  | 2, _ =>
    have ha0 := ha (by decide)
    have hb0 := hb2 (by decide)
    repeat' (first | apply WL.fold | apply WA.fold | apply WL.nil | apply WX.n_then | apply WC.seq | apply WC.region | refine WL.pa ?_ | refine WL.ga rfl ?_ | refine WL.na rfl ?_ | refine WL.nu rfl rfl ?_ | apply WC.block | apply WC.skip | apply WC.exit | apply WC.ret | apply WX.e_block | refine WX.e_other rfl ?_ | apply WX.e_then | apply WX.e_again | apply WX.n_block | apply WX.r_then | apply WX.r_block | apply WX.r_again | refine WC.cond_yes rfl ?_ | refine WC.cond_no rfl ?_ | refine WC.cond rfl (fun hc => ?_) (fun hc => ?_) | refine WC.cond_b rfl (fun hc => ?_) (fun hc => ?_))
    exact WX.ret1 rfl rfl ⟨by rw [if_neg (fun h => h ha0), hb0], Gr.refl _⟩
set_option maxHeartbeats 4000000 in
theorem compare27 (x y : PK) (W : World) : Fn Tryz.prog 52 #[pkV x, pkV y] W fun v w' => v = zv (cfP x y) ∧ Gr W w' := by
  rw [pkV_cells, pkV_cells]
  refine enter (l := [_, _]) rfl Tryz.ntmps52 rfl ?_
  repeat' (first | apply WL.fold | apply WA.fold | apply WL.nil | apply WX.n_then | apply WC.seq | apply WC.region | refine WL.pa ?_ | refine WL.ga rfl ?_ | refine WL.na rfl ?_ | refine WL.nu rfl rfl ?_ | apply WC.block | apply WC.skip | apply WC.exit | apply WC.ret | apply WX.e_block | refine WX.e_other rfl ?_ | apply WX.e_then | apply WX.e_again | apply WX.n_block | apply WX.r_then | apply WX.r_block | apply WX.r_again | refine WC.cond_yes rfl ?_ | refine WC.cond_no rfl ?_ | refine WC.cond rfl (fun hc => ?_) (fun hc => ?_) | refine WC.cond_b rfl (fun hc => ?_) (fun hc => ?_))
  refine WL.one (W1.box (v := .agg [zv x.1, zv x.2].toArray) rfl rfl ?_)
  apply WL.fold
  repeat' (first | apply WL.fold | apply WA.fold | apply WL.nil | apply WX.n_then | apply WC.seq | apply WC.region | refine WL.pa ?_ | refine WL.ga rfl ?_ | refine WL.na rfl ?_ | refine WL.nu rfl rfl ?_ | apply WC.block | apply WC.skip | apply WC.exit | apply WC.ret | apply WX.e_block | refine WX.e_other rfl ?_ | apply WX.e_then | apply WX.e_again | apply WX.n_block | apply WX.r_then | apply WX.r_block | apply WX.r_again | refine WC.cond_yes rfl ?_ | refine WC.cond_no rfl ?_ | refine WC.cond rfl (fun hc => ?_) (fun hc => ?_) | refine WC.cond_b rfl (fun hc => ?_) (fun hc => ?_))
  refine WL.one (W1.box (v := .agg [zv y.1, zv y.2].toArray) rfl rfl ?_)
  apply WL.fold
  repeat' (first | apply WL.fold | apply WA.fold | apply WL.nil | apply WX.n_then | apply WC.seq | apply WC.region | refine WL.pa ?_ | refine WL.ga rfl ?_ | refine WL.na rfl ?_ | refine WL.nu rfl rfl ?_ | apply WC.block | apply WC.skip | apply WC.exit | apply WC.ret | apply WX.e_block | refine WX.e_other rfl ?_ | apply WX.e_then | apply WX.e_again | apply WX.n_block | apply WX.r_then | apply WX.r_block | apply WX.r_again | refine WC.cond_yes rfl ?_ | refine WC.cond_no rfl ?_ | refine WC.cond rfl (fun hc => ?_) (fun hc => ?_) | refine WC.cond_b rfl (fun hc => ?_) (fun hc => ?_))
  refine WC.anyE rfl ?_
  have hG2 : Gr W ((W.alloc (.cells (Value.agg [zv x.1, zv x.2].toArray).cells 76)).alloc (.cells (Value.agg [zv y.1, zv y.2].toArray).cells 76)).drew := (((Gr.refl W).alloc _).alloc _).drew
  have hx0 : ((W.alloc (.cells (Value.agg [zv x.1, zv x.2].toArray).cells 76)).alloc (.cells (Value.agg [zv y.1, zv y.2].toArray).cells 76)).drew.cell? ⟨W.heap.size, 0, none⟩ = some (zv x.1) := cell_ext (Ext.alloc _ _) ((Blk.new W [zv x.1, zv x.2] _).cell rfl)
  have hx1 : ((W.alloc (.cells (Value.agg [zv x.1, zv x.2].toArray).cells 76)).alloc (.cells (Value.agg [zv y.1, zv y.2].toArray).cells 76)).drew.cell? ⟨W.heap.size, 1, none⟩ = some (zv x.2) := cell_ext (Ext.alloc _ _) ((Blk.new W [zv x.1, zv x.2] _).cell rfl)
  have hy0 : ((W.alloc (.cells (Value.agg [zv x.1, zv x.2].toArray).cells 76)).alloc (.cells (Value.agg [zv y.1, zv y.2].toArray).cells 76)).drew.cell? ⟨(W.alloc (.cells (Value.agg [zv x.1, zv x.2].toArray).cells 76)).heap.size, 0, none⟩ = some (zv y.1) := (Blk.new (W.alloc _) [zv y.1, zv y.2] _).cell rfl
  have hy1 : ((W.alloc (.cells (Value.agg [zv x.1, zv x.2].toArray).cells 76)).alloc (.cells (Value.agg [zv y.1, zv y.2].toArray).cells 76)).drew.cell? ⟨(W.alloc (.cells (Value.agg [zv x.1, zv x.2].toArray).cells 76)).heap.size, 1, none⟩ = some (zv y.2) := (Blk.new (W.alloc _) [zv y.1, zv y.2] _).cell rfl
  generalize ((W.alloc (.cells (Value.agg [zv x.1, zv x.2].toArray).cells 76)).alloc (.cells (Value.agg [zv y.1, zv y.2].toArray).cells 76)).drew = w at hx0 hx1 hy0 hy1 hG2 ⊢
  generalize (W.alloc (.cells (Value.agg [zv x.1, zv x.2].toArray).cells 76)).heap.size = b2 at hy0 hy1 ⊢
  generalize W.heap.size = b1 at hx0 hx1 ⊢
  refine WA.pa 0 rfl ?_
  refine WA.pa 2 rfl ?_
  refine WA.pa 5 rfl ?_
  refine WA.pa 7 rfl ?_
  refine WA.all [1, 3, 6, 8] (by kernel_rfl) rfl ⟨⟨_, rfl, ?_⟩, ⟨_, rfl, ?_⟩, ⟨_, rfl, ?_⟩, ⟨_, rfl, ?_⟩, trivial⟩
  · refine WO.one (W1.load rfl hx0 rfl ?_)
    apply WA.fold
    refine WA.all [3, 6, 8] (by kernel_rfl) rfl ⟨⟨_, rfl, ?_⟩, ⟨_, rfl, ?_⟩, ⟨_, rfl, ?_⟩, trivial⟩
    · refine WO.one (W1.load rfl hy0 rfl ?_)
      apply WA.fold
      refine WA.all [4, 6, 8] (by kernel_rfl) rfl ⟨⟨_, rfl, ?_⟩, ⟨_, rfl, ?_⟩, ⟨_, rfl, ?_⟩, trivial⟩
      · refine WO.one (W1.call (vs := [zv x.1, zv y.1]) rfl rfl (compareG _ _ w) ?_)
        rintro v w1 ⟨rfl, hg1⟩
        apply WA.fold
        refine WA.all [6, 8] (by kernel_rfl) rfl ⟨⟨_, rfl, ?_⟩, ⟨_, rfl, ?_⟩, trivial⟩
        · refine WO.one (W1.load rfl (cell_ext hg1.ext hx1) rfl ?_)
          apply WA.fold
          refine WA.all [8] (by kernel_rfl) rfl ⟨⟨_, rfl, ?_⟩, trivial⟩
          refine WO.one (W1.load rfl (cell_ext hg1.ext hy1) rfl ?_)
          apply WA.fold
          refine WA.all [9] (by kernel_rfl) rfl ⟨⟨_, rfl, ?_⟩, trivial⟩
          refine WO.one (W1.call (vs := [zv x.2, zv y.2]) rfl rfl (compareG _ _ w1) ?_)
          rintro v w2 ⟨rfl, hg2⟩
          apply WA.fold
          refine WA.all [10] (by kernel_rfl) rfl ⟨⟨_, rfl, ?_⟩, trivial⟩
          refine WO.one (W1.lit (cs := [zv (Lib.compareInt x.1 y.1), zv (Lib.compareInt x.2 y.2)]) rfl rfl rfl rfl rfl rfl ?_)
          apply WA.fold
          refine WA.all [11] (by kernel_rfl) rfl ⟨⟨_, rfl, ?_⟩, trivial⟩
          refine WO.one (W1.call (vs := [_]) rfl rfl (orG _ _ _ _ (Blk.new w2 [zv (Lib.compareInt x.1 y.1), zv (Lib.compareInt x.2 y.2)] 3)) ?_)
          rintro v w3 ⟨rfl, hg3⟩
          apply WA.fold
          refine WA.pa 12 rfl ?_
          refine WA.done (by kernel_rfl) ?_
          repeat' (first | apply WL.fold | apply WA.fold | apply WL.nil | apply WX.n_then | apply WC.seq | apply WC.region | refine WL.pa ?_ | refine WL.ga rfl ?_ | refine WL.na rfl ?_ | refine WL.nu rfl rfl ?_ | apply WC.block | apply WC.skip | apply WC.exit | apply WC.ret | apply WX.e_block | refine WX.e_other rfl ?_ | apply WX.e_then | apply WX.e_again | apply WX.n_block | apply WX.r_then | apply WX.r_block | apply WX.r_again | refine WC.cond_yes rfl ?_ | refine WC.cond_no rfl ?_ | refine WC.cond rfl (fun hc => ?_) (fun hc => ?_) | refine WC.cond_b rfl (fun hc => ?_) (fun hc => ?_))
          exact WX.ret1 rfl rfl ⟨rfl, hG2.trans (hg1.trans (hg2.trans (((Gr.refl w2).alloc _).trans hg3)))⟩
        · refine WO.one (W1.load rfl (cell_ext hg1.ext hy1) rfl ?_)
          apply WA.fold
          refine WA.all [6] (by kernel_rfl) rfl ⟨⟨_, rfl, ?_⟩, trivial⟩
          refine WO.one (W1.load rfl (cell_ext hg1.ext hx1) rfl ?_)
          apply WA.fold
          refine WA.all [9] (by kernel_rfl) rfl ⟨⟨_, rfl, ?_⟩, trivial⟩
          refine WO.one (W1.call (vs := [zv x.2, zv y.2]) rfl rfl (compareG _ _ w1) ?_)
          rintro v w2 ⟨rfl, hg2⟩
          apply WA.fold
          refine WA.all [10] (by kernel_rfl) rfl ⟨⟨_, rfl, ?_⟩, trivial⟩
          refine WO.one (W1.lit (cs := [zv (Lib.compareInt x.1 y.1), zv (Lib.compareInt x.2 y.2)]) rfl rfl rfl rfl rfl rfl ?_)
          apply WA.fold
          refine WA.all [11] (by kernel_rfl) rfl ⟨⟨_, rfl, ?_⟩, trivial⟩
          refine WO.one (W1.call (vs := [_]) rfl rfl (orG _ _ _ _ (Blk.new w2 [zv (Lib.compareInt x.1 y.1), zv (Lib.compareInt x.2 y.2)] 3)) ?_)
          rintro v w3 ⟨rfl, hg3⟩
          apply WA.fold
          refine WA.pa 12 rfl ?_
          refine WA.done (by kernel_rfl) ?_
          repeat' (first | apply WL.fold | apply WA.fold | apply WL.nil | apply WX.n_then | apply WC.seq | apply WC.region | refine WL.pa ?_ | refine WL.ga rfl ?_ | refine WL.na rfl ?_ | refine WL.nu rfl rfl ?_ | apply WC.block | apply WC.skip | apply WC.exit | apply WC.ret | apply WX.e_block | refine WX.e_other rfl ?_ | apply WX.e_then | apply WX.e_again | apply WX.n_block | apply WX.r_then | apply WX.r_block | apply WX.r_again | refine WC.cond_yes rfl ?_ | refine WC.cond_no rfl ?_ | refine WC.cond rfl (fun hc => ?_) (fun hc => ?_) | refine WC.cond_b rfl (fun hc => ?_) (fun hc => ?_))
          exact WX.ret1 rfl rfl ⟨rfl, hG2.trans (hg1.trans (hg2.trans (((Gr.refl w2).alloc _).trans hg3)))⟩
      · refine WO.one (W1.load rfl hx1 rfl ?_)
        apply WA.fold
        refine WA.all [4, 8] (by kernel_rfl) rfl ⟨⟨_, rfl, ?_⟩, ⟨_, rfl, ?_⟩, trivial⟩
        · refine WO.one (W1.call (vs := [zv x.1, zv y.1]) rfl rfl (compareG _ _ w) ?_)
          rintro v w1 ⟨rfl, hg1⟩
          apply WA.fold
          refine WA.all [8] (by kernel_rfl) rfl ⟨⟨_, rfl, ?_⟩, trivial⟩
          refine WO.one (W1.load rfl (cell_ext hg1.ext hy1) rfl ?_)
          apply WA.fold
          refine WA.all [9] (by kernel_rfl) rfl ⟨⟨_, rfl, ?_⟩, trivial⟩
          refine WO.one (W1.call (vs := [zv x.2, zv y.2]) rfl rfl (compareG _ _ w1) ?_)
          rintro v w2 ⟨rfl, hg2⟩
          apply WA.fold
          refine WA.all [10] (by kernel_rfl) rfl ⟨⟨_, rfl, ?_⟩, trivial⟩
          refine WO.one (W1.lit (cs := [zv (Lib.compareInt x.1 y.1), zv (Lib.compareInt x.2 y.2)]) rfl rfl rfl rfl rfl rfl ?_)
          apply WA.fold
          refine WA.all [11] (by kernel_rfl) rfl ⟨⟨_, rfl, ?_⟩, trivial⟩
          refine WO.one (W1.call (vs := [_]) rfl rfl (orG _ _ _ _ (Blk.new w2 [zv (Lib.compareInt x.1 y.1), zv (Lib.compareInt x.2 y.2)] 3)) ?_)
          rintro v w3 ⟨rfl, hg3⟩
          apply WA.fold
          refine WA.pa 12 rfl ?_
          refine WA.done (by kernel_rfl) ?_
          repeat' (first | apply WL.fold | apply WA.fold | apply WL.nil | apply WX.n_then | apply WC.seq | apply WC.region | refine WL.pa ?_ | refine WL.ga rfl ?_ | refine WL.na rfl ?_ | refine WL.nu rfl rfl ?_ | apply WC.block | apply WC.skip | apply WC.exit | apply WC.ret | apply WX.e_block | refine WX.e_other rfl ?_ | apply WX.e_then | apply WX.e_again | apply WX.n_block | apply WX.r_then | apply WX.r_block | apply WX.r_again | refine WC.cond_yes rfl ?_ | refine WC.cond_no rfl ?_ | refine WC.cond rfl (fun hc => ?_) (fun hc => ?_) | refine WC.cond_b rfl (fun hc => ?_) (fun hc => ?_))
          exact WX.ret1 rfl rfl ⟨rfl, hG2.trans (hg1.trans (hg2.trans (((Gr.refl w2).alloc _).trans hg3)))⟩
        · refine WO.one (W1.load rfl hy1 rfl ?_)
          apply WA.fold
          refine WA.all [4] (by kernel_rfl) rfl ⟨⟨_, rfl, ?_⟩, trivial⟩
          refine WO.one (W1.call (vs := [zv x.1, zv y.1]) rfl rfl (compareG _ _ w) ?_)
          rintro v w1 ⟨rfl, hg1⟩
          apply WA.fold
          refine WA.all [9] (by kernel_rfl) rfl ⟨⟨_, rfl, ?_⟩, trivial⟩
          refine WO.one (W1.call (vs := [zv x.2, zv y.2]) rfl rfl (compareG _ _ w1) ?_)
          rintro v w2 ⟨rfl, hg2⟩
          apply WA.fold
          refine WA.all [10] (by kernel_rfl) rfl ⟨⟨_, rfl, ?_⟩, trivial⟩
          refine WO.one (W1.lit (cs := [zv (Lib.compareInt x.1 y.1), zv (Lib.compareInt x.2 y.2)]) rfl rfl rfl rfl rfl rfl ?_)
          apply WA.fold
          refine WA.all [11] (by kernel_rfl) rfl ⟨⟨_, rfl, ?_⟩, trivial⟩
          refine WO.one (W1.call (vs := [_]) rfl rfl (orG _ _ _ _ (Blk.new w2 [zv (Lib.compareInt x.1 y.1), zv (Lib.compareInt x.2 y.2)] 3)) ?_)
          rintro v w3 ⟨rfl, hg3⟩
          apply WA.fold
          refine WA.pa 12 rfl ?_
          refine WA.done (by kernel_rfl) ?_
          repeat' (first | apply WL.fold | apply WA.fold | apply WL.nil | apply WX.n_then | apply WC.seq | apply WC.region | refine WL.pa ?_ | refine WL.ga rfl ?_ | refine WL.na rfl ?_ | refine WL.nu rfl rfl ?_ | apply WC.block | apply WC.skip | apply WC.exit | apply WC.ret | apply WX.e_block | refine WX.e_other rfl ?_ | apply WX.e_then | apply WX.e_again | apply WX.n_block | apply WX.r_then | apply WX.r_block | apply WX.r_again | refine WC.cond_yes rfl ?_ | refine WC.cond_no rfl ?_ | refine WC.cond rfl (fun hc => ?_) (fun hc => ?_) | refine WC.cond_b rfl (fun hc => ?_) (fun hc => ?_))
          exact WX.ret1 rfl rfl ⟨rfl, hG2.trans (hg1.trans (hg2.trans (((Gr.refl w2).alloc _).trans hg3)))⟩
      · refine WO.one (W1.load rfl hy1 rfl ?_)
        apply WA.fold
        refine WA.all [4, 6] (by kernel_rfl) rfl ⟨⟨_, rfl, ?_⟩, ⟨_, rfl, ?_⟩, trivial⟩
        · refine WO.one (W1.call (vs := [zv x.1, zv y.1]) rfl rfl (compareG _ _ w) ?_)
          rintro v w1 ⟨rfl, hg1⟩
          apply WA.fold
          refine WA.all [6] (by kernel_rfl) rfl ⟨⟨_, rfl, ?_⟩, trivial⟩
          refine WO.one (W1.load rfl (cell_ext hg1.ext hx1) rfl ?_)
          apply WA.fold
          refine WA.all [9] (by kernel_rfl) rfl ⟨⟨_, rfl, ?_⟩, trivial⟩
          refine WO.one (W1.call (vs := [zv x.2, zv y.2]) rfl rfl (compareG _ _ w1) ?_)
          rintro v w2 ⟨rfl, hg2⟩
          apply WA.fold
          refine WA.all [10] (by kernel_rfl) rfl ⟨⟨_, rfl, ?_⟩, trivial⟩
          refine WO.one (W1.lit (cs := [zv (Lib.compareInt x.1 y.1), zv (Lib.compareInt x.2 y.2)]) rfl rfl rfl rfl rfl rfl ?_)
          apply WA.fold
          refine WA.all [11] (by kernel_rfl) rfl ⟨⟨_, rfl, ?_⟩, trivial⟩
          refine WO.one (W1.call (vs := [_]) rfl rfl (orG _ _ _ _ (Blk.new w2 [zv (Lib.compareInt x.1 y.1), zv (Lib.compareInt x.2 y.2)] 3)) ?_)
          rintro v w3 ⟨rfl, hg3⟩
          apply WA.fold
          refine WA.pa 12 rfl ?_
          refine WA.done (by kernel_rfl) ?_
          repeat' (first | apply WL.fold | apply WA.fold | apply WL.nil | apply WX.n_then | apply WC.seq | apply WC.region | refine WL.pa ?_ | refine WL.ga rfl ?_ | refine WL.na rfl ?_ | refine WL.nu rfl rfl ?_ | apply WC.block | apply WC.skip | apply WC.exit | apply WC.ret | apply WX.e_block | refine WX.e_other rfl ?_ | apply WX.e_then | apply WX.e_again | apply WX.n_block | apply WX.r_then | apply WX.r_block | apply WX.r_again | refine WC.cond_yes rfl ?_ | refine WC.cond_no rfl ?_ | refine WC.cond rfl (fun hc => ?_) (fun hc => ?_) | refine WC.cond_b rfl (fun hc => ?_) (fun hc => ?_))
          exact WX.ret1 rfl rfl ⟨rfl, hG2.trans (hg1.trans (hg2.trans (((Gr.refl w2).alloc _).trans hg3)))⟩
        · refine WO.one (W1.load rfl hx1 rfl ?_)
          apply WA.fold
          refine WA.all [4] (by kernel_rfl) rfl ⟨⟨_, rfl, ?_⟩, trivial⟩
          refine WO.one (W1.call (vs := [zv x.1, zv y.1]) rfl rfl (compareG _ _ w) ?_)
          rintro v w1 ⟨rfl, hg1⟩
          apply WA.fold
          refine WA.all [9] (by kernel_rfl) rfl ⟨⟨_, rfl, ?_⟩, trivial⟩
          refine WO.one (W1.call (vs := [zv x.2, zv y.2]) rfl rfl (compareG _ _ w1) ?_)
          rintro v w2 ⟨rfl, hg2⟩
          apply WA.fold
          refine WA.all [10] (by kernel_rfl) rfl ⟨⟨_, rfl, ?_⟩, trivial⟩
          refine WO.one (W1.lit (cs := [zv (Lib.compareInt x.1 y.1), zv (Lib.compareInt x.2 y.2)]) rfl rfl rfl rfl rfl rfl ?_)
          apply WA.fold
          refine WA.all [11] (by kernel_rfl) rfl ⟨⟨_, rfl, ?_⟩, trivial⟩
          refine WO.one (W1.call (vs := [_]) rfl rfl (orG _ _ _ _ (Blk.new w2 [zv (Lib.compareInt x.1 y.1), zv (Lib.compareInt x.2 y.2)] 3)) ?_)
          rintro v w3 ⟨rfl, hg3⟩
          apply WA.fold
          refine WA.pa 12 rfl ?_
          refine WA.done (by kernel_rfl) ?_
          repeat' (first | apply WL.fold | apply WA.fold | apply WL.nil | apply WX.n_then | apply WC.seq | apply WC.region | refine WL.pa ?_ | refine WL.ga rfl ?_ | refine WL.na rfl ?_ | refine WL.nu rfl rfl ?_ | apply WC.block | apply WC.skip | apply WC.exit | apply WC.ret | apply WX.e_block | refine WX.e_other rfl ?_ | apply WX.e_then | apply WX.e_again | apply WX.n_block | apply WX.r_then | apply WX.r_block | apply WX.r_again | refine WC.cond_yes rfl ?_ | refine WC.cond_no rfl ?_ | refine WC.cond rfl (fun hc => ?_) (fun hc => ?_) | refine WC.cond_b rfl (fun hc => ?_) (fun hc => ?_))
          exact WX.ret1 rfl rfl ⟨rfl, hG2.trans (hg1.trans (hg2.trans (((Gr.refl w2).alloc _).trans hg3)))⟩
    · refine WO.one (W1.load rfl hx1 rfl ?_)
      apply WA.fold
      refine WA.all [3, 8] (by kernel_rfl) rfl ⟨⟨_, rfl, ?_⟩, ⟨_, rfl, ?_⟩, trivial⟩
      · refine WO.one (W1.load rfl hy0 rfl ?_)
        apply WA.fold
        refine WA.all [4, 8] (by kernel_rfl) rfl ⟨⟨_, rfl, ?_⟩, ⟨_, rfl, ?_⟩, trivial⟩
        · refine WO.one (W1.call (vs := [zv x.1, zv y.1]) rfl rfl (compareG _ _ w) ?_)
          rintro v w1 ⟨rfl, hg1⟩
          apply WA.fold
          refine WA.all [8] (by kernel_rfl) rfl ⟨⟨_, rfl, ?_⟩, trivial⟩
          refine WO.one (W1.load rfl (cell_ext hg1.ext hy1) rfl ?_)
          apply WA.fold
          refine WA.all [9] (by kernel_rfl) rfl ⟨⟨_, rfl, ?_⟩, trivial⟩
          refine WO.one (W1.call (vs := [zv x.2, zv y.2]) rfl rfl (compareG _ _ w1) ?_)
          rintro v w2 ⟨rfl, hg2⟩
          apply WA.fold
          refine WA.all [10] (by kernel_rfl) rfl ⟨⟨_, rfl, ?_⟩, trivial⟩
          refine WO.one (W1.lit (cs := [zv (Lib.compareInt x.1 y.1), zv (Lib.compareInt x.2 y.2)]) rfl rfl rfl rfl rfl rfl ?_)
          apply WA.fold
          refine WA.all [11] (by kernel_rfl) rfl ⟨⟨_, rfl, ?_⟩, trivial⟩
          refine WO.one (W1.call (vs := [_]) rfl rfl (orG _ _ _ _ (Blk.new w2 [zv (Lib.compareInt x.1 y.1), zv (Lib.compareInt x.2 y.2)] 3)) ?_)
          rintro v w3 ⟨rfl, hg3⟩
          apply WA.fold
          refine WA.pa 12 rfl ?_
          refine WA.done (by kernel_rfl) ?_
          repeat' (first | apply WL.fold | apply WA.fold | apply WL.nil | apply WX.n_then | apply WC.seq | apply WC.region | refine WL.pa ?_ | refine WL.ga rfl ?_ | refine WL.na rfl ?_ | refine WL.nu rfl rfl ?_ | apply WC.block | apply WC.skip | apply WC.exit | apply WC.ret | apply WX.e_block | refine WX.e_other rfl ?_ | apply WX.e_then | apply WX.e_again | apply WX.n_block | apply WX.r_then | apply WX.r_block | apply WX.r_again | refine WC.cond_yes rfl ?_ | refine WC.cond_no rfl ?_ | refine WC.cond rfl (fun hc => ?_) (fun hc => ?_) | refine WC.cond_b rfl (fun hc => ?_) (fun hc => ?_))
          exact WX.ret1 rfl rfl ⟨rfl, hG2.trans (hg1.trans (hg2.trans (((Gr.refl w2).alloc _).trans hg3)))⟩
        · refine WO.one (W1.load rfl hy1 rfl ?_)
          apply WA.fold
          refine WA.all [4] (by kernel_rfl) rfl ⟨⟨_, rfl, ?_⟩, trivial⟩
          refine WO.one (W1.call (vs := [zv x.1, zv y.1]) rfl rfl (compareG _ _ w) ?_)
          rintro v w1 ⟨rfl, hg1⟩
          apply WA.fold
          refine WA.all [9] (by kernel_rfl) rfl ⟨⟨_, rfl, ?_⟩, trivial⟩
          refine WO.one (W1.call (vs := [zv x.2, zv y.2]) rfl rfl (compareG _ _ w1) ?_)
          rintro v w2 ⟨rfl, hg2⟩
          apply WA.fold
          refine WA.all [10] (by kernel_rfl) rfl ⟨⟨_, rfl, ?_⟩, trivial⟩
          refine WO.one (W1.lit (cs := [zv (Lib.compareInt x.1 y.1), zv (Lib.compareInt x.2 y.2)]) rfl rfl rfl rfl rfl rfl ?_)
          apply WA.fold
          refine WA.all [11] (by kernel_rfl) rfl ⟨⟨_, rfl, ?_⟩, trivial⟩
          refine WO.one (W1.call (vs := [_]) rfl rfl (orG _ _ _ _ (Blk.new w2 [zv (Lib.compareInt x.1 y.1), zv (Lib.compareInt x.2 y.2)] 3)) ?_)
          rintro v w3 ⟨rfl, hg3⟩
          apply WA.fold
          refine WA.pa 12 rfl ?_
          refine WA.done (by kernel_rfl) ?_
          repeat' (first | apply WL.fold | apply WA.fold | apply WL.nil | apply WX.n_then | apply WC.seq | apply WC.region | refine WL.pa ?_ | refine WL.ga rfl ?_ | refine WL.na rfl ?_ | refine WL.nu rfl rfl ?_ | apply WC.block | apply WC.skip | apply WC.exit | apply WC.ret | apply WX.e_block | refine WX.e_other rfl ?_ | apply WX.e_then | apply WX.e_again | apply WX.n_block | apply WX.r_then | apply WX.r_block | apply WX.r_again | refine WC.cond_yes rfl ?_ | refine WC.cond_no rfl ?_ | refine WC.cond rfl (fun hc => ?_) (fun hc => ?_) | refine WC.cond_b rfl (fun hc => ?_) (fun hc => ?_))
          exact WX.ret1 rfl rfl ⟨rfl, hG2.trans (hg1.trans (hg2.trans (((Gr.refl w2).alloc _).trans hg3)))⟩
      · refine WO.one (W1.load rfl hy1 rfl ?_)
        apply WA.fold
        refine WA.all [3] (by kernel_rfl) rfl ⟨⟨_, rfl, ?_⟩, trivial⟩
        refine WO.one (W1.load rfl hy0 rfl ?_)
        apply WA.fold
        refine WA.all [4] (by kernel_rfl) rfl ⟨⟨_, rfl, ?_⟩, trivial⟩
        refine WO.one (W1.call (vs := [zv x.1, zv y.1]) rfl rfl (compareG _ _ w) ?_)
        rintro v w1 ⟨rfl, hg1⟩
        apply WA.fold
        refine WA.all [9] (by kernel_rfl) rfl ⟨⟨_, rfl, ?_⟩, trivial⟩
        refine WO.one (W1.call (vs := [zv x.2, zv y.2]) rfl rfl (compareG _ _ w1) ?_)
        rintro v w2 ⟨rfl, hg2⟩
        apply WA.fold
        refine WA.all [10] (by kernel_rfl) rfl ⟨⟨_, rfl, ?_⟩, trivial⟩
        refine WO.one (W1.lit (cs := [zv (Lib.compareInt x.1 y.1), zv (Lib.compareInt x.2 y.2)]) rfl rfl rfl rfl rfl rfl ?_)
        apply WA.fold
        refine WA.all [11] (by kernel_rfl) rfl ⟨⟨_, rfl, ?_⟩, trivial⟩
        refine WO.one (W1.call (vs := [_]) rfl rfl (orG _ _ _ _ (Blk.new w2 [zv (Lib.compareInt x.1 y.1), zv (Lib.compareInt x.2 y.2)] 3)) ?_)
        rintro v w3 ⟨rfl, hg3⟩
        apply WA.fold
        refine WA.pa 12 rfl ?_
        refine WA.done (by kernel_rfl) ?_
        repeat' (first | apply WL.fold | apply WA.fold | apply WL.nil | apply WX.n_then | apply WC.seq | apply WC.region | refine WL.pa ?_ | refine WL.ga rfl ?_ | refine WL.na rfl ?_ | refine WL.nu rfl rfl ?_ | apply WC.block | apply WC.skip | apply WC.exit | apply WC.ret | apply WX.e_block | refine WX.e_other rfl ?_ | apply WX.e_then | apply WX.e_again | apply WX.n_block | apply WX.r_then | apply WX.r_block | apply WX.r_again | refine WC.cond_yes rfl ?_ | refine WC.cond_no rfl ?_ | refine WC.cond rfl (fun hc => ?_) (fun hc => ?_) | refine WC.cond_b rfl (fun hc => ?_) (fun hc => ?_))
        exact WX.ret1 rfl rfl ⟨rfl, hG2.trans (hg1.trans (hg2.trans (((Gr.refl w2).alloc _).trans hg3)))⟩
    · refine WO.one (W1.load rfl hy1 rfl ?_)
      apply WA.fold
      refine WA.all [3, 6] (by kernel_rfl) rfl ⟨⟨_, rfl, ?_⟩, ⟨_, rfl, ?_⟩, trivial⟩
      · refine WO.one (W1.load rfl hy0 rfl ?_)
        apply WA.fold
        refine WA.all [4, 6] (by kernel_rfl) rfl ⟨⟨_, rfl, ?_⟩, ⟨_, rfl, ?_⟩, trivial⟩
        · refine WO.one (W1.call (vs := [zv x.1, zv y.1]) rfl rfl (compareG _ _ w) ?_)
          rintro v w1 ⟨rfl, hg1⟩
          apply WA.fold
          refine WA.all [6] (by kernel_rfl) rfl ⟨⟨_, rfl, ?_⟩, trivial⟩
          refine WO.one (W1.load rfl (cell_ext hg1.ext hx1) rfl ?_)
          apply WA.fold
          refine WA.all [9] (by kernel_rfl) rfl ⟨⟨_, rfl, ?_⟩, trivial⟩
          refine WO.one (W1.call (vs := [zv x.2, zv y.2]) rfl rfl (compareG _ _ w1) ?_)
          rintro v w2 ⟨rfl, hg2⟩
          apply WA.fold
          refine WA.all [10] (by kernel_rfl) rfl ⟨⟨_, rfl, ?_⟩, trivial⟩
          refine WO.one (W1.lit (cs := [zv (Lib.compareInt x.1 y.1), zv (Lib.compareInt x.2 y.2)]) rfl rfl rfl rfl rfl rfl ?_)
          apply WA.fold
          refine WA.all [11] (by kernel_rfl) rfl ⟨⟨_, rfl, ?_⟩, trivial⟩
          refine WO.one (W1.call (vs := [_]) rfl rfl (orG _ _ _ _ (Blk.new w2 [zv (Lib.compareInt x.1 y.1), zv (Lib.compareInt x.2 y.2)] 3)) ?_)
          rintro v w3 ⟨rfl, hg3⟩
          apply WA.fold
          refine WA.pa 12 rfl ?_
          refine WA.done (by kernel_rfl) ?_
          repeat' (first | apply WL.fold | apply WA.fold | apply WL.nil | apply WX.n_then | apply WC.seq | apply WC.region | refine WL.pa ?_ | refine WL.ga rfl ?_ | refine WL.na rfl ?_ | refine WL.nu rfl rfl ?_ | apply WC.block | apply WC.skip | apply WC.exit | apply WC.ret | apply WX.e_block | refine WX.e_other rfl ?_ | apply WX.e_then | apply WX.e_again | apply WX.n_block | apply WX.r_then | apply WX.r_block | apply WX.r_again | refine WC.cond_yes rfl ?_ | refine WC.cond_no rfl ?_ | refine WC.cond rfl (fun hc => ?_) (fun hc => ?_) | refine WC.cond_b rfl (fun hc => ?_) (fun hc => ?_))
          exact WX.ret1 rfl rfl ⟨rfl, hG2.trans (hg1.trans (hg2.trans (((Gr.refl w2).alloc _).trans hg3)))⟩
        · refine WO.one (W1.load rfl hx1 rfl ?_)
          apply WA.fold
          refine WA.all [4] (by kernel_rfl) rfl ⟨⟨_, rfl, ?_⟩, trivial⟩
          refine WO.one (W1.call (vs := [zv x.1, zv y.1]) rfl rfl (compareG _ _ w) ?_)
          rintro v w1 ⟨rfl, hg1⟩
          apply WA.fold
          refine WA.all [9] (by kernel_rfl) rfl ⟨⟨_, rfl, ?_⟩, trivial⟩
          refine WO.one (W1.call (vs := [zv x.2, zv y.2]) rfl rfl (compareG _ _ w1) ?_)
          rintro v w2 ⟨rfl, hg2⟩
          apply WA.fold
          refine WA.all [10] (by kernel_rfl) rfl ⟨⟨_, rfl, ?_⟩, trivial⟩
          refine WO.one (W1.lit (cs := [zv (Lib.compareInt x.1 y.1), zv (Lib.compareInt x.2 y.2)]) rfl rfl rfl rfl rfl rfl ?_)
          apply WA.fold
          refine WA.all [11] (by kernel_rfl) rfl ⟨⟨_, rfl, ?_⟩, trivial⟩
          refine WO.one (W1.call (vs := [_]) rfl rfl (orG _ _ _ _ (Blk.new w2 [zv (Lib.compareInt x.1 y.1), zv (Lib.compareInt x.2 y.2)] 3)) ?_)
          rintro v w3 ⟨rfl, hg3⟩
          apply WA.fold
          refine WA.pa 12 rfl ?_
          refine WA.done (by kernel_rfl) ?_
          repeat' (first | apply WL.fold | apply WA.fold | apply WL.nil | apply WX.n_then | apply WC.seq | apply WC.region | refine WL.pa ?_ | refine WL.ga rfl ?_ | refine WL.na rfl ?_ | refine WL.nu rfl rfl ?_ | apply WC.block | apply WC.skip | apply WC.exit | apply WC.ret | apply WX.e_block | refine WX.e_other rfl ?_ | apply WX.e_then | apply WX.e_again | apply WX.n_block | apply WX.r_then | apply WX.r_block | apply WX.r_again | refine WC.cond_yes rfl ?_ | refine WC.cond_no rfl ?_ | refine WC.cond rfl (fun hc => ?_) (fun hc => ?_) | refine WC.cond_b rfl (fun hc => ?_) (fun hc => ?_))
          exact WX.ret1 rfl rfl ⟨rfl, hG2.trans (hg1.trans (hg2.trans (((Gr.refl w2).alloc _).trans hg3)))⟩
      · refine WO.one (W1.load rfl hx1 rfl ?_)
        apply WA.fold
        refine WA.all [3] (by kernel_rfl) rfl ⟨⟨_, rfl, ?_⟩, trivial⟩
        refine WO.one (W1.load rfl hy0 rfl ?_)
        apply WA.fold
        refine WA.all [4] (by kernel_rfl) rfl ⟨⟨_, rfl, ?_⟩, trivial⟩
        refine WO.one (W1.call (vs := [zv x.1, zv y.1]) rfl rfl (compareG _ _ w) ?_)
        rintro v w1 ⟨rfl, hg1⟩
        apply WA.fold
        refine WA.all [9] (by kernel_rfl) rfl ⟨⟨_, rfl, ?_⟩, trivial⟩
        refine WO.one (W1.call (vs := [zv x.2, zv y.2]) rfl rfl (compareG _ _ w1) ?_)
        rintro v w2 ⟨rfl, hg2⟩
        apply WA.fold
        refine WA.all [10] (by kernel_rfl) rfl ⟨⟨_, rfl, ?_⟩, trivial⟩
        refine WO.one (W1.lit (cs := [zv (Lib.compareInt x.1 y.1), zv (Lib.compareInt x.2 y.2)]) rfl rfl rfl rfl rfl rfl ?_)
        apply WA.fold
        refine WA.all [11] (by kernel_rfl) rfl ⟨⟨_, rfl, ?_⟩, trivial⟩
        refine WO.one (W1.call (vs := [_]) rfl rfl (orG _ _ _ _ (Blk.new w2 [zv (Lib.compareInt x.1 y.1), zv (Lib.compareInt x.2 y.2)] 3)) ?_)
        rintro v w3 ⟨rfl, hg3⟩
        apply WA.fold
        refine WA.pa 12 rfl ?_
        refine WA.done (by kernel_rfl) ?_
        repeat' (first | apply WL.fold | apply WA.fold | apply WL.nil | apply WX.n_then | apply WC.seq | apply WC.region | refine WL.pa ?_ | refine WL.ga rfl ?_ | refine WL.na rfl ?_ | refine WL.nu rfl rfl ?_ | apply WC.block | apply WC.skip | apply WC.exit | apply WC.ret | apply WX.e_block | refine WX.e_other rfl ?_ | apply WX.e_then | apply WX.e_again | apply WX.n_block | apply WX.r_then | apply WX.r_block | apply WX.r_again | refine WC.cond_yes rfl ?_ | refine WC.cond_no rfl ?_ | refine WC.cond rfl (fun hc => ?_) (fun hc => ?_) | refine WC.cond_b rfl (fun hc => ?_) (fun hc => ?_))
        exact WX.ret1 rfl rfl ⟨rfl, hG2.trans (hg1.trans (hg2.trans (((Gr.refl w2).alloc _).trans hg3)))⟩
  · refine WO.one (W1.load rfl hy0 rfl ?_)
    apply WA.fold
    refine WA.all [1, 6, 8] (by kernel_rfl) rfl ⟨⟨_, rfl, ?_⟩, ⟨_, rfl, ?_⟩, ⟨_, rfl, ?_⟩, trivial⟩
    · refine WO.one (W1.load rfl hx0 rfl ?_)
      apply WA.fold
      refine WA.all [4, 6, 8] (by kernel_rfl) rfl ⟨⟨_, rfl, ?_⟩, ⟨_, rfl, ?_⟩, ⟨_, rfl, ?_⟩, trivial⟩
      · refine WO.one (W1.call (vs := [zv x.1, zv y.1]) rfl rfl (compareG _ _ w) ?_)
        rintro v w1 ⟨rfl, hg1⟩
        apply WA.fold
        refine WA.all [6, 8] (by kernel_rfl) rfl ⟨⟨_, rfl, ?_⟩, ⟨_, rfl, ?_⟩, trivial⟩
        · refine WO.one (W1.load rfl (cell_ext hg1.ext hx1) rfl ?_)
          apply WA.fold
          refine WA.all [8] (by kernel_rfl) rfl ⟨⟨_, rfl, ?_⟩, trivial⟩
          refine WO.one (W1.load rfl (cell_ext hg1.ext hy1) rfl ?_)
          apply WA.fold
          refine WA.all [9] (by kernel_rfl) rfl ⟨⟨_, rfl, ?_⟩, trivial⟩
          refine WO.one (W1.call (vs := [zv x.2, zv y.2]) rfl rfl (compareG _ _ w1) ?_)
          rintro v w2 ⟨rfl, hg2⟩
          apply WA.fold
          refine WA.all [10] (by kernel_rfl) rfl ⟨⟨_, rfl, ?_⟩, trivial⟩
          refine WO.one (W1.lit (cs := [zv (Lib.compareInt x.1 y.1), zv (Lib.compareInt x.2 y.2)]) rfl rfl rfl rfl rfl rfl ?_)
          apply WA.fold
          refine WA.all [11] (by kernel_rfl) rfl ⟨⟨_, rfl, ?_⟩, trivial⟩
          refine WO.one (W1.call (vs := [_]) rfl rfl (orG _ _ _ _ (Blk.new w2 [zv (Lib.compareInt x.1 y.1), zv (Lib.compareInt x.2 y.2)] 3)) ?_)
          rintro v w3 ⟨rfl, hg3⟩
          apply WA.fold
          refine WA.pa 12 rfl ?_
          refine WA.done (by kernel_rfl) ?_
          repeat' (first | apply WL.fold | apply WA.fold | apply WL.nil | apply WX.n_then | apply WC.seq | apply WC.region | refine WL.pa ?_ | refine WL.ga rfl ?_ | refine WL.na rfl ?_ | refine WL.nu rfl rfl ?_ | apply WC.block | apply WC.skip | apply WC.exit | apply WC.ret | apply WX.e_block | refine WX.e_other rfl ?_ | apply WX.e_then | apply WX.e_again | apply WX.n_block | apply WX.r_then | apply WX.r_block | apply WX.r_again | refine WC.cond_yes rfl ?_ | refine WC.cond_no rfl ?_ | refine WC.cond rfl (fun hc => ?_) (fun hc => ?_) | refine WC.cond_b rfl (fun hc => ?_) (fun hc => ?_))
          exact WX.ret1 rfl rfl ⟨rfl, hG2.trans (hg1.trans (hg2.trans (((Gr.refl w2).alloc _).trans hg3)))⟩
        · refine WO.one (W1.load rfl (cell_ext hg1.ext hy1) rfl ?_)
          apply WA.fold
          refine WA.all [6] (by kernel_rfl) rfl ⟨⟨_, rfl, ?_⟩, trivial⟩
          refine WO.one (W1.load rfl (cell_ext hg1.ext hx1) rfl ?_)
          apply WA.fold
          refine WA.all [9] (by kernel_rfl) rfl ⟨⟨_, rfl, ?_⟩, trivial⟩
          refine WO.one (W1.call (vs := [zv x.2, zv y.2]) rfl rfl (compareG _ _ w1) ?_)
          rintro v w2 ⟨rfl, hg2⟩
          apply WA.fold
          refine WA.all [10] (by kernel_rfl) rfl ⟨⟨_, rfl, ?_⟩, trivial⟩
          refine WO.one (W1.lit (cs := [zv (Lib.compareInt x.1 y.1), zv (Lib.compareInt x.2 y.2)]) rfl rfl rfl rfl rfl rfl ?_)
          apply WA.fold
          refine WA.all [11] (by kernel_rfl) rfl ⟨⟨_, rfl, ?_⟩, trivial⟩
          refine WO.one (W1.call (vs := [_]) rfl rfl (orG _ _ _ _ (Blk.new w2 [zv (Lib.compareInt x.1 y.1), zv (Lib.compareInt x.2 y.2)] 3)) ?_)
          rintro v w3 ⟨rfl, hg3⟩
          apply WA.fold
          refine WA.pa 12 rfl ?_
          refine WA.done (by kernel_rfl) ?_
          repeat' (first | apply WL.fold | apply WA.fold | apply WL.nil | apply WX.n_then | apply WC.seq | apply WC.region | refine WL.pa ?_ | refine WL.ga rfl ?_ | refine WL.na rfl ?_ | refine WL.nu rfl rfl ?_ | apply WC.block | apply WC.skip | apply WC.exit | apply WC.ret | apply WX.e_block | refine WX.e_other rfl ?_ | apply WX.e_then | apply WX.e_again | apply WX.n_block | apply WX.r_then | apply WX.r_block | apply WX.r_again | refine WC.cond_yes rfl ?_ | refine WC.cond_no rfl ?_ | refine WC.cond rfl (fun hc => ?_) (fun hc => ?_) | refine WC.cond_b rfl (fun hc => ?_) (fun hc => ?_))
          exact WX.ret1 rfl rfl ⟨rfl, hG2.trans (hg1.trans (hg2.trans (((Gr.refl w2).alloc _).trans hg3)))⟩
      · refine WO.one (W1.load rfl hx1 rfl ?_)
        apply WA.fold
        refine WA.all [4, 8] (by kernel_rfl) rfl ⟨⟨_, rfl, ?_⟩, ⟨_, rfl, ?_⟩, trivial⟩
        · refine WO.one (W1.call (vs := [zv x.1, zv y.1]) rfl rfl (compareG _ _ w) ?_)
          rintro v w1 ⟨rfl, hg1⟩
          apply WA.fold
          refine WA.all [8] (by kernel_rfl) rfl ⟨⟨_, rfl, ?_⟩, trivial⟩
          refine WO.one (W1.load rfl (cell_ext hg1.ext hy1) rfl ?_)
          apply WA.fold
          refine WA.all [9] (by kernel_rfl) rfl ⟨⟨_, rfl, ?_⟩, trivial⟩
          refine WO.one (W1.call (vs := [zv x.2, zv y.2]) rfl rfl (compareG _ _ w1) ?_)
          rintro v w2 ⟨rfl, hg2⟩
          apply WA.fold
          refine WA.all [10] (by kernel_rfl) rfl ⟨⟨_, rfl, ?_⟩, trivial⟩
          refine WO.one (W1.lit (cs := [zv (Lib.compareInt x.1 y.1), zv (Lib.compareInt x.2 y.2)]) rfl rfl rfl rfl rfl rfl ?_)
          apply WA.fold
          refine WA.all [11] (by kernel_rfl) rfl ⟨⟨_, rfl, ?_⟩, trivial⟩
          refine WO.one (W1.call (vs := [_]) rfl rfl (orG _ _ _ _ (Blk.new w2 [zv (Lib.compareInt x.1 y.1), zv (Lib.compareInt x.2 y.2)] 3)) ?_)
          rintro v w3 ⟨rfl, hg3⟩
          apply WA.fold
          refine WA.pa 12 rfl ?_
          refine WA.done (by kernel_rfl) ?_
          repeat' (first | apply WL.fold | apply WA.fold | apply WL.nil | apply WX.n_then | apply WC.seq | apply WC.region | refine WL.pa ?_ | refine WL.ga rfl ?_ | refine WL.na rfl ?_ | refine WL.nu rfl rfl ?_ | apply WC.block | apply WC.skip | apply WC.exit | apply WC.ret | apply WX.e_block | refine WX.e_other rfl ?_ | apply WX.e_then | apply WX.e_again | apply WX.n_block | apply WX.r_then | apply WX.r_block | apply WX.r_again | refine WC.cond_yes rfl ?_ | refine WC.cond_no rfl ?_ | refine WC.cond rfl (fun hc => ?_) (fun hc => ?_) | refine WC.cond_b rfl (fun hc => ?_) (fun hc => ?_))
          exact WX.ret1 rfl rfl ⟨rfl, hG2.trans (hg1.trans (hg2.trans (((Gr.refl w2).alloc _).trans hg3)))⟩
        · refine WO.one (W1.load rfl hy1 rfl ?_)
          apply WA.fold
          refine WA.all [4] (by kernel_rfl) rfl ⟨⟨_, rfl, ?_⟩, trivial⟩
          refine WO.one (W1.call (vs := [zv x.1, zv y.1]) rfl rfl (compareG _ _ w) ?_)
          rintro v w1 ⟨rfl, hg1⟩
          apply WA.fold
          refine WA.all [9] (by kernel_rfl) rfl ⟨⟨_, rfl, ?_⟩, trivial⟩
          refine WO.one (W1.call (vs := [zv x.2, zv y.2]) rfl rfl (compareG _ _ w1) ?_)
          rintro v w2 ⟨rfl, hg2⟩
          apply WA.fold
          refine WA.all [10] (by kernel_rfl) rfl ⟨⟨_, rfl, ?_⟩, trivial⟩
          refine WO.one (W1.lit (cs := [zv (Lib.compareInt x.1 y.1), zv (Lib.compareInt x.2 y.2)]) rfl rfl rfl rfl rfl rfl ?_)
          apply WA.fold
          refine WA.all [11] (by kernel_rfl) rfl ⟨⟨_, rfl, ?_⟩, trivial⟩
          refine WO.one (W1.call (vs := [_]) rfl rfl (orG _ _ _ _ (Blk.new w2 [zv (Lib.compareInt x.1 y.1), zv (Lib.compareInt x.2 y.2)] 3)) ?_)
          rintro v w3 ⟨rfl, hg3⟩
          apply WA.fold
          refine WA.pa 12 rfl ?_
          refine WA.done (by kernel_rfl) ?_
          repeat' (first | apply WL.fold | apply WA.fold | apply WL.nil | apply WX.n_then | apply WC.seq | apply WC.region | refine WL.pa ?_ | refine WL.ga rfl ?_ | refine WL.na rfl ?_ | refine WL.nu rfl rfl ?_ | apply WC.block | apply WC.skip | apply WC.exit | apply WC.ret | apply WX.e_block | refine WX.e_other rfl ?_ | apply WX.e_then | apply WX.e_again | apply WX.n_block | apply WX.r_then | apply WX.r_block | apply WX.r_again | refine WC.cond_yes rfl ?_ | refine WC.cond_no rfl ?_ | refine WC.cond rfl (fun hc => ?_) (fun hc => ?_) | refine WC.cond_b rfl (fun hc => ?_) (fun hc => ?_))
          exact WX.ret1 rfl rfl ⟨rfl, hG2.trans (hg1.trans (hg2.trans (((Gr.refl w2).alloc _).trans hg3)))⟩
      · refine WO.one (W1.load rfl hy1 rfl ?_)
        apply WA.fold
        refine WA.all [4, 6] (by kernel_rfl) rfl ⟨⟨_, rfl, ?_⟩, ⟨_, rfl, ?_⟩, trivial⟩
        · refine WO.one (W1.call (vs := [zv x.1, zv y.1]) rfl rfl (compareG _ _ w) ?_)
          rintro v w1 ⟨rfl, hg1⟩
          apply WA.fold
          refine WA.all [6] (by kernel_rfl) rfl ⟨⟨_, rfl, ?_⟩, trivial⟩
          refine WO.one (W1.load rfl (cell_ext hg1.ext hx1) rfl ?_)
          apply WA.fold
          refine WA.all [9] (by kernel_rfl) rfl ⟨⟨_, rfl, ?_⟩, trivial⟩
          refine WO.one (W1.call (vs := [zv x.2, zv y.2]) rfl rfl (compareG _ _ w1) ?_)
          rintro v w2 ⟨rfl, hg2⟩
          apply WA.fold
          refine WA.all [10] (by kernel_rfl) rfl ⟨⟨_, rfl, ?_⟩, trivial⟩
          refine WO.one (W1.lit (cs := [zv (Lib.compareInt x.1 y.1), zv (Lib.compareInt x.2 y.2)]) rfl rfl rfl rfl rfl rfl ?_)
          apply WA.fold
          refine WA.all [11] (by kernel_rfl) rfl ⟨⟨_, rfl, ?_⟩, trivial⟩
          refine WO.one (W1.call (vs := [_]) rfl rfl (orG _ _ _ _ (Blk.new w2 [zv (Lib.compareInt x.1 y.1), zv (Lib.compareInt x.2 y.2)] 3)) ?_)
          rintro v w3 ⟨rfl, hg3⟩
          apply WA.fold
          refine WA.pa 12 rfl ?_
          refine WA.done (by kernel_rfl) ?_
          repeat' (first | apply WL.fold | apply WA.fold | apply WL.nil | apply WX.n_then | apply WC.seq | apply WC.region | refine WL.pa ?_ | refine WL.ga rfl ?_ | refine WL.na rfl ?_ | refine WL.nu rfl rfl ?_ | apply WC.block | apply WC.skip | apply WC.exit | apply WC.ret | apply WX.e_block | refine WX.e_other rfl ?_ | apply WX.e_then | apply WX.e_again | apply WX.n_block | apply WX.r_then | apply WX.r_block | apply WX.r_again | refine WC.cond_yes rfl ?_ | refine WC.cond_no rfl ?_ | refine WC.cond rfl (fun hc => ?_) (fun hc => ?_) | refine WC.cond_b rfl (fun hc => ?_) (fun hc => ?_))
          exact WX.ret1 rfl rfl ⟨rfl, hG2.trans (hg1.trans (hg2.trans (((Gr.refl w2).alloc _).trans hg3)))⟩
        · refine WO.one (W1.load rfl hx1 rfl ?_)
          apply WA.fold
          refine WA.all [4] (by kernel_rfl) rfl ⟨⟨_, rfl, ?_⟩, trivial⟩
          refine WO.one (W1.call (vs := [zv x.1, zv y.1]) rfl rfl (compareG _ _ w) ?_)
          rintro v w1 ⟨rfl, hg1⟩
          apply WA.fold
          refine WA.all [9] (by kernel_rfl) rfl ⟨⟨_, rfl, ?_⟩, trivial⟩
          refine WO.one (W1.call (vs := [zv x.2, zv y.2]) rfl rfl (compareG _ _ w1) ?_)
          rintro v w2 ⟨rfl, hg2⟩
          apply WA.fold
          refine WA.all [10] (by kernel_rfl) rfl ⟨⟨_, rfl, ?_⟩, trivial⟩
          refine WO.one (W1.lit (cs := [zv (Lib.compareInt x.1 y.1), zv (Lib.compareInt x.2 y.2)]) rfl rfl rfl rfl rfl rfl ?_)
          apply WA.fold
          refine WA.all [11] (by kernel_rfl) rfl ⟨⟨_, rfl, ?_⟩, trivial⟩
          refine WO.one (W1.call (vs := [_]) rfl rfl (orG _ _ _ _ (Blk.new w2 [zv (Lib.compareInt x.1 y.1), zv (Lib.compareInt x.2 y.2)] 3)) ?_)
          rintro v w3 ⟨rfl, hg3⟩
          apply WA.fold
          refine WA.pa 12 rfl ?_
          refine WA.done (by kernel_rfl) ?_
          repeat' (first | apply WL.fold | apply WA.fold | apply WL.nil | apply WX.n_then | apply WC.seq | apply WC.region | refine WL.pa ?_ | refine WL.ga rfl ?_ | refine WL.na rfl ?_ | refine WL.nu rfl rfl ?_ | apply WC.block | apply WC.skip | apply WC.exit | apply WC.ret | apply WX.e_block | refine WX.e_other rfl ?_ | apply WX.e_then | apply WX.e_again | apply WX.n_block | apply WX.r_then | apply WX.r_block | apply WX.r_again | refine WC.cond_yes rfl ?_ | refine WC.cond_no rfl ?_ | refine WC.cond rfl (fun hc => ?_) (fun hc => ?_) | refine WC.cond_b rfl (fun hc => ?_) (fun hc => ?_))
          exact WX.ret1 rfl rfl ⟨rfl, hG2.trans (hg1.trans (hg2.trans (((Gr.refl w2).alloc _).trans hg3)))⟩
    · refine WO.one (W1.load rfl hx1 rfl ?_)
      apply WA.fold
      refine WA.all [1, 8] (by kernel_rfl) rfl ⟨⟨_, rfl, ?_⟩, ⟨_, rfl, ?_⟩, trivial⟩
      · refine WO.one (W1.load rfl hx0 rfl ?_)
        apply WA.fold
        refine WA.all [4, 8] (by kernel_rfl) rfl ⟨⟨_, rfl, ?_⟩, ⟨_, rfl, ?_⟩, trivial⟩
        · refine WO.one (W1.call (vs := [zv x.1, zv y.1]) rfl rfl (compareG _ _ w) ?_)
          rintro v w1 ⟨rfl, hg1⟩
          apply WA.fold
          refine WA.all [8] (by kernel_rfl) rfl ⟨⟨_, rfl, ?_⟩, trivial⟩
          refine WO.one (W1.load rfl (cell_ext hg1.ext hy1) rfl ?_)
          apply WA.fold
          refine WA.all [9] (by kernel_rfl) rfl ⟨⟨_, rfl, ?_⟩, trivial⟩
          refine WO.one (W1.call (vs := [zv x.2, zv y.2]) rfl rfl (compareG _ _ w1) ?_)
          rintro v w2 ⟨rfl, hg2⟩
          apply WA.fold
          refine WA.all [10] (by kernel_rfl) rfl ⟨⟨_, rfl, ?_⟩, trivial⟩
          refine WO.one (W1.lit (cs := [zv (Lib.compareInt x.1 y.1), zv (Lib.compareInt x.2 y.2)]) rfl rfl rfl rfl rfl rfl ?_)
          apply WA.fold
          refine WA.all [11] (by kernel_rfl) rfl ⟨⟨_, rfl, ?_⟩, trivial⟩
          refine WO.one (W1.call (vs := [_]) rfl rfl (orG _ _ _ _ (Blk.new w2 [zv (Lib.compareInt x.1 y.1), zv (Lib.compareInt x.2 y.2)] 3)) ?_)
          rintro v w3 ⟨rfl, hg3⟩
          apply WA.fold
          refine WA.pa 12 rfl ?_
          refine WA.done (by kernel_rfl) ?_
          repeat' (first | apply WL.fold | apply WA.fold | apply WL.nil | apply WX.n_then | apply WC.seq | apply WC.region | refine WL.pa ?_ | refine WL.ga rfl ?_ | refine WL.na rfl ?_ | refine WL.nu rfl rfl ?_ | apply WC.block | apply WC.skip | apply WC.exit | apply WC.ret | apply WX.e_block | refine WX.e_other rfl ?_ | apply WX.e_then | apply WX.e_again | apply WX.n_block | apply WX.r_then | apply WX.r_block | apply WX.r_again | refine WC.cond_yes rfl ?_ | refine WC.cond_no rfl ?_ | refine WC.cond rfl (fun hc => ?_) (fun hc => ?_) | refine WC.cond_b rfl (fun hc => ?_) (fun hc => ?_))
          exact WX.ret1 rfl rfl ⟨rfl, hG2.trans (hg1.trans (hg2.trans (((Gr.refl w2).alloc _).trans hg3)))⟩
        · refine WO.one (W1.load rfl hy1 rfl ?_)
          apply WA.fold
          refine WA.all [4] (by kernel_rfl) rfl ⟨⟨_, rfl, ?_⟩, trivial⟩
          refine WO.one (W1.call (vs := [zv x.1, zv y.1]) rfl rfl (compareG _ _ w) ?_)
          rintro v w1 ⟨rfl, hg1⟩
          apply WA.fold
          refine WA.all [9] (by kernel_rfl) rfl ⟨⟨_, rfl, ?_⟩, trivial⟩
          refine WO.one (W1.call (vs := [zv x.2, zv y.2]) rfl rfl (compareG _ _ w1) ?_)
          rintro v w2 ⟨rfl, hg2⟩
          apply WA.fold
          refine WA.all [10] (by kernel_rfl) rfl ⟨⟨_, rfl, ?_⟩, trivial⟩
          refine WO.one (W1.lit (cs := [zv (Lib.compareInt x.1 y.1), zv (Lib.compareInt x.2 y.2)]) rfl rfl rfl rfl rfl rfl ?_)
          apply WA.fold
          refine WA.all [11] (by kernel_rfl) rfl ⟨⟨_, rfl, ?_⟩, trivial⟩
          refine WO.one (W1.call (vs := [_]) rfl rfl (orG _ _ _ _ (Blk.new w2 [zv (Lib.compareInt x.1 y.1), zv (Lib.compareInt x.2 y.2)] 3)) ?_)
          rintro v w3 ⟨rfl, hg3⟩
          apply WA.fold
          refine WA.pa 12 rfl ?_
          refine WA.done (by kernel_rfl) ?_
          repeat' (first | apply WL.fold | apply WA.fold | apply WL.nil | apply WX.n_then | apply WC.seq | apply WC.region | refine WL.pa ?_ | refine WL.ga rfl ?_ | refine WL.na rfl ?_ | refine WL.nu rfl rfl ?_ | apply WC.block | apply WC.skip | apply WC.exit | apply WC.ret | apply WX.e_block | refine WX.e_other rfl ?_ | apply WX.e_then | apply WX.e_again | apply WX.n_block | apply WX.r_then | apply WX.r_block | apply WX.r_again | refine WC.cond_yes rfl ?_ | refine WC.cond_no rfl ?_ | refine WC.cond rfl (fun hc => ?_) (fun hc => ?_) | refine WC.cond_b rfl (fun hc => ?_) (fun hc => ?_))
          exact WX.ret1 rfl rfl ⟨rfl, hG2.trans (hg1.trans (hg2.trans (((Gr.refl w2).alloc _).trans hg3)))⟩
      · refine WO.one (W1.load rfl hy1 rfl ?_)
        apply WA.fold
        refine WA.all [1] (by kernel_rfl) rfl ⟨⟨_, rfl, ?_⟩, trivial⟩
        refine WO.one (W1.load rfl hx0 rfl ?_)
        apply WA.fold
        refine WA.all [4] (by kernel_rfl) rfl ⟨⟨_, rfl, ?_⟩, trivial⟩
        refine WO.one (W1.call (vs := [zv x.1, zv y.1]) rfl rfl (compareG _ _ w) ?_)
        rintro v w1 ⟨rfl, hg1⟩
        apply WA.fold
        refine WA.all [9] (by kernel_rfl) rfl ⟨⟨_, rfl, ?_⟩, trivial⟩
        refine WO.one (W1.call (vs := [zv x.2, zv y.2]) rfl rfl (compareG _ _ w1) ?_)
        rintro v w2 ⟨rfl, hg2⟩
        apply WA.fold
        refine WA.all [10] (by kernel_rfl) rfl ⟨⟨_, rfl, ?_⟩, trivial⟩
        refine WO.one (W1.lit (cs := [zv (Lib.compareInt x.1 y.1), zv (Lib.compareInt x.2 y.2)]) rfl rfl rfl rfl rfl rfl ?_)
        apply WA.fold
        refine WA.all [11] (by kernel_rfl) rfl ⟨⟨_, rfl, ?_⟩, trivial⟩
        refine WO.one (W1.call (vs := [_]) rfl rfl (orG _ _ _ _ (Blk.new w2 [zv (Lib.compareInt x.1 y.1), zv (Lib.compareInt x.2 y.2)] 3)) ?_)
        rintro v w3 ⟨rfl, hg3⟩
        apply WA.fold
        refine WA.pa 12 rfl ?_
        refine WA.done (by kernel_rfl) ?_
        repeat' (first | apply WL.fold | apply WA.fold | apply WL.nil | apply WX.n_then | apply WC.seq | apply WC.region | refine WL.pa ?_ | refine WL.ga rfl ?_ | refine WL.na rfl ?_ | refine WL.nu rfl rfl ?_ | apply WC.block | apply WC.skip | apply WC.exit | apply WC.ret | apply WX.e_block | refine WX.e_other rfl ?_ | apply WX.e_then | apply WX.e_again | apply WX.n_block | apply WX.r_then | apply WX.r_block | apply WX.r_again | refine WC.cond_yes rfl ?_ | refine WC.cond_no rfl ?_ | refine WC.cond rfl (fun hc => ?_) (fun hc => ?_) | refine WC.cond_b rfl (fun hc => ?_) (fun hc => ?_))
        exact WX.ret1 rfl rfl ⟨rfl, hG2.trans (hg1.trans (hg2.trans (((Gr.refl w2).alloc _).trans hg3)))⟩
    · refine WO.one (W1.load rfl hy1 rfl ?_)
      apply WA.fold
      refine WA.all [1, 6] (by kernel_rfl) rfl ⟨⟨_, rfl, ?_⟩, ⟨_, rfl, ?_⟩, trivial⟩
      · refine WO.one (W1.load rfl hx0 rfl ?_)
        apply WA.fold
        refine WA.all [4, 6] (by kernel_rfl) rfl ⟨⟨_, rfl, ?_⟩, ⟨_, rfl, ?_⟩, trivial⟩
        · refine WO.one (W1.call (vs := [zv x.1, zv y.1]) rfl rfl (compareG _ _ w) ?_)
          rintro v w1 ⟨rfl, hg1⟩
          apply WA.fold
          refine WA.all [6] (by kernel_rfl) rfl ⟨⟨_, rfl, ?_⟩, trivial⟩
          refine WO.one (W1.load rfl (cell_ext hg1.ext hx1) rfl ?_)
          apply WA.fold
          refine WA.all [9] (by kernel_rfl) rfl ⟨⟨_, rfl, ?_⟩, trivial⟩
          refine WO.one (W1.call (vs := [zv x.2, zv y.2]) rfl rfl (compareG _ _ w1) ?_)
          rintro v w2 ⟨rfl, hg2⟩
          apply WA.fold
          refine WA.all [10] (by kernel_rfl) rfl ⟨⟨_, rfl, ?_⟩, trivial⟩
          refine WO.one (W1.lit (cs := [zv (Lib.compareInt x.1 y.1), zv (Lib.compareInt x.2 y.2)]) rfl rfl rfl rfl rfl rfl ?_)
          apply WA.fold
          refine WA.all [11] (by kernel_rfl) rfl ⟨⟨_, rfl, ?_⟩, trivial⟩
          refine WO.one (W1.call (vs := [_]) rfl rfl (orG _ _ _ _ (Blk.new w2 [zv (Lib.compareInt x.1 y.1), zv (Lib.compareInt x.2 y.2)] 3)) ?_)
          rintro v w3 ⟨rfl, hg3⟩
          apply WA.fold
          refine WA.pa 12 rfl ?_
          refine WA.done (by kernel_rfl) ?_
          repeat' (first | apply WL.fold | apply WA.fold | apply WL.nil | apply WX.n_then | apply WC.seq | apply WC.region | refine WL.pa ?_ | refine WL.ga rfl ?_ | refine WL.na rfl ?_ | refine WL.nu rfl rfl ?_ | apply WC.block | apply WC.skip | apply WC.exit | apply WC.ret | apply WX.e_block | refine WX.e_other rfl ?_ | apply WX.e_then | apply WX.e_again | apply WX.n_block | apply WX.r_then | apply WX.r_block | apply WX.r_again | refine WC.cond_yes rfl ?_ | refine WC.cond_no rfl ?_ | refine WC.cond rfl (fun hc => ?_) (fun hc => ?_) | refine WC.cond_b rfl (fun hc => ?_) (fun hc => ?_))
          exact WX.ret1 rfl rfl ⟨rfl, hG2.trans (hg1.trans (hg2.trans (((Gr.refl w2).alloc _).trans hg3)))⟩
        · refine WO.one (W1.load rfl hx1 rfl ?_)
          apply WA.fold
          refine WA.all [4] (by kernel_rfl) rfl ⟨⟨_, rfl, ?_⟩, trivial⟩
          refine WO.one (W1.call (vs := [zv x.1, zv y.1]) rfl rfl (compareG _ _ w) ?_)
          rintro v w1 ⟨rfl, hg1⟩
          apply WA.fold
          refine WA.all [9] (by kernel_rfl) rfl ⟨⟨_, rfl, ?_⟩, trivial⟩
          refine WO.one (W1.call (vs := [zv x.2, zv y.2]) rfl rfl (compareG _ _ w1) ?_)
          rintro v w2 ⟨rfl, hg2⟩
          apply WA.fold
          refine WA.all [10] (by kernel_rfl) rfl ⟨⟨_, rfl, ?_⟩, trivial⟩
          refine WO.one (W1.lit (cs := [zv (Lib.compareInt x.1 y.1), zv (Lib.compareInt x.2 y.2)]) rfl rfl rfl rfl rfl rfl ?_)
          apply WA.fold
          refine WA.all [11] (by kernel_rfl) rfl ⟨⟨_, rfl, ?_⟩, trivial⟩
          refine WO.one (W1.call (vs := [_]) rfl rfl (orG _ _ _ _ (Blk.new w2 [zv (Lib.compareInt x.1 y.1), zv (Lib.compareInt x.2 y.2)] 3)) ?_)
          rintro v w3 ⟨rfl, hg3⟩
          apply WA.fold
          refine WA.pa 12 rfl ?_
          refine WA.done (by kernel_rfl) ?_
          repeat' (first | apply WL.fold | apply WA.fold | apply WL.nil | apply WX.n_then | apply WC.seq | apply WC.region | refine WL.pa ?_ | refine WL.ga rfl ?_ | refine WL.na rfl ?_ | refine WL.nu rfl rfl ?_ | apply WC.block | apply WC.skip | apply WC.exit | apply WC.ret | apply WX.e_block | refine WX.e_other rfl ?_ | apply WX.e_then | apply WX.e_again | apply WX.n_block | apply WX.r_then | apply WX.r_block | apply WX.r_again | refine WC.cond_yes rfl ?_ | refine WC.cond_no rfl ?_ | refine WC.cond rfl (fun hc => ?_) (fun hc => ?_) | refine WC.cond_b rfl (fun hc => ?_) (fun hc => ?_))
          exact WX.ret1 rfl rfl ⟨rfl, hG2.trans (hg1.trans (hg2.trans (((Gr.refl w2).alloc _).trans hg3)))⟩
      · refine WO.one (W1.load rfl hx1 rfl ?_)
        apply WA.fold
        refine WA.all [1] (by kernel_rfl) rfl ⟨⟨_, rfl, ?_⟩, trivial⟩
        refine WO.one (W1.load rfl hx0 rfl ?_)
        apply WA.fold
        refine WA.all [4] (by kernel_rfl) rfl ⟨⟨_, rfl, ?_⟩, trivial⟩
        refine WO.one (W1.call (vs := [zv x.1, zv y.1]) rfl rfl (compareG _ _ w) ?_)
        rintro v w1 ⟨rfl, hg1⟩
        apply WA.fold
        refine WA.all [9] (by kernel_rfl) rfl ⟨⟨_, rfl, ?_⟩, trivial⟩
        refine WO.one (W1.call (vs := [zv x.2, zv y.2]) rfl rfl (compareG _ _ w1) ?_)
        rintro v w2 ⟨rfl, hg2⟩
        apply WA.fold
        refine WA.all [10] (by kernel_rfl) rfl ⟨⟨_, rfl, ?_⟩, trivial⟩
        refine WO.one (W1.lit (cs := [zv (Lib.compareInt x.1 y.1), zv (Lib.compareInt x.2 y.2)]) rfl rfl rfl rfl rfl rfl ?_)
        apply WA.fold
        refine WA.all [11] (by kernel_rfl) rfl ⟨⟨_, rfl, ?_⟩, trivial⟩
        refine WO.one (W1.call (vs := [_]) rfl rfl (orG _ _ _ _ (Blk.new w2 [zv (Lib.compareInt x.1 y.1), zv (Lib.compareInt x.2 y.2)] 3)) ?_)
        rintro v w3 ⟨rfl, hg3⟩
        apply WA.fold
        refine WA.pa 12 rfl ?_
        refine WA.done (by kernel_rfl) ?_
        repeat' (first | apply WL.fold | apply WA.fold | apply WL.nil | apply WX.n_then | apply WC.seq | apply WC.region | refine WL.pa ?_ | refine WL.ga rfl ?_ | refine WL.na rfl ?_ | refine WL.nu rfl rfl ?_ | apply WC.block | apply WC.skip | apply WC.exit | apply WC.ret | apply WX.e_block | refine WX.e_other rfl ?_ | apply WX.e_then | apply WX.e_again | apply WX.n_block | apply WX.r_then | apply WX.r_block | apply WX.r_again | refine WC.cond_yes rfl ?_ | refine WC.cond_no rfl ?_ | refine WC.cond rfl (fun hc => ?_) (fun hc => ?_) | refine WC.cond_b rfl (fun hc => ?_) (fun hc => ?_))
        exact WX.ret1 rfl rfl ⟨rfl, hG2.trans (hg1.trans (hg2.trans (((Gr.refl w2).alloc _).trans hg3)))⟩
  · refine WO.one (W1.load rfl hx1 rfl ?_)
    apply WA.fold
    refine WA.all [1, 3, 8] (by kernel_rfl) rfl ⟨⟨_, rfl, ?_⟩, ⟨_, rfl, ?_⟩, ⟨_, rfl, ?_⟩, trivial⟩
    · refine WO.one (W1.load rfl hx0 rfl ?_)
      apply WA.fold
      refine WA.all [3, 8] (by kernel_rfl) rfl ⟨⟨_, rfl, ?_⟩, ⟨_, rfl, ?_⟩, trivial⟩
      · refine WO.one (W1.load rfl hy0 rfl ?_)
        apply WA.fold
        refine WA.all [4, 8] (by kernel_rfl) rfl ⟨⟨_, rfl, ?_⟩, ⟨_, rfl, ?_⟩, trivial⟩
        · refine WO.one (W1.call (vs := [zv x.1, zv y.1]) rfl rfl (compareG _ _ w) ?_)
          rintro v w1 ⟨rfl, hg1⟩
          apply WA.fold
          refine WA.all [8] (by kernel_rfl) rfl ⟨⟨_, rfl, ?_⟩, trivial⟩
          refine WO.one (W1.load rfl (cell_ext hg1.ext hy1) rfl ?_)
          apply WA.fold
          refine WA.all [9] (by kernel_rfl) rfl ⟨⟨_, rfl, ?_⟩, trivial⟩
          refine WO.one (W1.call (vs := [zv x.2, zv y.2]) rfl rfl (compareG _ _ w1) ?_)
          rintro v w2 ⟨rfl, hg2⟩
          apply WA.fold
          refine WA.all [10] (by kernel_rfl) rfl ⟨⟨_, rfl, ?_⟩, trivial⟩
          refine WO.one (W1.lit (cs := [zv (Lib.compareInt x.1 y.1), zv (Lib.compareInt x.2 y.2)]) rfl rfl rfl rfl rfl rfl ?_)
          apply WA.fold
          refine WA.all [11] (by kernel_rfl) rfl ⟨⟨_, rfl, ?_⟩, trivial⟩
          refine WO.one (W1.call (vs := [_]) rfl rfl (orG _ _ _ _ (Blk.new w2 [zv (Lib.compareInt x.1 y.1), zv (Lib.compareInt x.2 y.2)] 3)) ?_)
          rintro v w3 ⟨rfl, hg3⟩
          apply WA.fold
          refine WA.pa 12 rfl ?_
          refine WA.done (by kernel_rfl) ?_
          repeat' (first | apply WL.fold | apply WA.fold | apply WL.nil | apply WX.n_then | apply WC.seq | apply WC.region | refine WL.pa ?_ | refine WL.ga rfl ?_ | refine WL.na rfl ?_ | refine WL.nu rfl rfl ?_ | apply WC.block | apply WC.skip | apply WC.exit | apply WC.ret | apply WX.e_block | refine WX.e_other rfl ?_ | apply WX.e_then | apply WX.e_again | apply WX.n_block | apply WX.r_then | apply WX.r_block | apply WX.r_again | refine WC.cond_yes rfl ?_ | refine WC.cond_no rfl ?_ | refine WC.cond rfl (fun hc => ?_) (fun hc => ?_) | refine WC.cond_b rfl (fun hc => ?_) (fun hc => ?_))
          exact WX.ret1 rfl rfl ⟨rfl, hG2.trans (hg1.trans (hg2.trans (((Gr.refl w2).alloc _).trans hg3)))⟩
        · refine WO.one (W1.load rfl hy1 rfl ?_)
          apply WA.fold
          refine WA.all [4] (by kernel_rfl) rfl ⟨⟨_, rfl, ?_⟩, trivial⟩
          refine WO.one (W1.call (vs := [zv x.1, zv y.1]) rfl rfl (compareG _ _ w) ?_)
          rintro v w1 ⟨rfl, hg1⟩
          apply WA.fold
          refine WA.all [9] (by kernel_rfl) rfl ⟨⟨_, rfl, ?_⟩, trivial⟩
          refine WO.one (W1.call (vs := [zv x.2, zv y.2]) rfl rfl (compareG _ _ w1) ?_)
          rintro v w2 ⟨rfl, hg2⟩
          apply WA.fold
          refine WA.all [10] (by kernel_rfl) rfl ⟨⟨_, rfl, ?_⟩, trivial⟩
          refine WO.one (W1.lit (cs := [zv (Lib.compareInt x.1 y.1), zv (Lib.compareInt x.2 y.2)]) rfl rfl rfl rfl rfl rfl ?_)
          apply WA.fold
          refine WA.all [11] (by kernel_rfl) rfl ⟨⟨_, rfl, ?_⟩, trivial⟩
          refine WO.one (W1.call (vs := [_]) rfl rfl (orG _ _ _ _ (Blk.new w2 [zv (Lib.compareInt x.1 y.1), zv (Lib.compareInt x.2 y.2)] 3)) ?_)
          rintro v w3 ⟨rfl, hg3⟩
          apply WA.fold
          refine WA.pa 12 rfl ?_
          refine WA.done (by kernel_rfl) ?_
          repeat' (first | apply WL.fold | apply WA.fold | apply WL.nil | apply WX.n_then | apply WC.seq | apply WC.region | refine WL.pa ?_ | refine WL.ga rfl ?_ | refine WL.na rfl ?_ | refine WL.nu rfl rfl ?_ | apply WC.block | apply WC.skip | apply WC.exit | apply WC.ret | apply WX.e_block | refine WX.e_other rfl ?_ | apply WX.e_then | apply WX.e_again | apply WX.n_block | apply WX.r_then | apply WX.r_block | apply WX.r_again | refine WC.cond_yes rfl ?_ | refine WC.cond_no rfl ?_ | refine WC.cond rfl (fun hc => ?_) (fun hc => ?_) | refine WC.cond_b rfl (fun hc => ?_) (fun hc => ?_))
          exact WX.ret1 rfl rfl ⟨rfl, hG2.trans (hg1.trans (hg2.trans (((Gr.refl w2).alloc _).trans hg3)))⟩
      · refine WO.one (W1.load rfl hy1 rfl ?_)
        apply WA.fold
        refine WA.all [3] (by kernel_rfl) rfl ⟨⟨_, rfl, ?_⟩, trivial⟩
        refine WO.one (W1.load rfl hy0 rfl ?_)
        apply WA.fold
        refine WA.all [4] (by kernel_rfl) rfl ⟨⟨_, rfl, ?_⟩, trivial⟩
        refine WO.one (W1.call (vs := [zv x.1, zv y.1]) rfl rfl (compareG _ _ w) ?_)
        rintro v w1 ⟨rfl, hg1⟩
        apply WA.fold
        refine WA.all [9] (by kernel_rfl) rfl ⟨⟨_, rfl, ?_⟩, trivial⟩
        refine WO.one (W1.call (vs := [zv x.2, zv y.2]) rfl rfl (compareG _ _ w1) ?_)
        rintro v w2 ⟨rfl, hg2⟩
        apply WA.fold
        refine WA.all [10] (by kernel_rfl) rfl ⟨⟨_, rfl, ?_⟩, trivial⟩
        refine WO.one (W1.lit (cs := [zv (Lib.compareInt x.1 y.1), zv (Lib.compareInt x.2 y.2)]) rfl rfl rfl rfl rfl rfl ?_)
        apply WA.fold
        refine WA.all [11] (by kernel_rfl) rfl ⟨⟨_, rfl, ?_⟩, trivial⟩
        refine WO.one (W1.call (vs := [_]) rfl rfl (orG _ _ _ _ (Blk.new w2 [zv (Lib.compareInt x.1 y.1), zv (Lib.compareInt x.2 y.2)] 3)) ?_)
        rintro v w3 ⟨rfl, hg3⟩
        apply WA.fold
        refine WA.pa 12 rfl ?_
        refine WA.done (by kernel_rfl) ?_
        repeat' (first | apply WL.fold | apply WA.fold | apply WL.nil | apply WX.n_then | apply WC.seq | apply WC.region | refine WL.pa ?_ | refine WL.ga rfl ?_ | refine WL.na rfl ?_ | refine WL.nu rfl rfl ?_ | apply WC.block | apply WC.skip | apply WC.exit | apply WC.ret | apply WX.e_block | refine WX.e_other rfl ?_ | apply WX.e_then | apply WX.e_again | apply WX.n_block | apply WX.r_then | apply WX.r_block | apply WX.r_again | refine WC.cond_yes rfl ?_ | refine WC.cond_no rfl ?_ | refine WC.cond rfl (fun hc => ?_) (fun hc => ?_) | refine WC.cond_b rfl (fun hc => ?_) (fun hc => ?_))
        exact WX.ret1 rfl rfl ⟨rfl, hG2.trans (hg1.trans (hg2.trans (((Gr.refl w2).alloc _).trans hg3)))⟩
    · refine WO.one (W1.load rfl hy0 rfl ?_)
      apply WA.fold
      refine WA.all [1, 8] (by kernel_rfl) rfl ⟨⟨_, rfl, ?_⟩, ⟨_, rfl, ?_⟩, trivial⟩
      · refine WO.one (W1.load rfl hx0 rfl ?_)
        apply WA.fold
        refine WA.all [4, 8] (by kernel_rfl) rfl ⟨⟨_, rfl, ?_⟩, ⟨_, rfl, ?_⟩, trivial⟩
        · refine WO.one (W1.call (vs := [zv x.1, zv y.1]) rfl rfl (compareG _ _ w) ?_)
          rintro v w1 ⟨rfl, hg1⟩
          apply WA.fold
          refine WA.all [8] (by kernel_rfl) rfl ⟨⟨_, rfl, ?_⟩, trivial⟩
          refine WO.one (W1.load rfl (cell_ext hg1.ext hy1) rfl ?_)
          apply WA.fold
          refine WA.all [9] (by kernel_rfl) rfl ⟨⟨_, rfl, ?_⟩, trivial⟩
          refine WO.one (W1.call (vs := [zv x.2, zv y.2]) rfl rfl (compareG _ _ w1) ?_)
          rintro v w2 ⟨rfl, hg2⟩
          apply WA.fold
          refine WA.all [10] (by kernel_rfl) rfl ⟨⟨_, rfl, ?_⟩, trivial⟩
          refine WO.one (W1.lit (cs := [zv (Lib.compareInt x.1 y.1), zv (Lib.compareInt x.2 y.2)]) rfl rfl rfl rfl rfl rfl ?_)
          apply WA.fold
          refine WA.all [11] (by kernel_rfl) rfl ⟨⟨_, rfl, ?_⟩, trivial⟩
          refine WO.one (W1.call (vs := [_]) rfl rfl (orG _ _ _ _ (Blk.new w2 [zv (Lib.compareInt x.1 y.1), zv (Lib.compareInt x.2 y.2)] 3)) ?_)
          rintro v w3 ⟨rfl, hg3⟩
          apply WA.fold
          refine WA.pa 12 rfl ?_
          refine WA.done (by kernel_rfl) ?_
          repeat' (first | apply WL.fold | apply WA.fold | apply WL.nil | apply WX.n_then | apply WC.seq | apply WC.region | refine WL.pa ?_ | refine WL.ga rfl ?_ | refine WL.na rfl ?_ | refine WL.nu rfl rfl ?_ | apply WC.block | apply WC.skip | apply WC.exit | apply WC.ret | apply WX.e_block | refine WX.e_other rfl ?_ | apply WX.e_then | apply WX.e_again | apply WX.n_block | apply WX.r_then | apply WX.r_block | apply WX.r_again | refine WC.cond_yes rfl ?_ | refine WC.cond_no rfl ?_ | refine WC.cond rfl (fun hc => ?_) (fun hc => ?_) | refine WC.cond_b rfl (fun hc => ?_) (fun hc => ?_))
          exact WX.ret1 rfl rfl ⟨rfl, hG2.trans (hg1.trans (hg2.trans (((Gr.refl w2).alloc _).trans hg3)))⟩
        · refine WO.one (W1.load rfl hy1 rfl ?_)
          apply WA.fold
          refine WA.all [4] (by kernel_rfl) rfl ⟨⟨_, rfl, ?_⟩, trivial⟩
          refine WO.one (W1.call (vs := [zv x.1, zv y.1]) rfl rfl (compareG _ _ w) ?_)
          rintro v w1 ⟨rfl, hg1⟩
          apply WA.fold
          refine WA.all [9] (by kernel_rfl) rfl ⟨⟨_, rfl, ?_⟩, trivial⟩
          refine WO.one (W1.call (vs := [zv x.2, zv y.2]) rfl rfl (compareG _ _ w1) ?_)
          rintro v w2 ⟨rfl, hg2⟩
          apply WA.fold
          refine WA.all [10] (by kernel_rfl) rfl ⟨⟨_, rfl, ?_⟩, trivial⟩
          refine WO.one (W1.lit (cs := [zv (Lib.compareInt x.1 y.1), zv (Lib.compareInt x.2 y.2)]) rfl rfl rfl rfl rfl rfl ?_)
          apply WA.fold
          refine WA.all [11] (by kernel_rfl) rfl ⟨⟨_, rfl, ?_⟩, trivial⟩
          refine WO.one (W1.call (vs := [_]) rfl rfl (orG _ _ _ _ (Blk.new w2 [zv (Lib.compareInt x.1 y.1), zv (Lib.compareInt x.2 y.2)] 3)) ?_)
          rintro v w3 ⟨rfl, hg3⟩
          apply WA.fold
          refine WA.pa 12 rfl ?_
          refine WA.done (by kernel_rfl) ?_
          repeat' (first | apply WL.fold | apply WA.fold | apply WL.nil | apply WX.n_then | apply WC.seq | apply WC.region | refine WL.pa ?_ | refine WL.ga rfl ?_ | refine WL.na rfl ?_ | refine WL.nu rfl rfl ?_ | apply WC.block | apply WC.skip | apply WC.exit | apply WC.ret | apply WX.e_block | refine WX.e_other rfl ?_ | apply WX.e_then | apply WX.e_again | apply WX.n_block | apply WX.r_then | apply WX.r_block | apply WX.r_again | refine WC.cond_yes rfl ?_ | refine WC.cond_no rfl ?_ | refine WC.cond rfl (fun hc => ?_) (fun hc => ?_) | refine WC.cond_b rfl (fun hc => ?_) (fun hc => ?_))
          exact WX.ret1 rfl rfl ⟨rfl, hG2.trans (hg1.trans (hg2.trans (((Gr.refl w2).alloc _).trans hg3)))⟩
      · refine WO.one (W1.load rfl hy1 rfl ?_)
        apply WA.fold
        refine WA.all [1] (by kernel_rfl) rfl ⟨⟨_, rfl, ?_⟩, trivial⟩
        refine WO.one (W1.load rfl hx0 rfl ?_)
        apply WA.fold
        refine WA.all [4] (by kernel_rfl) rfl ⟨⟨_, rfl, ?_⟩, trivial⟩
        refine WO.one (W1.call (vs := [zv x.1, zv y.1]) rfl rfl (compareG _ _ w) ?_)
        rintro v w1 ⟨rfl, hg1⟩
        apply WA.fold
        refine WA.all [9] (by kernel_rfl) rfl ⟨⟨_, rfl, ?_⟩, trivial⟩
        refine WO.one (W1.call (vs := [zv x.2, zv y.2]) rfl rfl (compareG _ _ w1) ?_)
        rintro v w2 ⟨rfl, hg2⟩
        apply WA.fold
        refine WA.all [10] (by kernel_rfl) rfl ⟨⟨_, rfl, ?_⟩, trivial⟩
        refine WO.one (W1.lit (cs := [zv (Lib.compareInt x.1 y.1), zv (Lib.compareInt x.2 y.2)]) rfl rfl rfl rfl rfl rfl ?_)
        apply WA.fold
        refine WA.all [11] (by kernel_rfl) rfl ⟨⟨_, rfl, ?_⟩, trivial⟩
        refine WO.one (W1.call (vs := [_]) rfl rfl (orG _ _ _ _ (Blk.new w2 [zv (Lib.compareInt x.1 y.1), zv (Lib.compareInt x.2 y.2)] 3)) ?_)
        rintro v w3 ⟨rfl, hg3⟩
        apply WA.fold
        refine WA.pa 12 rfl ?_
        refine WA.done (by kernel_rfl) ?_
        repeat' (first | apply WL.fold | apply WA.fold | apply WL.nil | apply WX.n_then | apply WC.seq | apply WC.region | refine WL.pa ?_ | refine WL.ga rfl ?_ | refine WL.na rfl ?_ | refine WL.nu rfl rfl ?_ | apply WC.block | apply WC.skip | apply WC.exit | apply WC.ret | apply WX.e_block | refine WX.e_other rfl ?_ | apply WX.e_then | apply WX.e_again | apply WX.n_block | apply WX.r_then | apply WX.r_block | apply WX.r_again | refine WC.cond_yes rfl ?_ | refine WC.cond_no rfl ?_ | refine WC.cond rfl (fun hc => ?_) (fun hc => ?_) | refine WC.cond_b rfl (fun hc => ?_) (fun hc => ?_))
        exact WX.ret1 rfl rfl ⟨rfl, hG2.trans (hg1.trans (hg2.trans (((Gr.refl w2).alloc _).trans hg3)))⟩
    · refine WO.one (W1.load rfl hy1 rfl ?_)
      apply WA.fold
      refine WA.all [1, 3] (by kernel_rfl) rfl ⟨⟨_, rfl, ?_⟩, ⟨_, rfl, ?_⟩, trivial⟩
      · refine WO.one (W1.load rfl hx0 rfl ?_)
        apply WA.fold
        refine WA.all [3] (by kernel_rfl) rfl ⟨⟨_, rfl, ?_⟩, trivial⟩
        refine WO.one (W1.load rfl hy0 rfl ?_)
        apply WA.fold
        refine WA.all [4] (by kernel_rfl) rfl ⟨⟨_, rfl, ?_⟩, trivial⟩
        refine WO.one (W1.call (vs := [zv x.1, zv y.1]) rfl rfl (compareG _ _ w) ?_)
        rintro v w1 ⟨rfl, hg1⟩
        apply WA.fold
        refine WA.all [9] (by kernel_rfl) rfl ⟨⟨_, rfl, ?_⟩, trivial⟩
        refine WO.one (W1.call (vs := [zv x.2, zv y.2]) rfl rfl (compareG _ _ w1) ?_)
        rintro v w2 ⟨rfl, hg2⟩
        apply WA.fold
        refine WA.all [10] (by kernel_rfl) rfl ⟨⟨_, rfl, ?_⟩, trivial⟩
        refine WO.one (W1.lit (cs := [zv (Lib.compareInt x.1 y.1), zv (Lib.compareInt x.2 y.2)]) rfl rfl rfl rfl rfl rfl ?_)
        apply WA.fold
        refine WA.all [11] (by kernel_rfl) rfl ⟨⟨_, rfl, ?_⟩, trivial⟩
        refine WO.one (W1.call (vs := [_]) rfl rfl (orG _ _ _ _ (Blk.new w2 [zv (Lib.compareInt x.1 y.1), zv (Lib.compareInt x.2 y.2)] 3)) ?_)
        rintro v w3 ⟨rfl, hg3⟩
        apply WA.fold
        refine WA.pa 12 rfl ?_
        refine WA.done (by kernel_rfl) ?_
        repeat' (first | apply WL.fold | apply WA.fold | apply WL.nil | apply WX.n_then | apply WC.seq | apply WC.region | refine WL.pa ?_ | refine WL.ga rfl ?_ | refine WL.na rfl ?_ | refine WL.nu rfl rfl ?_ | apply WC.block | apply WC.skip | apply WC.exit | apply WC.ret | apply WX.e_block | refine WX.e_other rfl ?_ | apply WX.e_then | apply WX.e_again | apply WX.n_block | apply WX.r_then | apply WX.r_block | apply WX.r_again | refine WC.cond_yes rfl ?_ | refine WC.cond_no rfl ?_ | refine WC.cond rfl (fun hc => ?_) (fun hc => ?_) | refine WC.cond_b rfl (fun hc => ?_) (fun hc => ?_))
        exact WX.ret1 rfl rfl ⟨rfl, hG2.trans (hg1.trans (hg2.trans (((Gr.refl w2).alloc _).trans hg3)))⟩
      · refine WO.one (W1.load rfl hy0 rfl ?_)
        apply WA.fold
        refine WA.all [1] (by kernel_rfl) rfl ⟨⟨_, rfl, ?_⟩, trivial⟩
        refine WO.one (W1.load rfl hx0 rfl ?_)
        apply WA.fold
        refine WA.all [4] (by kernel_rfl) rfl ⟨⟨_, rfl, ?_⟩, trivial⟩
        refine WO.one (W1.call (vs := [zv x.1, zv y.1]) rfl rfl (compareG _ _ w) ?_)
        rintro v w1 ⟨rfl, hg1⟩
        apply WA.fold
        refine WA.all [9] (by kernel_rfl) rfl ⟨⟨_, rfl, ?_⟩, trivial⟩
        refine WO.one (W1.call (vs := [zv x.2, zv y.2]) rfl rfl (compareG _ _ w1) ?_)
        rintro v w2 ⟨rfl, hg2⟩
        apply WA.fold
        refine WA.all [10] (by kernel_rfl) rfl ⟨⟨_, rfl, ?_⟩, trivial⟩
        refine WO.one (W1.lit (cs := [zv (Lib.compareInt x.1 y.1), zv (Lib.compareInt x.2 y.2)]) rfl rfl rfl rfl rfl rfl ?_)
        apply WA.fold
        refine WA.all [11] (by kernel_rfl) rfl ⟨⟨_, rfl, ?_⟩, trivial⟩
        refine WO.one (W1.call (vs := [_]) rfl rfl (orG _ _ _ _ (Blk.new w2 [zv (Lib.compareInt x.1 y.1), zv (Lib.compareInt x.2 y.2)] 3)) ?_)
        rintro v w3 ⟨rfl, hg3⟩
        apply WA.fold
        refine WA.pa 12 rfl ?_
        refine WA.done (by kernel_rfl) ?_
        repeat' (first | apply WL.fold | apply WA.fold | apply WL.nil | apply WX.n_then | apply WC.seq | apply WC.region | refine WL.pa ?_ | refine WL.ga rfl ?_ | refine WL.na rfl ?_ | refine WL.nu rfl rfl ?_ | apply WC.block | apply WC.skip | apply WC.exit | apply WC.ret | apply WX.e_block | refine WX.e_other rfl ?_ | apply WX.e_then | apply WX.e_again | apply WX.n_block | apply WX.r_then | apply WX.r_block | apply WX.r_again | refine WC.cond_yes rfl ?_ | refine WC.cond_no rfl ?_ | refine WC.cond rfl (fun hc => ?_) (fun hc => ?_) | refine WC.cond_b rfl (fun hc => ?_) (fun hc => ?_))
        exact WX.ret1 rfl rfl ⟨rfl, hG2.trans (hg1.trans (hg2.trans (((Gr.refl w2).alloc _).trans hg3)))⟩
  · refine WO.one (W1.load rfl hy1 rfl ?_)
    apply WA.fold
    refine WA.all [1, 3, 6] (by kernel_rfl) rfl ⟨⟨_, rfl, ?_⟩, ⟨_, rfl, ?_⟩, ⟨_, rfl, ?_⟩, trivial⟩
    · refine WO.one (W1.load rfl hx0 rfl ?_)
      apply WA.fold
      refine WA.all [3, 6] (by kernel_rfl) rfl ⟨⟨_, rfl, ?_⟩, ⟨_, rfl, ?_⟩, trivial⟩
      · refine WO.one (W1.load rfl hy0 rfl ?_)
        apply WA.fold
        refine WA.all [4, 6] (by kernel_rfl) rfl ⟨⟨_, rfl, ?_⟩, ⟨_, rfl, ?_⟩, trivial⟩
        · refine WO.one (W1.call (vs := [zv x.1, zv y.1]) rfl rfl (compareG _ _ w) ?_)
          rintro v w1 ⟨rfl, hg1⟩
          apply WA.fold
          refine WA.all [6] (by kernel_rfl) rfl ⟨⟨_, rfl, ?_⟩, trivial⟩
          refine WO.one (W1.load rfl (cell_ext hg1.ext hx1) rfl ?_)
          apply WA.fold
          refine WA.all [9] (by kernel_rfl) rfl ⟨⟨_, rfl, ?_⟩, trivial⟩
          refine WO.one (W1.call (vs := [zv x.2, zv y.2]) rfl rfl (compareG _ _ w1) ?_)
          rintro v w2 ⟨rfl, hg2⟩
          apply WA.fold
          refine WA.all [10] (by kernel_rfl) rfl ⟨⟨_, rfl, ?_⟩, trivial⟩
          refine WO.one (W1.lit (cs := [zv (Lib.compareInt x.1 y.1), zv (Lib.compareInt x.2 y.2)]) rfl rfl rfl rfl rfl rfl ?_)
          apply WA.fold
          refine WA.all [11] (by kernel_rfl) rfl ⟨⟨_, rfl, ?_⟩, trivial⟩
          refine WO.one (W1.call (vs := [_]) rfl rfl (orG _ _ _ _ (Blk.new w2 [zv (Lib.compareInt x.1 y.1), zv (Lib.compareInt x.2 y.2)] 3)) ?_)
          rintro v w3 ⟨rfl, hg3⟩
          apply WA.fold
          refine WA.pa 12 rfl ?_
          refine WA.done (by kernel_rfl) ?_
          repeat' (first | apply WL.fold | apply WA.fold | apply WL.nil | apply WX.n_then | apply WC.seq | apply WC.region | refine WL.pa ?_ | refine WL.ga rfl ?_ | refine WL.na rfl ?_ | refine WL.nu rfl rfl ?_ | apply WC.block | apply WC.skip | apply WC.exit | apply WC.ret | apply WX.e_block | refine WX.e_other rfl ?_ | apply WX.e_then | apply WX.e_again | apply WX.n_block | apply WX.r_then | apply WX.r_block | apply WX.r_again | refine WC.cond_yes rfl ?_ | refine WC.cond_no rfl ?_ | refine WC.cond rfl (fun hc => ?_) (fun hc => ?_) | refine WC.cond_b rfl (fun hc => ?_) (fun hc => ?_))
          exact WX.ret1 rfl rfl ⟨rfl, hG2.trans (hg1.trans (hg2.trans (((Gr.refl w2).alloc _).trans hg3)))⟩
        · refine WO.one (W1.load rfl hx1 rfl ?_)
          apply WA.fold
          refine WA.all [4] (by kernel_rfl) rfl ⟨⟨_, rfl, ?_⟩, trivial⟩
          refine WO.one (W1.call (vs := [zv x.1, zv y.1]) rfl rfl (compareG _ _ w) ?_)
          rintro v w1 ⟨rfl, hg1⟩
          apply WA.fold
          refine WA.all [9] (by kernel_rfl) rfl ⟨⟨_, rfl, ?_⟩, trivial⟩
          refine WO.one (W1.call (vs := [zv x.2, zv y.2]) rfl rfl (compareG _ _ w1) ?_)
          rintro v w2 ⟨rfl, hg2⟩
          apply WA.fold
          refine WA.all [10] (by kernel_rfl) rfl ⟨⟨_, rfl, ?_⟩, trivial⟩
          refine WO.one (W1.lit (cs := [zv (Lib.compareInt x.1 y.1), zv (Lib.compareInt x.2 y.2)]) rfl rfl rfl rfl rfl rfl ?_)
          apply WA.fold
          refine WA.all [11] (by kernel_rfl) rfl ⟨⟨_, rfl, ?_⟩, trivial⟩
          refine WO.one (W1.call (vs := [_]) rfl rfl (orG _ _ _ _ (Blk.new w2 [zv (Lib.compareInt x.1 y.1), zv (Lib.compareInt x.2 y.2)] 3)) ?_)
          rintro v w3 ⟨rfl, hg3⟩
          apply WA.fold
          refine WA.pa 12 rfl ?_
          refine WA.done (by kernel_rfl) ?_
          repeat' (first | apply WL.fold | apply WA.fold | apply WL.nil | apply WX.n_then | apply WC.seq | apply WC.region | refine WL.pa ?_ | refine WL.ga rfl ?_ | refine WL.na rfl ?_ | refine WL.nu rfl rfl ?_ | apply WC.block | apply WC.skip | apply WC.exit | apply WC.ret | apply WX.e_block | refine WX.e_other rfl ?_ | apply WX.e_then | apply WX.e_again | apply WX.n_block | apply WX.r_then | apply WX.r_block | apply WX.r_again | refine WC.cond_yes rfl ?_ | refine WC.cond_no rfl ?_ | refine WC.cond rfl (fun hc => ?_) (fun hc => ?_) | refine WC.cond_b rfl (fun hc => ?_) (fun hc => ?_))
          exact WX.ret1 rfl rfl ⟨rfl, hG2.trans (hg1.trans (hg2.trans (((Gr.refl w2).alloc _).trans hg3)))⟩
      · refine WO.one (W1.load rfl hx1 rfl ?_)
        apply WA.fold
        refine WA.all [3] (by kernel_rfl) rfl ⟨⟨_, rfl, ?_⟩, trivial⟩
        refine WO.one (W1.load rfl hy0 rfl ?_)
        apply WA.fold
        refine WA.all [4] (by kernel_rfl) rfl ⟨⟨_, rfl, ?_⟩, trivial⟩
        refine WO.one (W1.call (vs := [zv x.1, zv y.1]) rfl rfl (compareG _ _ w) ?_)
        rintro v w1 ⟨rfl, hg1⟩
        apply WA.fold
        refine WA.all [9] (by kernel_rfl) rfl ⟨⟨_, rfl, ?_⟩, trivial⟩
        refine WO.one (W1.call (vs := [zv x.2, zv y.2]) rfl rfl (compareG _ _ w1) ?_)
        rintro v w2 ⟨rfl, hg2⟩
        apply WA.fold
        refine WA.all [10] (by kernel_rfl) rfl ⟨⟨_, rfl, ?_⟩, trivial⟩
        refine WO.one (W1.lit (cs := [zv (Lib.compareInt x.1 y.1), zv (Lib.compareInt x.2 y.2)]) rfl rfl rfl rfl rfl rfl ?_)
        apply WA.fold
        refine WA.all [11] (by kernel_rfl) rfl ⟨⟨_, rfl, ?_⟩, trivial⟩
        refine WO.one (W1.call (vs := [_]) rfl rfl (orG _ _ _ _ (Blk.new w2 [zv (Lib.compareInt x.1 y.1), zv (Lib.compareInt x.2 y.2)] 3)) ?_)
        rintro v w3 ⟨rfl, hg3⟩
        apply WA.fold
        refine WA.pa 12 rfl ?_
        refine WA.done (by kernel_rfl) ?_
        repeat' (first | apply WL.fold | apply WA.fold | apply WL.nil | apply WX.n_then | apply WC.seq | apply WC.region | refine WL.pa ?_ | refine WL.ga rfl ?_ | refine WL.na rfl ?_ | refine WL.nu rfl rfl ?_ | apply WC.block | apply WC.skip | apply WC.exit | apply WC.ret | apply WX.e_block | refine WX.e_other rfl ?_ | apply WX.e_then | apply WX.e_again | apply WX.n_block | apply WX.r_then | apply WX.r_block | apply WX.r_again | refine WC.cond_yes rfl ?_ | refine WC.cond_no rfl ?_ | refine WC.cond rfl (fun hc => ?_) (fun hc => ?_) | refine WC.cond_b rfl (fun hc => ?_) (fun hc => ?_))
        exact WX.ret1 rfl rfl ⟨rfl, hG2.trans (hg1.trans (hg2.trans (((Gr.refl w2).alloc _).trans hg3)))⟩
    · refine WO.one (W1.load rfl hy0 rfl ?_)
      apply WA.fold
      refine WA.all [1, 6] (by kernel_rfl) rfl ⟨⟨_, rfl, ?_⟩, ⟨_, rfl, ?_⟩, trivial⟩
      · refine WO.one (W1.load rfl hx0 rfl ?_)
        apply WA.fold
        refine WA.all [4, 6] (by kernel_rfl) rfl ⟨⟨_, rfl, ?_⟩, ⟨_, rfl, ?_⟩, trivial⟩
        · refine WO.one (W1.call (vs := [zv x.1, zv y.1]) rfl rfl (compareG _ _ w) ?_)
          rintro v w1 ⟨rfl, hg1⟩
          apply WA.fold
          refine WA.all [6] (by kernel_rfl) rfl ⟨⟨_, rfl, ?_⟩, trivial⟩
          refine WO.one (W1.load rfl (cell_ext hg1.ext hx1) rfl ?_)
          apply WA.fold
          refine WA.all [9] (by kernel_rfl) rfl ⟨⟨_, rfl, ?_⟩, trivial⟩
          refine WO.one (W1.call (vs := [zv x.2, zv y.2]) rfl rfl (compareG _ _ w1) ?_)
          rintro v w2 ⟨rfl, hg2⟩
          apply WA.fold
          refine WA.all [10] (by kernel_rfl) rfl ⟨⟨_, rfl, ?_⟩, trivial⟩
          refine WO.one (W1.lit (cs := [zv (Lib.compareInt x.1 y.1), zv (Lib.compareInt x.2 y.2)]) rfl rfl rfl rfl rfl rfl ?_)
          apply WA.fold
          refine WA.all [11] (by kernel_rfl) rfl ⟨⟨_, rfl, ?_⟩, trivial⟩
          refine WO.one (W1.call (vs := [_]) rfl rfl (orG _ _ _ _ (Blk.new w2 [zv (Lib.compareInt x.1 y.1), zv (Lib.compareInt x.2 y.2)] 3)) ?_)
          rintro v w3 ⟨rfl, hg3⟩
          apply WA.fold
          refine WA.pa 12 rfl ?_
          refine WA.done (by kernel_rfl) ?_
          repeat' (first | apply WL.fold | apply WA.fold | apply WL.nil | apply WX.n_then | apply WC.seq | apply WC.region | refine WL.pa ?_ | refine WL.ga rfl ?_ | refine WL.na rfl ?_ | refine WL.nu rfl rfl ?_ | apply WC.block | apply WC.skip | apply WC.exit | apply WC.ret | apply WX.e_block | refine WX.e_other rfl ?_ | apply WX.e_then | apply WX.e_again | apply WX.n_block | apply WX.r_then | apply WX.r_block | apply WX.r_again | refine WC.cond_yes rfl ?_ | refine WC.cond_no rfl ?_ | refine WC.cond rfl (fun hc => ?_) (fun hc => ?_) | refine WC.cond_b rfl (fun hc => ?_) (fun hc => ?_))
          exact WX.ret1 rfl rfl ⟨rfl, hG2.trans (hg1.trans (hg2.trans (((Gr.refl w2).alloc _).trans hg3)))⟩
        · refine WO.one (W1.load rfl hx1 rfl ?_)
          apply WA.fold
          refine WA.all [4] (by kernel_rfl) rfl ⟨⟨_, rfl, ?_⟩, trivial⟩
          refine WO.one (W1.call (vs := [zv x.1, zv y.1]) rfl rfl (compareG _ _ w) ?_)
          rintro v w1 ⟨rfl, hg1⟩
          apply WA.fold
          refine WA.all [9] (by kernel_rfl) rfl ⟨⟨_, rfl, ?_⟩, trivial⟩
          refine WO.one (W1.call (vs := [zv x.2, zv y.2]) rfl rfl (compareG _ _ w1) ?_)
          rintro v w2 ⟨rfl, hg2⟩
          apply WA.fold
          refine WA.all [10] (by kernel_rfl) rfl ⟨⟨_, rfl, ?_⟩, trivial⟩
          refine WO.one (W1.lit (cs := [zv (Lib.compareInt x.1 y.1), zv (Lib.compareInt x.2 y.2)]) rfl rfl rfl rfl rfl rfl ?_)
          apply WA.fold
          refine WA.all [11] (by kernel_rfl) rfl ⟨⟨_, rfl, ?_⟩, trivial⟩
          refine WO.one (W1.call (vs := [_]) rfl rfl (orG _ _ _ _ (Blk.new w2 [zv (Lib.compareInt x.1 y.1), zv (Lib.compareInt x.2 y.2)] 3)) ?_)
          rintro v w3 ⟨rfl, hg3⟩
          apply WA.fold
          refine WA.pa 12 rfl ?_
          refine WA.done (by kernel_rfl) ?_
          repeat' (first | apply WL.fold | apply WA.fold | apply WL.nil | apply WX.n_then | apply WC.seq | apply WC.region | refine WL.pa ?_ | refine WL.ga rfl ?_ | refine WL.na rfl ?_ | refine WL.nu rfl rfl ?_ | apply WC.block | apply WC.skip | apply WC.exit | apply WC.ret | apply WX.e_block | refine WX.e_other rfl ?_ | apply WX.e_then | apply WX.e_again | apply WX.n_block | apply WX.r_then | apply WX.r_block | apply WX.r_again | refine WC.cond_yes rfl ?_ | refine WC.cond_no rfl ?_ | refine WC.cond rfl (fun hc => ?_) (fun hc => ?_) | refine WC.cond_b rfl (fun hc => ?_) (fun hc => ?_))
          exact WX.ret1 rfl rfl ⟨rfl, hG2.trans (hg1.trans (hg2.trans (((Gr.refl w2).alloc _).trans hg3)))⟩
      · refine WO.one (W1.load rfl hx1 rfl ?_)
        apply WA.fold
        refine WA.all [1] (by kernel_rfl) rfl ⟨⟨_, rfl, ?_⟩, trivial⟩
        refine WO.one (W1.load rfl hx0 rfl ?_)
        apply WA.fold
        refine WA.all [4] (by kernel_rfl) rfl ⟨⟨_, rfl, ?_⟩, trivial⟩
        refine WO.one (W1.call (vs := [zv x.1, zv y.1]) rfl rfl (compareG _ _ w) ?_)
        rintro v w1 ⟨rfl, hg1⟩
        apply WA.fold
        refine WA.all [9] (by kernel_rfl) rfl ⟨⟨_, rfl, ?_⟩, trivial⟩
        refine WO.one (W1.call (vs := [zv x.2, zv y.2]) rfl rfl (compareG _ _ w1) ?_)
        rintro v w2 ⟨rfl, hg2⟩
        apply WA.fold
        refine WA.all [10] (by kernel_rfl) rfl ⟨⟨_, rfl, ?_⟩, trivial⟩
        refine WO.one (W1.lit (cs := [zv (Lib.compareInt x.1 y.1), zv (Lib.compareInt x.2 y.2)]) rfl rfl rfl rfl rfl rfl ?_)
        apply WA.fold
        refine WA.all [11] (by kernel_rfl) rfl ⟨⟨_, rfl, ?_⟩, trivial⟩
        refine WO.one (W1.call (vs := [_]) rfl rfl (orG _ _ _ _ (Blk.new w2 [zv (Lib.compareInt x.1 y.1), zv (Lib.compareInt x.2 y.2)] 3)) ?_)
        rintro v w3 ⟨rfl, hg3⟩
        apply WA.fold
        refine WA.pa 12 rfl ?_
        refine WA.done (by kernel_rfl) ?_
        repeat' (first | apply WL.fold | apply WA.fold | apply WL.nil | apply WX.n_then | apply WC.seq | apply WC.region | refine WL.pa ?_ | refine WL.ga rfl ?_ | refine WL.na rfl ?_ | refine WL.nu rfl rfl ?_ | apply WC.block | apply WC.skip | apply WC.exit | apply WC.ret | apply WX.e_block | refine WX.e_other rfl ?_ | apply WX.e_then | apply WX.e_again | apply WX.n_block | apply WX.r_then | apply WX.r_block | apply WX.r_again | refine WC.cond_yes rfl ?_ | refine WC.cond_no rfl ?_ | refine WC.cond rfl (fun hc => ?_) (fun hc => ?_) | refine WC.cond_b rfl (fun hc => ?_) (fun hc => ?_))
        exact WX.ret1 rfl rfl ⟨rfl, hG2.trans (hg1.trans (hg2.trans (((Gr.refl w2).alloc _).trans hg3)))⟩
    · refine WO.one (W1.load rfl hx1 rfl ?_)
      apply WA.fold
      refine WA.all [1, 3] (by kernel_rfl) rfl ⟨⟨_, rfl, ?_⟩, ⟨_, rfl, ?_⟩, trivial⟩
      · refine WO.one (W1.load rfl hx0 rfl ?_)
        apply WA.fold
        refine WA.all [3] (by kernel_rfl) rfl ⟨⟨_, rfl, ?_⟩, trivial⟩
        refine WO.one (W1.load rfl hy0 rfl ?_)
        apply WA.fold
        refine WA.all [4] (by kernel_rfl) rfl ⟨⟨_, rfl, ?_⟩, trivial⟩
        refine WO.one (W1.call (vs := [zv x.1, zv y.1]) rfl rfl (compareG _ _ w) ?_)
        rintro v w1 ⟨rfl, hg1⟩
        apply WA.fold
        refine WA.all [9] (by kernel_rfl) rfl ⟨⟨_, rfl, ?_⟩, trivial⟩
        refine WO.one (W1.call (vs := [zv x.2, zv y.2]) rfl rfl (compareG _ _ w1) ?_)
        rintro v w2 ⟨rfl, hg2⟩
        apply WA.fold
        refine WA.all [10] (by kernel_rfl) rfl ⟨⟨_, rfl, ?_⟩, trivial⟩
        refine WO.one (W1.lit (cs := [zv (Lib.compareInt x.1 y.1), zv (Lib.compareInt x.2 y.2)]) rfl rfl rfl rfl rfl rfl ?_)
        apply WA.fold
        refine WA.all [11] (by kernel_rfl) rfl ⟨⟨_, rfl, ?_⟩, trivial⟩
        refine WO.one (W1.call (vs := [_]) rfl rfl (orG _ _ _ _ (Blk.new w2 [zv (Lib.compareInt x.1 y.1), zv (Lib.compareInt x.2 y.2)] 3)) ?_)
        rintro v w3 ⟨rfl, hg3⟩
        apply WA.fold
        refine WA.pa 12 rfl ?_
        refine WA.done (by kernel_rfl) ?_
        repeat' (first | apply WL.fold | apply WA.fold | apply WL.nil | apply WX.n_then | apply WC.seq | apply WC.region | refine WL.pa ?_ | refine WL.ga rfl ?_ | refine WL.na rfl ?_ | refine WL.nu rfl rfl ?_ | apply WC.block | apply WC.skip | apply WC.exit | apply WC.ret | apply WX.e_block | refine WX.e_other rfl ?_ | apply WX.e_then | apply WX.e_again | apply WX.n_block | apply WX.r_then | apply WX.r_block | apply WX.r_again | refine WC.cond_yes rfl ?_ | refine WC.cond_no rfl ?_ | refine WC.cond rfl (fun hc => ?_) (fun hc => ?_) | refine WC.cond_b rfl (fun hc => ?_) (fun hc => ?_))
        exact WX.ret1 rfl rfl ⟨rfl, hG2.trans (hg1.trans (hg2.trans (((Gr.refl w2).alloc _).trans hg3)))⟩
      · refine WO.one (W1.load rfl hy0 rfl ?_)
        apply WA.fold
        refine WA.all [1] (by kernel_rfl) rfl ⟨⟨_, rfl, ?_⟩, trivial⟩
        refine WO.one (W1.load rfl hx0 rfl ?_)
        apply WA.fold
        refine WA.all [4] (by kernel_rfl) rfl ⟨⟨_, rfl, ?_⟩, trivial⟩
        refine WO.one (W1.call (vs := [zv x.1, zv y.1]) rfl rfl (compareG _ _ w) ?_)
        rintro v w1 ⟨rfl, hg1⟩
        apply WA.fold
        refine WA.all [9] (by kernel_rfl) rfl ⟨⟨_, rfl, ?_⟩, trivial⟩
        refine WO.one (W1.call (vs := [zv x.2, zv y.2]) rfl rfl (compareG _ _ w1) ?_)
        rintro v w2 ⟨rfl, hg2⟩
        apply WA.fold
        refine WA.all [10] (by kernel_rfl) rfl ⟨⟨_, rfl, ?_⟩, trivial⟩
        refine WO.one (W1.lit (cs := [zv (Lib.compareInt x.1 y.1), zv (Lib.compareInt x.2 y.2)]) rfl rfl rfl rfl rfl rfl ?_)
        apply WA.fold
        refine WA.all [11] (by kernel_rfl) rfl ⟨⟨_, rfl, ?_⟩, trivial⟩
        refine WO.one (W1.call (vs := [_]) rfl rfl (orG _ _ _ _ (Blk.new w2 [zv (Lib.compareInt x.1 y.1), zv (Lib.compareInt x.2 y.2)] 3)) ?_)
        rintro v w3 ⟨rfl, hg3⟩
        apply WA.fold
        refine WA.pa 12 rfl ?_
        refine WA.done (by kernel_rfl) ?_
        repeat' (first | apply WL.fold | apply WA.fold | apply WL.nil | apply WX.n_then | apply WC.seq | apply WC.region | refine WL.pa ?_ | refine WL.ga rfl ?_ | refine WL.na rfl ?_ | refine WL.nu rfl rfl ?_ | apply WC.block | apply WC.skip | apply WC.exit | apply WC.ret | apply WX.e_block | refine WX.e_other rfl ?_ | apply WX.e_then | apply WX.e_again | apply WX.n_block | apply WX.r_then | apply WX.r_block | apply WX.r_again | refine WC.cond_yes rfl ?_ | refine WC.cond_no rfl ?_ | refine WC.cond rfl (fun hc => ?_) (fun hc => ?_) | refine WC.cond_b rfl (fun hc => ?_) (fun hc => ?_))
        exact WX.ret1 rfl rfl ⟨rfl, hG2.trans (hg1.trans (hg2.trans (((Gr.refl w2).alloc _).trans hg3)))⟩
end Go.Sx
