/- Chapter 26: the law JournalMatchesReference: the walk. -/
import Derived.Test.YtlihcenahjgnmaaGreatDoorKT
import Derived.Test.YtlihcenahjgnmaaGreatDoorHj
namespace Go.Sx
open Go Go.Proofs Go.RowKit
theorem hwKU {G G2 : Prop} (x : G2) (hwq : Hold G2 → G := by
    intro hQq
    repeat' (first | refine HL.pa ?_ (POp.nilCheck rfl) | apply HL.fold | apply HA.fold | apply HL.nil | apply HX.n_then | apply HC.seq | apply HC.region | refine HL.pa ?_ | refine HL.ga rfl ?_ | refine HL.na rfl ?_ | refine HL.nu rfl rfl ?_ | apply HC.block | apply HC.skip | apply HC.exit | apply HC.ret | apply HX.e_block | refine HX.e_other rfl ?_ | apply HX.e_then | apply HX.e_again | apply HX.n_block | apply HX.r_then | apply HX.r_block | apply HX.r_again | refine HC.cond_yes rfl ?_ | refine HC.cond_no rfl ?_ | refine HL.one (H1.ldb rfl memA rfl rfl ?_) | refine HC.cond rfl (fun hc => ?_) (fun hc => ?_) | refine HC.cond_b rfl (fun hc => ?_) (fun hc => ?_))
    exact hQq.get) : G := hwq ⟨x⟩
theorem hbKU {G G2 : Prop} (x : G2) (hwq : Hold G2 → G := by
    intro hQq
    repeat' (first | refine HL.pa ?_ (POp.nilCheck rfl) | apply HL.fold | apply HA.fold | apply HL.nil | apply HX.n_then | apply HC.seq | apply HC.region | refine HL.pa ?_ | refine HL.ga rfl ?_ | refine HL.na rfl ?_ | refine HL.nu rfl rfl ?_ | apply HC.skip | apply HC.exit | apply HC.ret | apply HX.e_block | refine HX.e_other rfl ?_ | apply HX.e_then | apply HX.e_again | apply HX.n_block | apply HX.r_then | apply HX.r_block | apply HX.r_again | refine HC.cond_yes rfl ?_ | refine HC.cond_no rfl ?_ | refine HL.one (H1.ldb rfl memA rfl rfl ?_) | refine HC.cond rfl (fun hc => ?_) (fun hc => ?_) | refine HC.cond_b rfl (fun hc => ?_) (fun hc => ?_))
    exact hQq.get) : G := hwq ⟨x⟩
theorem POp.pne0 {P : Program} {N : Nat} {ds : List Deferred} {E : Env} {t t' ty e : TypeId} {x y : Operand} [h : UTy P t (.pointer e)] (hx : Env.ev E x = some (.pointer none)) (hy : Env.ev E y = some (.pointer none)) : POp P N ds E (.binOp .neq t x y t') ty (.bool false) :=
  POp.bin hx hy (fun w => by rw [eqGuard_at_pointer]; rfl) fun w => by
    have e1 := run_equalIn_pnil (P := P) (t := t) w 9999 none
    show ((Op.equalIn (9999 + 1) t (.pointer none) (.pointer none)) >>= fun r => pure (Value.bool !r)).run P w = _
    rw [Sem.run_bind, e1]; rfl
theorem HP.drop_u {l : List (Addr × Value)} {P : Program} {N : Nat} {ds : List Deferred} {ol : List Oper} {Q : Post} {E : Env} {w0 : World} {H : List Atom} {fuel : Nat} {listed : Array Bool} {ty : TypeId} {pos : String} {af : Array Edge} {op : Op} {d : Option Nat} {i j : Nat} {want : Bool} (hj : guardU ol E j = true)
    (h : HB l P N ds ol fuel (listed.setIfInBounds i true) Q (putE d undef E) w0 H) (hd : dOk d N = true := by exact rfl) : HP l P N ds ol fuel listed i ⟨d, op, ty, pos, af, some (j, want)⟩ Q E w0 H := fun w hM a ha => by
  have hy := guardU_spec hj ha
  have hne : ((none : Option Bool) == some want) = false := by cases want <;> rfl
  simp only [Region.wanted, hy, hne, Bool.false_eq_true, if_false]
  exact h w hM _ (ha.putO hd undef)
attribute [local irreducible] WC WL WX POp Then Again Fn NX W1 WA WO QL RP RA Yld LoopAt HC HL HX HN H1 HA HO HQ HB HP A.blk A.grow A.rd A.obj A.mp AgainH CutH
attribute [local irreducible] newK size26 sumS chainS
theorem begin_fn {w : World} {ea : Addr} (hG : RoundG w) (hE : ErrG ea w) (n : Int) (hn1 : -9223372036854775808 ≤ n) (hn2 : n ≤ 9223372036854775807) :
    Fn Tryz.prog 9 #[zv n] w fun v w' => ∃ z : (Nat × Nat × Nat × Nat × Nat) × QS, True ∧ v = .tuple #[.pointer (some ⟨z.1.1, 0, none⟩), .bool true] ∧
      Mm w (stH z.1.1 z.1.2.1 z.1.2.2.1 z.1.2.2.2.1 z.1.2.2.2.2 z.2 (newK (size26 n)) (some (t00, false)) []) w' := by
  obtain ⟨N, hN⟩ : ∃ N, N = size26 n := ⟨_, rfl⟩
  have hNb := size26_b n
  rw [← hN] at hNb ⊢
  have h0 := clean0 (n := N) hNb.1 (by omega)
  have hop : openF (newK N) = (0, newK N, some t00) := h0.opens (fun _ h => by cases h)
  refine enterH (l := [_]) rfl Tryz.ntmps9 rfl ?_
  refine hwKU ?_
  refine HL.one (H1.call0 (vs := [_]) rfl rfl (fun w' hM => size26_fn n hn1 hn2 w') ?_)
  rw [← hN]
  refine hwKU ?_
  refine HL.one (H1.callz (vs := [zv (N : Int)]) rfl rfl (fun w' hM => new_fn N hNb.1 (by omega) w') ?_)
  rintro ⟨bd, b1, b2⟩ -
  dsimp only
  refine hwKU ?_
  refine HL.one (H1.call0 (vs := [_]) rfl rfl (fun w' hM => size26_fn n hn1 hn2 w') ?_)
  rw [← hN]
  refine hwKU ?_
  refine HL.one (H1.callz (vs := [zv (N : Int)]) rfl rfl (fun w' hM => rnew_fn N hNb.1 (by omega) w') ?_)
  rintro ⟨bf, sa, sc⟩ -
  dsimp only
  refine hwKU ?_
  refine HL.build (cs := wdC bd bf none none) rfl rfl rfl ?_
  refine hwKU ?_
  refine HL.one (H1.boxAgg (cs := wdC bd bf none none) rfl rfl (fun bw => ?_))
  refine hwKU ?_
  refine HL.one (H1.callk (α := QS × Dk × Option (Tp × Bool)) (V := fun _ => .bool true) (I := fun z => OpI N 4 (newK N) z) (H' := fun z => stH bw bd b1 b2 bf z.1 z.2.1 z.2.2 []) (vs := [_]) rfl rfl
    (fun w' hM => wopen_fn (N := N) (p := 0) (q := ⟨0, 0, (none, 0), (none, 0), (none, 0), (sa, sc), (none, 0)⟩) hG hE (hM.sub (Hs.cons Pick.here (Hs.cons (Pick.there (Pick.there (Pick.there Pick.here))) (Hs.cons (Pick.there (Pick.there (Pick.there Pick.here))) (Hs.cons (Pick.there (Pick.there (Pick.there Pick.here))) (Hs.cons (Pick.there (Pick.there (Pick.there Pick.here))) (Hs.cons Pick.here (Hs.cons Pick.here (Hs.cons Pick.here (Hs.refl _)))))))))) (jinv0 hNb.1 (by omega)) (by omega) (by omega)) ?_)
  rintro ⟨q, k, o⟩ ⟨-, hk, ho⟩
  dsimp only at hk ho ⊢
  rw [hop] at hk ho
  obtain rfl : k = newK N := hk
  obtain rfl : o = some (t00, false) := ho
  refine hwKU ?_
  exact HX.ret2 rfl rfl rfl fun w' hM => ⟨((bw, bd, b1, b2, bf), q), trivial, rfl, hM⟩
set_option maxHeartbeats 4000000 in
theorem journalMatches_fn {w : World} {ea : Addr} (hG : RoundG w) (hE : ErrG ea w) (n : Int) (ops : List OpV) (a0 : Option Addr) (c0 : Nat) (hn1 : -9223372036854775808 ≤ n) (hn2 : n ≤ 9223372036854775807)
    (hR : RdOps w a0 c0 ops) (hl : ops.length ≤ 9223372036854775807) :
    Fn Tryz.prog 7 #[zv n, .slice a0 ops.length c0] w fun v w' => v = .bool true ∧ Ext w w' := by
  have hbeg := fun w' => begin_fn (w := w') (ea := ea) (n := n)
  obtain ⟨N, hN⟩ : ∃ N, N = size26 n := ⟨_, rfl⟩
  have hNb := size26_b n
  rw [← hN] at hNb hbeg
  have h0 := clean0 (n := N) hNb.1 (by omega)
  have hj0 : JInv N 8 (newK N) (some (t00, false)) := (jinv0 hNb.1 (by omega)).more.more.put fun t br e => by cases e; exact ⟨tpOk0, Nat.zero_le _⟩
  refine enterH (l := [_, _]) rfl Tryz.ntmps7 rfl ?_
  refine hwKU ?_
  refine HL.one (H1.callx (vs := []) rfl rfl (fun w' hM => sane26_fn (hG.ext hM.ext) (hE.ext hM.ext)) ?_)
  refine hwKU ?_
  refine HL.one (H1.callz (vs := [_]) rfl rfl (fun w' hM => hbeg w' (hG.ext hM.ext) (hE.ext hM.ext) hn1 hn2) ?_)
  rintro ⟨⟨bw, bd, b1, b2, bf⟩, q⟩ -
  dsimp only
  refine hbKU ?_
  repeat refine HC.seq ?_
  refine HC.cut (α := Unit) (fun _ => [(5, .bool true)]) (fun _ => []) (fun _ => True) ?_ ?_
  rotate_left
  · rintro - -
    refine hwKU ?_
    exact HX.ret1 rfl rfl fun w' hM => ⟨rfl, hM.ext⟩
  refine HC.block ?_
  refine HC.loop (α := Nat × QS × Dk × Option (Tp × Bool)) (fun z => [(1, .slice a0 ops.length c0), (5, .bool true), (6, .pointer (some ⟨bw, 0, none⟩)), (8, zv (z.1 : Int))])
    (fun z => stH bw bd b1 b2 bf z.2.1 z.2.2.1 z.2.2.2 []) (fun z => z.1 ≤ ops.length ∧ z.1 ≤ 25 ∧ JInv N (8 * z.1 + 8) z.2.2.1 z.2.2.2) (fun z => 25 - z.1) (0, q, newK N, some (t00, false)) ⟨Nat.zero_le _, Nat.zero_le _, hj0⟩ esA (Hs.refl _) ?_
  clear q
  rintro ⟨i, q, k, o⟩ ⟨hi, h25, hI⟩
  dsimp only at hi h25 hI ⊢
  by_cases hlt : i < ops.length ∧ i < 25
  rotate_left
  · by_cases hin : i < ops.length
    · have hn20 : ¬ i < 25 := fun h => hlt ⟨hin, h⟩
      refine hwKU ?_
      exact HX.cut () trivial esA (Hs.nil _)
    · refine hwKU ?_
      exact HX.cut () trivial esA (Hs.nil _)
  obtain ⟨hlt, hl25⟩ := hlt
  obtain ⟨b, off, hab, hcells⟩ : ∃ b off, a0 = some ⟨b, off, none⟩ ∧ ∀ (j : Nat) (u : Value), (opC (opAt ops i))[j]? = some u → w.cell? ⟨b, off + i * 4 + j, none⟩ = some u := by
    rcases hR.cells with h3 | ⟨b, off, h4, -, h5⟩
    · rw [h3] at hlt; cases hlt
    · exact ⟨b, off, h4, h5 i hlt⟩
  subst hab
  have hkind := hR.kind i hlt
  have hnn := hR.n i hlt
  have hrs := hR.strs i hlt
  have hrk := hR.keep i hlt
  generalize opAt ops i = op at hkind hnn hrs hrk hcells
  refine hwKU ?_
  refine HL.one (H1.ldAggw (vs := opC op) rfl rfl (fun w hM j v hj => cell_ext hM.ext (hcells j v hj)) rfl ?_)
  refine hwKU ?_
  refine HL.one (H1.callk (α := QS × Dk × Option (Tp × Bool)) (V := fun _ => .bool true) (I := fun z => JInv N (8 * i + 16) z.2.1 z.2.2) (H' := fun z => stH bw bd b1 b2 bf z.1 z.2.1 z.2.2 []) (vs := [_, _]) rfl rfl
    (fun w' hM => does_fn op hG hE hM hI (by omega) (by omega) hkind hnn hrs hrk) ?_)
  clear hI q k o
  rintro ⟨⟨bj, bk, ⟨a, c⟩, ⟨pa, pc⟩, ⟨ja, jc⟩, ⟨sa, sc⟩, ⟨la, lc⟩⟩, k, o⟩ hI
  dsimp only at hI ⊢
  dsimp only [stH, dwH]
  have hvl := hI.ok.len
  have hlo := hI.ok.lo
  have hlN := hI.len
  obtain ⟨R, hR'⟩ : ∃ R, R = jrO bd bf ⟨bj, bk, (a, c), (pa, pc), (ja, jc), (sa, sc), (la, lc)⟩ o [] := ⟨_, rfl⟩
  rw [← hR']
  refine hwKU ?_
  refine HC.cut (α := Unit) (fun _ => [(1, .slice (some ⟨b, off, none⟩) ops.length c0), (5, .bool true), (6, .pointer (some ⟨bw, 0, none⟩)), (8, zv (i : Int)), (75, .bool false)])
    (fun _ => A.blk bw (wdC bd bf (jpO bj o) (jpO bk o)) 32 :: dkH bd b1 b2 pa pc k (rfH bf sa sc la lc k R)) (fun _ => True) ?_ ?_
  · cases hoff : k.off with
    | true =>
      have hnb : (!k.off) = false := by rw [hoff]; rfl
      refine HC.anyC ([(⟨bw, 0, none⟩, .pointer (some ⟨bd, 0, none⟩)), (⟨bw, 2, none⟩, .pointer (some ⟨bf, 0, none⟩)), (⟨bf, 1, none⟩, .slice la k.pend.length lc), (⟨bf, 2, none⟩, .bool k.off)]) rfl ?_
      refine HB.pa 0 rfl ?_
      refine HB.pa 1 rfl ?_
      refine HB.pa 2 rfl ?_
      first | refine HB.ga 3 rfl rfl ?_ | refine HB.na 3 rfl rfl ?_ | refine HB.nu 3 rfl rfl ?_
      refine HB.ga 4 rfl rfl ?_ (hp := POp.nilCheck rfl)
      first | refine HB.ga 5 rfl rfl ?_ | refine HB.na 5 rfl rfl ?_ | refine HB.nu 5 rfl rfl ?_
      refine HB.ldg 6 rfl rfl rfl memD ?_
      first | refine HB.ga 8 rfl rfl ?_ | refine HB.na 8 rfl rfl ?_ | refine HB.nu 8 rfl rfl ?_
      refine HB.ga 9 rfl rfl ?_ (hp := POp.nilCheck rfl)
      first | refine HB.ga 10 rfl rfl ?_ | refine HB.na 10 rfl rfl ?_ | refine HB.nu 10 rfl rfl ?_
      refine HB.ldg 11 rfl rfl rfl memD ?_
      refine HB.ga 12 rfl rfl ?_ (hp := POp.nilCheck rfl)
      first | refine HB.ga 13 rfl rfl ?_ | refine HB.na 13 rfl rfl ?_ | refine HB.nu 13 rfl rfl ?_
      refine HB.ldg 14 rfl rfl rfl memD ?_
      first | refine HB.ga 15 rfl rfl ?_ | refine HB.na 15 rfl rfl ?_ | refine HB.nu 15 rfl rfl ?_
      refine HB.all (by (exact Keep.blk (b := bw) memD rfl (Keep.blk (b := bw) memD rfl (Keep.blk (b := bf) memD rfl (Keep.blk (b := bf) memD rfl Keep.nil))))) [7] (by kernel_rfl) rfl ⟨⟨_, rfl, ?_⟩, trivial⟩
      refine HP.one_a rfl ?_
      refine H1.call0 (vs := [_]) rfl rfl (fun w' hM => pending_fn (hM.blk memA)) ?_
      apply HB.fold
      first | refine HB.ga 16 rfl rfl ?_ | refine HB.na 16 rfl rfl ?_ | refine HB.nu 16 rfl rfl ?_
      refine HB.pa 17 rfl ?_
      refine HB.pa 18 rfl ?_
      first | refine HB.ga 19 rfl rfl ?_ | refine HB.na 19 rfl rfl ?_ | refine HB.nu 19 rfl rfl ?_
      refine HB.ga 20 rfl rfl ?_ (hp := POp.nilCheck rfl)
      first | refine HB.ga 21 rfl rfl ?_ | refine HB.na 21 rfl rfl ?_ | refine HB.nu 21 rfl rfl ?_
      refine HB.ldg 22 rfl rfl rfl memD ?_
      refine HB.ga 23 rfl rfl ?_ (hp := POp.nilCheck rfl)
      first | refine HB.ga 24 rfl rfl ?_ | refine HB.na 24 rfl rfl ?_ | refine HB.nu 24 rfl rfl ?_
      refine HB.ldg 25 rfl rfl rfl memD ?_
      first | refine HB.ga 26 rfl rfl ?_ | refine HB.na 26 rfl rfl ?_ | refine HB.nu 26 rfl rfl ?_
      first | refine HB.ga 27 rfl rfl ?_ | refine HB.na 27 rfl rfl ?_ | refine HB.nu 27 rfl rfl ?_
      first | refine HB.ga 28 rfl rfl ?_ | refine HB.na 28 rfl rfl ?_ | refine HB.nu 28 rfl rfl ?_
      first | refine HB.ga 29 rfl rfl ?_ | refine HB.na 29 rfl rfl ?_ | refine HB.nu 29 rfl rfl ?_
      first | refine HB.ga 30 rfl rfl ?_ | refine HB.na 30 rfl rfl ?_ | refine HB.nu 30 rfl rfl ?_
      first | refine HB.ga 31 rfl rfl ?_ | refine HB.na 31 rfl rfl ?_ | refine HB.nu 31 rfl rfl ?_
      first | refine HB.ga 33 rfl rfl ?_ | refine HB.na 33 rfl rfl ?_ | refine HB.nu 33 rfl rfl ?_
      first | refine HB.ga 34 rfl rfl ?_ | refine HB.na 34 rfl rfl ?_ | refine HB.nu 34 rfl rfl ?_
      first | refine HB.ga 35 rfl rfl ?_ | refine HB.na 35 rfl rfl ?_ | refine HB.nu 35 rfl rfl ?_
      first | refine HB.ga 36 rfl rfl ?_ | refine HB.na 36 rfl rfl ?_ | refine HB.nu 36 rfl rfl ?_
      refine HB.all (by (exact Keep.blk (b := bw) memD rfl (Keep.blk (b := bw) memD rfl (Keep.blk (b := bf) memD rfl (Keep.blk (b := bf) memD rfl Keep.nil))))) [32] (by kernel_rfl) rfl ⟨⟨_, rfl, ?_⟩, trivial⟩
      refine HP.drop_a rfl ?_
      refine HB.all (by (exact Keep.blk (b := bw) memD rfl (Keep.blk (b := bw) memD rfl (Keep.blk (b := bf) memD rfl (Keep.blk (b := bf) memD rfl Keep.nil))))) [37] (by kernel_rfl) rfl ⟨⟨_, rfl, ?_⟩, trivial⟩
      refine HP.drop_a rfl ?_
      refine HB.all (by (exact Keep.blk (b := bw) memD rfl (Keep.blk (b := bw) memD rfl (Keep.blk (b := bf) memD rfl (Keep.blk (b := bf) memD rfl Keep.nil))))) [38] (by kernel_rfl) rfl ⟨⟨_, rfl, ?_⟩, trivial⟩
      refine HP.drop_a rfl ?_
      first | refine HB.ga 39 rfl rfl ?_ | refine HB.na 39 rfl rfl ?_ | refine HB.nu 39 rfl rfl ?_
      first | refine HB.ga 40 rfl rfl ?_ | refine HB.na 40 rfl rfl ?_ | refine HB.nu 40 rfl rfl ?_
      refine HB.pa 41 rfl ?_
      refine HB.done (by (exact Keep.blk (b := bw) memD rfl (Keep.blk (b := bw) memD rfl (Keep.blk (b := bf) memD rfl (Keep.blk (b := bf) memD rfl Keep.nil))))) (by kernel_rfl) ?_
      refine hwKU ?_
      exact HX.cut () trivial esA (Hs.refl _)
    | false =>
      have hnb : (!k.off) = true := by rw [hoff]; rfl
      refine HC.anyC ([(⟨bw, 0, none⟩, .pointer (some ⟨bd, 0, none⟩)), (⟨bw, 2, none⟩, .pointer (some ⟨bf, 0, none⟩)), (⟨bf, 1, none⟩, .slice la k.pend.length lc), (⟨bf, 2, none⟩, .bool k.off)]) rfl ?_
      refine HB.pa 0 rfl ?_
      refine HB.pa 1 rfl ?_
      refine HB.pa 2 rfl ?_
      first | refine HB.ga 3 rfl rfl ?_ | refine HB.na 3 rfl rfl ?_ | refine HB.nu 3 rfl rfl ?_
      refine HB.ga 4 rfl rfl ?_ (hp := POp.nilCheck rfl)
      first | refine HB.ga 5 rfl rfl ?_ | refine HB.na 5 rfl rfl ?_ | refine HB.nu 5 rfl rfl ?_
      refine HB.ldg 6 rfl rfl rfl memD ?_
      first | refine HB.ga 8 rfl rfl ?_ | refine HB.na 8 rfl rfl ?_ | refine HB.nu 8 rfl rfl ?_
      refine HB.ga 9 rfl rfl ?_ (hp := POp.nilCheck rfl)
      first | refine HB.ga 10 rfl rfl ?_ | refine HB.na 10 rfl rfl ?_ | refine HB.nu 10 rfl rfl ?_
      refine HB.ldg 11 rfl rfl rfl memD ?_
      refine HB.ga 12 rfl rfl ?_ (hp := POp.nilCheck rfl)
      first | refine HB.ga 13 rfl rfl ?_ | refine HB.na 13 rfl rfl ?_ | refine HB.nu 13 rfl rfl ?_
      refine HB.ldg 14 rfl rfl rfl memD ?_
      first | refine HB.ga 15 rfl rfl ?_ | refine HB.na 15 rfl rfl ?_ | refine HB.nu 15 rfl rfl ?_
      refine HB.all (by (exact Keep.blk (b := bw) memD rfl (Keep.blk (b := bw) memD rfl (Keep.blk (b := bf) memD rfl (Keep.blk (b := bf) memD rfl Keep.nil))))) [7] (by kernel_rfl) rfl ⟨⟨_, rfl, ?_⟩, trivial⟩
      refine HP.one_a rfl ?_
      refine H1.call0 (vs := [_]) rfl rfl (fun w' hM => pending_fn (hM.blk memA)) ?_
      apply HB.fold
      first | refine HB.ga 16 rfl rfl ?_ | refine HB.na 16 rfl rfl ?_ | refine HB.nu 16 rfl rfl ?_
      refine HB.pa 17 rfl ?_
      refine HB.pa 18 rfl ?_
      first | refine HB.ga 19 rfl rfl ?_ | refine HB.na 19 rfl rfl ?_ | refine HB.nu 19 rfl rfl ?_
      refine HB.ga 20 rfl rfl ?_ (hp := POp.nilCheck rfl)
      first | refine HB.ga 21 rfl rfl ?_ | refine HB.na 21 rfl rfl ?_ | refine HB.nu 21 rfl rfl ?_
      refine HB.ldg 22 rfl rfl rfl memD ?_
      refine HB.ga 23 rfl rfl ?_ (hp := POp.nilCheck rfl)
      first | refine HB.ga 24 rfl rfl ?_ | refine HB.na 24 rfl rfl ?_ | refine HB.nu 24 rfl rfl ?_
      refine HB.ldg 25 rfl rfl rfl memD ?_
      first | refine HB.ga 26 rfl rfl ?_ | refine HB.na 26 rfl rfl ?_ | refine HB.nu 26 rfl rfl ?_
      first | refine HB.ga 27 rfl rfl ?_ | refine HB.na 27 rfl rfl ?_ | refine HB.nu 27 rfl rfl ?_
      first | refine HB.ga 28 rfl rfl ?_ | refine HB.na 28 rfl rfl ?_ | refine HB.nu 28 rfl rfl ?_
      refine HB.ga 29 rfl rfl ?_ (hp := POp.nilCheck rfl)
      first | refine HB.ga 30 rfl rfl ?_ | refine HB.na 30 rfl rfl ?_ | refine HB.nu 30 rfl rfl ?_
      refine HB.ldg 31 rfl rfl rfl memD ?_
      first | refine HB.ga 33 rfl rfl ?_ | refine HB.na 33 rfl rfl ?_ | refine HB.nu 33 rfl rfl ?_
      refine HB.ga 34 rfl rfl ?_ (hp := POp.nilCheck rfl)
      first | refine HB.ga 35 rfl rfl ?_ | refine HB.na 35 rfl rfl ?_ | refine HB.nu 35 rfl rfl ?_
      refine HB.ldg 36 rfl rfl rfl memD ?_
      refine HB.all (by (exact Keep.blk (b := bw) memD rfl (Keep.blk (b := bw) memD rfl (Keep.blk (b := bf) memD rfl (Keep.blk (b := bf) memD rfl Keep.nil))))) [32] (by kernel_rfl) rfl ⟨⟨_, rfl, ?_⟩, trivial⟩
      refine HP.one_a rfl ?_
      refine H1.callx (u := .string (mkBA k.vis)) (vs := [_]) rfl rfl (fun w' hM => by
          have := content26_fn (hM.blk (b := bd) memA) (hM.blk (b := b2) memA) hI.ok
          rw [hoff] at this
          exact this) ?_
      apply HB.fold
      refine HB.all (by (exact Keep.blk (b := bw) memD rfl (Keep.blk (b := bw) memD rfl (Keep.blk (b := bf) memD rfl (Keep.blk (b := bf) memD rfl Keep.nil))))) [37] (by kernel_rfl) rfl ⟨⟨_, rfl, ?_⟩, trivial⟩
      refine HP.one_a rfl ?_
      refine H1.callk (α := Option Addr × Nat) (V := fun z => .slice z.1 k.dur.length z.2) (I := fun _ => True) (H' := fun z => A.grow 5 1 z.1 z.2 k.dur.length (ub (visL k.pend k.dur)) :: rfH bf sa sc la lc k (A.blk bw (wdC bd bf (jpO bj o) (jpO bk o)) 32 :: dkH bd b1 b2 pa pc k R)) (vs := [_]) rfl rfl (fun w' hM => visible_fn (hM.sub (Hs.cons (Pick.there (Pick.there (Pick.there (Pick.there (Pick.there Pick.here))))) (Hs.cons (Pick.there (Pick.there (Pick.there (Pick.there (Pick.there Pick.here))))) (Hs.cons (Pick.there (Pick.there (Pick.there (Pick.there (Pick.there Pick.here))))) (Hs.refl _))))) hI.ok hI.fit (by omega)) ?_
      rintro ⟨a3, c3⟩ -
      dsimp only
      rw [← hI.vis]
      refine HN.openg2 (e := 5) (sz := 1) (a := a3) (c := c3) (n := k.dur.length) (xs := ub k.vis) (.head _) (by omega) ?_
      rintro g rfl
      apply HB.fold
      refine HB.all (by (exact Keep.blk (b := bw) memD rfl (Keep.blk (b := bw) memD rfl (Keep.blk (b := bf) memD rfl (Keep.blk (b := bf) memD rfl Keep.nil))))) [38] (by kernel_rfl) rfl ⟨⟨_, rfl, ?_⟩, trivial⟩
      refine HP.one_a rfl ?_
      refine H1.bstrC (ys := k.vis) rfl (by omega) (fun w' hM => Mm.gr (e := 5) (a := some ⟨g, 0, none⟩) (c := c3) hM (.head _)) rfl ?_
      apply HB.fold
      first | refine HB.ga 39 rfl rfl ?_ | refine HB.na 39 rfl rfl ?_ | refine HB.nu 39 rfl rfl ?_
      first | refine HB.ga 40 rfl rfl ?_ | refine HB.na 40 rfl rfl ?_ | refine HB.nu 40 rfl rfl ?_
      refine HB.pa 41 rfl ?_
      refine HB.done (by (exact Keep.blk (b := bw) memD rfl (Keep.blk (b := bw) memD rfl (Keep.blk (b := bf) memD rfl (Keep.blk (b := bf) memD rfl Keep.nil))))) (by kernel_rfl) ?_
      refine hwKU ?_
      rw [show decide (¬ mkBA k.vis = ⟨k.vis.toArray⟩) = false from decide_eq_false fun h => h rfl]
      exact HX.cut () trivial esA (Hs.cons (Pick.there (Pick.there (Pick.there (Pick.there Pick.here)))) (Hs.cons (Pick.there (Pick.there (Pick.there (Pick.there Pick.here)))) (Hs.cons (Pick.there (Pick.there (Pick.there (Pick.there Pick.here)))) (Hs.cons (Pick.there (Pick.there (Pick.there (Pick.there Pick.here)))) (Hs.cons (Pick.there (Pick.there (Pick.there (Pick.there Pick.here)))) (Hs.cons (Pick.there Pick.here) (Hs.cons (Pick.there Pick.here) (Hs.cons (Pick.there Pick.here) (Hs.refl _).skip))))))))
  rintro - -
  refine hwKU ?_
  refine HC.cut (α := Unit) (fun _ => [(1, .slice (some ⟨b, off, none⟩) ops.length c0), (5, .bool true), (6, .pointer (some ⟨bw, 0, none⟩)), (8, zv (i : Int)), (109, .bool false)])
    (fun _ => stH bw bd b1 b2 bf ⟨bj, bk, (a, c), (pa, pc), (ja, jc), (sa, sc), (la, lc)⟩ k o []) (fun _ => True) ?_ ?_
  · cases o with
    | none =>
      obtain rfl : R = [] := hR'
      refine HC.anyC ([(⟨bw, 1, none⟩, .pointer none)]) rfl ?_
      refine HB.pa 0 rfl ?_
      refine HB.pa 1 rfl ?_ (POp.nilCheck rfl)
      refine HB.pa 2 rfl ?_
      refine HB.ld 3 rfl rfl memD ?_
      refine HB.pa 4 rfl ?_ (POp.pne0 rfl rfl)
      refine HB.pa 5 rfl ?_
      first | refine HB.ga 6 rfl rfl ?_ | refine HB.na 6 rfl rfl ?_ | refine HB.nu 6 rfl rfl ?_
      first | refine HB.ga 7 rfl rfl ?_ | refine HB.na 7 rfl rfl ?_ | refine HB.nu 7 rfl rfl ?_
      first | refine HB.ga 8 rfl rfl ?_ | refine HB.na 8 rfl rfl ?_ | refine HB.nu 8 rfl rfl ?_
      first | refine HB.ga 9 rfl rfl ?_ | refine HB.na 9 rfl rfl ?_ | refine HB.nu 9 rfl rfl ?_
      first | refine HB.ga 11 rfl rfl ?_ | refine HB.na 11 rfl rfl ?_ | refine HB.nu 11 rfl rfl ?_
      first | refine HB.ga 12 rfl rfl ?_ | refine HB.na 12 rfl rfl ?_ | refine HB.nu 12 rfl rfl ?_
      first | refine HB.ga 13 rfl rfl ?_ | refine HB.na 13 rfl rfl ?_ | refine HB.nu 13 rfl rfl ?_
      first | refine HB.ga 14 rfl rfl ?_ | refine HB.na 14 rfl rfl ?_ | refine HB.nu 14 rfl rfl ?_
      first | refine HB.ga 15 rfl rfl ?_ | refine HB.na 15 rfl rfl ?_ | refine HB.nu 15 rfl rfl ?_
      first | refine HB.ga 16 rfl rfl ?_ | refine HB.na 16 rfl rfl ?_ | refine HB.nu 16 rfl rfl ?_
      first | refine HB.ga 17 rfl rfl ?_ | refine HB.na 17 rfl rfl ?_ | refine HB.nu 17 rfl rfl ?_
      refine HB.all (by (exact Keep.blk (b := bw) memD rfl Keep.nil)) [10] (by kernel_rfl) rfl ⟨⟨_, rfl, ?_⟩, trivial⟩
      refine HP.drop_a rfl ?_
      refine HB.all (by (exact Keep.blk (b := bw) memD rfl Keep.nil)) [18] (by kernel_rfl) rfl ⟨⟨_, rfl, ?_⟩, trivial⟩
      refine HP.drop_a rfl ?_
      first | refine HB.ga 19 rfl rfl ?_ | refine HB.na 19 rfl rfl ?_ | refine HB.nu 19 rfl rfl ?_
      first | refine HB.ga 20 rfl rfl ?_ | refine HB.na 20 rfl rfl ?_ | refine HB.nu 20 rfl rfl ?_
      first | refine HB.ga 21 rfl rfl ?_ | refine HB.na 21 rfl rfl ?_ | refine HB.nu 21 rfl rfl ?_
      first | refine HB.ga 22 rfl rfl ?_ | refine HB.na 22 rfl rfl ?_ | refine HB.nu 22 rfl rfl ?_
      first | refine HB.ga 23 rfl rfl ?_ | refine HB.na 23 rfl rfl ?_ | refine HB.nu 23 rfl rfl ?_
      first | refine HB.ga 24 rfl rfl ?_ | refine HB.na 24 rfl rfl ?_ | refine HB.nu 24 rfl rfl ?_
      first | refine HB.ga 26 rfl rfl ?_ | refine HB.na 26 rfl rfl ?_ | refine HB.nu 26 rfl rfl ?_
      first | refine HB.ga 27 rfl rfl ?_ | refine HB.na 27 rfl rfl ?_ | refine HB.nu 27 rfl rfl ?_
      first | refine HB.ga 28 rfl rfl ?_ | refine HB.na 28 rfl rfl ?_ | refine HB.nu 28 rfl rfl ?_
      first | refine HB.ga 29 rfl rfl ?_ | refine HB.na 29 rfl rfl ?_ | refine HB.nu 29 rfl rfl ?_
      refine HB.all (by (exact Keep.blk (b := bw) memD rfl Keep.nil)) [25] (by kernel_rfl) rfl ⟨⟨_, rfl, ?_⟩, trivial⟩
      refine HP.drop_u rfl ?_
      refine HB.all (by (exact Keep.blk (b := bw) memD rfl Keep.nil)) [30] (by kernel_rfl) rfl ⟨⟨_, rfl, ?_⟩, trivial⟩
      refine HP.drop_u rfl ?_
      first | refine HB.ga 31 rfl rfl ?_ | refine HB.na 31 rfl rfl ?_ | refine HB.nu 31 rfl rfl ?_
      first | refine HB.ga 32 rfl rfl ?_ | refine HB.na 32 rfl rfl ?_ | refine HB.nu 32 rfl rfl ?_
      refine HB.pa 33 rfl ?_
      refine HB.done (by (exact Keep.blk (b := bw) memD rfl Keep.nil)) (by kernel_rfl) ?_
      refine hwKU ?_
      exact HX.cut () trivial esA (Hs.refl _)
    | some x =>
      obtain ⟨t, br⟩ := x
      obtain rfl : R = A.blk bj (tpC a c t (jnR bd br)) 74 :: A.grow 9 1 a c t.recs.length (strs t.recs) :: A.blk bk (rjC bf ja jc t br) 43 :: A.grow 9 1 ja jc t.recs.length (strs t.recs) :: [] := hR'
      obtain ⟨ht1, ht2⟩ := hI.t t br rfl
      have htl := ht1.len
      dsimp only [jpO]
      refine HC.anyC ([(⟨bw, 1, none⟩, .pointer (some ⟨bj, 0, none⟩)), (⟨bw, 3, none⟩, .pointer (some ⟨bk, 0, none⟩)), (⟨bk, 1, none⟩, .slice ja t.recs.length jc)]) rfl ?_
      refine HB.pa 0 rfl ?_
      refine HB.pa 1 rfl ?_ (POp.nilCheck rfl)
      refine HB.pa 2 rfl ?_
      refine HB.ld 3 rfl rfl memD ?_
      refine HB.pa 4 rfl ?_ (POp.pneN rfl rfl)
      refine HB.pa 5 rfl ?_
      first | refine HB.ga 6 rfl rfl ?_ | refine HB.na 6 rfl rfl ?_ | refine HB.nu 6 rfl rfl ?_
      refine HB.ga 7 rfl rfl ?_ (hp := POp.nilCheck rfl)
      first | refine HB.ga 8 rfl rfl ?_ | refine HB.na 8 rfl rfl ?_ | refine HB.nu 8 rfl rfl ?_
      refine HB.ldg 9 rfl rfl rfl memD ?_
      first | refine HB.ga 11 rfl rfl ?_ | refine HB.na 11 rfl rfl ?_ | refine HB.nu 11 rfl rfl ?_
      refine HB.ga 12 rfl rfl ?_ (hp := POp.nilCheck rfl)
      first | refine HB.ga 13 rfl rfl ?_ | refine HB.na 13 rfl rfl ?_ | refine HB.nu 13 rfl rfl ?_
      refine HB.ldg 14 rfl rfl rfl memD ?_
      refine HB.ga 15 rfl rfl ?_ (hp := POp.nilCheck rfl)
      first | refine HB.ga 16 rfl rfl ?_ | refine HB.na 16 rfl rfl ?_ | refine HB.nu 16 rfl rfl ?_
      refine HB.ldg 17 rfl rfl rfl memD ?_
      refine HB.all (by (exact Keep.blk (b := bw) memD rfl (Keep.blk (b := bw) memD rfl (Keep.blk (b := bk) memD rfl Keep.nil)))) [10] (by kernel_rfl) rfl ⟨⟨_, rfl, ?_⟩, trivial⟩
      refine HP.one_a rfl ?_
      refine H1.callz (α := Option Addr × Nat) (V := fun z => .slice z.1 t.recs.length z.2) (Hn := fun z => [A.grow 9 1 z.1 z.2 t.recs.length (strs t.recs)]) (I := fun _ => True) (vs := [_]) rfl rfl (fun w' hM => records2_fn (bj := bj) (bd := bd) (a := a) (c := c) (t := t) (br := br) (hM.blk memA) (Mm.gr (e := 9) (a := a) (c := c) hM memA) (by omega)) ?_
      rintro ⟨ax, cx⟩ -
      dsimp only
      apply HB.fold
      refine HB.all (by (exact Keep.blk (b := bw) memD rfl (Keep.blk (b := bw) memD rfl (Keep.blk (b := bk) memD rfl Keep.nil)))) [18] (by kernel_rfl) rfl ⟨⟨_, rfl, ?_⟩, trivial⟩
      refine HP.one_a rfl ?_
      refine H1.callx (u := .bool true) (vs := [_, _]) rfl rfl (fun w' hM => by
          have := same26_fn (.slice ax t.recs.length cx) (.slice ja t.recs.length jc) t.recs t.recs (by omega) (by omega) w' (Mm.gr (e := 9) (a := ax) (c := cx) hM (.head _)) (Mm.gr (e := 9) (a := ja) (c := jc) hM memA)
          rw [decide_eq_true rfl] at this
          exact this) ?_
      apply HB.fold
      first | refine HB.ga 19 rfl rfl ?_ | refine HB.na 19 rfl rfl ?_ | refine HB.nu 19 rfl rfl ?_
      first | refine HB.ga 20 rfl rfl ?_ | refine HB.na 20 rfl rfl ?_ | refine HB.nu 20 rfl rfl ?_
      first | refine HB.ga 21 rfl rfl ?_ | refine HB.na 21 rfl rfl ?_ | refine HB.nu 21 rfl rfl ?_
      refine HB.ga 22 rfl rfl ?_ (hp := POp.nilCheck rfl)
      first | refine HB.ga 23 rfl rfl ?_ | refine HB.na 23 rfl rfl ?_ | refine HB.nu 23 rfl rfl ?_
      refine HB.ldg 24 rfl rfl rfl memD ?_
      first | refine HB.ga 26 rfl rfl ?_ | refine HB.na 26 rfl rfl ?_ | refine HB.nu 26 rfl rfl ?_
      refine HB.ga 27 rfl rfl ?_ (hp := POp.nilCheck rfl)
      first | refine HB.ga 28 rfl rfl ?_ | refine HB.na 28 rfl rfl ?_ | refine HB.nu 28 rfl rfl ?_
      refine HB.ldg 29 rfl rfl rfl memD ?_
      refine HB.all (by (exact Keep.blk (b := bw) memD rfl (Keep.blk (b := bw) memD rfl (Keep.blk (b := bk) memD rfl Keep.nil)))) [25] (by kernel_rfl) rfl ⟨⟨_, rfl, ?_⟩, trivial⟩
      refine HP.one_a rfl ?_
      refine H1.callx (vs := [_]) rfl rfl (fun w' hM => room2_fn (bj := bj) (bd := bd) (b1 := b1) (b2 := b2) (a := a) (c := c) (pa := pa) (pc := pc) (t := t) (k := k) (br := br) (hM.blk memA) (hM.blk memA) hI.ok (by omega)) ?_
      apply HB.fold
      refine HB.all (by (exact Keep.blk (b := bw) memD rfl (Keep.blk (b := bw) memD rfl (Keep.blk (b := bk) memD rfl Keep.nil)))) [30] (by kernel_rfl) rfl ⟨⟨_, rfl, ?_⟩, trivial⟩
      refine HP.one_a rfl ?_
      refine H1.callk (α := Unit) (V := fun _ => zv ((k.dur.length : Int) - (t.size : Int))) (I := fun _ => True) (H' := fun _ => rjH bk bf ja jc sa sc la lc t k br (A.grow 9 1 ax cx t.recs.length (strs t.recs) :: A.blk bw (wdC bd bf (some ⟨bj, 0, none⟩) (some ⟨bk, 0, none⟩)) 32 :: jnlH bj bd b1 b2 a c pa pc ⟨t, k, br⟩ [])) (vs := [_]) rfl rfl (fun w' hM => rroom_fn (hM.sub (by repeat (first | exact Hs.nil _ | (refine Hs.cons pickA ?_)))) hI.ok (by omega)) ?_
      rintro - -
      apply HB.fold
      first | refine HB.ga 31 rfl rfl ?_ | refine HB.na 31 rfl rfl ?_ | refine HB.nu 31 rfl rfl ?_
      first | refine HB.ga 32 rfl rfl ?_ | refine HB.na 32 rfl rfl ?_ | refine HB.nu 32 rfl rfl ?_
      refine HB.pa 33 rfl ?_
      refine HB.done (by (exact Keep.blk (b := bw) memD rfl (Keep.blk (b := bw) memD rfl (Keep.blk (b := bk) memD rfl Keep.nil)))) (by kernel_rfl) ?_
      refine hwKU ?_
      rw [show decide (¬ (k.dur.length : Int) - (t.size : Int) = (k.dur.length : Int) - (t.size : Int)) = false from decide_eq_false fun h => h rfl]
      exact HX.cut () trivial esA (by repeat (first | exact Hs.nil _ | (refine Hs.cons pickA ?_)))
  rintro - -
  refine hwKU ?_
  exact HX.again (i + 1, ⟨bj, bk, (a, c), (pa, pc), (ja, jc), (sa, sc), (la, lc)⟩, k, o) ⟨hlt, hl25, hI⟩ (by show 25 - (i + 1) < 25 - i; omega) esA (Hs.refl _)
end Go.Sx

