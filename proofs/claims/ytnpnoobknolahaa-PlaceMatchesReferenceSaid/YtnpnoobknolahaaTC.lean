/- Chapter 18: the inputs of the laws: Made, made. -/
import Derived.Test.YtnpnoobknolahaaTB
namespace Go.Sx
open Go Go.Proofs Go.RowKit
def mkSite (X : List St) (i : Nat) : St := if i < X.length then ⟨pkI (stAt X i).p 6, pkI (stAt X i).r 4, pkI (stAt X i).v 5, pkI (stAt X i).l 3⟩ else ⟨(i : Int) % 6, (i : Int) % 6, (i : Int) % 6, (i : Int) % 6⟩
def madeN (X : List St) : Nat := max 1 (min X.length 7)
def madeU (X : List St) (n : Nat) : List St := (List.range n).map (mkSite X)
def madeS (X : List St) : List St := madeU X (madeN X)
def madeD (y : Di) : Di := ⟨⟨pkI y.b.p 3, pkI y.b.r 2, pkI y.b.v 2, pkI y.b.l 2⟩, pkI y.liars 3⟩
theorem madeU_len (X : List St) (n : Nat) : (madeU X n).length = n := by simp [madeU]
theorem madeS_len (X : List St) : (madeS X).length = madeN X := madeU_len X _
theorem madeN_7 (X : List St) : 1 ≤ madeN X ∧ madeN X ≤ 7 := by unfold madeN; omega
theorem madeU_step (X : List St) (n : Nat) : madeU X (n + 1) = madeU X n ++ [mkSite X n] := by unfold madeU; rw [List.range_succ, List.map_append]; rfl
def St.i64 (s : St) : Prop := i64R s.p ∧ i64R s.r ∧ i64R s.v ∧ i64R s.l
theorem mkSite_in (X : List St) (i q : Nat) : 0 ≤ (mkSite X i).at q ∧ (mkSite X i).at q ≤ 5 := by
  unfold mkSite
  split
  · have h0 := pkI_lt (stAt X i).p (n := 6) (by decide)
    have h1 := pkI_lt (stAt X i).r (n := 4) (by decide)
    have h2 := pkI_lt (stAt X i).v (n := 5) (by decide)
    have h3 := pkI_lt (stAt X i).l (n := 3) (by decide)
    match q with
    | 0 => show 0 ≤ pkI (stAt X i).p 6 ∧ pkI (stAt X i).p 6 ≤ 5; omega
    | 1 => show 0 ≤ pkI (stAt X i).r 4 ∧ pkI (stAt X i).r 4 ≤ 5; omega
    | 2 => show 0 ≤ pkI (stAt X i).v 5 ∧ pkI (stAt X i).v 5 ≤ 5; omega
    | _ + 3 => show 0 ≤ pkI (stAt X i).l 3 ∧ pkI (stAt X i).l 3 ≤ 5; omega
  · match q with
    | 0 => show 0 ≤ (i : Int) % 6 ∧ (i : Int) % 6 ≤ 5; omega
    | 1 => show 0 ≤ (i : Int) % 6 ∧ (i : Int) % 6 ≤ 5; omega
    | 2 => show 0 ≤ (i : Int) % 6 ∧ (i : Int) % 6 ≤ 5; omega
    | _ + 3 => show 0 ≤ (i : Int) % 6 ∧ (i : Int) % 6 ≤ 5; omega
theorem within_of {s : St} {hi : Int} (h : ∀ q, 0 ≤ s.at q ∧ s.at q ≤ hi) : s.within hi = true := by
  unfold St.within
  rw [decide_eq_true_eq]
  exact ⟨h 0, h 1, h 2, h 3⟩
theorem madeD_in (y : Di) : (∀ q, 0 ≤ (madeD y).b.at q ∧ (madeD y).b.at q ≤ 2) ∧ 0 ≤ (madeD y).liars ∧ (madeD y).liars ≤ 2 := by
  have h0 := pkI_lt y.b.p (n := 3) (by decide)
  have h1 := pkI_lt y.b.r (n := 2) (by decide)
  have h2 := pkI_lt y.b.v (n := 2) (by decide)
  have h3 := pkI_lt y.b.l (n := 2) (by decide)
  have h4 := pkI_lt y.liars (n := 3) (by decide)
  refine ⟨fun q => ?_, h4.1, by show pkI y.liars 3 ≤ 2; omega⟩
  match q with
  | 0 => show 0 ≤ pkI y.b.p 3 ∧ pkI y.b.p 3 ≤ 2; omega
  | 1 => show 0 ≤ pkI y.b.r 2 ∧ pkI y.b.r 2 ≤ 2; omega
  | 2 => show 0 ≤ pkI y.b.v 2 ∧ pkI y.b.v 2 ≤ 2; omega
  | _ + 3 => show 0 ≤ pkI y.b.l 2 ∧ pkI y.b.l 2 ≤ 2; omega
theorem madeV (X : List St) (y : Di) : pvalid (madeS X) (madeD y) = true := by
  have h1 := madeN_7 X
  have h2 := madeD_in y
  unfold pvalid
  rw [madeS_len, decide_eq_true (by omega : 1 ≤ madeN X ∧ madeN X ≤ 9), within_of (fun q => by have := h2.1 q; omega), decide_eq_true (by omega : 0 ≤ (madeD y).liars ∧ (madeD y).liars ≤ 4)]
  rw [List.all_eq_true.2 fun s hs => ?_]
  · rfl
  · obtain ⟨i, -, rfl⟩ := List.mem_map.1 hs
    exact within_of (mkSite_in X i)
attribute [local irreducible] WC WL WX POp Then Again Fn NX W1 WA WO QL RP RA Yld LoopAt HC HL HX HN H1 HA HO HQ HB HP A.blk A.grow A.rd A.obj A.mp AgainH CutH
attribute [local irreducible] A.mq A.mit A.dfrs A.loop mapsA A.land A.pure chk
set_option maxHeartbeats 1000000 in
theorem kMade_fn (v : Value) (X : List St) (y : Di) (hX : X.length ≤ 9223372036854775807) (hxb : ∀ s ∈ X, s.i64) (hyb : y.b.i64 ∧ i64R y.liars) (w : World) (hT : RdS w v X) :
    Fn Try.prog 25 #[v, .agg y.cells.toArray] w fun u w' => ∃ z : Option Addr × Nat, True ∧ u = .tuple #[.slice z.1 (madeS X).length z.2, .agg (madeD y).cells.toArray] ∧ Mm w [A.grow 54 4 z.1 z.2 (madeS X).length ((madeS X).flatMap sc)] w' := by
  obtain ⟨a, c, rfl, hc⟩ := hT.shape
  obtain ⟨⟨⟨hy0, hy0'⟩, ⟨hy1, hy1'⟩, ⟨hy2, hy2'⟩, ⟨hy3, hy3'⟩⟩, ⟨hy4, hy4'⟩⟩ := hyb
  have hN := madeN_7 X
  have hNe : max 1 (min (X.length : Int) 7) = (madeN X : Int) := by unfold madeN; omega
  refine enterH (l := [_, _]) rfl Try.ntmps25 rfl ?_
  repeat' (first | apply HL.fold | apply HA.fold | apply HL.nil | apply HX.n_then | apply HC.seq | apply HC.region | refine HL.pa ?_ | refine HL.ga rfl ?_ | refine HL.na rfl ?_ | refine HL.nu rfl rfl ?_ | apply HC.block | apply HC.skip | apply HC.exit | apply HC.ret | apply HX.e_block | refine HX.e_other rfl ?_ | apply HX.e_then | apply HX.e_again | apply HX.n_block | apply HX.r_then | apply HX.r_block | apply HX.r_again | refine HC.cond_yes rfl ?_ | refine HC.cond_no rfl ?_ | refine HL.one (H1.ldb rfl memA rfl rfl ?_) | refine HC.cond rfl (fun hc => ?_) (fun hc => ?_) | refine HC.cond_b rfl (fun hc => ?_) (fun hc => ?_))
  refine HL.one (H1.boxAgg (cs := y.cells) rfl rfl (fun b3 => ?_))
  repeat' (first | apply HL.fold | apply HA.fold | apply HL.nil | apply HX.n_then | apply HC.seq | apply HC.region | refine HL.pa ?_ | refine HL.ga rfl ?_ | refine HL.na rfl ?_ | refine HL.nu rfl rfl ?_ | apply HC.block | apply HC.skip | apply HC.exit | apply HC.ret | apply HX.e_block | refine HX.e_other rfl ?_ | apply HX.e_then | apply HX.e_again | apply HX.n_block | apply HX.r_then | apply HX.r_block | apply HX.r_again | refine HC.cond_yes rfl ?_ | refine HC.cond_no rfl ?_ | refine HL.one (H1.ldb rfl memA rfl rfl ?_) | refine HC.cond rfl (fun hc => ?_) (fun hc => ?_) | refine HC.cond_b rfl (fun hc => ?_) (fun hc => ?_))
  refine HL.one (H1.alloc (cs := [zv 0, zv 0, zv 0, zv 0, zv 0]) rfl rfl (fun b5 => ?_))
  repeat' (first | apply HL.fold | apply HA.fold | apply HL.nil | apply HX.n_then | apply HC.seq | apply HC.region | refine HL.pa ?_ | refine HL.ga rfl ?_ | refine HL.na rfl ?_ | refine HL.nu rfl rfl ?_ | apply HC.skip | apply HC.exit | apply HC.ret | apply HX.e_block | refine HX.e_other rfl ?_ | apply HX.e_then | apply HX.e_again | apply HX.n_block | apply HX.r_then | apply HX.r_block | apply HX.r_again | refine HC.cond_yes rfl ?_ | refine HC.cond_no rfl ?_ | refine HL.one (H1.ldb rfl memA rfl rfl ?_) | refine HC.cond rfl (fun hc => ?_) (fun hc => ?_) | refine HC.cond_b rfl (fun hc => ?_) (fun hc => ?_))
  refine HC.grow0 54 4 ?_
  repeat' (first | apply HL.fold | apply HA.fold | apply HL.nil | apply HX.n_then | apply HC.seq | apply HC.region | refine HL.pa ?_ | refine HL.ga rfl ?_ | refine HL.na rfl ?_ | refine HL.nu rfl rfl ?_ | apply HC.skip | apply HC.exit | apply HC.ret | apply HX.e_block | refine HX.e_other rfl ?_ | apply HX.e_then | apply HX.e_again | apply HX.n_block | apply HX.r_then | apply HX.r_block | apply HX.r_again | refine HC.cond_yes rfl ?_ | refine HC.cond_no rfl ?_ | refine HL.one (H1.ldb rfl memA rfl rfl ?_) | refine HC.cond rfl (fun hc => ?_) (fun hc => ?_) | refine HC.cond_b rfl (fun hc => ?_) (fun hc => ?_))
  refine HC.cut (α := Option Addr × Nat) (fun z => [(3, .pointer (some ⟨b3, 0, none⟩)), (5, .pointer (some ⟨b5, 0, none⟩)), (6, .slice z.1 (madeN X) z.2)]) (fun z => [A.grow 54 4 z.1 z.2 (madeN X) ((madeS X).flatMap sc), A.blk b5 [zv 0, zv 0, zv 0, zv 0, zv 0] 24, A.blk b3 y.cells 27]) (fun _ => True) ?_ ?_
  · repeat' (first | apply HL.fold | apply HA.fold | apply HL.nil | apply HX.n_then | apply HC.seq | apply HC.region | refine HL.pa ?_ | refine HL.ga rfl ?_ | refine HL.na rfl ?_ | refine HL.nu rfl rfl ?_ | apply HC.block | apply HC.skip | apply HC.exit | apply HC.ret | apply HX.e_block | refine HX.e_other rfl ?_ | apply HX.e_then | apply HX.e_again | apply HX.n_block | apply HX.r_then | apply HX.r_block | apply HX.r_again | refine HC.cond_yes rfl ?_ | refine HC.cond_no rfl ?_ | refine HL.one (H1.ldb rfl memA rfl rfl ?_) | refine HC.cond rfl (fun hc => ?_) (fun hc => ?_) | refine HC.cond_b rfl (fun hc => ?_) (fun hc => ?_))
    refine HC.loop (α := Nat × Option Addr × Nat) (fun z => [(0, .slice a X.length c), (3, .pointer (some ⟨b3, 0, none⟩)), (5, .pointer (some ⟨b5, 0, none⟩)), (6, .slice z.2.1 z.1 z.2.2), (7, zv (z.1 : Int))])
      (fun z => [A.grow 54 4 z.2.1 z.2.2 z.1 ((madeU X z.1).flatMap sc), A.blk b5 [zv 0, zv 0, zv 0, zv 0, zv 0] 24, A.blk b3 y.cells 27]) (fun z => z.1 ≤ madeN X) (fun z => madeN X - z.1) (0, none, 0) (Nat.zero_le _) esA (by repeat (first | exact Hs.nil _ | (refine Hs.cons pickA ?_))) ?_
    rintro ⟨i, ar, cr⟩ hi
    dsimp only at hi ⊢
    by_cases hlt : i < madeN X
    rotate_left
    · obtain rfl : i = madeN X := by omega
      have hlt' : ¬ (madeN X : Int) < max 1 (min (X.length : Int) 7) := by omega
      repeat' (first | apply HL.fold | apply HA.fold | apply HL.nil | apply HX.n_then | apply HC.seq | apply HC.region | refine HL.pa ?_ | refine HL.ga rfl ?_ | refine HL.na rfl ?_ | refine HL.nu rfl rfl ?_ | apply HC.block | apply HC.skip | apply HC.exit | apply HC.ret | apply HX.e_block | refine HX.e_other rfl ?_ | apply HX.e_then | apply HX.e_again | apply HX.n_block | apply HX.r_then | apply HX.r_block | apply HX.r_again | refine HC.cond_yes rfl ?_ | refine HC.cond_no rfl ?_ | refine HL.one (H1.ldb rfl memA rfl rfl ?_) | refine HC.cond rfl (fun hc => ?_) (fun hc => ?_) | refine HC.cond_b rfl (fun hc => ?_) (fun hc => ?_))
      exact HX.cut (ar, cr) trivial esA (by repeat (first | exact Hs.nil _ | (refine Hs.cons pickA ?_)))
    have hlt' : (i : Int) < max 1 (min (X.length : Int) 7) := by omega
    repeat' (first | apply HL.fold | apply HA.fold | apply HL.nil | apply HX.n_then | apply HC.seq | apply HC.region | refine HL.pa ?_ | refine HL.ga rfl ?_ | refine HL.na rfl ?_ | refine HL.nu rfl rfl ?_ | apply HC.block | apply HC.skip | apply HC.exit | apply HC.ret | apply HX.e_block | refine HX.e_other rfl ?_ | apply HX.e_then | apply HX.e_again | apply HX.n_block | apply HX.r_then | apply HX.r_block | apply HX.r_again | refine HC.cond_yes rfl ?_ | refine HC.cond_no rfl ?_ | refine HL.one (H1.ldb rfl memA rfl rfl ?_) | refine HC.cond rfl (fun hc => ?_) (fun hc => ?_) | refine HC.cond_b rfl (fun hc => ?_) (fun hc => ?_))
    refine HL.build (cs := sc ⟨(i : Int) % 6, (i : Int) % 6, (i : Int) % 6, (i : Int) % 6⟩) rfl rfl rfl ?_
    refine HL.one (H1.alloc (cs := [zv 0, zv 0, zv 0, zv 0]) rfl rfl (fun b8 => ?_))
    repeat' (first | apply HL.fold | apply HA.fold | apply HL.nil | apply HX.n_then | apply HC.seq | apply HC.region | refine HL.pa ?_ | refine HL.ga rfl ?_ | refine HL.na rfl ?_ | refine HL.nu rfl rfl ?_ | apply HC.block | apply HC.skip | apply HC.exit | apply HC.ret | apply HX.e_block | refine HX.e_other rfl ?_ | apply HX.e_then | apply HX.e_again | apply HX.n_block | apply HX.r_then | apply HX.r_block | apply HX.r_again | refine HC.cond_yes rfl ?_ | refine HC.cond_no rfl ?_ | refine HL.one (H1.ldb rfl memA rfl rfl ?_) | refine HC.cond rfl (fun hc => ?_) (fun hc => ?_) | refine HC.cond_b rfl (fun hc => ?_) (fun hc => ?_))
    refine HL.one (H1.stAgg (cs := [zv 0, zv 0, zv 0, zv 0]) (vs := sc ⟨(i : Int) % 6, (i : Int) % 6, (i : Int) % 6, (i : Int) % 6⟩) rfl rfl rfl (sc_one _) rplA rfl ?_)
    repeat' (first | apply HL.fold | apply HA.fold | apply HL.nil | apply HX.n_then | apply HC.seq | apply HC.region | refine HL.pa ?_ | refine HL.ga rfl ?_ | refine HL.na rfl ?_ | refine HL.nu rfl rfl ?_ | apply HC.block | apply HC.skip | apply HC.exit | apply HC.ret | apply HX.e_block | refine HX.e_other rfl ?_ | apply HX.e_then | apply HX.e_again | apply HX.n_block | apply HX.r_then | apply HX.r_block | apply HX.r_again | refine HC.cond_yes rfl ?_ | refine HC.cond_no rfl ?_ | refine HL.one (H1.ldb rfl memA rfl rfl ?_))
    refine HC.cut (α := Unit) (fun _ => [(0, .slice a X.length c), (3, .pointer (some ⟨b3, 0, none⟩)), (5, .pointer (some ⟨b5, 0, none⟩)), (6, .slice ar i cr), (7, zv (i : Int)), (8, .pointer (some ⟨b8, 0, none⟩))])
      (fun _ => [A.blk b8 (sc (mkSite X i)) 54, A.grow 54 4 ar cr i ((madeU X i).flatMap sc), A.blk b5 [zv 0, zv 0, zv 0, zv 0, zv 0] 24, A.blk b3 y.cells 27]) (fun _ => True) ?_ ?_
    · by_cases hiX : i < X.length
      rotate_left
      · have hiX' : ¬ (i : Int) < (X.length : Int) := by omega
        have e1 : mkSite X i = ⟨(i : Int) % 6, (i : Int) % 6, (i : Int) % 6, (i : Int) % 6⟩ := if_neg hiX
        repeat' (first | apply HL.fold | apply HA.fold | apply HL.nil | apply HX.n_then | apply HC.seq | apply HC.region | refine HL.pa ?_ | refine HL.ga rfl ?_ | refine HL.na rfl ?_ | refine HL.nu rfl rfl ?_ | apply HC.block | apply HC.skip | apply HC.exit | apply HC.ret | apply HX.e_block | refine HX.e_other rfl ?_ | apply HX.e_then | apply HX.e_again | apply HX.n_block | apply HX.r_then | apply HX.r_block | apply HX.r_again | refine HC.cond_yes rfl ?_ | refine HC.cond_no rfl ?_ | refine HL.one (H1.ldb rfl memA rfl rfl ?_) | refine HC.cond rfl (fun hc => ?_) (fun hc => ?_) | refine HC.cond_b rfl (fun hc => ?_) (fun hc => ?_))
        refine HX.cut () trivial esA ?_
        rw [e1]
        repeat (first | exact Hs.nil _ | (refine Hs.cons pickA ?_))
      have hiX' : (i : Int) < (X.length : Int) := by omega
      have e1 : mkSite X i = ⟨pkI (stAt X i).p 6, pkI (stAt X i).r 4, pkI (stAt X i).v 5, pkI (stAt X i).l 3⟩ := if_pos hiX
      obtain ⟨b, off, rfl, hbl, hcl⟩ := hT.at (by intro e; rw [e] at hiX; exact absurd hiX (Nat.not_lt_zero _))
      obtain ⟨⟨h0, h0'⟩, ⟨h1, h1'⟩, ⟨h2, h2'⟩, ⟨h3, h3'⟩⟩ := hxb _ (stAt_mem hiX)
      repeat' (first | apply HL.fold | apply HA.fold | apply HL.nil | apply HX.n_then | apply HC.seq | apply HC.region | refine HL.pa ?_ | refine HL.ga rfl ?_ | refine HL.na rfl ?_ | refine HL.nu rfl rfl ?_ | apply HC.block | apply HC.skip | apply HC.exit | apply HC.ret | apply HX.e_block | refine HX.e_other rfl ?_ | apply HX.e_then | apply HX.e_again | apply HX.n_block | apply HX.r_then | apply HX.r_block | apply HX.r_again | refine HC.cond_yes rfl ?_ | refine HC.cond_no rfl ?_ | refine HL.one (H1.ldb rfl memA rfl rfl ?_) | refine HC.cond rfl (fun hc => ?_) (fun hc => ?_) | refine HC.cond_b rfl (fun hc => ?_) (fun hc => ?_))
      refine HC.anyC ([(⟨b, off + i * 4 + 0, none⟩, zv (stAt X i).p), (⟨b, off + i * 4 + 1, none⟩, zv (stAt X i).r), (⟨b, off + i * 4 + 2, none⟩, zv (stAt X i).v), (⟨b, off + i * 4 + 3, none⟩, zv (stAt X i).l)]) rfl ?_
      refine HB.pa 0 rfl ?_
      refine HB.pa 1 rfl ?_
      refine HB.pa 2 rfl ?_
      refine HB.pa 3 rfl ?_
      refine HB.ld 4 rfl rfl memD ?_
      refine HB.pa 6 rfl ?_
      refine HB.pa 7 rfl ?_
      refine HB.pa 8 rfl ?_
      refine HB.pa 9 rfl ?_
      refine HB.ld 10 rfl rfl memD ?_
      refine HB.pa 12 rfl ?_
      refine HB.pa 13 rfl ?_
      refine HB.pa 14 rfl ?_
      refine HB.pa 15 rfl ?_
      refine HB.ld 16 rfl rfl memD ?_
      refine HB.pa 18 rfl ?_
      refine HB.pa 19 rfl ?_
      refine HB.pa 20 rfl ?_
      refine HB.pa 21 rfl ?_
      refine HB.ld 22 rfl rfl memD ?_
      refine HB.all (by exact Keep.base (hcl i hiX 0 _ rfl) (Keep.base (hcl i hiX 1 _ rfl) (Keep.base (hcl i hiX 2 _ rfl) (Keep.base (hcl i hiX 3 _ rfl) Keep.nil)))) [5] (by kernel_rfl) rfl ⟨⟨_, rfl, ?_⟩, trivial⟩
      refine HP.one ?_
      refine H1.call0 (vs := [zv (stAt X i).p, zv 6]) rfl rfl (fun w' _ => kpick2_fn _ _ h0 h0' (by decide) w') ?_
      apply HB.fold
      refine HB.all (by exact Keep.base (hcl i hiX 0 _ rfl) (Keep.base (hcl i hiX 1 _ rfl) (Keep.base (hcl i hiX 2 _ rfl) (Keep.base (hcl i hiX 3 _ rfl) Keep.nil)))) [11] (by kernel_rfl) rfl ⟨⟨_, rfl, ?_⟩, trivial⟩
      refine HP.one ?_
      refine H1.call0 (vs := [zv (stAt X i).r, zv 4]) rfl rfl (fun w' _ => kpick2_fn _ _ h1 h1' (by decide) w') ?_
      apply HB.fold
      refine HB.all (by exact Keep.base (hcl i hiX 0 _ rfl) (Keep.base (hcl i hiX 1 _ rfl) (Keep.base (hcl i hiX 2 _ rfl) (Keep.base (hcl i hiX 3 _ rfl) Keep.nil)))) [17] (by kernel_rfl) rfl ⟨⟨_, rfl, ?_⟩, trivial⟩
      refine HP.one ?_
      refine H1.call0 (vs := [zv (stAt X i).v, zv 5]) rfl rfl (fun w' _ => kpick2_fn _ _ h2 h2' (by decide) w') ?_
      apply HB.fold
      refine HB.all (by exact Keep.base (hcl i hiX 0 _ rfl) (Keep.base (hcl i hiX 1 _ rfl) (Keep.base (hcl i hiX 2 _ rfl) (Keep.base (hcl i hiX 3 _ rfl) Keep.nil)))) [23] (by kernel_rfl) rfl ⟨⟨_, rfl, ?_⟩, trivial⟩
      refine HP.one ?_
      refine H1.call0 (vs := [zv (stAt X i).l, zv 3]) rfl rfl (fun w' _ => kpick2_fn _ _ h3 h3' (by decide) w') ?_
      apply HB.fold
      refine HB.pa (v := .agg (sc ⟨pkI (stAt X i).p 6, pkI (stAt X i).r 4, pkI (stAt X i).v 5, pkI (stAt X i).l 3⟩).toArray) 24 rfl ?_ (POp.build rfl rfl)
      refine HB.all (by exact Keep.base (hcl i hiX 0 _ rfl) (Keep.base (hcl i hiX 1 _ rfl) (Keep.base (hcl i hiX 2 _ rfl) (Keep.base (hcl i hiX 3 _ rfl) Keep.nil)))) [25] (by kernel_rfl) rfl ⟨⟨_, rfl, ?_⟩, trivial⟩
      refine HP.one ?_
      refine H1.stAgg (cs := sc ⟨(i : Int) % 6, (i : Int) % 6, (i : Int) % 6, (i : Int) % 6⟩) (vs := sc ⟨pkI (stAt X i).p 6, pkI (stAt X i).r 4, pkI (stAt X i).v 5, pkI (stAt X i).l 3⟩) rfl rfl rfl (sc_one _) rplA rfl ?_
      apply HB.fold
      refine HB.done (by exact Keep.base (hcl i hiX 0 _ rfl) (Keep.base (hcl i hiX 1 _ rfl) (Keep.base (hcl i hiX 2 _ rfl) (Keep.base (hcl i hiX 3 _ rfl) Keep.nil)))) (by kernel_rfl) ?_
      skip
      repeat' (first | apply HL.fold | apply HA.fold | apply HL.nil | apply HX.n_then | apply HC.seq | apply HC.region | refine HL.pa ?_ | refine HL.ga rfl ?_ | refine HL.na rfl ?_ | refine HL.nu rfl rfl ?_ | apply HC.block | apply HC.skip | apply HC.exit | apply HC.ret | apply HX.e_block | refine HX.e_other rfl ?_ | apply HX.e_then | apply HX.e_again | apply HX.n_block | apply HX.r_then | apply HX.r_block | apply HX.r_again | refine HC.cond_yes rfl ?_ | refine HC.cond_no rfl ?_ | refine HL.one (H1.ldb rfl memA rfl rfl ?_) | refine HC.cond rfl (fun hc => ?_) (fun hc => ?_) | refine HC.cond_b rfl (fun hc => ?_) (fun hc => ?_))
      refine HX.cut () trivial esA ?_
      rw [e1]
      repeat (first | exact Hs.nil _ | (refine Hs.cons pickA ?_))
    rintro - -
    repeat' (first | apply HL.fold | apply HA.fold | apply HL.nil | apply HX.n_then | apply HC.seq | apply HC.region | refine HL.pa ?_ | refine HL.ga rfl ?_ | refine HL.na rfl ?_ | refine HL.nu rfl rfl ?_ | apply HC.block | apply HC.skip | apply HC.exit | apply HC.ret | apply HX.e_block | refine HX.e_other rfl ?_ | apply HX.e_then | apply HX.e_again | apply HX.n_block | apply HX.r_then | apply HX.r_block | apply HX.r_again | refine HC.cond_yes rfl ?_ | refine HC.cond_no rfl ?_ | refine HL.one (H1.ldb rfl memA rfl rfl ?_) | refine HC.cond rfl (fun hc => ?_) (fun hc => ?_) | refine HC.cond_b rfl (fun hc => ?_) (fun hc => ?_))
    refine HL.one (H1.ldAgg (vs := sc (mkSite X i)) rfl memA rfl (fun i v hv => by rw [Nat.zero_add]; exact hv) rfl ?_)
    repeat' (first | apply HL.fold | apply HA.fold | apply HL.nil | apply HX.n_then | apply HC.seq | apply HC.region | refine HL.pa ?_ | refine HL.ga rfl ?_ | refine HL.na rfl ?_ | refine HL.nu rfl rfl ?_ | apply HC.block | apply HC.skip | apply HC.exit | apply HC.ret | apply HX.e_block | refine HX.e_other rfl ?_ | apply HX.e_then | apply HX.e_again | apply HX.n_block | apply HX.r_then | apply HX.r_block | apply HX.r_again | refine HC.cond_yes rfl ?_ | refine HC.cond_no rfl ?_ | refine HL.one (H1.ldb rfl memA rfl rfl ?_) | refine HC.cond rfl (fun hc => ?_) (fun hc => ?_) | refine HC.cond_b rfl (fun hc => ?_) (fun hc => ?_))
    refine HL.one (H1.lit (cs := sc (mkSite X i)) rfl rfl rfl rfl rfl rfl (fun b9 => ?_))
    repeat' (first | apply HL.fold | apply HA.fold | apply HL.nil | apply HX.n_then | apply HC.seq | apply HC.region | refine HL.pa ?_ | refine HL.ga rfl ?_ | refine HL.na rfl ?_ | refine HL.nu rfl rfl ?_ | apply HC.block | apply HC.skip | apply HC.exit | apply HC.ret | apply HX.e_block | refine HX.e_other rfl ?_ | apply HX.e_then | apply HX.e_again | apply HX.n_block | apply HX.r_then | apply HX.r_block | apply HX.r_again | refine HC.cond_yes rfl ?_ | refine HC.cond_no rfl ?_ | refine HL.one (H1.ldb rfl memA rfl rfl ?_) | refine HC.cond rfl (fun hc => ?_) (fun hc => ?_) | refine HC.cond_b rfl (fun hc => ?_) (fun hc => ?_))
    refine HL.one (H1.app (sz := 4) (news := sc (mkSite X i)) rfl (by decide) rfl rfl (fun _ _ => by first | ((repeat (first | with_reducible exact Rpl.here | with_reducible apply Rpl.there)); done) | (repeat (first | exact Rpl.here | apply Rpl.there))) rfl (fun w hM j u hu => by rw [add_lit, Nat.zero_add]; exact (hM.blk (b := b9) (by repeat (first | exact mem_hd | apply mem_tl))).cell hu) (sc_one _) (by omega) (by decide) rfl (fun a4 c4 _ => ?_))
    repeat' (first | apply HL.fold | apply HA.fold | apply HL.nil | apply HX.n_then | apply HC.seq | apply HC.region | refine HL.pa ?_ | refine HL.ga rfl ?_ | refine HL.na rfl ?_ | refine HL.nu rfl rfl ?_ | apply HC.block | apply HC.skip | apply HC.exit | apply HC.ret | apply HX.e_block | refine HX.e_other rfl ?_ | apply HX.e_then | apply HX.e_again | apply HX.n_block | apply HX.r_then | apply HX.r_block | apply HX.r_again | refine HC.cond_yes rfl ?_ | refine HC.cond_no rfl ?_ | refine HL.one (H1.ldb rfl memA rfl rfl ?_) | refine HC.cond rfl (fun hc => ?_) (fun hc => ?_) | refine HC.cond_b rfl (fun hc => ?_) (fun hc => ?_))
    refine HX.again (i + 1, a4, c4) (by show i + 1 ≤ madeN X; omega) (by show madeN X - (i + 1) < madeN X - i; omega) esA ?_
    dsimp only
    rw [madeU_step, List.flatMap_append, List.flatMap_singleton]
    repeat (first | exact Hs.nil _ | (refine Hs.cons pickA ?_))
  rintro ⟨ar, cr⟩ -
  dsimp only
  repeat' (first | apply HL.fold | apply HA.fold | apply HL.nil | apply HX.n_then | apply HC.seq | apply HC.region | refine HL.pa ?_ | refine HL.ga rfl ?_ | refine HL.na rfl ?_ | refine HL.nu rfl rfl ?_ | apply HC.block | apply HC.skip | apply HC.exit | apply HC.ret | apply HX.e_block | refine HX.e_other rfl ?_ | apply HX.e_then | apply HX.e_again | apply HX.n_block | apply HX.r_then | apply HX.r_block | apply HX.r_again | refine HC.cond_yes rfl ?_ | refine HC.cond_no rfl ?_ | refine HL.one (H1.ldb rfl memA rfl rfl ?_) | refine HC.cond rfl (fun hc => ?_) (fun hc => ?_) | refine HC.cond_b rfl (fun hc => ?_) (fun hc => ?_))
  refine HC.anyC (cellsA b3 y.cells ++ []) rfl ?_
  refine HB.pa 0 rfl ?_
  refine HB.pa 1 rfl ?_
  refine HB.ld 2 rfl rfl (cellsL (cellsA_mem (v := zv y.b.p) rfl)) ?_
  refine HB.pa 4 rfl ?_
  refine HB.ld 5 rfl rfl (cellsL (cellsA_mem (v := zv y.b.r) rfl)) ?_
  refine HB.pa 7 rfl ?_
  refine HB.ld 8 rfl rfl (cellsL (cellsA_mem (v := zv y.b.v) rfl)) ?_
  refine HB.pa 10 rfl ?_
  refine HB.ld 11 rfl rfl (cellsL (cellsA_mem (v := zv y.b.l) rfl)) ?_
  refine HB.pa 13 rfl ?_
  refine HB.ld 14 rfl rfl (cellsL (cellsA_mem (v := zv y.liars) rfl)) ?_
  refine HB.all (by exact Keep.blkA memA Keep.nil) [3] (by kernel_rfl) rfl ⟨⟨_, rfl, ?_⟩, trivial⟩
  refine HP.one ?_
  refine H1.call0 (vs := [zv y.b.p, zv 3]) rfl rfl (fun w' _ => kpick2_fn _ _ hy0 hy0' (by decide) w') ?_
  apply HB.fold
  refine HB.all (by exact Keep.blkA memA Keep.nil) [6] (by kernel_rfl) rfl ⟨⟨_, rfl, ?_⟩, trivial⟩
  refine HP.one ?_
  refine H1.call0 (vs := [zv y.b.r, zv 2]) rfl rfl (fun w' _ => kpick2_fn _ _ hy1 hy1' (by decide) w') ?_
  apply HB.fold
  refine HB.all (by exact Keep.blkA memA Keep.nil) [9] (by kernel_rfl) rfl ⟨⟨_, rfl, ?_⟩, trivial⟩
  refine HP.one ?_
  refine H1.call0 (vs := [zv y.b.v, zv 2]) rfl rfl (fun w' _ => kpick2_fn _ _ hy2 hy2' (by decide) w') ?_
  apply HB.fold
  refine HB.all (by exact Keep.blkA memA Keep.nil) [12] (by kernel_rfl) rfl ⟨⟨_, rfl, ?_⟩, trivial⟩
  refine HP.one ?_
  refine H1.call0 (vs := [zv y.b.l, zv 2]) rfl rfl (fun w' _ => kpick2_fn _ _ hy3 hy3' (by decide) w') ?_
  apply HB.fold
  refine HB.all (by exact Keep.blkA memA Keep.nil) [15] (by kernel_rfl) rfl ⟨⟨_, rfl, ?_⟩, trivial⟩
  refine HP.one ?_
  refine H1.call0 (vs := [zv y.liars, zv 3]) rfl rfl (fun w' _ => kpick2_fn _ _ hy4 hy4' (by decide) w') ?_
  apply HB.fold
  refine HB.pa (v := .agg (madeD y).cells.toArray) 16 rfl ?_ (POp.build rfl rfl)
  refine HB.pa 17 rfl ?_
  refine HB.all (by exact Keep.blkA memA Keep.nil) [18] (by kernel_rfl) rfl ⟨⟨_, rfl, ?_⟩, trivial⟩
  refine HP.one ?_
  refine H1.stAgg (cs := [zv 0, zv 0, zv 0, zv 0, zv 0]) (vs := (madeD y).cells) rfl rfl rfl (by unfold Di.cells; intro v hv; simp only [List.mem_cons, List.not_mem_nil, or_false] at hv; rcases hv with rfl | rfl | rfl | rfl | rfl <;> rfl) rplA rfl ?_
  apply HB.fold
  refine HB.done (by exact Keep.blkA memA Keep.nil) (by kernel_rfl) ?_
  skip
  repeat' (first | apply HL.fold | apply HA.fold | apply HL.nil | apply HX.n_then | apply HC.seq | apply HC.region | refine HL.pa ?_ | refine HL.ga rfl ?_ | refine HL.na rfl ?_ | refine HL.nu rfl rfl ?_ | apply HC.block | apply HC.skip | apply HC.exit | apply HC.ret | apply HX.e_block | refine HX.e_other rfl ?_ | apply HX.e_then | apply HX.e_again | apply HX.n_block | apply HX.r_then | apply HX.r_block | apply HX.r_again | refine HC.cond_yes rfl ?_ | refine HC.cond_no rfl ?_ | refine HL.one (H1.ldb rfl memA rfl rfl ?_) | refine HC.cond rfl (fun hc => ?_) (fun hc => ?_) | refine HC.cond_b rfl (fun hc => ?_) (fun hc => ?_))
  refine HX.retG (rs := [.tmp 4, .cell 5 24]) (vs := [.slice ar (madeN X) cr, .agg (madeD y).cells.toArray]) rfl rfl (fun w' hM => ⟨rfl, ⟨_, rfl, loadVar_agg (b := b5) hM memA rfl⟩, trivial⟩) fun w' hM => ⟨(ar, cr), trivial, by rw [madeS_len], ?_⟩
  rw [madeS_len]
  exact hM.sub (by repeat (first | exact Hs.nil _ | (refine Hs.cons pickA ?_)))
end Go.Sx

