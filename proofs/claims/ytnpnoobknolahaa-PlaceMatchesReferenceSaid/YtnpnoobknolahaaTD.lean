/- Chapter 18: made; the fixed examples. -/
import Derived.Test.YtnpnoobknolahaaTC
namespace Go.Sx
open Go Go.Proofs Go.RowKit
theorem Mm.blkGrow {w0 w : World} {H H' : List Atom} {b : Nat} {cs : List Value} {e : TypeId} (h : Mm w0 H w) (hr : Rpl (A.blk b cs e) (A.grow e 1 (some ⟨b, 0, none⟩) cs.length cs.length cs) H H') (hl : cs.length ≤ 1000000) : Mm w0 H' w := by
  have hb : Blk w b cs e := h.blk hr.mem
  refine h.turn hr rfl rfl rfl (Nat.le_refl _) (fun _ _ _ => rfl) ?_ (by simp [A.grow, Value.ownBlock]) fun b' hb' => .inl (by simpa [A.grow, A.blk, Value.ownBlock] using hb')
  refine ⟨by simp, .inr ⟨b, cs.length, cs.toArray, rfl, Nat.zero_le _, hb, Nat.le_refl _, by simp only [maxLen]; omega, by simp, by simp⟩⟩
def caseC (v : Value) (y : Di) (set k : Int) : List Value := v :: (y.cells ++ [zv set, zv k])
def ownL (X : List St) (set : Int) : List Nat := if (somL set (madeN X)).length = 0 then [0] else somL set (madeN X)
def caseK (X : List St) (set k : Int) : Int := 1 + pkI k ((ownL X set).length : Int)
theorem ownL_lt {X : List St} {set : Int} {i : Nat} (h : i ∈ ownL X set) : i < madeN X := by
  unfold ownL at h
  have := madeN_7 X
  split at h
  · rw [List.mem_singleton] at h; omega
  · exact somL_lt h
theorem ownL_asc (X : List St) (set : Int) : (ownL X set).Pairwise (· < ·) := by
  unfold ownL
  split
  · exact List.pairwise_singleton _ _
  · exact somL_asc _ _
theorem ownL_len (X : List St) (set : Int) : 1 ≤ (ownL X set).length ∧ (ownL X set).length ≤ 7 := by
  have h7 := madeN_7 X
  have := somL_len set (madeN X)
  unfold ownL
  split
  · simp
  · omega
theorem caseK_in (X : List St) (set k : Int) : 1 ≤ caseK X set k ∧ caseK X set k ≤ (ownL X set).length := by
  have h1 := (ownL_len X set).1
  have := pkI_lt k (n := ((ownL X set).length : Int)) (by omega)
  unfold caseK
  omega
theorem HX.openg {N : Nat} {ds : List Deferred} {Q : Post} {E : Env} {w0 : World} {H : List Atom} {e : TypeId} {sz c n : Nat} {a : Option Addr} {xs : List Value} {x : Exit} (hm : A.grow e sz a c n xs ∈ H) (hn : n ≠ 0) (h : ∀ b, a = some ⟨b, 0, none⟩ → HX N ds x Q E w0 H) : HX N ds x Q E w0 H := fun w hM => by
  rcases (hM.own hm).2 with ⟨-, h0⟩ | ⟨g, cap, cur, hv, -⟩
  · exact absurd h0 hn
  · cases hv; exact h g rfl w hM
attribute [local irreducible] WC WL WX POp Then Again Fn NX W1 WA WO QL RP RA Yld LoopAt HC HL HX HN H1 HA HO HQ HB HP A.blk A.grow A.rd A.obj A.mp AgainH CutH
attribute [local irreducible] A.mq A.mit A.dfrs A.loop mapsA A.land A.pure chk
set_option maxHeartbeats 1000000 in
theorem kmade_fn (v : Value) (X : List St) (y : Di) (set k : Int) (hX : X.length ≤ 9223372036854775807) (hxb : ∀ s ∈ X, s.i64) (hyb : y.b.i64 ∧ i64R y.liars) (hset : i64R set) (hk : i64R k) (w : World) (hT : RdS w v X) :
    Fn Try.prog 10 #[.agg (caseC v y set k).toArray] w fun u w' => ∃ z : (Option Addr × Nat) × (Option Addr × Nat), (∃ b, z.2.1 = some ⟨b, 0, none⟩) ∧ u = .tuple #[.slice z.1.1 (madeS X).length z.1.2, .agg (madeD y).cells.toArray, .slice z.2.1 (ownL X set).length z.2.2, zv (caseK X set k)] ∧
      Mm w [A.grow 3 1 z.2.1 z.2.2 (ownL X set).length (ints (natI (ownL X set))), A.grow 54 4 z.1.1 z.1.2 (madeS X).length ((madeS X).flatMap sc)] w' := by
  have h7 := madeN_7 X
  have hoL := ownL_len X set
  obtain ⟨a, c, rfl, hc⟩ := hT.shape
  refine enterH (l := [_]) rfl Try.ntmps10 rfl ?_
  repeat' (first | apply HL.fold | apply HA.fold | apply HL.nil | apply HX.n_then | apply HC.seq | apply HC.region | refine HL.pa ?_ | refine HL.ga rfl ?_ | refine HL.na rfl ?_ | refine HL.nu rfl rfl ?_ | apply HC.block | apply HC.skip | apply HC.exit | apply HC.ret | apply HX.e_block | refine HX.e_other rfl ?_ | apply HX.e_then | apply HX.e_again | apply HX.n_block | apply HX.r_then | apply HX.r_block | apply HX.r_again | refine HC.cond_yes rfl ?_ | refine HC.cond_no rfl ?_ | refine HL.one (H1.ldb rfl memA rfl rfl ?_) | refine HC.cond rfl (fun hc => ?_) (fun hc => ?_) | refine HC.cond_b rfl (fun hc => ?_) (fun hc => ?_))
  refine HL.one (H1.boxAgg (cs := caseC (.slice a X.length c) y set k) rfl rfl (fun b1 => ?_))
  repeat' (first | apply HL.fold | apply HA.fold | apply HL.nil | apply HX.n_then | apply HC.seq | apply HC.region | refine HL.pa ?_ | refine HL.ga rfl ?_ | refine HL.na rfl ?_ | refine HL.nu rfl rfl ?_ | apply HC.block | apply HC.skip | apply HC.exit | apply HC.ret | apply HX.e_block | refine HX.e_other rfl ?_ | apply HX.e_then | apply HX.e_again | apply HX.n_block | apply HX.r_then | apply HX.r_block | apply HX.r_again | refine HC.cond_yes rfl ?_ | refine HC.cond_no rfl ?_ | refine HL.one (H1.ldb rfl memA rfl rfl ?_) | refine HC.cond rfl (fun hc => ?_) (fun hc => ?_) | refine HC.cond_b rfl (fun hc => ?_) (fun hc => ?_))
  refine HL.one (H1.alloc (cs := [zv 0, zv 0, zv 0, zv 0, zv 0]) rfl rfl (fun b3 => ?_))
  repeat' (first | apply HL.fold | apply HA.fold | apply HL.nil | apply HX.n_then | apply HC.seq | apply HC.region | refine HL.pa ?_ | refine HL.ga rfl ?_ | refine HL.na rfl ?_ | refine HL.nu rfl rfl ?_ | apply HC.block | apply HC.skip | apply HC.exit | apply HC.ret | apply HX.e_block | refine HX.e_other rfl ?_ | apply HX.e_then | apply HX.e_again | apply HX.n_block | apply HX.r_then | apply HX.r_block | apply HX.r_again | refine HC.cond_yes rfl ?_ | refine HC.cond_no rfl ?_ | refine HL.one (H1.ldb rfl memA rfl rfl ?_) | refine HC.cond rfl (fun hc => ?_) (fun hc => ?_) | refine HC.cond_b rfl (fun hc => ?_) (fun hc => ?_))
  refine HL.one (H1.ldAgg (vs := y.cells) rfl memA rfl (fun i v hv => by
    unfold caseC
    rw [Nat.add_comm, List.getElem?_cons_succ, List.getElem?_append_left (List.getElem?_eq_some_iff.1 hv).1]; exact hv) rfl ?_)
  repeat' (first | apply HL.fold | apply HA.fold | apply HL.nil | apply HX.n_then | apply HC.seq | apply HC.region | refine HL.pa ?_ | refine HL.ga rfl ?_ | refine HL.na rfl ?_ | refine HL.nu rfl rfl ?_ | apply HC.block | apply HC.skip | apply HC.exit | apply HC.ret | apply HX.e_block | refine HX.e_other rfl ?_ | apply HX.e_then | apply HX.e_again | apply HX.n_block | apply HX.r_then | apply HX.r_block | apply HX.r_again | refine HC.cond_yes rfl ?_ | refine HC.cond_no rfl ?_ | refine HL.one (H1.ldb rfl memA rfl rfl ?_) | refine HC.cond rfl (fun hc => ?_) (fun hc => ?_) | refine HC.cond_b rfl (fun hc => ?_) (fun hc => ?_))
  refine HL.one (H1.callz1 (An := fun z : Option Addr × Nat => A.grow 54 4 z.1 z.2 (madeS X).length ((madeS X).flatMap sc)) (vs := [.slice a X.length c, .agg y.cells.toArray]) rfl rfl (fun w' hM => kMade_fn _ X y hX hxb hyb w' (hT.ext hM.ext)) ?_)
  rintro ⟨aS, cS⟩ -
  dsimp only
  repeat' (first | apply HL.fold | apply HA.fold | apply HL.nil | apply HX.n_then | apply HC.seq | apply HC.region | refine HL.pa ?_ | refine HL.ga rfl ?_ | refine HL.na rfl ?_ | refine HL.nu rfl rfl ?_ | apply HC.block | apply HC.skip | apply HC.exit | apply HC.ret | apply HX.e_block | refine HX.e_other rfl ?_ | apply HX.e_then | apply HX.e_again | apply HX.n_block | apply HX.r_then | apply HX.r_block | apply HX.r_again | refine HC.cond_yes rfl ?_ | refine HC.cond_no rfl ?_ | refine HL.one (H1.ldb rfl memA rfl rfl ?_) | refine HC.cond rfl (fun hc => ?_) (fun hc => ?_) | refine HC.cond_b rfl (fun hc => ?_) (fun hc => ?_))
  refine HL.one (H1.alloc (cs := [zv 0, zv 0, zv 0, zv 0, zv 0]) rfl rfl (fun b7 => ?_))
  repeat' (first | apply HL.fold | apply HA.fold | apply HL.nil | apply HX.n_then | apply HC.seq | apply HC.region | refine HL.pa ?_ | refine HL.ga rfl ?_ | refine HL.na rfl ?_ | refine HL.nu rfl rfl ?_ | apply HC.block | apply HC.skip | apply HC.exit | apply HC.ret | apply HX.e_block | refine HX.e_other rfl ?_ | apply HX.e_then | apply HX.e_again | apply HX.n_block | apply HX.r_then | apply HX.r_block | apply HX.r_again | refine HC.cond_yes rfl ?_ | refine HC.cond_no rfl ?_ | refine HL.one (H1.ldb rfl memA rfl rfl ?_) | refine HC.cond rfl (fun hc => ?_) (fun hc => ?_) | refine HC.cond_b rfl (fun hc => ?_) (fun hc => ?_))
  refine HL.one (H1.stAgg (cs := [zv 0, zv 0, zv 0, zv 0, zv 0]) (vs := (madeD y).cells) rfl rfl rfl (by unfold Di.cells; intro v hv; simp only [List.mem_cons, List.not_mem_nil, or_false] at hv; rcases hv with rfl | rfl | rfl | rfl | rfl <;> rfl) rplA rfl ?_)
  rw [madeS_len]
  repeat' (first | apply HL.fold | apply HA.fold | apply HL.nil | apply HX.n_then | apply HC.seq | apply HC.region | refine HL.pa ?_ | refine HL.ga rfl ?_ | refine HL.na rfl ?_ | refine HL.nu rfl rfl ?_ | apply HC.block | apply HC.skip | apply HC.exit | apply HC.ret | apply HX.e_block | refine HX.e_other rfl ?_ | apply HX.e_then | apply HX.e_again | apply HX.n_block | apply HX.r_then | apply HX.r_block | apply HX.r_again | refine HC.cond_yes rfl ?_ | refine HC.cond_no rfl ?_ | refine HL.one (H1.ldb rfl memA rfl rfl ?_) | refine HC.cond rfl (fun hc => ?_) (fun hc => ?_) | refine HC.cond_b rfl (fun hc => ?_) (fun hc => ?_))
  refine HL.one (H1.callz1 (vs := [zv set, zv (madeN X : Int)]) rfl rfl (fun w' _ => some_fn set (madeN X) hset (by omega) w') ?_)
  rintro ⟨aL, cL⟩ -
  dsimp only
  repeat' (first | apply HL.fold | apply HA.fold | apply HL.nil | apply HX.n_then | apply HC.seq | apply HC.region | refine HL.pa ?_ | refine HL.ga rfl ?_ | refine HL.na rfl ?_ | refine HL.nu rfl rfl ?_ | apply HC.block | apply HC.skip | apply HC.exit | apply HC.ret | apply HX.e_block | refine HX.e_other rfl ?_ | apply HX.e_then | apply HX.e_again | apply HX.n_block | apply HX.r_then | apply HX.r_block | apply HX.r_again | refine HC.cond_yes rfl ?_ | refine HC.cond_no rfl ?_ | refine HL.one (H1.ldb rfl memA rfl rfl ?_))
  refine HC.cut (α := Nat × Nat) (fun z => [(1, .pointer (some ⟨b1, 0, none⟩)), (3, .pointer (some ⟨b3, 0, none⟩)), (6, .slice aS (madeN X) cS), (7, .pointer (some ⟨b7, 0, none⟩)), (8, .slice (some ⟨z.1, 0, none⟩) (ownL X set).length z.2)])
    (fun z => [A.grow 3 1 (some ⟨z.1, 0, none⟩) z.2 (ownL X set).length (ints (natI (ownL X set))), A.blk b7 (madeD y).cells 24, A.grow 54 4 aS cS (madeN X) ((madeS X).flatMap sc), A.blk b3 [zv 0, zv 0, zv 0, zv 0, zv 0] 24, A.blk b1 (caseC (.slice a X.length c) y set k) 29]) (fun _ => True) ?_ ?_
  · by_cases h0 : (somL set (madeN X)).length = 0
    · have h0' : ((somL set (madeN X)).length : Int) = 0 := by omega
      have e1 : ownL X set = [0] := if_pos h0
      repeat' (first | apply HL.fold | apply HA.fold | apply HL.nil | apply HX.n_then | apply HC.seq | apply HC.region | refine HL.pa ?_ | refine HL.ga rfl ?_ | refine HL.na rfl ?_ | refine HL.nu rfl rfl ?_ | apply HC.block | apply HC.skip | apply HC.exit | apply HC.ret | apply HX.e_block | refine HX.e_other rfl ?_ | apply HX.e_then | apply HX.e_again | apply HX.n_block | apply HX.r_then | apply HX.r_block | apply HX.r_again | refine HC.cond_yes rfl ?_ | refine HC.cond_no rfl ?_ | refine HL.one (H1.ldb rfl memA rfl rfl ?_) | refine HC.cond rfl (fun hc => ?_) (fun hc => ?_) | refine HC.cond_b rfl (fun hc => ?_) (fun hc => ?_))
      refine HL.one (H1.lit (cs := [zv 0]) rfl rfl rfl rfl rfl rfl (fun b9 => ?_))
      repeat' (first | apply HL.fold | apply HA.fold | apply HL.nil | apply HX.n_then | apply HC.seq | apply HC.region | refine HL.pa ?_ | refine HL.ga rfl ?_ | refine HL.na rfl ?_ | refine HL.nu rfl rfl ?_ | apply HC.block | apply HC.skip | apply HC.exit | apply HC.ret | apply HX.e_block | refine HX.e_other rfl ?_ | apply HX.e_then | apply HX.e_again | apply HX.n_block | apply HX.r_then | apply HX.r_block | apply HX.r_again | refine HC.cond_yes rfl ?_ | refine HC.cond_no rfl ?_ | refine HL.one (H1.ldb rfl memA rfl rfl ?_) | refine HC.cond rfl (fun hc => ?_) (fun hc => ?_) | refine HC.cond_b rfl (fun hc => ?_) (fun hc => ?_))
      rw [e1]
      refine HX.conv (fun w' hM => Mm.blkGrow (b := b9) hM Rpl.here (by decide)) ?_
      refine HX.cut (b9, 1) trivial esA ?_
      repeat (first | exact Hs.nil _ | (refine Hs.cons pickA ?_))
    · have h0' : ¬ ((somL set (madeN X)).length : Int) = 0 := by omega
      have e1 : ownL X set = somL set (madeN X) := if_neg h0
      repeat' (first | apply HL.fold | apply HA.fold | apply HL.nil | apply HX.n_then | apply HC.seq | apply HC.region | refine HL.pa ?_ | refine HL.ga rfl ?_ | refine HL.na rfl ?_ | refine HL.nu rfl rfl ?_ | apply HC.block | apply HC.skip | apply HC.exit | apply HC.ret | apply HX.e_block | refine HX.e_other rfl ?_ | apply HX.e_then | apply HX.e_again | apply HX.n_block | apply HX.r_then | apply HX.r_block | apply HX.r_again | refine HC.cond_yes rfl ?_ | refine HC.cond_no rfl ?_ | refine HL.one (H1.ldb rfl memA rfl rfl ?_) | refine HC.cond rfl (fun hc => ?_) (fun hc => ?_) | refine HC.cond_b rfl (fun hc => ?_) (fun hc => ?_))
      refine HX.openg (.head _) h0 fun b hb => ?_
      subst hb
      rw [e1]
      exact HX.cut (b, cL) trivial esA (by repeat (first | exact Hs.nil _ | (refine Hs.cons pickA ?_)))
  rintro ⟨bL, cL2⟩ -
  dsimp only
  repeat' (first | apply HL.fold | apply HA.fold | apply HL.nil | apply HX.n_then | apply HC.seq | apply HC.region | refine HL.pa ?_ | refine HL.ga rfl ?_ | refine HL.na rfl ?_ | refine HL.nu rfl rfl ?_ | apply HC.block | apply HC.skip | apply HC.exit | apply HC.ret | apply HX.e_block | refine HX.e_other rfl ?_ | apply HX.e_then | apply HX.e_again | apply HX.n_block | apply HX.r_then | apply HX.r_block | apply HX.r_again | refine HC.cond_yes rfl ?_ | refine HC.cond_no rfl ?_ | refine HL.one (H1.ldb rfl memA rfl rfl ?_) | refine HC.cond rfl (fun hc => ?_) (fun hc => ?_) | refine HC.cond_b rfl (fun hc => ?_) (fun hc => ?_))
  have hpk := pkI_lt k (n := ((ownL X set).length : Int)) (by omega)
  refine HC.anyC (cellsA b7 (madeD y).cells ++ [(⟨b1, 7, none⟩, zv k)]) rfl ?_
  refine HB.pa 0 rfl ?_
  refine HB.ldA (vs := (madeD y).cells) 1 rfl rfl rfl (fun i v hv => cellsL (cellsA_mem hv)) ?_
  refine HB.pa 2 rfl ?_
  refine HB.pa 3 rfl ?_
  refine HB.ld 4 rfl rfl (cellsR (.head _)) ?_
  refine HB.pa 5 rfl ?_
  refine HB.pa 6 rfl ?_
  refine HB.all (by exact Keep.blkA memA (Keep.blk (b := b1) memA rfl Keep.nil)) [7] (by kernel_rfl) rfl ⟨⟨_, rfl, ?_⟩, trivial⟩
  refine HP.one ?_
  refine H1.call0 (vs := [zv k, zv ((ownL X set).length : Int)]) rfl rfl (fun w' _ => kpick_fn _ _ hk.1 hk.2 (by omega) w') ?_
  apply HB.fold
  refine HB.pa 8 rfl ?_
  refine HB.pa 9 rfl ?_
  refine HB.all (by exact Keep.blkA memA (Keep.blk (b := b1) memA rfl Keep.nil)) [10] (by kernel_rfl) rfl ⟨⟨_, rfl, ?_⟩, trivial⟩
  refine HP.one ?_
  refine H1.stAgg (cs := [zv 0, zv 0, zv 0, zv 0, zv 0]) (vs := (madeD y).cells) rfl rfl rfl (by unfold Di.cells; intro v hv; simp only [List.mem_cons, List.not_mem_nil, or_false] at hv; rcases hv with rfl | rfl | rfl | rfl | rfl <;> rfl) rplA rfl ?_
  apply HB.fold
  refine HB.pa 11 rfl ?_
  refine HB.pa 12 rfl ?_
  refine HB.done (by exact Keep.blkA memA (Keep.blk (b := b1) memA rfl Keep.nil)) (by kernel_rfl) ?_
  skip
  repeat' (first | apply HL.fold | apply HA.fold | apply HL.nil | apply HX.n_then | apply HC.seq | apply HC.region | refine HL.pa ?_ | refine HL.ga rfl ?_ | refine HL.na rfl ?_ | refine HL.nu rfl rfl ?_ | apply HC.block | apply HC.skip | apply HC.exit | apply HC.ret | apply HX.e_block | refine HX.e_other rfl ?_ | apply HX.e_then | apply HX.e_again | apply HX.n_block | apply HX.r_then | apply HX.r_block | apply HX.r_again | refine HC.cond_yes rfl ?_ | refine HC.cond_no rfl ?_ | refine HL.one (H1.ldb rfl memA rfl rfl ?_) | refine HC.cond rfl (fun hc => ?_) (fun hc => ?_) | refine HC.cond_b rfl (fun hc => ?_) (fun hc => ?_))
  refine HX.retG (rs := [.tmp 2, .cell 3 24, .tmp 4, .tmp 5]) (vs := [.slice aS (madeN X) cS, .agg (madeD y).cells.toArray, .slice (some ⟨bL, 0, none⟩) (ownL X set).length cL2, zv (caseK X set k)]) rfl rfl (fun w' hM => ⟨rfl, ⟨_, rfl, loadVar_agg (b := b3) hM memA rfl⟩, rfl, rfl, trivial⟩) fun w' hM => ⟨((aS, cS), (some ⟨bL, 0, none⟩, cL2)), ⟨bL, rfl⟩, rfl, hM.sub (by repeat (first | exact Hs.nil _ | (refine Hs.cons pickA ?_)))⟩
end Go.Sx

