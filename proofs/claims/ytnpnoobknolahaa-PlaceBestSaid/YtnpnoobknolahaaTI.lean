/- Chapter 18: the law PlaceBest. -/
import Derived.Test.YtnpnoobknolahaaTH
namespace Go.Sx
open Go Go.Proofs Go.RowKit
theorem from_some {S : List St} {d : Di} {k : Int} {T : List Nat} : ∀ {f n : Nat}, bestFrom S d k f n = some T → ∃ m, n ≤ m ∧ m < n + f ∧ bestP S d k m = some T ∧ ∀ j, n ≤ j → j < m → bestP S d k j = none
  | 0, _, h => by cases h
  | f + 1, n, h => by
    unfold bestFrom at h
    cases hb : bestP S d k n with
    | some U =>
      rw [hb] at h
      simp only [Option.some.injEq] at h
      subst h
      exact ⟨n, Nat.le_refl _, by omega, hb, fun j h1 h2 => by omega⟩
    | none =>
      rw [hb] at h
      simp only at h
      obtain ⟨m, h1, h2, h3, h4⟩ := from_some h
      refine ⟨m, by omega, by omega, h3, fun j h5 h6 => ?_⟩
      by_cases e : j = n
      · subst e; exact hb
      · exact h4 j (by omega) h6
theorem from_none {S : List St} {d : Di} {k : Int} : ∀ {f n : Nat}, bestFrom S d k f n = none → ∀ j, n ≤ j → j < n + f → bestP S d k j = none
  | 0, _, _, j, h1, h2 => by omega
  | f + 1, n, h, j, h1, h2 => by
    unfold bestFrom at h
    cases hb : bestP S d k n with
    | some U => rw [hb] at h; cases h
    | none =>
      rw [hb] at h
      simp only at h
      by_cases e : j = n
      · subst e; exact hb
      · exact from_none h j (by omega) (by omega)
theorem bestP_not {S : List St} {d : Di} {k : Int} {T : List Nat} (h : bestP S d k T.length = none) (ha : T.Pairwise (· < ·)) (hT : ∀ i ∈ T, i < S.length) : (chk S d (natI T) k).2 = false := by
  unfold bestP at h
  rw [List.find?_eq_none] at h
  have := h T (mem_combs.2 ⟨asc_sub ha List.pairwise_lt_range fun x hx => List.mem_range.2 (hT x hx), rfl⟩)
  simpa using this
theorem lex_at {a b : List Nat} : ∀ {i : Nat} (h1 : i < a.length) (h2 : i < b.length), lexB a b = true → a.take i = b.take i → a[i] ≠ b[i] → a[i] < b[i] := by
  induction a generalizing b with
  | nil => intro i h1; exact absurd h1 (Nat.not_lt_zero _)
  | cons x a ih =>
    intro i h1 h2 hl ht hne
    cases b with
    | nil => exact absurd h2 (Nat.not_lt_zero _)
    | cons y b =>
      simp only [lexB, Bool.or_eq_true, Bool.and_eq_true, decide_eq_true_eq] at hl
      cases i with
      | zero =>
        rcases hl with hl | hl
        · exact hl
        · exact absurd hl.1 hne
      | succ i =>
        rw [List.take_succ_cons, List.take_succ_cons, List.cons.injEq] at ht
        rcases hl with hl | hl
        · omega
        · exact ih (by simpa using h1) (by simpa using h2) hl.2 ht.2 hne
theorem som_all (n : Nat) : somL ((1 <<< n : Nat) - 1 : Int) n = List.range n := by
  have hp : 0 < 2 ^ n := Nat.two_pow_pos n
  have e0 : ((1 <<< n : Nat) : Int) = ((2 ^ n : Nat) : Int) := by rw [Nat.one_shiftLeft]
  have e1 : pkI ((1 <<< n : Nat) - 1 : Int) (2 ^ n) = ((2 ^ n - 1 : Nat) : Int) := by
    unfold pkI
    rw [e0, if_neg (by omega)]
    have e2 : ((2 : Int) ^ n) = ((2 ^ n : Nat) : Int) := by simp
    rw [e2, Int.emod_eq_of_lt (by omega) (by omega)]
    omega
  unfold somL
  rw [e1, Int.toNat_natCast]
  refine List.filter_eq_self.2 fun i hi => ?_
  rw [Nat.testBit_two_pow_sub_one]
  exact decide_eq_true (List.mem_range.1 hi)
section
variable {X : List St} {y : Di} {set k : Int}
theorem own_best : best (madeS X) (madeD y) (caseK X set k) = bestFrom (madeS X) (madeD y) (caseK X set k) (madeN X + 1 - (caseK X set k).toNat) (caseK X set k).toNat := by
  have h1 := caseK_in X set k
  have h2 := ownL_len X set
  rw [best_ok ⟨madeV X y, by omega, by omega⟩, madeS_len]
theorem own_lenN : (ownL X set).length ≤ madeN X := by
  have h : ownL X set = (List.range (madeN X)).filter fun i => decide (i ∈ ownL X set) := asc_ext (ownL_asc X set) ((List.pairwise_lt_range).filter _) fun x => by
    rw [List.mem_filter, List.mem_range, decide_eq_true_eq]
    exact ⟨fun hx => ⟨ownL_lt hx, hx⟩, fun hx => hx.2⟩
  rw [h]
  have := List.length_filter_le (fun i => decide (i ∈ ownL X set)) (List.range (madeN X))
  rwa [List.length_range] at this
theorem best_no (h : best (madeS X) (madeD y) (caseK X set k) = none) : (chk (madeS X) (madeD y) (natI (ownL X set)) (caseK X set k)).2 = false ∧ (chk (madeS X) (madeD y) (natI (List.range (madeN X))) (caseK X set k)).2 = false := by
  have h1 := caseK_in X set k
  have h2 := own_lenN (X := X) (set := set)
  rw [own_best] at h
  have hn := from_none h
  refine ⟨bestP_not (hn _ (by omega) (by omega)) (ownL_asc X set) fun i hi => by rw [madeS_len]; exact ownL_lt hi, bestP_not (hn _ (by rw [List.length_range]; omega) (by rw [List.length_range]; omega)) List.pairwise_lt_range fun i hi => by rw [madeS_len]; exact List.mem_range.1 hi⟩
theorem best_yes {T : List Nat} (h : best (madeS X) (madeD y) (caseK X set k) = some T) : (chk (madeS X) (madeD y) (natI T) (caseK X set k)).2 = true ∧ 1 ≤ T.length ∧ T.length ≤ 7 ∧
    ((chk (madeS X) (madeD y) (natI (ownL X set)) (caseK X set k)).2 = true → ¬ (ownL X set).length < T.length ∧ ((ownL X set).length = T.length → T = ownL X set ∨ lexB T (ownL X set) = true)) := by
  have h1 := caseK_in X set k
  have h7 := madeN_7 X
  rw [own_best] at h
  obtain ⟨m, h2, h3, h4, h5⟩ := from_some h
  have hc := h4
  unfold bestP at hc
  have hmem := List.mem_of_find?_eq_some hc
  obtain ⟨hsub, hlen⟩ := mem_combs.1 hmem
  have hp : (chk (madeS X) (madeD y) (natI T) (caseK X set k)).2 = true := by
    have := List.find?_some (p := fun T => (chk (madeS X) (madeD y) (natI T) (caseK X set k)).2) hc
    exact this
  have hle := hsub.length_le
  rw [List.length_range, madeS_len] at hle
  refine ⟨hp, by omega, by omega, fun hs => ⟨fun hlt => ?_, fun heq => ?_⟩⟩
  · have := bestP_not (T := ownL X set) (h5 _ (by omega) (by omega)) (ownL_asc X set) fun i hi => by rw [madeS_len]; exact ownL_lt hi
    rw [this] at hs; cases hs
  · refine find_lex (combs_lex _ m List.pairwise_lt_range) hc (mem_combs.2 ⟨asc_sub (ownL_asc X set) List.pairwise_lt_range fun x hx => List.mem_range.2 (by rw [madeS_len]; exact ownL_lt hx), by omega⟩) hs
end
attribute [local irreducible] WC WL WX POp Then Again Fn NX W1 WA WO QL RP RA Yld LoopAt HC HL HX HN H1 HA HO HQ HB HP A.blk A.grow A.rd A.obj A.mp AgainH CutH
attribute [local irreducible] A.mq A.mit A.dfrs A.loop mapsA A.land A.pure chk best
set_option maxHeartbeats 2000000 in
theorem placeBest_fn (v : Value) (X : List St) (y : Di) (set k : Int) (hX : X.length ≤ 9223372036854775807) (hxb : ∀ s ∈ X, s.i64) (hyb : y.b.i64 ∧ i64R y.liars) (hset : i64R set) (hk : i64R k) (w : World) (hT : RdS w v X) :
    Fn Try.prog 7 #[.agg (caseC v y set k).toArray] w fun u w' => u = .bool true ∧ Ext w w' := by
  have h7 := madeN_7 X
  have hoL := ownL_len X set
  have hoK := caseK_in X set k
  have hdi := madeD_in y
  refine enterH (l := [_]) rfl Try.ntmps7 rfl ?_
  repeat' (first | apply HL.fold | apply HA.fold | apply HL.nil | apply HX.n_then | apply HC.seq | apply HC.region | refine HL.pa ?_ | refine HL.ga rfl ?_ | refine HL.na rfl ?_ | refine HL.nu rfl rfl ?_ | apply HC.block | apply HC.skip | apply HC.exit | apply HC.ret | apply HX.e_block | refine HX.e_other rfl ?_ | apply HX.e_then | apply HX.e_again | apply HX.n_block | apply HX.r_then | apply HX.r_block | apply HX.r_again | refine HC.cond_yes rfl ?_ | refine HC.cond_no rfl ?_ | refine HL.one (H1.ldb rfl memA rfl rfl ?_) | refine HC.cond rfl (fun hc => ?_) (fun hc => ?_) | refine HC.cond_b rfl (fun hc => ?_) (fun hc => ?_))
  refine HL.one (H1.boxAgg (cs := caseC v y set k) rfl rfl (fun b3 => ?_))
  repeat' (first | apply HL.fold | apply HA.fold | apply HL.nil | apply HX.n_then | apply HC.seq | apply HC.region | refine HL.pa ?_ | refine HL.ga rfl ?_ | refine HL.na rfl ?_ | refine HL.nu rfl rfl ?_ | apply HC.block | apply HC.skip | apply HC.exit | apply HC.ret | apply HX.e_block | refine HX.e_other rfl ?_ | apply HX.e_then | apply HX.e_again | apply HX.n_block | apply HX.r_then | apply HX.r_block | apply HX.r_again | refine HC.cond_yes rfl ?_ | refine HC.cond_no rfl ?_ | refine HL.one (H1.ldb rfl memA rfl rfl ?_) | refine HC.cond rfl (fun hc => ?_) (fun hc => ?_) | refine HC.cond_b rfl (fun hc => ?_) (fun hc => ?_))
  refine HL.one (H1.callx (vs := []) rfl rfl (fun w' _ => ksane_fn w') ?_)
  repeat' (first | apply HL.fold | apply HA.fold | apply HL.nil | apply HX.n_then | apply HC.seq | apply HC.region | refine HL.pa ?_ | refine HL.ga rfl ?_ | refine HL.na rfl ?_ | refine HL.nu rfl rfl ?_ | apply HC.block | apply HC.skip | apply HC.exit | apply HC.ret | apply HX.e_block | refine HX.e_other rfl ?_ | apply HX.e_then | apply HX.e_again | apply HX.n_block | apply HX.r_then | apply HX.r_block | apply HX.r_again | refine HC.cond_yes rfl ?_ | refine HC.cond_no rfl ?_ | refine HL.one (H1.ldb rfl memA rfl rfl ?_) | refine HC.cond rfl (fun hc => ?_) (fun hc => ?_) | refine HC.cond_b rfl (fun hc => ?_) (fun hc => ?_))
  refine HL.one (H1.ldAgg (vs := caseC v y set k) rfl memA rfl (fun i v hv => by rw [Nat.zero_add]; exact hv) rfl ?_)
  repeat' (first | apply HL.fold | apply HA.fold | apply HL.nil | apply HX.n_then | apply HC.seq | apply HC.region | refine HL.pa ?_ | refine HL.ga rfl ?_ | refine HL.na rfl ?_ | refine HL.nu rfl rfl ?_ | apply HC.block | apply HC.skip | apply HC.exit | apply HC.ret | apply HX.e_block | refine HX.e_other rfl ?_ | apply HX.e_then | apply HX.e_again | apply HX.n_block | apply HX.r_then | apply HX.r_block | apply HX.r_again | refine HC.cond_yes rfl ?_ | refine HC.cond_no rfl ?_ | refine HL.one (H1.ldb rfl memA rfl rfl ?_) | refine HC.cond rfl (fun hc => ?_) (fun hc => ?_) | refine HC.cond_b rfl (fun hc => ?_) (fun hc => ?_))
  refine HL.one (H1.callz (vs := [.agg (caseC v y set k).toArray]) rfl rfl (fun w' hM => kmade_fn v X y set k hX hxb hyb hset hk w' (hT.ext hM.ext)) ?_)
  rintro ⟨⟨aS, cS⟩, ⟨aL, cL⟩⟩ ⟨bL, hbL⟩
  dsimp only [List.cons_append, List.nil_append] at hbL ⊢
  subst hbL
  repeat' (first | apply HL.fold | apply HA.fold | apply HL.nil | apply HX.n_then | apply HC.seq | apply HC.region | refine HL.pa ?_ | refine HL.ga rfl ?_ | refine HL.na rfl ?_ | refine HL.nu rfl rfl ?_ | apply HC.block | apply HC.skip | apply HC.exit | apply HC.ret | apply HX.e_block | refine HX.e_other rfl ?_ | apply HX.e_then | apply HX.e_again | apply HX.n_block | apply HX.r_then | apply HX.r_block | apply HX.r_again | refine HC.cond_yes rfl ?_ | refine HC.cond_no rfl ?_ | refine HL.one (H1.ldb rfl memA rfl rfl ?_) | refine HC.cond rfl (fun hc => ?_) (fun hc => ?_) | refine HC.cond_b rfl (fun hc => ?_) (fun hc => ?_))
  refine HL.one (H1.alloc (cs := [zv 0, zv 0, zv 0, zv 0, zv 0]) rfl rfl (fun b5 => ?_))
  repeat' (first | apply HL.fold | apply HA.fold | apply HL.nil | apply HX.n_then | apply HC.seq | apply HC.region | refine HL.pa ?_ | refine HL.ga rfl ?_ | refine HL.na rfl ?_ | refine HL.nu rfl rfl ?_ | apply HC.block | apply HC.skip | apply HC.exit | apply HC.ret | apply HX.e_block | refine HX.e_other rfl ?_ | apply HX.e_then | apply HX.e_again | apply HX.n_block | apply HX.r_then | apply HX.r_block | apply HX.r_again | refine HC.cond_yes rfl ?_ | refine HC.cond_no rfl ?_ | refine HL.one (H1.ldb rfl memA rfl rfl ?_) | refine HC.cond rfl (fun hc => ?_) (fun hc => ?_) | refine HC.cond_b rfl (fun hc => ?_) (fun hc => ?_))
  refine HL.one (H1.stAgg (cs := [zv 0, zv 0, zv 0, zv 0, zv 0]) (vs := (madeD y).cells) rfl rfl rfl (by unfold Di.cells; intro v hv; simp only [List.mem_cons, List.not_mem_nil, or_false] at hv; rcases hv with rfl | rfl | rfl | rfl | rfl <;> rfl) rplA rfl ?_)
  repeat' (first | apply HL.fold | apply HA.fold | apply HL.nil | apply HX.n_then | apply HC.seq | apply HC.region | refine HL.pa ?_ | refine HL.ga rfl ?_ | refine HL.na rfl ?_ | refine HL.nu rfl rfl ?_ | apply HC.block | apply HC.skip | apply HC.exit | apply HC.ret | apply HX.e_block | refine HX.e_other rfl ?_ | apply HX.e_then | apply HX.e_again | apply HX.n_block | apply HX.r_then | apply HX.r_block | apply HX.r_again | refine HC.cond_yes rfl ?_ | refine HC.cond_no rfl ?_ | refine HL.one (H1.ldb rfl memA rfl rfl ?_) | refine HC.cond rfl (fun hc => ?_) (fun hc => ?_) | refine HC.cond_b rfl (fun hc => ?_) (fun hc => ?_))
  refine HL.one (H1.ldAgg (vs := (madeD y).cells) rfl memA rfl (fun i v hv => by rw [Nat.zero_add]; exact hv) rfl ?_)
  repeat' (first | apply HL.fold | apply HA.fold | apply HL.nil | apply HX.n_then | apply HC.seq | apply HC.region | refine HL.pa ?_ | refine HL.ga rfl ?_ | refine HL.na rfl ?_ | refine HL.nu rfl rfl ?_ | apply HC.block | apply HC.skip | apply HC.exit | apply HC.ret | apply HX.e_block | refine HX.e_other rfl ?_ | apply HX.e_then | apply HX.e_again | apply HX.n_block | apply HX.r_then | apply HX.r_block | apply HX.r_again | refine HC.cond_yes rfl ?_ | refine HC.cond_no rfl ?_ | refine HL.one (H1.ldb rfl memA rfl rfl ?_) | refine HC.cond rfl (fun hc => ?_) (fun hc => ?_) | refine HC.cond_b rfl (fun hc => ?_) (fun hc => ?_))
  refine HL.one (H1.callz1 (An := fun z : Option Addr × Nat => A.grow 3 1 z.1 z.2 (bestL (best (madeS X) (madeD y) (caseK X set k))).length (ints (natI (bestL (best (madeS X) (madeD y) (caseK X set k)))))) (vs := [.slice aS (madeS X).length cS, .agg (madeD y).cells.toArray, zv (caseK X set k)]) rfl rfl (fun w' hM =>
    best_fn _ (madeS X) (madeD y) (caseK X set k) (by rw [madeS_len]; omega) w' (RdS.own (a := aS) (c := cS) hM memA)) ?_)
  rintro ⟨aB, cB⟩ -
  dsimp only
  repeat' (first | apply HL.fold | apply HA.fold | apply HL.nil | apply HX.n_then | apply HC.seq | apply HC.region | refine HL.pa ?_ | refine HL.ga rfl ?_ | refine HL.na rfl ?_ | refine HL.nu rfl rfl ?_ | apply HC.block | apply HC.skip | apply HC.exit | apply HC.ret | apply HX.e_block | refine HX.e_other rfl ?_ | apply HX.e_then | apply HX.e_again | apply HX.n_block | apply HX.r_then | apply HX.r_block | apply HX.r_again | refine HC.cond_yes rfl ?_ | refine HC.cond_no rfl ?_ | refine HL.one (H1.ldb rfl memA rfl rfl ?_) | refine HC.cond rfl (fun hc => ?_) (fun hc => ?_) | refine HC.cond_b rfl (fun hc => ?_) (fun hc => ?_))
  refine HL.one (H1.ldAgg (vs := (madeD y).cells) rfl memA rfl (fun i v hv => by rw [Nat.zero_add]; exact hv) rfl ?_)
  repeat' (first | apply HL.fold | apply HA.fold | apply HL.nil | apply HX.n_then | apply HC.seq | apply HC.region | refine HL.pa ?_ | refine HL.ga rfl ?_ | refine HL.na rfl ?_ | refine HL.nu rfl rfl ?_ | apply HC.block | apply HC.skip | apply HC.exit | apply HC.ret | apply HX.e_block | refine HX.e_other rfl ?_ | apply HX.e_then | apply HX.e_again | apply HX.n_block | apply HX.r_then | apply HX.r_block | apply HX.r_again | refine HC.cond_yes rfl ?_ | refine HC.cond_no rfl ?_ | refine HL.one (H1.ldb rfl memA rfl rfl ?_) | refine HC.cond rfl (fun hc => ?_) (fun hc => ?_) | refine HC.cond_b rfl (fun hc => ?_) (fun hc => ?_))
  refine HL.one (H1.callz1 (An := fun z : Option Addr × Nat => A.grow 3 1 z.1 z.2 (chk (madeS X) (madeD y) (natI (ownL X set)) (caseK X set k)).1.length (ints (natI (chk (madeS X) (madeD y) (natI (ownL X set)) (caseK X set k)).1))) (vs := [.slice aS (madeS X).length cS, .agg (madeD y).cells.toArray, .slice (some ⟨bL, 0, none⟩) (ownL X set).length cL, zv (caseK X set k)]) rfl rfl (fun w' hM => by
    have h1 := hM.gr (a := some ⟨bL, 0, none⟩) (c := cL) memA
    exact check_fn _ (madeS X) (madeD y) _ (natI (ownL X set)) (caseK X set k) (by rw [madeS_len]; omega) (by rw [natI_len]; omega) w' (RdS.own (a := aS) (c := cS) hM memA) h1) ?_)
  rintro ⟨aC, cC⟩ -
  dsimp only
  cases hb : best (madeS X) (madeD y) (caseK X set k) with
  | none =>
    obtain ⟨hs1, hs2⟩ := best_no hb
    rw [hs1]
    simp only [bestE, bestL, Option.getD_none, List.length_nil]
    repeat' (first | apply HL.fold | apply HA.fold | apply HL.nil | apply HX.n_then | apply HC.seq | apply HC.region | refine HL.pa ?_ | refine HL.ga rfl ?_ | refine HL.na rfl ?_ | refine HL.nu rfl rfl ?_ | apply HC.block | apply HC.skip | apply HC.exit | apply HC.ret | apply HX.e_block | refine HX.e_other rfl ?_ | apply HX.e_then | apply HX.e_again | apply HX.n_block | apply HX.r_then | apply HX.r_block | apply HX.r_again | refine HC.cond_yes rfl ?_ | refine HC.cond_no rfl ?_ | refine HL.one (H1.ldb rfl memA rfl rfl ?_) | refine HC.cond rfl (fun hc => ?_) (fun hc => ?_) | refine HC.cond_b rfl (fun hc => ?_) (fun hc => ?_))
    have hall := som_all (madeN X)
    have hsh : (1 <<< madeN X : Nat) ≤ 512 := by rw [Nat.one_shiftLeft]; exact Nat.pow_le_pow_right (n := 2) (j := 9) (by decide) (by omega)
    have hlr : (List.range (madeN X)).length = madeN X := List.length_range
    have hb1 : -9223372036854775808 ≤ ((1 <<< madeN X : Nat) : Int) - 1 := by generalize 1 <<< madeN X = q at *; omega
    have hb2 : ((1 <<< madeN X : Nat) : Int) - 1 ≤ 9223372036854775807 := by generalize 1 <<< madeN X = q at *; omega
    rw [madeS_len]
    refine HC.anyC (cellsA b5 (madeD y).cells ++ []) rfl ?_
    refine HB.pa 0 rfl ?_
    refine HB.ldA (vs := (madeD y).cells) 1 rfl rfl rfl (fun i v hv => cellsL (cellsA_mem hv)) ?_
    refine HB.pa 2 rfl ?_
    refine HB.pa 3 rfl ?_
    refine HB.pa 4 rfl ?_
    refine HB.pa (v := zv ((1 <<< madeN X : Nat) - 1 : Int)) 5 rfl ?_ (POp.sub rfl rfl hb1 hb2)
    refine HB.pa 6 rfl ?_
    refine HB.pa 7 rfl ?_
    refine HB.pa 9 rfl ?_
    refine HB.all (by exact Keep.blkA memA Keep.nil) [8] (by kernel_rfl) rfl ⟨⟨_, rfl, ?_⟩, trivial⟩
    refine HP.one ?_
    refine H1.callz1 (An := fun z : Option Addr × Nat => A.grow 3 1 z.1 z.2 (madeN X) (ints (natI (List.range (madeN X))))) (V := fun z => .slice z.1 (madeN X) z.2) (I := fun _ => True) (vs := [zv ((1 <<< madeN X : Nat) - 1 : Int), zv (madeN X : Int)]) rfl rfl (fun w' _ => by
        have := some_fn ((1 <<< madeN X : Nat) - 1 : Int) (madeN X) ⟨hb1, hb2⟩ (by omega) w'
        rw [hall, hlr] at this
        exact this) ?_
    rintro ⟨aA, cA⟩ -
    dsimp only
    apply HB.fold
    refine HB.all (by exact Keep.blkA memA Keep.nil) [10] (by kernel_rfl) rfl ⟨⟨_, rfl, ?_⟩, trivial⟩
    refine HP.one ?_
    refine H1.callz1 (An := fun z : Option Addr × Nat => A.grow 3 1 z.1 z.2 (chk (madeS X) (madeD y) (natI (List.range (madeN X))) (caseK X set k)).1.length (ints (natI (chk (madeS X) (madeD y) (natI (List.range (madeN X))) (caseK X set k)).1))) (V := fun z => .tuple #[.slice z.1 (chk (madeS X) (madeD y) (natI (List.range (madeN X))) (caseK X set k)).1.length z.2, .bool false]) (I := fun _ => True) (vs := [.slice aS (madeN X) cS, .agg (madeD y).cells.toArray, .slice aA (madeN X) cA, zv (caseK X set k)]) rfl rfl (fun w' hM => by
        have h1 := hM.gr (a := aA) (c := cA) memA
        have h2 := check_fn (.slice aS (madeN X) cS) (madeS X) (madeD y) (.slice aA (madeN X) cA) (natI (List.range (madeN X))) (caseK X set k) (by rw [madeS_len]; omega) (by rw [natI_len, hlr]; omega) w' (RdS.own' (a := aS) (c := cS) hM memA (madeS_len X)) h1
        rw [hs2] at h2
        exact h2) ?_
    rintro ⟨aD, cD⟩ -
    dsimp only
    apply HB.fold
    refine HB.pa 11 rfl ?_
    refine HB.pa 12 rfl ?_
    refine HB.pa 13 rfl ?_
    refine HB.pa 14 rfl ?_
    refine HB.pa 15 rfl ?_
    refine HB.done (by exact Keep.blkA memA Keep.nil) (by kernel_rfl) ?_
    repeat' (first | apply HL.fold | apply HA.fold | apply HL.nil | apply HX.n_then | apply HC.seq | apply HC.region | refine HL.pa ?_ | refine HL.ga rfl ?_ | refine HL.na rfl ?_ | refine HL.nu rfl rfl ?_ | apply HC.block | apply HC.skip | apply HC.exit | apply HC.ret | apply HX.e_block | refine HX.e_other rfl ?_ | apply HX.e_then | apply HX.e_again | apply HX.n_block | apply HX.r_then | apply HX.r_block | apply HX.r_again | refine HC.cond_yes rfl ?_ | refine HC.cond_no rfl ?_ | refine HL.one (H1.ldb rfl memA rfl rfl ?_) | refine HC.cond rfl (fun hc => ?_) (fun hc => ?_) | refine HC.cond_b rfl (fun hc => ?_) (fun hc => ?_))
    exact HX.ret1 rfl rfl fun w' hM => ⟨rfl, hM.ext⟩
  | some T =>
    obtain ⟨hs1, hT1, hT7, hs2⟩ := best_yes hb
    simp only [bestE, bestL, Option.getD_some]
    repeat' (first | apply HL.fold | apply HA.fold | apply HL.nil | apply HX.n_then | apply HC.seq | apply HC.region | refine HL.pa ?_ | refine HL.ga rfl ?_ | refine HL.na rfl ?_ | refine HL.nu rfl rfl ?_ | apply HC.block | apply HC.skip | apply HC.exit | apply HC.ret | apply HX.e_block | refine HX.e_other rfl ?_ | apply HX.e_then | apply HX.e_again | apply HX.n_block | apply HX.r_then | apply HX.r_block | apply HX.r_again | refine HC.cond_yes rfl ?_ | refine HC.cond_no rfl ?_ | refine HL.one (H1.ldb rfl memA rfl rfl ?_) | refine HC.cond rfl (fun hc => ?_) (fun hc => ?_) | refine HC.cond_b rfl (fun hc => ?_) (fun hc => ?_))
    refine HL.one (H1.ldAgg (vs := (madeD y).cells) rfl memA rfl (fun i v hv => by rw [Nat.zero_add]; exact hv) rfl ?_)
    repeat' (first | apply HL.fold | apply HA.fold | apply HL.nil | apply HX.n_then | apply HC.seq | apply HC.region | refine HL.pa ?_ | refine HL.ga rfl ?_ | refine HL.na rfl ?_ | refine HL.nu rfl rfl ?_ | apply HC.block | apply HC.skip | apply HC.exit | apply HC.ret | apply HX.e_block | refine HX.e_other rfl ?_ | apply HX.e_then | apply HX.e_again | apply HX.n_block | apply HX.r_then | apply HX.r_block | apply HX.r_again | refine HC.cond_yes rfl ?_ | refine HC.cond_no rfl ?_ | refine HL.one (H1.ldb rfl memA rfl rfl ?_) | refine HC.cond rfl (fun hc => ?_) (fun hc => ?_) | refine HC.cond_b rfl (fun hc => ?_) (fun hc => ?_))
    refine HL.one (H1.callz1 (An := fun z : Option Addr × Nat => A.grow 3 1 z.1 z.2 (chk (madeS X) (madeD y) (natI T) (caseK X set k)).1.length (ints (natI (chk (madeS X) (madeD y) (natI T) (caseK X set k)).1))) (vs := [.slice aS (madeS X).length cS, .agg (madeD y).cells.toArray, .slice aB T.length cB, zv (caseK X set k)]) rfl rfl (fun w' hM => by
      have h1 := hM.gr (a := aB) (c := cB) memA
      exact check_fn _ (madeS X) (madeD y) _ (natI T) (caseK X set k) (by rw [madeS_len]; omega) (by rw [natI_len]; omega) w' (RdS.own (a := aS) (c := cS) hM memA) h1) ?_)
    rintro ⟨aD, cD⟩ -
    dsimp only
    rw [hs1]
    cases hs : (chk (madeS X) (madeD y) (natI (ownL X set)) (caseK X set k)).2 with
    | false =>
      repeat' (first | apply HL.fold | apply HA.fold | apply HL.nil | apply HX.n_then | apply HC.seq | apply HC.region | refine HL.pa ?_ | refine HL.ga rfl ?_ | refine HL.na rfl ?_ | refine HL.nu rfl rfl ?_ | apply HC.block | apply HC.skip | apply HC.exit | apply HC.ret | apply HX.e_block | refine HX.e_other rfl ?_ | apply HX.e_then | apply HX.e_again | apply HX.n_block | apply HX.r_then | apply HX.r_block | apply HX.r_again | refine HC.cond_yes rfl ?_ | refine HC.cond_no rfl ?_ | refine HL.one (H1.ldb rfl memA rfl rfl ?_) | refine HC.cond rfl (fun hc => ?_) (fun hc => ?_) | refine HC.cond_b rfl (fun hc => ?_) (fun hc => ?_))
      refine HC.loop (α := Unit) (fun _ => [(3, .bool true), (6, .slice (some ⟨bL, 0, none⟩) (ownL X set).length cL), (8, .slice aB T.length cB), (11, .bool false), (16, zv (0 : Int))]) (fun _ => [A.grow 3 1 aB cB T.length (ints (natI T)), A.grow 3 1 (some ⟨bL, 0, none⟩) cL (ownL X set).length (ints (natI (ownL X set)))]) (fun _ => True) (fun _ => 0) () trivial esA (by repeat (first | exact Hs.nil _ | (refine Hs.cons pickA ?_))) ?_
      rintro - -
      have h0 : (0 : Int) < (T.length : Int) := by omega
      repeat' (first | apply HL.fold | apply HA.fold | apply HL.nil | apply HX.n_then | apply HC.seq | apply HC.region | refine HL.pa ?_ | refine HL.ga rfl ?_ | refine HL.na rfl ?_ | refine HL.nu rfl rfl ?_ | apply HC.block | apply HC.skip | apply HC.exit | apply HC.ret | apply HX.e_block | refine HX.e_other rfl ?_ | apply HX.e_then | apply HX.e_again | apply HX.n_block | apply HX.r_then | apply HX.r_block | apply HX.r_again | refine HC.cond_yes rfl ?_ | refine HC.cond_no rfl ?_ | refine HL.one (H1.ldb rfl memA rfl rfl ?_) | refine HC.cond rfl (fun hc => ?_) (fun hc => ?_) | refine HC.cond_b rfl (fun hc => ?_) (fun hc => ?_))
      exact HX.ret1 rfl rfl fun w' hM => ⟨rfl, hM.ext⟩
    | true =>
    obtain ⟨hlt, hlex⟩ := hs2 hs
    have hlt' : ¬ ((ownL X set).length : Int) < (T.length : Int) := by omega
    repeat' (first | apply HL.fold | apply HA.fold | apply HL.nil | apply HX.n_then | apply HC.seq | apply HC.region | refine HL.pa ?_ | refine HL.ga rfl ?_ | refine HL.na rfl ?_ | refine HL.nu rfl rfl ?_ | apply HC.block | apply HC.skip | apply HC.exit | apply HC.ret | apply HX.e_block | refine HX.e_other rfl ?_ | apply HX.e_then | apply HX.e_again | apply HX.n_block | apply HX.r_then | apply HX.r_block | apply HX.r_again | refine HC.cond_yes rfl ?_ | refine HC.cond_no rfl ?_ | refine HL.one (H1.ldb rfl memA rfl rfl ?_) | refine HC.cond rfl (fun hc => ?_) (fun hc => ?_) | refine HC.cond_b rfl (fun hc => ?_) (fun hc => ?_))
    refine HC.loop (α := Nat) (fun i => [(3, .bool true), (6, .slice (some ⟨bL, 0, none⟩) (ownL X set).length cL), (8, .slice aB T.length cB), (11, .bool true), (16, zv (i : Int))]) (fun _ => [A.grow 3 1 aB cB T.length (ints (natI T)), A.grow 3 1 (some ⟨bL, 0, none⟩) cL (ownL X set).length (ints (natI (ownL X set)))]) (fun i => i ≤ T.length ∧ ((ownL X set).length = T.length → T.take i = (ownL X set).take i)) (fun i => T.length - i) 0 ⟨Nat.zero_le _, fun _ => rfl⟩ esA (by repeat (first | exact Hs.nil _ | (refine Hs.cons pickA ?_))) ?_
    rintro i ⟨hi, htk⟩
    by_cases hit : i < T.length
    rotate_left
    · have hit' : ¬ (i : Int) < (T.length : Int) := by omega
      repeat' (first | apply HL.fold | apply HA.fold | apply HL.nil | apply HX.n_then | apply HC.seq | apply HC.region | refine HL.pa ?_ | refine HL.ga rfl ?_ | refine HL.na rfl ?_ | refine HL.nu rfl rfl ?_ | apply HC.block | apply HC.skip | apply HC.exit | apply HC.ret | apply HX.e_block | refine HX.e_other rfl ?_ | apply HX.e_then | apply HX.e_again | apply HX.n_block | apply HX.r_then | apply HX.r_block | apply HX.r_again | refine HC.cond_yes rfl ?_ | refine HC.cond_no rfl ?_ | refine HL.one (H1.ldb rfl memA rfl rfl ?_) | refine HC.cond rfl (fun hc => ?_) (fun hc => ?_) | refine HC.cond_b rfl (fun hc => ?_) (fun hc => ?_))
      exact HX.ret1 rfl rfl fun w' hM => ⟨rfl, hM.ext⟩
    have hit' : (i : Int) < (T.length : Int) := by omega
    by_cases hle : (ownL X set).length = T.length
    rotate_left
    · have hle' : ¬ ((ownL X set).length : Int) = (T.length : Int) := by omega
      repeat' (first | apply HL.fold | apply HA.fold | apply HL.nil | apply HX.n_then | apply HC.seq | apply HC.region | refine HL.pa ?_ | refine HL.ga rfl ?_ | refine HL.na rfl ?_ | refine HL.nu rfl rfl ?_ | apply HC.block | apply HC.skip | apply HC.exit | apply HC.ret | apply HX.e_block | refine HX.e_other rfl ?_ | apply HX.e_then | apply HX.e_again | apply HX.n_block | apply HX.r_then | apply HX.r_block | apply HX.r_again | refine HC.cond_yes rfl ?_ | refine HC.cond_no rfl ?_ | refine HL.one (H1.ldb rfl memA rfl rfl ?_) | refine HC.cond rfl (fun hc => ?_) (fun hc => ?_) | refine HC.cond_b rfl (fun hc => ?_) (fun hc => ?_))
      exact HX.ret1 rfl rfl fun w' hM => ⟨rfl, hM.ext⟩
    have hle' : ((ownL X set).length : Int) = (T.length : Int) := by omega
    have hil : i < (ownL X set).length := by omega
    refine HC.openg (.head _) (by omega) fun bB hbB => ?_
    subst hbB
    have c1 : ∀ w', Mm w [A.grow 3 1 (some ⟨bB, 0, none⟩) cB T.length (ints (natI T)), A.grow 3 1 (some ⟨bL, 0, none⟩) cL (ownL X set).length (ints (natI (ownL X set)))] w' → w'.cell? ⟨bB, i, none⟩ = some (zv (T[i] : Int)) := fun w' hM => Rd.cell0 (hM.gr (.head _)) (natI_get hit)
    have c2 : ∀ w', Mm w [A.grow 3 1 (some ⟨bB, 0, none⟩) cB T.length (ints (natI T)), A.grow 3 1 (some ⟨bL, 0, none⟩) cL (ownL X set).length (ints (natI (ownL X set)))] w' → w'.cell? ⟨bL, i, none⟩ = some (zv ((ownL X set)[i] : Int)) := fun w' hM => Rd.cell0 (hM.gr (.tail _ (.head _))) (natI_get hil)
    by_cases he : T[i] = (ownL X set)[i]
    · have he' : (T[i] : Int) = ((ownL X set)[i] : Int) := by omega
      repeat' (first | apply HL.fold | apply HA.fold | apply HL.nil | apply HX.n_then | apply HC.seq | apply HC.region | refine HL.pa ?_ | refine HL.ga rfl ?_ | refine HL.na rfl ?_ | refine HL.nu rfl rfl ?_ | apply HC.block | apply HC.skip | apply HC.exit | apply HC.ret | apply HX.e_block | refine HX.e_other rfl ?_ | apply HX.e_then | apply HX.e_again | apply HX.n_block | apply HX.r_then | apply HX.r_block | apply HX.r_again | refine HC.cond_yes rfl ?_ | refine HC.cond_no rfl ?_ | refine HL.one (H1.ldb rfl memA rfl rfl ?_) | refine HC.cond rfl (fun hc => ?_) (fun hc => ?_) | refine HC.cond_b rfl (fun hc => ?_) (fun hc => ?_))
      refine HC.quietS [(some 110, [8], []), (some 111, [16], []), (some 112, [110, 111], [0, 1]), (some 113, [112], [2]), (some 114, [6], []), (some 115, [16], []), (some 116, [114, 115], [4, 5]), (some 117, [116], [6]), (some 118, [113, 117], [3, 7])] (by kernel_rfl) (by kernel_rfl) (by kernel_rfl) ?_
      repeat' (first | refine HQ.pa ?_ | refine HQ.ga rfl ?_ | refine HQ.na rfl ?_ | refine HQ.nu rfl ?_ | refine HQ.ldb rfl memA rfl rfl ?_)
      refine HQ.ld rfl c1 rfl ?_
      repeat' (first | refine HQ.pa ?_ | refine HQ.ga rfl ?_ | refine HQ.na rfl ?_ | refine HQ.nu rfl ?_ | refine HQ.ldb rfl memA rfl rfl ?_)
      refine HQ.ld rfl c2 rfl ?_
      repeat' (first | refine HQ.pa ?_ | refine HQ.ga rfl ?_ | refine HQ.na rfl ?_ | refine HQ.nu rfl ?_ | refine HQ.ldb rfl memA rfl rfl ?_)
      refine HQ.nil ?_
      repeat' (first | apply HL.fold | apply HA.fold | apply HL.nil | apply HX.n_then | apply HC.seq | apply HC.region | refine HL.pa ?_ | refine HL.ga rfl ?_ | refine HL.na rfl ?_ | refine HL.nu rfl rfl ?_ | apply HC.block | apply HC.skip | apply HC.exit | apply HC.ret | apply HX.e_block | refine HX.e_other rfl ?_ | apply HX.e_then | apply HX.e_again | apply HX.n_block | apply HX.r_then | apply HX.r_block | apply HX.r_again | refine HC.cond_yes rfl ?_ | refine HC.cond_no rfl ?_ | refine HL.one (H1.ldb rfl memA rfl rfl ?_) | refine HC.cond rfl (fun hc => ?_) (fun hc => ?_) | refine HC.cond_b rfl (fun hc => ?_) (fun hc => ?_))
      refine HX.again (i + 1) ⟨by omega, fun h => ?_⟩ (by omega) esA (by repeat (first | exact Hs.nil _ | (refine Hs.cons pickA ?_)))
      rw [List.take_succ_eq_append_getElem hit, List.take_succ_eq_append_getElem hil, htk h, he]
    have he' : ¬ (T[i] : Int) = ((ownL X set)[i] : Int) := by omega
    have hl2 : T[i] < (ownL X set)[i] := by
      rcases hlex hle with h | h
      · exact absurd (by simp only [h]) he
      · exact lex_at hit hil h (htk hle) he
    have hl3 : (T[i] : Int) < ((ownL X set)[i] : Int) := by omega
    repeat' (first | apply HL.fold | apply HA.fold | apply HL.nil | apply HX.n_then | apply HC.seq | apply HC.region | refine HL.pa ?_ | refine HL.ga rfl ?_ | refine HL.na rfl ?_ | refine HL.nu rfl rfl ?_ | apply HC.block | apply HC.skip | apply HC.exit | apply HC.ret | apply HX.e_block | refine HX.e_other rfl ?_ | apply HX.e_then | apply HX.e_again | apply HX.n_block | apply HX.r_then | apply HX.r_block | apply HX.r_again | refine HC.cond_yes rfl ?_ | refine HC.cond_no rfl ?_ | refine HL.one (H1.ldb rfl memA rfl rfl ?_) | refine HC.cond rfl (fun hc => ?_) (fun hc => ?_) | refine HC.cond_b rfl (fun hc => ?_) (fun hc => ?_))
    refine HC.quietS [(some 110, [8], []), (some 111, [16], []), (some 112, [110, 111], [0, 1]), (some 113, [112], [2]), (some 114, [6], []), (some 115, [16], []), (some 116, [114, 115], [4, 5]), (some 117, [116], [6]), (some 118, [113, 117], [3, 7])] (by kernel_rfl) (by kernel_rfl) (by kernel_rfl) ?_
    repeat' (first | refine HQ.pa ?_ | refine HQ.ga rfl ?_ | refine HQ.na rfl ?_ | refine HQ.nu rfl ?_ | refine HQ.ldb rfl memA rfl rfl ?_)
    refine HQ.ld rfl c1 rfl ?_
    repeat' (first | refine HQ.pa ?_ | refine HQ.ga rfl ?_ | refine HQ.na rfl ?_ | refine HQ.nu rfl ?_ | refine HQ.ldb rfl memA rfl rfl ?_)
    refine HQ.ld rfl c2 rfl ?_
    repeat' (first | refine HQ.pa ?_ | refine HQ.ga rfl ?_ | refine HQ.na rfl ?_ | refine HQ.nu rfl ?_ | refine HQ.ldb rfl memA rfl rfl ?_)
    refine HQ.nil ?_
    repeat' (first | apply HL.fold | apply HA.fold | apply HL.nil | apply HX.n_then | apply HC.seq | apply HC.region | refine HL.pa ?_ | refine HL.ga rfl ?_ | refine HL.na rfl ?_ | refine HL.nu rfl rfl ?_ | apply HC.block | apply HC.skip | apply HC.exit | apply HC.ret | apply HX.e_block | refine HX.e_other rfl ?_ | apply HX.e_then | apply HX.e_again | apply HX.n_block | apply HX.r_then | apply HX.r_block | apply HX.r_again | refine HC.cond_yes rfl ?_ | refine HC.cond_no rfl ?_ | refine HL.one (H1.ldb rfl memA rfl rfl ?_) | refine HC.cond rfl (fun hc => ?_) (fun hc => ?_) | refine HC.cond_b rfl (fun hc => ?_) (fun hc => ?_))
    refine HC.quietS [(some 119, [3], []), (some 120, [119], [0]), (some 121, [8, 120], [1]), (some 122, [16, 120], [1]), (some 123, [121, 122, 120], [2, 3, 1]), (some 124, [123, 120], [4, 1]), (some 125, [6, 120], [1]), (some 126, [16, 120], [1]), (some 127, [125, 126, 120], [6, 7, 1]), (some 128, [127, 120], [8, 1]), (some 129, [124, 128, 120], [5, 9, 1]), (some 130, [120, 129], [1, 10]), (some 2, [130], [11, 1, 0, 1, 2, 3, 4, 5, 6, 7, 8, 9, 10, 11])] (by kernel_rfl) (by kernel_rfl) (by kernel_rfl) ?_
    repeat' (first | refine HQ.pa ?_ | refine HQ.ga rfl ?_ | refine HQ.na rfl ?_ | refine HQ.nu rfl ?_ | refine HQ.ldb rfl memA rfl rfl ?_)
    refine HQ.ld rfl c1 rfl ?_
    repeat' (first | refine HQ.pa ?_ | refine HQ.ga rfl ?_ | refine HQ.na rfl ?_ | refine HQ.nu rfl ?_ | refine HQ.ldb rfl memA rfl rfl ?_)
    refine HQ.ld rfl c2 rfl ?_
    repeat' (first | refine HQ.pa ?_ | refine HQ.ga rfl ?_ | refine HQ.na rfl ?_ | refine HQ.nu rfl ?_ | refine HQ.ldb rfl memA rfl rfl ?_)
    refine HQ.nil ?_
    repeat' (first | apply HL.fold | apply HA.fold | apply HL.nil | apply HX.n_then | apply HC.seq | apply HC.region | refine HL.pa ?_ | refine HL.ga rfl ?_ | refine HL.na rfl ?_ | refine HL.nu rfl rfl ?_ | apply HC.block | apply HC.skip | apply HC.exit | apply HC.ret | apply HX.e_block | refine HX.e_other rfl ?_ | apply HX.e_then | apply HX.e_again | apply HX.n_block | apply HX.r_then | apply HX.r_block | apply HX.r_again | refine HC.cond_yes rfl ?_ | refine HC.cond_no rfl ?_ | refine HL.one (H1.ldb rfl memA rfl rfl ?_) | refine HC.cond rfl (fun hc => ?_) (fun hc => ?_) | refine HC.cond_b rfl (fun hc => ?_) (fun hc => ?_))
    exact HX.ret1 rfl rfl fun w' hM => ⟨by rw [decide_eq_true hl3], hM.ext⟩
end Go.Sx

