/- Chapter 18: the law PlaceMonotone. -/
import Derived.Test.YtnpnoobknolahaaTG
namespace Go.Sx
open Go Go.Proofs Go.RowKit
theorem asc_sub {V l : List Nat} (hV : V.Pairwise (· < ·)) (hl : l.Pairwise (· < ·)) (h : ∀ x ∈ V, x ∈ l) : V.Sublist l := by
  have e : V = l.filter fun x => decide (x ∈ V) := asc_ext hV (hl.filter _) fun x => by
    rw [List.mem_filter, decide_eq_true_eq]
    exact ⟨fun hx => ⟨h x hx, hx⟩, fun hx => hx.2⟩
  rw [e]
  exact List.filter_sublist
/-- No n elements of T are hit. -/
def Firm (S : List St) (d : Di) (T : List Nat) (n : Nat) : Prop := ∀ U, U.Sublist T → U.length = n → ¬ Hit (gS S) U d.left d.m
theorem chkC_iff {S : List St} {d : Di} {k : Int} {T : List Nat} : chkC S d k T = true ↔ (1 ≤ k ∧ k ≤ (T.length : Int)) ∧ Firm S d T (T.length - k.toNat + 1) := by
  unfold chkC Firm
  rw [Bool.and_eq_true, decide_eq_true_eq, List.all_eq_true]
  refine and_congr Iff.rfl ⟨fun h U h1 h2 => ?_, fun h U hU => ?_⟩
  · have := h U (mem_combs.2 ⟨h1, h2⟩)
    rwa [Bool.not_eq_true', hitB_no] at this
  · obtain ⟨h1, h2⟩ := mem_combs.1 hU
    rw [Bool.not_eq_true', hitB_no]
    exact h U h1 h2
theorem Firm.more {S : List St} {d : Di} {T : List Nat} {n m : Nat} (h : Firm S d T n) (hnm : n ≤ m) : Firm S d T m := fun U h1 h2 hh => by
  have h3 : (U.take n).Sublist U := List.take_sublist _ _
  exact h (U.take n) (h3.trans h1) (by rw [List.length_take]; omega) (hh.sub h3)
theorem Firm.less {S : List St} {d d' : Di} {T : List Nat} {n : Nat} (h : Firm S d T n) (h1 : ∀ q, q < 4 → d'.left q ≤ d.left q) (h2 : d'.m ≤ d.m) : Firm S d' T n := fun U h3 h4 hh => h U h3 h4 (hh.mono h1 h2)
theorem Firm.add {S : List St} {d : Di} {l T : List Nat} {n x : Nat} (h : Firm S d l n) (hl : l.Pairwise (· < ·)) (hT : T.Pairwise (· < ·)) (hx : ∀ i ∈ T, i ∈ l ∨ i = x) : Firm S d T (n + 1) := fun U h1 h2 hh => by
  have hU := hT.sublist h1
  have h3 : n ≤ (U.filter fun j => decide (j ≠ x)).length := by
    by_cases hm : x ∈ U
    · rw [filter_one (asc_nodup' hU) hm]; omega
    · have : (U.filter fun j => decide (j ≠ x)) = U := List.filter_eq_self.2 fun j hj => decide_eq_true fun e => hm (e ▸ hj)
      rw [this]; omega
  have h4 : (U.filter fun j => decide (j ≠ x)).Sublist l := asc_sub (hU.filter _) hl fun j hj => by
    obtain ⟨h5, h6⟩ := List.mem_filter.1 hj
    rcases hx j (h1.subset h5) with h7 | h7
    · exact h7
    · exact absurd h7 (of_decide_eq_true h6)
  exact (h.more h3) _ h4 rfl (hh.sub List.filter_sublist)
theorem chk_h {S : List St} {d : Di} {H : List Int} {k : Int} (h : goodP S d H k) : (chk S d H k).2 = true ↔ Firm S d (hold H) (H.length - k.toNat + 1) := by
  rw [chk_safe, lost_none, List.all_eq_true]
  constructor
  · rintro ⟨-, h2⟩ U h3 h4
    have := h2 U (mem_combs.2 ⟨h3, h4⟩)
    rwa [Bool.not_eq_true', hitB_no] at this
  · refine fun h2 => ⟨h, fun U hU => ?_⟩
    obtain ⟨h1, h3⟩ := mem_combs.1 hU
    rw [Bool.not_eq_true', hitB_no]
    exact h2 U h1 h3
theorem pv_less {S : List St} {d d' : Di} (h : pvalid S d = true) (hb : ∀ q, 0 ≤ d'.b.at q ∧ d'.b.at q ≤ 3) (hl : 0 ≤ d'.liars ∧ d'.liars ≤ 4) : pvalid S d' = true := by
  unfold pvalid at h ⊢
  rw [Bool.and_eq_true, Bool.and_eq_true] at h
  rw [h.1.1, within_of hb, decide_eq_true hl]; rfl
section
variable {X : List St} {y : Di} {set k : Int}
theorem own_base (hs : (chk (madeS X) (madeD y) (natI (ownL X set)) (caseK X set k)).2 = true) : Firm (madeS X) (madeD y) (ownL X set) ((ownL X set).length - (caseK X set k).toNat + 1) := by
  rw [chk_c (madeV X y) (ownL_asc X set) (fun i hi => by rw [madeS_len]; exact ownL_lt hi)] at hs
  exact (chkC_iff.1 hs).2
theorem own_to {d' : Di} {k' : Int} (hv : pvalid (madeS X) d' = true) (hk : 1 ≤ k' ∧ k' ≤ ((ownL X set).length : Int)) (hf : Firm (madeS X) d' (ownL X set) ((ownL X set).length - k'.toNat + 1)) : (chk (madeS X) d' (natI (ownL X set)) k').2 = true := by
  rw [chk_c hv (ownL_asc X set) (fun i hi => by rw [madeS_len]; exact ownL_lt hi)]
  exact chkC_iff.2 ⟨hk, hf⟩
theorem own_less {d' : Di} (hs : (chk (madeS X) (madeD y) (natI (ownL X set)) (caseK X set k)).2 = true) (hb : ∀ q, 0 ≤ d'.b.at q ∧ d'.b.at q ≤ (madeD y).b.at q) (hl : 0 ≤ d'.liars ∧ d'.liars ≤ (madeD y).liars) : (chk (madeS X) d' (natI (ownL X set)) (caseK X set k)).2 = true := by
  have hd := madeD_in y
  refine own_to (pv_less (madeV X y) (fun q => ?_) ?_) (caseK_in X set k) ((own_base hs).less (fun q _ => ?_) ?_)
  · have := hd.1 q; have := hb q; omega
  · have := hd.2; omega
  · unfold Di.left; have := hb q; omega
  · unfold Di.m; omega
theorem own_k (hs : (chk (madeS X) (madeD y) (natI (ownL X set)) (caseK X set k)).2 = true) : (chk (madeS X) (madeD y) (natI (ownL X set)) (max 1 (caseK X set k - 1))).2 = true := by
  have h1 := caseK_in X set k
  exact own_to (madeV X y) (by omega) ((own_base hs).more (by omega))
theorem own_add {x : Nat} (hs : (chk (madeS X) (madeD y) (natI (ownL X set)) (caseK X set k)).2 = true) (hx : x < madeN X) (hn : x ∉ ownL X set) : (chk (madeS X) (madeD y) (natI (ownL X set) ++ [(x : Int)]) (caseK X set k)).2 = true := by
  have h1 := caseK_in X set k
  have hnd : (natI (ownL X set) ++ [(x : Int)]).Nodup := by
    refine List.nodup_append.2 ⟨natI_nodup (ownL_asc X set), by simp, fun a ha b hb e => ?_⟩
    rw [List.mem_singleton] at hb
    obtain ⟨i, hi, rfl⟩ := List.mem_map.1 ha
    subst hb
    exact hn (Int.ofNat.inj e ▸ hi)
  have h0 : ∀ z ∈ natI (ownL X set) ++ [(x : Int)], 0 ≤ z ∧ z < (madeS X).length := fun z hz => by
    rw [madeS_len]
    rcases List.mem_append.1 hz with hz | hz
    · obtain ⟨i, hi, rfl⟩ := List.mem_map.1 hz
      have := ownL_lt hi
      exact ⟨Int.natCast_nonneg _, by show (i : Int) < _; omega⟩
    · rw [List.mem_singleton] at hz; subst hz; omega
  have hlen : (natI (ownL X set) ++ [(x : Int)]).length = (ownL X set).length + 1 := by rw [List.length_append, natI_len]; rfl
  have hg : goodP (madeS X) (madeD y) (natI (ownL X set) ++ [(x : Int)]) (caseK X set k) := ⟨madeV X y, by rw [hlen]; omega, h0, hnd⟩
  rw [chk_h hg, hlen, show (ownL X set).length + 1 - (caseK X set k).toNat + 1 = (ownL X set).length - (caseK X set k).toNat + 1 + 1 by omega]
  refine (own_base hs).add (x := x) (ownL_asc X set) hg.asc fun i hi => ?_
  have h2 := (hold_mem hg.mem0).1 hi
  rcases List.mem_append.1 h2 with h3 | h3
  · obtain ⟨j, hj, e⟩ := List.mem_map.1 h3
    exact .inl (Int.ofNat.inj e ▸ hj)
  · rw [List.mem_singleton] at h3
    exact .inr (Int.ofNat.inj h3)
end
attribute [local irreducible] WC WL WX POp Then Again Fn NX W1 WA WO QL RP RA Yld LoopAt HC HL HX HN H1 HA HO HQ HB HP A.blk A.grow A.rd A.obj A.mp AgainH CutH
attribute [local irreducible] A.mq A.mit A.dfrs A.loop mapsA A.land A.pure chk best
set_option maxHeartbeats 2000000 in
theorem placeMonotone_fn (v : Value) (X : List St) (y : Di) (set k what more : Int) (hX : X.length ≤ 9223372036854775807) (hxb : ∀ s ∈ X, s.i64) (hyb : y.b.i64 ∧ i64R y.liars) (hset : i64R set) (hk : i64R k) (hw : i64R what) (hm : i64R more) (w : World) (hT : RdS w v X) :
    Fn Try.prog 6 #[.agg (caseC v y set k).toArray, zv what, zv more] w fun u w' => u = .bool true ∧ Ext w w' := by
  have h7 := madeN_7 X
  have hoL := ownL_len X set
  have hoK := caseK_in X set k
  have hdi := madeD_in y
  have hpw := pkI_lt what (n := 7) (by decide)
  have hpm := pkI_lt more (n := (madeN X : Int)) (by omega)
  refine enterH (l := [_, _, _]) rfl Try.ntmps6 rfl ?_
  repeat' (first | apply HL.fold | apply HA.fold | apply HL.nil | apply HX.n_then | apply HC.seq | apply HC.region | refine HL.pa ?_ | refine HL.ga rfl ?_ | refine HL.na rfl ?_ | refine HL.nu rfl rfl ?_ | apply HC.block | apply HC.skip | apply HC.exit | apply HC.ret | apply HX.e_block | refine HX.e_other rfl ?_ | apply HX.e_then | apply HX.e_again | apply HX.n_block | apply HX.r_then | apply HX.r_block | apply HX.r_again | refine HC.cond_yes rfl ?_ | refine HC.cond_no rfl ?_ | refine HL.one (H1.ldb rfl memA rfl rfl ?_) | refine HC.cond rfl (fun hc => ?_) (fun hc => ?_) | refine HC.cond_b rfl (fun hc => ?_) (fun hc => ?_))
  refine HL.one (H1.boxAgg (cs := caseC v y set k) rfl rfl (fun b3 => ?_))
  repeat' (first | apply HL.fold | apply HA.fold | apply HL.nil | apply HX.n_then | apply HC.seq | apply HC.region | refine HL.pa ?_ | refine HL.ga rfl ?_ | refine HL.na rfl ?_ | refine HL.nu rfl rfl ?_ | apply HC.block | apply HC.skip | apply HC.exit | apply HC.ret | apply HX.e_block | refine HX.e_other rfl ?_ | apply HX.e_then | apply HX.e_again | apply HX.n_block | apply HX.r_then | apply HX.r_block | apply HX.r_again | refine HC.cond_yes rfl ?_ | refine HC.cond_no rfl ?_ | refine HL.one (H1.ldb rfl memA rfl rfl ?_) | refine HC.cond rfl (fun hc => ?_) (fun hc => ?_) | refine HC.cond_b rfl (fun hc => ?_) (fun hc => ?_))
  refine HL.one (H1.callx (vs := []) rfl rfl (fun w' _ => ksane_fn w') ?_)
  repeat' (first | apply HL.fold | apply HA.fold | apply HL.nil | apply HX.n_then | apply HC.seq | apply HC.region | refine HL.pa ?_ | refine HL.ga rfl ?_ | refine HL.na rfl ?_ | refine HL.nu rfl rfl ?_ | apply HC.block | apply HC.skip | apply HC.exit | apply HC.ret | apply HX.e_block | refine HX.e_other rfl ?_ | apply HX.e_then | apply HX.e_again | apply HX.n_block | apply HX.r_then | apply HX.r_block | apply HX.r_again | refine HC.cond_yes rfl ?_ | refine HC.cond_no rfl ?_ | refine HL.one (H1.ldb rfl memA rfl rfl ?_) | refine HC.cond rfl (fun hc => ?_) (fun hc => ?_) | refine HC.cond_b rfl (fun hc => ?_) (fun hc => ?_))
  refine HL.one (H1.ldAgg (vs := caseC v y set k) rfl memA rfl (fun i v hv => by rw [Nat.zero_add]; exact hv) rfl ?_)
  repeat' (first | apply HL.fold | apply HA.fold | apply HL.nil | apply HX.n_then | apply HC.seq | apply HC.region | refine HL.pa ?_ | refine HL.ga rfl ?_ | refine HL.na rfl ?_ | refine HL.nu rfl rfl ?_ | apply HC.block | apply HC.skip | apply HC.exit | apply HC.ret | apply HX.e_block | refine HX.e_other rfl ?_ | apply HX.e_then | apply HX.e_again | apply HX.n_block | apply HX.r_then | apply HX.r_block | apply HX.r_again | refine HC.cond_yes rfl ?_ | refine HC.cond_no rfl ?_ | refine HL.one (H1.ldb rfl memA rfl rfl ?_) | refine HC.cond rfl (fun hc => ?_) (fun hc => ?_) | refine HC.cond_b rfl (fun hc => ?_) (fun hc => ?_))
  refine HL.one (H1.callz (vs := [.agg (caseC v y set k).toArray]) rfl rfl (fun w' hM => kmade_fn v X y set k hX hxb hyb hset hk w' (hT.ext hM.ext)) ?_)
  rintro ⟨⟨aS, cS⟩, ⟨aL, cL⟩⟩ -
  dsimp only [List.cons_append, List.nil_append]
  repeat' (first | apply HL.fold | apply HA.fold | apply HL.nil | apply HX.n_then | apply HC.seq | apply HC.region | refine HL.pa ?_ | refine HL.ga rfl ?_ | refine HL.na rfl ?_ | refine HL.nu rfl rfl ?_ | apply HC.block | apply HC.skip | apply HC.exit | apply HC.ret | apply HX.e_block | refine HX.e_other rfl ?_ | apply HX.e_then | apply HX.e_again | apply HX.n_block | apply HX.r_then | apply HX.r_block | apply HX.r_again | refine HC.cond_yes rfl ?_ | refine HC.cond_no rfl ?_ | refine HL.one (H1.ldb rfl memA rfl rfl ?_) | refine HC.cond rfl (fun hc => ?_) (fun hc => ?_) | refine HC.cond_b rfl (fun hc => ?_) (fun hc => ?_))
  refine HL.one (H1.alloc (cs := [zv 0, zv 0, zv 0, zv 0, zv 0]) rfl rfl (fun b9 => ?_))
  repeat' (first | apply HL.fold | apply HA.fold | apply HL.nil | apply HX.n_then | apply HC.seq | apply HC.region | refine HL.pa ?_ | refine HL.ga rfl ?_ | refine HL.na rfl ?_ | refine HL.nu rfl rfl ?_ | apply HC.block | apply HC.skip | apply HC.exit | apply HC.ret | apply HX.e_block | refine HX.e_other rfl ?_ | apply HX.e_then | apply HX.e_again | apply HX.n_block | apply HX.r_then | apply HX.r_block | apply HX.r_again | refine HC.cond_yes rfl ?_ | refine HC.cond_no rfl ?_ | refine HL.one (H1.ldb rfl memA rfl rfl ?_) | refine HC.cond rfl (fun hc => ?_) (fun hc => ?_) | refine HC.cond_b rfl (fun hc => ?_) (fun hc => ?_))
  refine HL.one (H1.stAgg (cs := [zv 0, zv 0, zv 0, zv 0, zv 0]) (vs := (madeD y).cells) rfl rfl rfl (by unfold Di.cells; intro v hv; simp only [List.mem_cons, List.not_mem_nil, or_false] at hv; rcases hv with rfl | rfl | rfl | rfl | rfl <;> rfl) rplA rfl ?_)
  repeat' (first | apply HL.fold | apply HA.fold | apply HL.nil | apply HX.n_then | apply HC.seq | apply HC.region | refine HL.pa ?_ | refine HL.ga rfl ?_ | refine HL.na rfl ?_ | refine HL.nu rfl rfl ?_ | apply HC.block | apply HC.skip | apply HC.exit | apply HC.ret | apply HX.e_block | refine HX.e_other rfl ?_ | apply HX.e_then | apply HX.e_again | apply HX.n_block | apply HX.r_then | apply HX.r_block | apply HX.r_again | refine HC.cond_yes rfl ?_ | refine HC.cond_no rfl ?_ | refine HL.one (H1.ldb rfl memA rfl rfl ?_) | refine HC.cond rfl (fun hc => ?_) (fun hc => ?_) | refine HC.cond_b rfl (fun hc => ?_) (fun hc => ?_))
  refine HL.one (H1.ldAgg (vs := (madeD y).cells) rfl memA rfl (fun i v hv => by rw [Nat.zero_add]; exact hv) rfl ?_)
  repeat' (first | apply HL.fold | apply HA.fold | apply HL.nil | apply HX.n_then | apply HC.seq | apply HC.region | refine HL.pa ?_ | refine HL.ga rfl ?_ | refine HL.na rfl ?_ | refine HL.nu rfl rfl ?_ | apply HC.block | apply HC.skip | apply HC.exit | apply HC.ret | apply HX.e_block | refine HX.e_other rfl ?_ | apply HX.e_then | apply HX.e_again | apply HX.n_block | apply HX.r_then | apply HX.r_block | apply HX.r_again | refine HC.cond_yes rfl ?_ | refine HC.cond_no rfl ?_ | refine HL.one (H1.ldb rfl memA rfl rfl ?_) | refine HC.cond rfl (fun hc => ?_) (fun hc => ?_) | refine HC.cond_b rfl (fun hc => ?_) (fun hc => ?_))
  refine HL.one (H1.callz1 (An := fun z : Option Addr × Nat => A.grow 3 1 z.1 z.2 (chk (madeS X) (madeD y) (natI (ownL X set)) (caseK X set k)).1.length (ints (natI (chk (madeS X) (madeD y) (natI (ownL X set)) (caseK X set k)).1))) (vs := [.slice aS (madeS X).length cS, .agg (madeD y).cells.toArray, .slice aL (ownL X set).length cL, zv (caseK X set k)]) rfl rfl (fun w' hM => by
    have h1 := hM.gr (a := aL) (c := cL) memA
    exact check_fn _ (madeS X) (madeD y) _ (natI (ownL X set)) (caseK X set k) (by rw [madeS_len]; omega) (by rw [natI_len]; omega) w' (RdS.own (a := aS) (c := cS) hM memA) h1) ?_)
  rintro ⟨aC, cC⟩ -
  dsimp only
  cases hs : (chk (madeS X) (madeD y) (natI (ownL X set)) (caseK X set k)).2 with
  | false =>
    repeat' (first | apply HL.fold | apply HA.fold | apply HL.nil | apply HX.n_then | apply HC.seq | apply HC.region | refine HL.pa ?_ | refine HL.ga rfl ?_ | refine HL.na rfl ?_ | refine HL.nu rfl rfl ?_ | apply HC.block | apply HC.skip | apply HC.exit | apply HC.ret | apply HX.e_block | refine HX.e_other rfl ?_ | apply HX.e_then | apply HX.e_again | apply HX.n_block | apply HX.r_then | apply HX.r_block | apply HX.r_again | refine HC.cond_yes rfl ?_ | refine HC.cond_no rfl ?_ | refine HL.one (H1.ldb rfl memA rfl rfl ?_) | refine HC.cond rfl (fun hc => ?_) (fun hc => ?_) | refine HC.cond_b rfl (fun hc => ?_) (fun hc => ?_))
    exact HX.ret1 rfl rfl fun w' hM => ⟨rfl, hM.ext⟩
  | true =>
  repeat' (first | apply HL.fold | apply HA.fold | apply HL.nil | apply HX.n_then | apply HC.seq | apply HC.region | refine HL.pa ?_ | refine HL.ga rfl ?_ | refine HL.na rfl ?_ | refine HL.nu rfl rfl ?_ | apply HC.block | apply HC.skip | apply HC.exit | apply HC.ret | apply HX.e_block | refine HX.e_other rfl ?_ | apply HX.e_then | apply HX.e_again | apply HX.n_block | apply HX.r_then | apply HX.r_block | apply HX.r_again | refine HC.cond_yes rfl ?_ | refine HC.cond_no rfl ?_ | refine HL.one (H1.ldb rfl memA rfl rfl ?_) | refine HC.cond rfl (fun hc => ?_) (fun hc => ?_) | refine HC.cond_b rfl (fun hc => ?_) (fun hc => ?_))
  refine HL.one (H1.call0 (vs := [zv what, zv 7]) rfl rfl (fun w' _ => kpick_fn _ _ hw.1 hw.2 (by decide) w') ?_)
  repeat' (first | apply HL.fold | apply HA.fold | apply HL.nil | apply HX.n_then | apply HC.seq | apply HC.region | refine HL.pa ?_ | refine HL.ga rfl ?_ | refine HL.na rfl ?_ | refine HL.nu rfl rfl ?_ | apply HC.skip | apply HC.exit | apply HC.ret | apply HX.e_block | refine HX.e_other rfl ?_ | apply HX.e_then | apply HX.e_again | apply HX.n_block | apply HX.r_then | apply HX.r_block | apply HX.r_again | refine HC.cond_yes rfl ?_ | refine HC.cond_no rfl ?_ | refine HL.one (H1.ldb rfl memA rfl rfl ?_) | refine HC.cond rfl (fun hc => ?_) (fun hc => ?_) | refine HC.cond_b rfl (fun hc => ?_) (fun hc => ?_))
  refine HC.cut (α := Di × List Int × (Option Addr × Nat) × Int) (fun z => [(7, .bool true), (8, .slice aS (madeS X).length cS), (9, .pointer (some ⟨b9, 0, none⟩)), (10, .slice z.2.2.1.1 z.2.1.length z.2.2.1.2), (11, zv z.2.2.2)])
    (fun z => [A.blk b9 z.1.cells 24, A.grow 3 1 z.2.2.1.1 z.2.2.1.2 z.2.1.length (ints z.2.1), A.grow 54 4 aS cS (madeS X).length ((madeS X).flatMap sc)]) (fun z => z.2.1.length ≤ 10 ∧ (chk (madeS X) z.1 z.2.1 z.2.2.2).2 = true) ?_ ?_
  · have hlenI : (natI (ownL X set)).length = (ownL X set).length := natI_len _
    have d0 : 0 ≤ (madeD y).b.p ∧ (madeD y).b.p ≤ 2 := hdi.1 0
    have d1 : 0 ≤ (madeD y).b.r ∧ (madeD y).b.r ≤ 2 := hdi.1 1
    have d2 : 0 ≤ (madeD y).b.v ∧ (madeD y).b.v ≤ 2 := hdi.1 2
    have d3 : 0 ≤ (madeD y).b.l ∧ (madeD y).b.l ≤ 2 := hdi.1 3
    have d4 : 0 ≤ (madeD y).liars ∧ (madeD y).liars ≤ 2 := hdi.2
    rcases (show pkI what 7 = 0 ∨ pkI what 7 = 1 ∨ pkI what 7 = 2 ∨ pkI what 7 = 3 ∨ pkI what 7 = 4 ∨ pkI what 7 = 5 ∨ pkI what 7 = 6 by omega) with h | h | h | h | h | h | h
    · rw [h]
      repeat' (first | apply HL.fold | apply HA.fold | apply HL.nil | apply HX.n_then | apply HC.seq | apply HC.region | refine HL.pa ?_ | refine HL.ga rfl ?_ | refine HL.na rfl ?_ | refine HL.nu rfl rfl ?_ | apply HC.block | apply HC.skip | apply HC.exit | apply HC.ret | apply HX.e_block | refine HX.e_other rfl ?_ | apply HX.e_then | apply HX.e_again | apply HX.n_block | apply HX.r_then | apply HX.r_block | apply HX.r_again | refine HC.cond_yes rfl ?_ | refine HC.cond_no rfl ?_ | refine HL.one (H1.ldb rfl memA rfl rfl ?_) | refine HC.cond rfl (fun hc => ?_) (fun hc => ?_) | refine HC.cond_b rfl (fun hc => ?_) (fun hc => ?_))
      refine HX.cut (madeD y, natI (ownL X set), (aL, cL), max 1 (caseK X set k - 1)) ⟨by dsimp only; rw [hlenI]; omega, own_k hs⟩ (by dsimp only; rw [hlenI]; repeat (first | exact trivial | refine ⟨rfl, ?_⟩)) (by dsimp only; rw [hlenI]; repeat (first | exact Hs.nil _ | (refine Hs.cons pickA ?_)))
    · rw [h]
      repeat' (first | apply HL.fold | apply HA.fold | apply HL.nil | apply HX.n_then | apply HC.seq | apply HC.region | refine HL.pa ?_ | refine HL.ga rfl ?_ | refine HL.na rfl ?_ | refine HL.nu rfl rfl ?_ | apply HC.block | apply HC.skip | apply HC.exit | apply HC.ret | apply HX.e_block | refine HX.e_other rfl ?_ | apply HX.e_then | apply HX.e_again | apply HX.n_block | apply HX.r_then | apply HX.r_block | apply HX.r_again | refine HC.cond_yes rfl ?_ | refine HC.cond_no rfl ?_ | refine HL.one (H1.ldb rfl memA rfl rfl ?_) | refine HC.cond rfl (fun hc => ?_) (fun hc => ?_) | refine HC.cond_b rfl (fun hc => ?_) (fun hc => ?_))
      refine HL.one (H1.st rfl rfl (by intro _ h; cases h) (by intro _ h; cases h) rplA (by show 0 + 0 < 5; decide) ?_)
      repeat' (first | apply HL.fold | apply HA.fold | apply HL.nil | apply HX.n_then | apply HC.seq | apply HC.region | refine HL.pa ?_ | refine HL.ga rfl ?_ | refine HL.na rfl ?_ | refine HL.nu rfl rfl ?_ | apply HC.block | apply HC.skip | apply HC.exit | apply HC.ret | apply HX.e_block | refine HX.e_other rfl ?_ | apply HX.e_then | apply HX.e_again | apply HX.n_block | apply HX.r_then | apply HX.r_block | apply HX.r_again | refine HC.cond_yes rfl ?_ | refine HC.cond_no rfl ?_ | refine HL.one (H1.ldb rfl memA rfl rfl ?_) | refine HC.cond rfl (fun hc => ?_) (fun hc => ?_) | refine HC.cond_b rfl (fun hc => ?_) (fun hc => ?_))
      have hs' := own_less (d' := (⟨⟨max 0 ((madeD y).b.p - 1), (madeD y).b.r, (madeD y).b.v, (madeD y).b.l⟩, (madeD y).liars⟩ : Di)) hs (fun q => by
          match q with
          | 0 => show 0 ≤ max 0 ((madeD y).b.p - 1) ∧ max 0 ((madeD y).b.p - 1) ≤ (madeD y).b.p; omega
          | 1 => show 0 ≤ (madeD y).b.r ∧ (madeD y).b.r ≤ (madeD y).b.r; omega
          | 2 => show 0 ≤ (madeD y).b.v ∧ (madeD y).b.v ≤ (madeD y).b.v; omega
          | _ + 3 => show 0 ≤ (madeD y).b.l ∧ (madeD y).b.l ≤ (madeD y).b.l; omega) ⟨by show 0 ≤ (madeD y).liars; omega, by show (madeD y).liars ≤ (madeD y).liars; omega⟩
      refine HX.cut ((⟨⟨max 0 ((madeD y).b.p - 1), (madeD y).b.r, (madeD y).b.v, (madeD y).b.l⟩, (madeD y).liars⟩ : Di), natI (ownL X set), (aL, cL), caseK X set k) ⟨by dsimp only; rw [hlenI]; omega, hs'⟩ (by dsimp only; rw [hlenI]; repeat (first | exact trivial | refine ⟨rfl, ?_⟩)) ?_
      dsimp only
      rw [hlenI]
      exact Hs.cons (Pick.there Pick.here) (Hs.cons (Pick.there Pick.here) (Hs.cons (Pick.there Pick.here) (Hs.nil _)))
    · rw [h]
      repeat' (first | apply HL.fold | apply HA.fold | apply HL.nil | apply HX.n_then | apply HC.seq | apply HC.region | refine HL.pa ?_ | refine HL.ga rfl ?_ | refine HL.na rfl ?_ | refine HL.nu rfl rfl ?_ | apply HC.block | apply HC.skip | apply HC.exit | apply HC.ret | apply HX.e_block | refine HX.e_other rfl ?_ | apply HX.e_then | apply HX.e_again | apply HX.n_block | apply HX.r_then | apply HX.r_block | apply HX.r_again | refine HC.cond_yes rfl ?_ | refine HC.cond_no rfl ?_ | refine HL.one (H1.ldb rfl memA rfl rfl ?_) | refine HC.cond rfl (fun hc => ?_) (fun hc => ?_) | refine HC.cond_b rfl (fun hc => ?_) (fun hc => ?_))
      refine HL.one (H1.st rfl rfl (by intro _ h; cases h) (by intro _ h; cases h) rplA (by show 0 + 1 < 5; decide) ?_)
      repeat' (first | apply HL.fold | apply HA.fold | apply HL.nil | apply HX.n_then | apply HC.seq | apply HC.region | refine HL.pa ?_ | refine HL.ga rfl ?_ | refine HL.na rfl ?_ | refine HL.nu rfl rfl ?_ | apply HC.block | apply HC.skip | apply HC.exit | apply HC.ret | apply HX.e_block | refine HX.e_other rfl ?_ | apply HX.e_then | apply HX.e_again | apply HX.n_block | apply HX.r_then | apply HX.r_block | apply HX.r_again | refine HC.cond_yes rfl ?_ | refine HC.cond_no rfl ?_ | refine HL.one (H1.ldb rfl memA rfl rfl ?_) | refine HC.cond rfl (fun hc => ?_) (fun hc => ?_) | refine HC.cond_b rfl (fun hc => ?_) (fun hc => ?_))
      have hs' := own_less (d' := (⟨⟨(madeD y).b.p, max 0 ((madeD y).b.r - 1), (madeD y).b.v, (madeD y).b.l⟩, (madeD y).liars⟩ : Di)) hs (fun q => by
          match q with
          | 0 => show 0 ≤ (madeD y).b.p ∧ (madeD y).b.p ≤ (madeD y).b.p; omega
          | 1 => show 0 ≤ max 0 ((madeD y).b.r - 1) ∧ max 0 ((madeD y).b.r - 1) ≤ (madeD y).b.r; omega
          | 2 => show 0 ≤ (madeD y).b.v ∧ (madeD y).b.v ≤ (madeD y).b.v; omega
          | _ + 3 => show 0 ≤ (madeD y).b.l ∧ (madeD y).b.l ≤ (madeD y).b.l; omega) ⟨by show 0 ≤ (madeD y).liars; omega, by show (madeD y).liars ≤ (madeD y).liars; omega⟩
      refine HX.cut ((⟨⟨(madeD y).b.p, max 0 ((madeD y).b.r - 1), (madeD y).b.v, (madeD y).b.l⟩, (madeD y).liars⟩ : Di), natI (ownL X set), (aL, cL), caseK X set k) ⟨by dsimp only; rw [hlenI]; omega, hs'⟩ (by dsimp only; rw [hlenI]; repeat (first | exact trivial | refine ⟨rfl, ?_⟩)) ?_
      dsimp only
      rw [hlenI]
      exact Hs.cons (Pick.there Pick.here) (Hs.cons (Pick.there Pick.here) (Hs.cons (Pick.there Pick.here) (Hs.nil _)))
    · rw [h]
      repeat' (first | apply HL.fold | apply HA.fold | apply HL.nil | apply HX.n_then | apply HC.seq | apply HC.region | refine HL.pa ?_ | refine HL.ga rfl ?_ | refine HL.na rfl ?_ | refine HL.nu rfl rfl ?_ | apply HC.block | apply HC.skip | apply HC.exit | apply HC.ret | apply HX.e_block | refine HX.e_other rfl ?_ | apply HX.e_then | apply HX.e_again | apply HX.n_block | apply HX.r_then | apply HX.r_block | apply HX.r_again | refine HC.cond_yes rfl ?_ | refine HC.cond_no rfl ?_ | refine HL.one (H1.ldb rfl memA rfl rfl ?_) | refine HC.cond rfl (fun hc => ?_) (fun hc => ?_) | refine HC.cond_b rfl (fun hc => ?_) (fun hc => ?_))
      refine HL.one (H1.st rfl rfl (by intro _ h; cases h) (by intro _ h; cases h) rplA (by show 0 + 2 < 5; decide) ?_)
      repeat' (first | apply HL.fold | apply HA.fold | apply HL.nil | apply HX.n_then | apply HC.seq | apply HC.region | refine HL.pa ?_ | refine HL.ga rfl ?_ | refine HL.na rfl ?_ | refine HL.nu rfl rfl ?_ | apply HC.block | apply HC.skip | apply HC.exit | apply HC.ret | apply HX.e_block | refine HX.e_other rfl ?_ | apply HX.e_then | apply HX.e_again | apply HX.n_block | apply HX.r_then | apply HX.r_block | apply HX.r_again | refine HC.cond_yes rfl ?_ | refine HC.cond_no rfl ?_ | refine HL.one (H1.ldb rfl memA rfl rfl ?_) | refine HC.cond rfl (fun hc => ?_) (fun hc => ?_) | refine HC.cond_b rfl (fun hc => ?_) (fun hc => ?_))
      have hs' := own_less (d' := (⟨⟨(madeD y).b.p, (madeD y).b.r, max 0 ((madeD y).b.v - 1), (madeD y).b.l⟩, (madeD y).liars⟩ : Di)) hs (fun q => by
          match q with
          | 0 => show 0 ≤ (madeD y).b.p ∧ (madeD y).b.p ≤ (madeD y).b.p; omega
          | 1 => show 0 ≤ (madeD y).b.r ∧ (madeD y).b.r ≤ (madeD y).b.r; omega
          | 2 => show 0 ≤ max 0 ((madeD y).b.v - 1) ∧ max 0 ((madeD y).b.v - 1) ≤ (madeD y).b.v; omega
          | _ + 3 => show 0 ≤ (madeD y).b.l ∧ (madeD y).b.l ≤ (madeD y).b.l; omega) ⟨by show 0 ≤ (madeD y).liars; omega, by show (madeD y).liars ≤ (madeD y).liars; omega⟩
      refine HX.cut ((⟨⟨(madeD y).b.p, (madeD y).b.r, max 0 ((madeD y).b.v - 1), (madeD y).b.l⟩, (madeD y).liars⟩ : Di), natI (ownL X set), (aL, cL), caseK X set k) ⟨by dsimp only; rw [hlenI]; omega, hs'⟩ (by dsimp only; rw [hlenI]; repeat (first | exact trivial | refine ⟨rfl, ?_⟩)) ?_
      dsimp only
      rw [hlenI]
      exact Hs.cons (Pick.there Pick.here) (Hs.cons (Pick.there Pick.here) (Hs.cons (Pick.there Pick.here) (Hs.nil _)))
    · rw [h]
      repeat' (first | apply HL.fold | apply HA.fold | apply HL.nil | apply HX.n_then | apply HC.seq | apply HC.region | refine HL.pa ?_ | refine HL.ga rfl ?_ | refine HL.na rfl ?_ | refine HL.nu rfl rfl ?_ | apply HC.block | apply HC.skip | apply HC.exit | apply HC.ret | apply HX.e_block | refine HX.e_other rfl ?_ | apply HX.e_then | apply HX.e_again | apply HX.n_block | apply HX.r_then | apply HX.r_block | apply HX.r_again | refine HC.cond_yes rfl ?_ | refine HC.cond_no rfl ?_ | refine HL.one (H1.ldb rfl memA rfl rfl ?_) | refine HC.cond rfl (fun hc => ?_) (fun hc => ?_) | refine HC.cond_b rfl (fun hc => ?_) (fun hc => ?_))
      refine HL.one (H1.st rfl rfl (by intro _ h; cases h) (by intro _ h; cases h) rplA (by show 0 + 3 < 5; decide) ?_)
      repeat' (first | apply HL.fold | apply HA.fold | apply HL.nil | apply HX.n_then | apply HC.seq | apply HC.region | refine HL.pa ?_ | refine HL.ga rfl ?_ | refine HL.na rfl ?_ | refine HL.nu rfl rfl ?_ | apply HC.block | apply HC.skip | apply HC.exit | apply HC.ret | apply HX.e_block | refine HX.e_other rfl ?_ | apply HX.e_then | apply HX.e_again | apply HX.n_block | apply HX.r_then | apply HX.r_block | apply HX.r_again | refine HC.cond_yes rfl ?_ | refine HC.cond_no rfl ?_ | refine HL.one (H1.ldb rfl memA rfl rfl ?_) | refine HC.cond rfl (fun hc => ?_) (fun hc => ?_) | refine HC.cond_b rfl (fun hc => ?_) (fun hc => ?_))
      have hs' := own_less (d' := (⟨⟨(madeD y).b.p, (madeD y).b.r, (madeD y).b.v, max 0 ((madeD y).b.l - 1)⟩, (madeD y).liars⟩ : Di)) hs (fun q => by
          match q with
          | 0 => show 0 ≤ (madeD y).b.p ∧ (madeD y).b.p ≤ (madeD y).b.p; omega
          | 1 => show 0 ≤ (madeD y).b.r ∧ (madeD y).b.r ≤ (madeD y).b.r; omega
          | 2 => show 0 ≤ (madeD y).b.v ∧ (madeD y).b.v ≤ (madeD y).b.v; omega
          | _ + 3 => show 0 ≤ max 0 ((madeD y).b.l - 1) ∧ max 0 ((madeD y).b.l - 1) ≤ (madeD y).b.l; omega) ⟨by show 0 ≤ (madeD y).liars; omega, by show (madeD y).liars ≤ (madeD y).liars; omega⟩
      refine HX.cut ((⟨⟨(madeD y).b.p, (madeD y).b.r, (madeD y).b.v, max 0 ((madeD y).b.l - 1)⟩, (madeD y).liars⟩ : Di), natI (ownL X set), (aL, cL), caseK X set k) ⟨by dsimp only; rw [hlenI]; omega, hs'⟩ (by dsimp only; rw [hlenI]; repeat (first | exact trivial | refine ⟨rfl, ?_⟩)) ?_
      dsimp only
      rw [hlenI]
      exact Hs.cons (Pick.there Pick.here) (Hs.cons (Pick.there Pick.here) (Hs.cons (Pick.there Pick.here) (Hs.nil _)))
    · rw [h]
      repeat' (first | apply HL.fold | apply HA.fold | apply HL.nil | apply HX.n_then | apply HC.seq | apply HC.region | refine HL.pa ?_ | refine HL.ga rfl ?_ | refine HL.na rfl ?_ | refine HL.nu rfl rfl ?_ | apply HC.block | apply HC.skip | apply HC.exit | apply HC.ret | apply HX.e_block | refine HX.e_other rfl ?_ | apply HX.e_then | apply HX.e_again | apply HX.n_block | apply HX.r_then | apply HX.r_block | apply HX.r_again | refine HC.cond_yes rfl ?_ | refine HC.cond_no rfl ?_ | refine HL.one (H1.ldb rfl memA rfl rfl ?_) | refine HC.cond rfl (fun hc => ?_) (fun hc => ?_) | refine HC.cond_b rfl (fun hc => ?_) (fun hc => ?_))
      refine HL.one (H1.st rfl rfl (by intro _ h; cases h) (by intro _ h; cases h) rplA (by show 0 + 4 < 5; decide) ?_)
      repeat' (first | apply HL.fold | apply HA.fold | apply HL.nil | apply HX.n_then | apply HC.seq | apply HC.region | refine HL.pa ?_ | refine HL.ga rfl ?_ | refine HL.na rfl ?_ | refine HL.nu rfl rfl ?_ | apply HC.block | apply HC.skip | apply HC.exit | apply HC.ret | apply HX.e_block | refine HX.e_other rfl ?_ | apply HX.e_then | apply HX.e_again | apply HX.n_block | apply HX.r_then | apply HX.r_block | apply HX.r_again | refine HC.cond_yes rfl ?_ | refine HC.cond_no rfl ?_ | refine HL.one (H1.ldb rfl memA rfl rfl ?_) | refine HC.cond rfl (fun hc => ?_) (fun hc => ?_) | refine HC.cond_b rfl (fun hc => ?_) (fun hc => ?_))
      have hs' := own_less (d' := (⟨⟨(madeD y).b.p, (madeD y).b.r, (madeD y).b.v, (madeD y).b.l⟩, max 0 ((madeD y).liars - 1)⟩ : Di)) hs (fun q => by
          have := hdi.1 q
          exact ⟨this.1, Int.le_refl _⟩) ⟨by show 0 ≤ max 0 ((madeD y).liars - 1); omega, by show max 0 ((madeD y).liars - 1) ≤ (madeD y).liars; omega⟩
      refine HX.cut ((⟨⟨(madeD y).b.p, (madeD y).b.r, (madeD y).b.v, (madeD y).b.l⟩, max 0 ((madeD y).liars - 1)⟩ : Di), natI (ownL X set), (aL, cL), caseK X set k) ⟨by dsimp only; rw [hlenI]; omega, hs'⟩ (by dsimp only; rw [hlenI]; repeat (first | exact trivial | refine ⟨rfl, ?_⟩)) ?_
      dsimp only
      rw [hlenI]
      exact Hs.cons (Pick.there Pick.here) (Hs.cons (Pick.there Pick.here) (Hs.cons (Pick.there Pick.here) (Hs.nil _)))
    · rw [h]
      repeat' (first | apply HL.fold | apply HA.fold | apply HL.nil | apply HX.n_then | apply HC.seq | apply HC.region | refine HL.pa ?_ | refine HL.ga rfl ?_ | refine HL.na rfl ?_ | refine HL.nu rfl rfl ?_ | apply HC.block | apply HC.skip | apply HC.exit | apply HC.ret | apply HX.e_block | refine HX.e_other rfl ?_ | apply HX.e_then | apply HX.e_again | apply HX.n_block | apply HX.r_then | apply HX.r_block | apply HX.r_again | refine HC.cond_yes rfl ?_ | refine HC.cond_no rfl ?_ | refine HL.one (H1.ldb rfl memA rfl rfl ?_) | refine HC.cond rfl (fun hc => ?_) (fun hc => ?_) | refine HC.cond_b rfl (fun hc => ?_) (fun hc => ?_))
      rw [madeS_len]
      refine HL.one (H1.call0 (vs := [zv more, zv (madeN X : Int)]) rfl rfl (fun w' _ => kpick_fn _ _ hm.1 hm.2 (by omega) w') ?_)
      obtain ⟨x, hx⟩ : ∃ x : Nat, pkI more (madeN X : Int) = (x : Int) := ⟨(pkI more (madeN X : Int)).toNat, by omega⟩
      rw [hx]
      repeat' (first | apply HL.fold | apply HA.fold | apply HL.nil | apply HX.n_then | apply HC.seq | apply HC.region | refine HL.pa ?_ | refine HL.ga rfl ?_ | refine HL.na rfl ?_ | refine HL.nu rfl rfl ?_ | apply HC.block | apply HC.skip | apply HC.exit | apply HC.ret | apply HX.e_block | refine HX.e_other rfl ?_ | apply HX.e_then | apply HX.e_again | apply HX.n_block | apply HX.r_then | apply HX.r_block | apply HX.r_again | refine HC.cond_yes rfl ?_ | refine HC.cond_no rfl ?_ | refine HL.one (H1.ldb rfl memA rfl rfl ?_) | refine HC.cond rfl (fun hc => ?_) (fun hc => ?_) | refine HC.cond_b rfl (fun hc => ?_) (fun hc => ?_))
      refine HL.one (H1.call0 (vs := [.slice aL (ownL X set).length cL, zv (x : Int)]) rfl rfl (fun w' hM => by
        have h1 := hM.gr (a := aL) (c := cL) memA
        exact khas_fn _ (natI (ownL X set)) _ (by rw [natI_len]; omega) w' h1) ?_)
      by_cases hin : (x : Int) ∈ natI (ownL X set)
      · rw [decide_eq_true hin]
        repeat' (first | apply HL.fold | apply HA.fold | apply HL.nil | apply HX.n_then | apply HC.seq | apply HC.region | refine HL.pa ?_ | refine HL.ga rfl ?_ | refine HL.na rfl ?_ | refine HL.nu rfl rfl ?_ | apply HC.block | apply HC.skip | apply HC.exit | apply HC.ret | apply HX.e_block | refine HX.e_other rfl ?_ | apply HX.e_then | apply HX.e_again | apply HX.n_block | apply HX.r_then | apply HX.r_block | apply HX.r_again | refine HC.cond_yes rfl ?_ | refine HC.cond_no rfl ?_ | refine HL.one (H1.ldb rfl memA rfl rfl ?_) | refine HC.cond rfl (fun hc => ?_) (fun hc => ?_) | refine HC.cond_b rfl (fun hc => ?_) (fun hc => ?_))
        refine HX.cut (madeD y, natI (ownL X set), (aL, cL), caseK X set k) ⟨by dsimp only; rw [hlenI]; omega, hs⟩ (by dsimp only; rw [hlenI]; repeat (first | exact trivial | refine ⟨rfl, ?_⟩)) (by dsimp only; rw [hlenI]; repeat (first | exact Hs.nil _ | (refine Hs.cons pickA ?_)))
      rw [decide_eq_false hin]
      repeat' (first | apply HL.fold | apply HA.fold | apply HL.nil | apply HX.n_then | apply HC.seq | apply HC.region | refine HL.pa ?_ | refine HL.ga rfl ?_ | refine HL.na rfl ?_ | refine HL.nu rfl rfl ?_ | apply HC.block | apply HC.skip | apply HC.exit | apply HC.ret | apply HX.e_block | refine HX.e_other rfl ?_ | apply HX.e_then | apply HX.e_again | apply HX.n_block | apply HX.r_then | apply HX.r_block | apply HX.r_again | refine HC.cond_yes rfl ?_ | refine HC.cond_no rfl ?_ | refine HL.one (H1.ldb rfl memA rfl rfl ?_) | refine HC.cond rfl (fun hc => ?_) (fun hc => ?_) | refine HC.cond_b rfl (fun hc => ?_) (fun hc => ?_))
      refine HL.one (H1.lit (cs := [zv (x : Int)]) rfl rfl rfl rfl rfl rfl (fun bq => ?_))
      repeat' (first | apply HL.fold | apply HA.fold | apply HL.nil | apply HX.n_then | apply HC.seq | apply HC.region | refine HL.pa ?_ | refine HL.ga rfl ?_ | refine HL.na rfl ?_ | refine HL.nu rfl rfl ?_ | apply HC.block | apply HC.skip | apply HC.exit | apply HC.ret | apply HX.e_block | refine HX.e_other rfl ?_ | apply HX.e_then | apply HX.e_again | apply HX.n_block | apply HX.r_then | apply HX.r_block | apply HX.r_again | refine HC.cond_yes rfl ?_ | refine HC.cond_no rfl ?_ | refine HL.one (H1.ldb rfl memA rfl rfl ?_) | refine HC.cond rfl (fun hc => ?_) (fun hc => ?_) | refine HC.cond_b rfl (fun hc => ?_) (fun hc => ?_))
      refine HL.one (H1.app1 (u := zv (x : Int)) rfl rfl (fun _ _ => by first | ((repeat (first | with_reducible exact Rpl.here | with_reducible apply Rpl.there)); done) | (repeat (first | exact Rpl.here | apply Rpl.there))) (by repeat (first | exact mem_hd | apply mem_tl)) rfl rfl (by omega) rfl rfl (fun a4 c4 => ?_))
      repeat' (first | apply HL.fold | apply HA.fold | apply HL.nil | apply HX.n_then | apply HC.seq | apply HC.region | refine HL.pa ?_ | refine HL.ga rfl ?_ | refine HL.na rfl ?_ | refine HL.nu rfl rfl ?_ | apply HC.block | apply HC.skip | apply HC.exit | apply HC.ret | apply HX.e_block | refine HX.e_other rfl ?_ | apply HX.e_then | apply HX.e_again | apply HX.n_block | apply HX.r_then | apply HX.r_block | apply HX.r_again | refine HC.cond_yes rfl ?_ | refine HC.cond_no rfl ?_ | refine HL.one (H1.ldb rfl memA rfl rfl ?_) | refine HC.cond rfl (fun hc => ?_) (fun hc => ?_) | refine HC.cond_b rfl (fun hc => ?_) (fun hc => ?_))
      have hl2 : (natI (ownL X set) ++ [(x : Int)]).length = (ownL X set).length + 1 := by rw [List.length_append, hlenI]; rfl
      refine HX.cut (madeD y, natI (ownL X set) ++ [(x : Int)], (some ⟨a4, 0, none⟩, c4), caseK X set k) ⟨by dsimp only; rw [hl2]; omega, own_add hs (by omega) (fun h => hin (List.mem_map.2 ⟨x, h, rfl⟩))⟩ (by dsimp only; rw [hl2]; repeat (first | exact trivial | refine ⟨rfl, ?_⟩)) (by dsimp only; rw [hl2, ints_app]; repeat (first | exact Hs.nil _ | (refine Hs.cons pickA ?_)))
  rintro ⟨d', H', ⟨aH, cH⟩, k'⟩ ⟨hlH, hs'⟩
  dsimp only at hlH hs' ⊢
  repeat' (first | apply HL.fold | apply HA.fold | apply HL.nil | apply HX.n_then | apply HC.seq | apply HC.region | refine HL.pa ?_ | refine HL.ga rfl ?_ | refine HL.na rfl ?_ | refine HL.nu rfl rfl ?_ | apply HC.block | apply HC.skip | apply HC.exit | apply HC.ret | apply HX.e_block | refine HX.e_other rfl ?_ | apply HX.e_then | apply HX.e_again | apply HX.n_block | apply HX.r_then | apply HX.r_block | apply HX.r_again | refine HC.cond_yes rfl ?_ | refine HC.cond_no rfl ?_ | refine HL.one (H1.ldb rfl memA rfl rfl ?_) | refine HC.cond rfl (fun hc => ?_) (fun hc => ?_) | refine HC.cond_b rfl (fun hc => ?_) (fun hc => ?_))
  refine HL.one (H1.ldAgg (vs := d'.cells) rfl memA rfl (fun i v hv => by rw [Nat.zero_add]; exact hv) rfl ?_)
  repeat' (first | apply HL.fold | apply HA.fold | apply HL.nil | apply HX.n_then | apply HC.seq | apply HC.region | refine HL.pa ?_ | refine HL.ga rfl ?_ | refine HL.na rfl ?_ | refine HL.nu rfl rfl ?_ | apply HC.block | apply HC.skip | apply HC.exit | apply HC.ret | apply HX.e_block | refine HX.e_other rfl ?_ | apply HX.e_then | apply HX.e_again | apply HX.n_block | apply HX.r_then | apply HX.r_block | apply HX.r_again | refine HC.cond_yes rfl ?_ | refine HC.cond_no rfl ?_ | refine HL.one (H1.ldb rfl memA rfl rfl ?_) | refine HC.cond rfl (fun hc => ?_) (fun hc => ?_) | refine HC.cond_b rfl (fun hc => ?_) (fun hc => ?_))
  refine HL.one (H1.callz1 (An := fun z : Option Addr × Nat => A.grow 3 1 z.1 z.2 (chk (madeS X) d' H' k').1.length (ints (natI (chk (madeS X) d' H' k').1))) (vs := [.slice aS (madeS X).length cS, .agg d'.cells.toArray, .slice aH H'.length cH, zv k']) rfl rfl (fun w' hM => by
    have h1 := hM.gr (a := aH) (c := cH) memA
    exact check_fn _ (madeS X) d' _ H' k' (by rw [madeS_len]; omega) (by omega) w' (RdS.own (a := aS) (c := cS) hM memA) h1) ?_)
  rintro ⟨aC, cC⟩ -
  dsimp only
  rw [hs']
  repeat' (first | apply HL.fold | apply HA.fold | apply HL.nil | apply HX.n_then | apply HC.seq | apply HC.region | refine HL.pa ?_ | refine HL.ga rfl ?_ | refine HL.na rfl ?_ | refine HL.nu rfl rfl ?_ | apply HC.block | apply HC.skip | apply HC.exit | apply HC.ret | apply HX.e_block | refine HX.e_other rfl ?_ | apply HX.e_then | apply HX.e_again | apply HX.n_block | apply HX.r_then | apply HX.r_block | apply HX.r_again | refine HC.cond_yes rfl ?_ | refine HC.cond_no rfl ?_ | refine HL.one (H1.ldb rfl memA rfl rfl ?_) | refine HC.cond rfl (fun hc => ?_) (fun hc => ?_) | refine HC.cond_b rfl (fun hc => ?_) (fun hc => ?_))
  exact HX.ret1 rfl rfl fun w' hM => ⟨rfl, hM.ext⟩
end Go.Sx

