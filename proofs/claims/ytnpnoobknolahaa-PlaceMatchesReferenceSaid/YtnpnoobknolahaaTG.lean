/- Chapter 18: the law PlaceSpread. -/
import Derived.Test.YtnpnoobknolahaaTE
namespace Go.Sx
open Go Go.Proofs Go.RowKit
def spr1 (i : Nat) : St := ⟨i, i, i, i⟩
def sprS (n : Nat) : List St := (List.range n).map spr1
theorem sprS_len (n : Nat) : (sprS n).length = n := by simp [sprS]
theorem sprS_step (n : Nat) : sprS (n + 1) = sprS n ++ [spr1 n] := by unfold sprS; rw [List.range_succ, List.map_append]; rfl
theorem spr_at (i q : Nat) : (spr1 i).at q = (i : Int) := by
  match q with
  | 0 => rfl
  | 1 => rfl
  | 2 => rfl
  | _ + 3 => rfl
theorem spr_g {n i q : Nat} (h : i < n) : gS (sprS n) i q = (i : Int) := by
  unfold gS stAt sprS
  rw [List.getD_eq_getElem?_getD, List.getElem?_map, List.getElem?_range h]
  exact spr_at i q
theorem hit_g {g g' : Nat → Nat → Int} {T : List Nat} {left : Nat → Nat} {m : Nat} (h : ∀ i ∈ T, ∀ q, q < 4 → g i q = g' i q) (hh : Hit g T left m) : Hit g' T left m := by
  obtain ⟨G, h1, h2⟩ := hh
  refine ⟨G, h1, ?_⟩
  have e : T.filter (freeB g' G) = T.filter (freeB g G) := List.filter_congr fun i hi => by
    rw [Bool.eq_iff_iff, freeB_iff, freeB_iff]
    exact forall_congr' fun q => forall_congr' fun hq => by rw [h i hi q hq]
  rw [e]; exact h2
theorem spr_valid {n : Nat} (h1 : 1 ≤ n) (h6 : n ≤ 6) (y : Di) : pvalid (sprS n) (madeD y) = true := by
  have h2 := madeD_in y
  unfold pvalid
  rw [sprS_len, decide_eq_true (by omega : 1 ≤ n ∧ n ≤ 9), within_of (fun q => by have := h2.1 q; omega), decide_eq_true (by omega : 0 ≤ (madeD y).liars ∧ (madeD y).liars ≤ 4)]
  rw [List.all_eq_true.2 fun s hs => ?_]
  · rfl
  · obtain ⟨i, hi, rfl⟩ := List.mem_map.1 hs
    have := List.mem_range.1 hi
    exact within_of fun q => by rw [spr_at]; omega
theorem asc_nodup' {l : List Nat} (h : l.Pairwise (· < ·)) : l.Nodup := h.imp fun h => Nat.ne_of_lt h
theorem RdS.own' {w0 w : World} {H : List Atom} {S : List St} {a : Option Addr} {c n : Nat} {e : TypeId} (hM : Mm w0 H w) (hm : A.grow e 4 a c n (S.flatMap sc) ∈ H) (hn : S.length = n) : RdS w (.slice a n c) S := by
  subst hn
  exact RdS.own hM hm
theorem spread {n : Nat} {y : Di} {l : List Nat} {k : Int} (hn1 : 1 ≤ n) (hn6 : n ≤ 6) (ha : l.Pairwise (· < ·)) (hl : ∀ i ∈ l, i < n) (hk : 1 ≤ k ∧ k ≤ (l.length : Int)) :
    (chk (sprS n) (madeD y) (natI l) k).2 = decide (k + (madeD y).b.p + (madeD y).b.r + (madeD y).b.v + (madeD y).b.l + (madeD y).liars ≤ (l.length : Int)) := by
  have hd := madeD_in y
  have d0 : 0 ≤ (madeD y).b.p := (hd.1 0).1
  have d1 : 0 ≤ (madeD y).b.r := (hd.1 1).1
  have d2 : 0 ≤ (madeD y).b.v := (hd.1 2).1
  have d3 : 0 ≤ (madeD y).b.l := (hd.1 3).1
  have d4 : 0 ≤ (madeD y).liars := hd.2.1
  rw [chk_c (spr_valid hn1 hn6 y) ha (fun i hi => by rw [sprS_len]; exact hl i hi)]
  unfold chkC
  rw [decide_eq_true hk, Bool.true_and, Bool.eq_iff_iff, List.all_eq_true, decide_eq_true_eq]
  have key : ∀ U, U.Sublist l → (Hit (gS (sprS n)) U (madeD y).left (madeD y).m ↔ U.length ≤ ((madeD y).b.p.toNat + (madeD y).b.r.toNat + (madeD y).b.v.toNat + (madeD y).b.l.toNat) + (madeD y).liars.toNat) := fun U hU => by
    have h1 := hit_spread (g := fun i _ => (i : Int)) (m := (madeD y).m) (fun q _ i j e => by exact Int.ofNat.inj e) ((madeD y).b.p.toNat + (madeD y).b.r.toNat + (madeD y).b.v.toNat + (madeD y).b.l.toNat) (madeD y).left U (asc_nodup' (ha.sublist hU)) rfl
    have hg : ∀ i ∈ U, ∀ q, q < 4 → gS (sprS n) i q = (i : Int) := fun i hi q _ => spr_g (hl i (hU.subset hi))
    exact ⟨fun h => h1.1 (hit_g hg h), fun h => hit_g (fun i hi q hq => (hg i hi q hq).symm) (h1.2 h)⟩
  constructor
  · intro h
    obtain ⟨U, hU, hlen⟩ : ∃ U, U.Sublist l ∧ U.length = l.length - k.toNat + 1 := ⟨l.take (l.length - k.toNat + 1), List.take_sublist _ _, by rw [List.length_take]; omega⟩
    have h2 := h U (mem_combs.2 ⟨hU, hlen⟩)
    rw [Bool.not_eq_true', hitB_no, key U hU, hlen] at h2
    omega
  · intro h U hU
    obtain ⟨h1, h2⟩ := mem_combs.1 hU
    rw [Bool.not_eq_true', hitB_no, key U h1, h2]
    omega
attribute [local irreducible] WC WL WX POp Then Again Fn NX W1 WA WO QL RP RA Yld LoopAt HC HL HX HN H1 HA HO HQ HB HP A.blk A.grow A.rd A.obj A.mp AgainH CutH
attribute [local irreducible] A.mq A.mit A.dfrs A.loop mapsA A.land A.pure chk best
set_option maxHeartbeats 1000000 in
theorem placeSpread_fn (count : Int) (y : Di) (set k : Int) (hc : i64R count) (hyb : y.b.i64 ∧ i64R y.liars) (hset : i64R set) (hk : i64R k) (w : World) :
    Fn Try.prog 8 #[zv count, .agg y.cells.toArray, zv set, zv k] w fun u w' => u = .bool true ∧ Ext w w' := by
  have hdi := madeD_in y
  have hpc := pkI_lt count (n := 6) (by decide)
  obtain ⟨n, hn⟩ : ∃ n : Nat, 1 + pkI count 6 = (n : Int) := ⟨(1 + pkI count 6).toNat, by omega⟩
  have hn1 : 1 ≤ n := by omega
  have hn6 : n ≤ 6 := by omega
  refine enterH (l := [_, _, _, _]) rfl Try.ntmps8 rfl ?_
  repeat' (first | apply HL.fold | apply HA.fold | apply HL.nil | apply HX.n_then | apply HC.seq | apply HC.region | refine HL.pa ?_ | refine HL.ga rfl ?_ | refine HL.na rfl ?_ | refine HL.nu rfl rfl ?_ | apply HC.block | apply HC.skip | apply HC.exit | apply HC.ret | apply HX.e_block | refine HX.e_other rfl ?_ | apply HX.e_then | apply HX.e_again | apply HX.n_block | apply HX.r_then | apply HX.r_block | apply HX.r_again | refine HC.cond_yes rfl ?_ | refine HC.cond_no rfl ?_ | refine HL.one (H1.ldb rfl memA rfl rfl ?_) | refine HC.cond rfl (fun hc => ?_) (fun hc => ?_) | refine HC.cond_b rfl (fun hc => ?_) (fun hc => ?_))
  refine HL.one (H1.boxAgg (cs := y.cells) rfl rfl (fun b5 => ?_))
  repeat' (first | apply HL.fold | apply HA.fold | apply HL.nil | apply HX.n_then | apply HC.seq | apply HC.region | refine HL.pa ?_ | refine HL.ga rfl ?_ | refine HL.na rfl ?_ | refine HL.nu rfl rfl ?_ | apply HC.block | apply HC.skip | apply HC.exit | apply HC.ret | apply HX.e_block | refine HX.e_other rfl ?_ | apply HX.e_then | apply HX.e_again | apply HX.n_block | apply HX.r_then | apply HX.r_block | apply HX.r_again | refine HC.cond_yes rfl ?_ | refine HC.cond_no rfl ?_ | refine HL.one (H1.ldb rfl memA rfl rfl ?_) | refine HC.cond rfl (fun hc => ?_) (fun hc => ?_) | refine HC.cond_b rfl (fun hc => ?_) (fun hc => ?_))
  refine HL.one (H1.callx (vs := []) rfl rfl (fun w' _ => ksane_fn w') ?_)
  repeat' (first | apply HL.fold | apply HA.fold | apply HL.nil | apply HX.n_then | apply HC.seq | apply HC.region | refine HL.pa ?_ | refine HL.ga rfl ?_ | refine HL.na rfl ?_ | refine HL.nu rfl rfl ?_ | apply HC.skip | apply HC.exit | apply HC.ret | apply HX.e_block | refine HX.e_other rfl ?_ | apply HX.e_then | apply HX.e_again | apply HX.n_block | apply HX.r_then | apply HX.r_block | apply HX.r_again | refine HC.cond_yes rfl ?_ | refine HC.cond_no rfl ?_ | refine HL.one (H1.ldb rfl memA rfl rfl ?_) | refine HC.cond rfl (fun hc => ?_) (fun hc => ?_) | refine HC.cond_b rfl (fun hc => ?_) (fun hc => ?_))
  refine HC.grow0 54 4 ?_
  repeat' (first | apply HL.fold | apply HA.fold | apply HL.nil | apply HX.n_then | apply HC.seq | apply HC.region | refine HL.pa ?_ | refine HL.ga rfl ?_ | refine HL.na rfl ?_ | refine HL.nu rfl rfl ?_ | apply HC.skip | apply HC.exit | apply HC.ret | apply HX.e_block | refine HX.e_other rfl ?_ | apply HX.e_then | apply HX.e_again | apply HX.n_block | apply HX.r_then | apply HX.r_block | apply HX.r_again | refine HC.cond_yes rfl ?_ | refine HC.cond_no rfl ?_ | refine HL.one (H1.ldb rfl memA rfl rfl ?_) | refine HC.cond rfl (fun hc => ?_) (fun hc => ?_) | refine HC.cond_b rfl (fun hc => ?_) (fun hc => ?_))
  refine HC.cut (α := Option Addr × Nat) (fun z => [(2, zv set), (3, zv k), (5, .pointer (some ⟨b5, 0, none⟩)), (9, .bool true), (10, .slice z.1 n z.2)]) (fun z => [A.grow 54 4 z.1 z.2 n ((sprS n).flatMap sc), A.blk b5 y.cells 27]) (fun _ => True) ?_ ?_
  · repeat' (first | apply HL.fold | apply HA.fold | apply HL.nil | apply HX.n_then | apply HC.seq | apply HC.region | refine HL.pa ?_ | refine HL.ga rfl ?_ | refine HL.na rfl ?_ | refine HL.nu rfl rfl ?_ | apply HC.block | apply HC.skip | apply HC.exit | apply HC.ret | apply HX.e_block | refine HX.e_other rfl ?_ | apply HX.e_then | apply HX.e_again | apply HX.n_block | apply HX.r_then | apply HX.r_block | apply HX.r_again | refine HC.cond_yes rfl ?_ | refine HC.cond_no rfl ?_ | refine HL.one (H1.ldb rfl memA rfl rfl ?_) | refine HC.cond rfl (fun hc => ?_) (fun hc => ?_) | refine HC.cond_b rfl (fun hc => ?_) (fun hc => ?_))
    refine HC.loop (α := Nat × Option Addr × Nat) (fun z => [(0, zv count), (2, zv set), (3, zv k), (5, .pointer (some ⟨b5, 0, none⟩)), (9, .bool true), (10, .slice z.2.1 z.1 z.2.2), (11, zv (z.1 : Int))])
      (fun z => [A.grow 54 4 z.2.1 z.2.2 z.1 ((sprS z.1).flatMap sc), A.blk b5 y.cells 27]) (fun z => z.1 ≤ n) (fun z => n - z.1) (0, none, 0) (Nat.zero_le _) esA (by repeat (first | exact Hs.nil _ | (refine Hs.cons pickA ?_))) ?_
    rintro ⟨i, ar, cr⟩ hi
    dsimp only at hi ⊢
    by_cases hlt : i < n
    rotate_left
    · obtain rfl : i = n := by omega
      repeat' (first | apply HL.fold | apply HA.fold | apply HL.nil | apply HX.n_then | apply HC.seq | apply HC.region | refine HL.pa ?_ | refine HL.ga rfl ?_ | refine HL.na rfl ?_ | refine HL.nu rfl rfl ?_ | apply HC.block | apply HC.skip | apply HC.exit | apply HC.ret | apply HX.e_block | refine HX.e_other rfl ?_ | apply HX.e_then | apply HX.e_again | apply HX.n_block | apply HX.r_then | apply HX.r_block | apply HX.r_again | refine HC.cond_yes rfl ?_ | refine HC.cond_no rfl ?_ | refine HL.one (H1.ldb rfl memA rfl rfl ?_) | refine HC.cond rfl (fun hc => ?_) (fun hc => ?_) | refine HC.cond_b rfl (fun hc => ?_) (fun hc => ?_))
      refine HL.one (H1.call0 (vs := [zv count, zv 6]) rfl rfl (fun w' _ => kpick_fn _ _ hc.1 hc.2 (by decide) w') ?_)
      repeat' (first | apply HL.fold | apply HA.fold | apply HL.nil | apply HX.n_then | apply HC.seq | apply HC.region | refine HL.pa ?_ | refine HL.ga rfl ?_ | refine HL.na rfl ?_ | refine HL.nu rfl rfl ?_ | apply HC.block | apply HC.skip | apply HC.exit | apply HC.ret | apply HX.e_block | refine HX.e_other rfl ?_ | apply HX.e_then | apply HX.e_again | apply HX.n_block | apply HX.r_then | apply HX.r_block | apply HX.r_again | refine HC.cond_yes rfl ?_ | refine HC.cond_no rfl ?_ | refine HL.one (H1.ldb rfl memA rfl rfl ?_))
      rw [hn]
      repeat' (first | apply HL.fold | apply HA.fold | apply HL.nil | apply HX.n_then | apply HC.seq | apply HC.region | refine HL.pa ?_ | refine HL.ga rfl ?_ | refine HL.na rfl ?_ | refine HL.nu rfl rfl ?_ | apply HC.block | apply HC.skip | apply HC.exit | apply HC.ret | apply HX.e_block | refine HX.e_other rfl ?_ | apply HX.e_then | apply HX.e_again | apply HX.n_block | apply HX.r_then | apply HX.r_block | apply HX.r_again | refine HC.cond_yes rfl ?_ | refine HC.cond_no rfl ?_ | refine HL.one (H1.ldb rfl memA rfl rfl ?_) | refine HC.cond rfl (fun hc => ?_) (fun hc => ?_) | refine HC.cond_b rfl (fun hc => ?_) (fun hc => ?_))
      exact HX.cut (ar, cr) trivial esA (by repeat (first | exact Hs.nil _ | (refine Hs.cons pickA ?_)))
    have hlt' : (i : Int) < (n : Int) := by omega
    repeat' (first | apply HL.fold | apply HA.fold | apply HL.nil | apply HX.n_then | apply HC.seq | apply HC.region | refine HL.pa ?_ | refine HL.ga rfl ?_ | refine HL.na rfl ?_ | refine HL.nu rfl rfl ?_ | apply HC.block | apply HC.skip | apply HC.exit | apply HC.ret | apply HX.e_block | refine HX.e_other rfl ?_ | apply HX.e_then | apply HX.e_again | apply HX.n_block | apply HX.r_then | apply HX.r_block | apply HX.r_again | refine HC.cond_yes rfl ?_ | refine HC.cond_no rfl ?_ | refine HL.one (H1.ldb rfl memA rfl rfl ?_) | refine HC.cond rfl (fun hc => ?_) (fun hc => ?_) | refine HC.cond_b rfl (fun hc => ?_) (fun hc => ?_))
    refine HL.one (H1.call0 (vs := [zv count, zv 6]) rfl rfl (fun w' _ => kpick_fn _ _ hc.1 hc.2 (by decide) w') ?_)
    repeat' (first | apply HL.fold | apply HA.fold | apply HL.nil | apply HX.n_then | apply HC.seq | apply HC.region | refine HL.pa ?_ | refine HL.ga rfl ?_ | refine HL.na rfl ?_ | refine HL.nu rfl rfl ?_ | apply HC.block | apply HC.skip | apply HC.exit | apply HC.ret | apply HX.e_block | refine HX.e_other rfl ?_ | apply HX.e_then | apply HX.e_again | apply HX.n_block | apply HX.r_then | apply HX.r_block | apply HX.r_again | refine HC.cond_yes rfl ?_ | refine HC.cond_no rfl ?_ | refine HL.one (H1.ldb rfl memA rfl rfl ?_))
    rw [hn]
    repeat' (first | apply HL.fold | apply HA.fold | apply HL.nil | apply HX.n_then | apply HC.seq | apply HC.region | refine HL.pa ?_ | refine HL.ga rfl ?_ | refine HL.na rfl ?_ | refine HL.nu rfl rfl ?_ | apply HC.block | apply HC.skip | apply HC.exit | apply HC.ret | apply HX.e_block | refine HX.e_other rfl ?_ | apply HX.e_then | apply HX.e_again | apply HX.n_block | apply HX.r_then | apply HX.r_block | apply HX.r_again | refine HC.cond_yes rfl ?_ | refine HC.cond_no rfl ?_ | refine HL.one (H1.ldb rfl memA rfl rfl ?_) | refine HC.cond rfl (fun hc => ?_) (fun hc => ?_) | refine HC.cond_b rfl (fun hc => ?_) (fun hc => ?_))
    refine HL.build (cs := sc (spr1 i)) rfl rfl rfl ?_
    refine HL.one (H1.lit (cs := sc (spr1 i)) rfl rfl rfl rfl rfl rfl (fun b9 => ?_))
    repeat' (first | apply HL.fold | apply HA.fold | apply HL.nil | apply HX.n_then | apply HC.seq | apply HC.region | refine HL.pa ?_ | refine HL.ga rfl ?_ | refine HL.na rfl ?_ | refine HL.nu rfl rfl ?_ | apply HC.block | apply HC.skip | apply HC.exit | apply HC.ret | apply HX.e_block | refine HX.e_other rfl ?_ | apply HX.e_then | apply HX.e_again | apply HX.n_block | apply HX.r_then | apply HX.r_block | apply HX.r_again | refine HC.cond_yes rfl ?_ | refine HC.cond_no rfl ?_ | refine HL.one (H1.ldb rfl memA rfl rfl ?_) | refine HC.cond rfl (fun hc => ?_) (fun hc => ?_) | refine HC.cond_b rfl (fun hc => ?_) (fun hc => ?_))
    refine HL.one (H1.app (sz := 4) (news := sc (spr1 i)) rfl (by decide) rfl rfl (fun _ _ => by first | ((repeat (first | with_reducible exact Rpl.here | with_reducible apply Rpl.there)); done) | (repeat (first | exact Rpl.here | apply Rpl.there))) rfl (fun w hM j u hu => by rw [add_lit, Nat.zero_add]; exact (hM.blk (b := b9) (by repeat (first | exact mem_hd | apply mem_tl))).cell hu) (sc_one _) (by omega) (by decide) rfl (fun a4 c4 _ => ?_))
    repeat' (first | apply HL.fold | apply HA.fold | apply HL.nil | apply HX.n_then | apply HC.seq | apply HC.region | refine HL.pa ?_ | refine HL.ga rfl ?_ | refine HL.na rfl ?_ | refine HL.nu rfl rfl ?_ | apply HC.block | apply HC.skip | apply HC.exit | apply HC.ret | apply HX.e_block | refine HX.e_other rfl ?_ | apply HX.e_then | apply HX.e_again | apply HX.n_block | apply HX.r_then | apply HX.r_block | apply HX.r_again | refine HC.cond_yes rfl ?_ | refine HC.cond_no rfl ?_ | refine HL.one (H1.ldb rfl memA rfl rfl ?_) | refine HC.cond rfl (fun hc => ?_) (fun hc => ?_) | refine HC.cond_b rfl (fun hc => ?_) (fun hc => ?_))
    refine HX.again (i + 1, a4, c4) (by show i + 1 ≤ n; omega) (by show n - (i + 1) < n - i; omega) esA ?_
    dsimp only
    rw [sprS_step, List.flatMap_append, List.flatMap_singleton]
    repeat (first | exact Hs.nil _ | (refine Hs.cons pickA ?_))
  rintro ⟨aS, cS⟩ -
  dsimp only
  repeat' (first | apply HL.fold | apply HA.fold | apply HL.nil | apply HX.n_then | apply HC.seq | apply HC.region | refine HL.pa ?_ | refine HL.ga rfl ?_ | refine HL.na rfl ?_ | refine HL.nu rfl rfl ?_ | apply HC.block | apply HC.skip | apply HC.exit | apply HC.ret | apply HX.e_block | refine HX.e_other rfl ?_ | apply HX.e_then | apply HX.e_again | apply HX.n_block | apply HX.r_then | apply HX.r_block | apply HX.r_again | refine HC.cond_yes rfl ?_ | refine HC.cond_no rfl ?_ | refine HL.one (H1.ldb rfl memA rfl rfl ?_) | refine HC.cond rfl (fun hc => ?_) (fun hc => ?_) | refine HC.cond_b rfl (fun hc => ?_) (fun hc => ?_))
  refine HL.one (H1.ldAgg (vs := y.cells) rfl memA rfl (fun i v hv => by rw [Nat.zero_add]; exact hv) rfl ?_)
  repeat' (first | apply HL.fold | apply HA.fold | apply HL.nil | apply HX.n_then | apply HC.seq | apply HC.region | refine HL.pa ?_ | refine HL.ga rfl ?_ | refine HL.na rfl ?_ | refine HL.nu rfl rfl ?_ | apply HC.block | apply HC.skip | apply HC.exit | apply HC.ret | apply HX.e_block | refine HX.e_other rfl ?_ | apply HX.e_then | apply HX.e_again | apply HX.n_block | apply HX.r_then | apply HX.r_block | apply HX.r_again | refine HC.cond_yes rfl ?_ | refine HC.cond_no rfl ?_ | refine HL.one (H1.ldb rfl memA rfl rfl ?_) | refine HC.cond rfl (fun hc => ?_) (fun hc => ?_) | refine HC.cond_b rfl (fun hc => ?_) (fun hc => ?_))
  refine HL.one (H1.callz1 (An := fun z : Option Addr × Nat => A.grow 54 4 z.1 z.2 (madeS []).length ((madeS []).flatMap sc)) (vs := [.slice none 0 0, .agg y.cells.toArray]) rfl rfl (fun w' hM => kMade_fn _ [] y (by decide) (by simp) hyb w' ⟨none, 0, rfl, Nat.le_refl _, .inl rfl⟩) ?_)
  rintro ⟨aX, cX⟩ -
  dsimp only
  repeat' (first | apply HL.fold | apply HA.fold | apply HL.nil | apply HX.n_then | apply HC.seq | apply HC.region | refine HL.pa ?_ | refine HL.ga rfl ?_ | refine HL.na rfl ?_ | refine HL.nu rfl rfl ?_ | apply HC.block | apply HC.skip | apply HC.exit | apply HC.ret | apply HX.e_block | refine HX.e_other rfl ?_ | apply HX.e_then | apply HX.e_again | apply HX.n_block | apply HX.r_then | apply HX.r_block | apply HX.r_again | refine HC.cond_yes rfl ?_ | refine HC.cond_no rfl ?_ | refine HL.one (H1.ldb rfl memA rfl rfl ?_) | refine HC.cond rfl (fun hc => ?_) (fun hc => ?_) | refine HC.cond_b rfl (fun hc => ?_) (fun hc => ?_))
  refine HL.one (H1.alloc (cs := [zv 0, zv 0, zv 0, zv 0, zv 0]) rfl rfl (fun b13 => ?_))
  repeat' (first | apply HL.fold | apply HA.fold | apply HL.nil | apply HX.n_then | apply HC.seq | apply HC.region | refine HL.pa ?_ | refine HL.ga rfl ?_ | refine HL.na rfl ?_ | refine HL.nu rfl rfl ?_ | apply HC.block | apply HC.skip | apply HC.exit | apply HC.ret | apply HX.e_block | refine HX.e_other rfl ?_ | apply HX.e_then | apply HX.e_again | apply HX.n_block | apply HX.r_then | apply HX.r_block | apply HX.r_again | refine HC.cond_yes rfl ?_ | refine HC.cond_no rfl ?_ | refine HL.one (H1.ldb rfl memA rfl rfl ?_) | refine HC.cond rfl (fun hc => ?_) (fun hc => ?_) | refine HC.cond_b rfl (fun hc => ?_) (fun hc => ?_))
  refine HL.one (H1.stAgg (cs := [zv 0, zv 0, zv 0, zv 0, zv 0]) (vs := (madeD y).cells) rfl rfl rfl (by unfold Di.cells; intro v hv; simp only [List.mem_cons, List.not_mem_nil, or_false] at hv; rcases hv with rfl | rfl | rfl | rfl | rfl <;> rfl) rplA rfl ?_)
  repeat' (first | apply HL.fold | apply HA.fold | apply HL.nil | apply HX.n_then | apply HC.seq | apply HC.region | refine HL.pa ?_ | refine HL.ga rfl ?_ | refine HL.na rfl ?_ | refine HL.nu rfl rfl ?_ | apply HC.block | apply HC.skip | apply HC.exit | apply HC.ret | apply HX.e_block | refine HX.e_other rfl ?_ | apply HX.e_then | apply HX.e_again | apply HX.n_block | apply HX.r_then | apply HX.r_block | apply HX.r_again | refine HC.cond_yes rfl ?_ | refine HC.cond_no rfl ?_ | refine HL.one (H1.ldb rfl memA rfl rfl ?_) | refine HC.cond rfl (fun hc => ?_) (fun hc => ?_) | refine HC.cond_b rfl (fun hc => ?_) (fun hc => ?_))
  refine HL.one (H1.callz1 (vs := [zv set, zv (n : Int)]) rfl rfl (fun w' _ => some_fn set n hset (by omega) w') ?_)
  rintro ⟨aL, cL⟩ -
  dsimp only
  have hsl := somL_len set n
  by_cases h0 : (somL set n).length = 0
  · have h0' : ((somL set n).length : Int) = 0 := by omega
    repeat' (first | apply HL.fold | apply HA.fold | apply HL.nil | apply HX.n_then | apply HC.seq | apply HC.region | refine HL.pa ?_ | refine HL.ga rfl ?_ | refine HL.na rfl ?_ | refine HL.nu rfl rfl ?_ | apply HC.block | apply HC.skip | apply HC.exit | apply HC.ret | apply HX.e_block | refine HX.e_other rfl ?_ | apply HX.e_then | apply HX.e_again | apply HX.n_block | apply HX.r_then | apply HX.r_block | apply HX.r_again | refine HC.cond_yes rfl ?_ | refine HC.cond_no rfl ?_ | refine HL.one (H1.ldb rfl memA rfl rfl ?_) | refine HC.cond rfl (fun hc => ?_) (fun hc => ?_) | refine HC.cond_b rfl (fun hc => ?_) (fun hc => ?_))
    exact HX.ret1 rfl rfl fun w' hM => ⟨rfl, hM.ext⟩
  have h0' : ¬ ((somL set n).length : Int) = 0 := by omega
  have hpk := pkI_lt k (n := ((somL set n).length : Int)) (by omega)
  repeat' (first | apply HL.fold | apply HA.fold | apply HL.nil | apply HX.n_then | apply HC.seq | apply HC.region | refine HL.pa ?_ | refine HL.ga rfl ?_ | refine HL.na rfl ?_ | refine HL.nu rfl rfl ?_ | apply HC.block | apply HC.skip | apply HC.exit | apply HC.ret | apply HX.e_block | refine HX.e_other rfl ?_ | apply HX.e_then | apply HX.e_again | apply HX.n_block | apply HX.r_then | apply HX.r_block | apply HX.r_again | refine HC.cond_yes rfl ?_ | refine HC.cond_no rfl ?_ | refine HL.one (H1.ldb rfl memA rfl rfl ?_) | refine HC.cond rfl (fun hc => ?_) (fun hc => ?_) | refine HC.cond_b rfl (fun hc => ?_) (fun hc => ?_))
  refine HL.one (H1.call0 (vs := [zv k, zv ((somL set n).length : Int)]) rfl rfl (fun w' _ => kpick_fn _ _ hk.1 hk.2 (by omega) w') ?_)
  repeat' (first | apply HL.fold | apply HA.fold | apply HL.nil | apply HX.n_then | apply HC.seq | apply HC.region | refine HL.pa ?_ | refine HL.ga rfl ?_ | refine HL.na rfl ?_ | refine HL.nu rfl rfl ?_ | apply HC.block | apply HC.skip | apply HC.exit | apply HC.ret | apply HX.e_block | refine HX.e_other rfl ?_ | apply HX.e_then | apply HX.e_again | apply HX.n_block | apply HX.r_then | apply HX.r_block | apply HX.r_again | refine HC.cond_yes rfl ?_ | refine HC.cond_no rfl ?_ | refine HL.one (H1.ldb rfl memA rfl rfl ?_) | refine HC.cond rfl (fun hc => ?_) (fun hc => ?_) | refine HC.cond_b rfl (fun hc => ?_) (fun hc => ?_))
  refine HL.one (H1.ldAgg (vs := (madeD y).cells) rfl memA rfl (fun i v hv => by rw [Nat.zero_add]; exact hv) rfl ?_)
  repeat' (first | apply HL.fold | apply HA.fold | apply HL.nil | apply HX.n_then | apply HC.seq | apply HC.region | refine HL.pa ?_ | refine HL.ga rfl ?_ | refine HL.na rfl ?_ | refine HL.nu rfl rfl ?_ | apply HC.block | apply HC.skip | apply HC.exit | apply HC.ret | apply HX.e_block | refine HX.e_other rfl ?_ | apply HX.e_then | apply HX.e_again | apply HX.n_block | apply HX.r_then | apply HX.r_block | apply HX.r_again | refine HC.cond_yes rfl ?_ | refine HC.cond_no rfl ?_ | refine HL.one (H1.ldb rfl memA rfl rfl ?_) | refine HC.cond rfl (fun hc => ?_) (fun hc => ?_) | refine HC.cond_b rfl (fun hc => ?_) (fun hc => ?_))
  have hspr := spread (n := n) (y := y) (l := somL set n) (k := 1 + pkI k ((somL set n).length : Int)) hn1 hn6 (somL_asc _ _) (fun i hi => somL_lt hi) ⟨by omega, by omega⟩
  refine HL.one (H1.callz1 (An := fun z : Option Addr × Nat => A.grow 3 1 z.1 z.2 (chk (sprS n) (madeD y) (natI (somL set n)) (1 + pkI k ((somL set n).length : Int))).1.length (ints (natI (chk (sprS n) (madeD y) (natI (somL set n)) (1 + pkI k ((somL set n).length : Int))).1))) (vs := [.slice aS n cS, .agg (madeD y).cells.toArray, .slice aL (somL set n).length cL, zv (1 + pkI k ((somL set n).length : Int))]) rfl rfl (fun w' hM => by
    have h1 := hM.gr (a := aL) (c := cL) memA
    have h2 := RdS.own' (S := sprS n) (a := aS) (c := cS) (n := n) hM memA (sprS_len n)
    exact check_fn _ (sprS n) (madeD y) _ (natI (somL set n)) _ (by rw [sprS_len]; omega) (by rw [natI_len]; omega) w' h2 h1) ?_)
  rintro ⟨aC, cC⟩ -
  dsimp only
  rw [hspr]
  have d0 : 0 ≤ (madeD y).b.p ∧ (madeD y).b.p ≤ 2 := hdi.1 0
  have d1 : 0 ≤ (madeD y).b.r ∧ (madeD y).b.r ≤ 2 := hdi.1 1
  have d2 : 0 ≤ (madeD y).b.v ∧ (madeD y).b.v ≤ 2 := hdi.1 2
  have d3 : 0 ≤ (madeD y).b.l ∧ (madeD y).b.l ≤ 2 := hdi.1 3
  have d4 : 0 ≤ (madeD y).liars ∧ (madeD y).liars ≤ 2 := hdi.2
  repeat' (first | apply HL.fold | apply HA.fold | apply HL.nil | apply HX.n_then | apply HC.seq | apply HC.region | refine HL.pa ?_ | refine HL.ga rfl ?_ | refine HL.na rfl ?_ | refine HL.nu rfl rfl ?_ | apply HC.block | apply HC.skip | apply HC.exit | apply HC.ret | apply HX.e_block | refine HX.e_other rfl ?_ | apply HX.e_then | apply HX.e_again | apply HX.n_block | apply HX.r_then | apply HX.r_block | apply HX.r_again | refine HC.cond_yes rfl ?_ | refine HC.cond_no rfl ?_ | refine HL.one (H1.ldb rfl memA rfl rfl ?_) | refine HC.cond rfl (fun hc => ?_) (fun hc => ?_) | refine HC.cond_b rfl (fun hc => ?_) (fun hc => ?_))
  exact HX.ret1 rfl rfl fun w' hM => ⟨by simp, hM.ext⟩
end Go.Sx

