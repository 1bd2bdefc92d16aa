/- Chapter 18: the reference's Check. -/
import Derived.Test.YtnpnoobknolahaaTO
namespace Go.Sx
open Go Go.Proofs Go.RowKit
theorem perm_sub : ∀ {l L : List Int}, l.Nodup → (∀ x ∈ l, x ∈ L) → L.length ≤ l.length → l.Perm L
  | [], L, _, _, h => by
    obtain rfl : L = [] := List.eq_nil_of_length_eq_zero (by simpa using h)
    exact List.Perm.refl _
  | x :: l, L, hn, hs, h => by
    rw [List.nodup_cons] at hn
    have hx := hs x (List.Mem.head _)
    have h1 := perm_sub (l := l) (L := L.erase x) hn.2 (fun y hy => (List.mem_erase_of_ne fun e => hn.1 (by rw [← e]; exact hy)).2 (hs y (List.Mem.tail _ hy))) (by
      rw [List.length_erase_of_mem hx]
      rw [List.length_cons] at h; omega)
    exact (h1.cons x).trans (List.perm_cons_erase hx).symm
theorem sub_len : ∀ {l L : List Int}, l.Nodup → (∀ x ∈ l, x ∈ L) → l.length ≤ L.length
  | [], L, _, _ => Nat.zero_le _
  | x :: l, L, hn, hs => by
    rw [List.nodup_cons] at hn
    have hx := hs x (List.Mem.head _)
    have h1 := sub_len (l := l) (L := L.erase x) hn.2 (fun y hy => (List.mem_erase_of_ne fun e => hn.1 (by rw [← e]; exact hy)).2 (hs y (List.Mem.tail _ hy)))
    rw [List.length_erase_of_mem hx] at h1
    have := List.length_pos_of_mem hx
    rw [List.length_cons]; omega
theorem inL_asc (H : List Int) (n : Nat) : (inL H n).Pairwise (· < ·) := (List.pairwise_lt_range).filter _
theorem inL_mem {H : List Int} {n i : Nat} : i ∈ inL H n ↔ i < n ∧ (i : Int) ∈ H := by
  unfold inL
  rw [List.mem_filter, List.mem_range, decide_eq_true_eq]
theorem inL_sub {H : List Int} {n : Nat} : ∀ x ∈ natI (inL H n), x ∈ H := fun x hx => by
  obtain ⟨i, hi, rfl⟩ := List.mem_map.1 hx
  exact (inL_mem.1 hi).2
theorem inL_full {H : List Int} {n : Nat} : (inL H n).length = H.length ↔ H.Nodup ∧ ∀ x ∈ H, 0 ≤ x ∧ x < n := by
  have hn : (natI (inL H n)).Nodup := natI_nodup (inL_asc H n)
  constructor
  · intro h
    have hp := perm_sub hn inL_sub (by rw [natI_len, h]; exact Nat.le_refl _)
    refine ⟨hp.nodup_iff.1 hn, fun x hx => ?_⟩
    obtain ⟨i, hi, rfl⟩ := List.mem_map.1 (hp.mem_iff.2 hx)
    have := (inL_mem.1 hi).1
    exact ⟨Int.natCast_nonneg _, by show (i : Int) < n; omega⟩
  · rintro ⟨h1, h2⟩
    have h3 := sub_len hn inL_sub
    have h4 := sub_len (l := H) (L := natI (inL H n)) h1 fun x hx => by
      have := h2 x hx
      exact List.mem_map.2 ⟨x.toNat, inL_mem.2 ⟨by omega, by rw [Int.toNat_of_nonneg this.1]; exact hx⟩, Int.toNat_of_nonneg this.1⟩
    rw [natI_len] at h3 h4
    omega
theorem inL_hold {S : List St} {d : Di} {H : List Int} {k : Int} (h : goodP S d H k) : inL H S.length = hold H := asc_ext (inL_asc _ _) h.asc fun x => by
  rw [inL_mem, hold_mem h.mem0]
  exact ⟨fun h => h.2, fun hx => ⟨h.lt x ((hold_mem h.mem0).2 hx), hx⟩⟩
theorem Mm.one {w0 w : World} {H : List Atom} {x : Atom} (h : Mm w0 H w) (hx : x ∈ H) : Mm w0 [x] w := by
  obtain ⟨s, t, rfl⟩ := List.append_of_mem hx
  exact (h.perm (List.perm_middle.trans (List.Perm.refl (x :: (s ++ t))))).left (H := [x]) (K := s ++ t)
attribute [local irreducible] WC WL WX POp Then Again Fn NX W1 WA WO QL RP RA Yld LoopAt HC HL HX HN H1 HA HO HQ HB HP A.blk A.grow A.rd A.obj A.mp AgainH CutH
attribute [local irreducible] A.mq A.mit A.dfrs A.loop mapsA A.land A.pure chk best A.all
set_option maxHeartbeats 4000000 in
theorem rcheck_fn (v : Value) (S : List St) (d : Di) (u : Value) (H : List Int) (k : Int) (hS : S.length ≤ 100000) (hH : H.length ≤ 100000) (w : World) (hT : RdS w v S) (hR : Rd w u (ints H)) :
    Fn Try.prog 12 #[v, .agg d.cells.toArray, u, zv k] w fun x w' => ∃ z : Option Addr × Nat, True ∧ x = .tuple #[.slice z.1 (chk S d H k).1.length z.2, .bool (chk S d H k).2] ∧ Mm w [A.grow 3 1 z.1 z.2 (chk S d H k).1.length (ints (natI (chk S d H k).1))] w' := by
  obtain ⟨a, c, rfl, hc⟩ := hT.shape
  obtain ⟨aH, cH, rfl, hcH⟩ := hR.isInts
  have hbadS : ¬ goodP S d H k → ∀ w', Mm w [] w' → ∃ z : Option Addr × Nat, True ∧ Value.tuple #[.slice none 0 0, .bool false] = .tuple #[.slice z.1 (chk S d H k).1.length z.2, .bool (chk S d H k).2] ∧ Mm w [A.grow 3 1 z.1 z.2 (chk S d H k).1.length (ints (natI (chk S d H k).1))] w' := fun h w' hM => ⟨(none, 0), trivial, by rw [chk_bad h]; rfl, by rw [chk_bad h]; exact hM.grow0 _ _⟩
  refine enterH (l := [_, _, _, _]) rfl Try.ntmps12 rfl ?_
  repeat' (first | apply HL.fold | apply HA.fold | apply HL.nil | apply HX.n_then | apply HC.seq | apply HC.region | refine HL.pa ?_ | refine HL.ga rfl ?_ | refine HL.na rfl ?_ | refine HL.nu rfl rfl ?_ | apply HC.block | apply HC.skip | apply HC.exit | apply HC.ret | apply HX.e_block | refine HX.e_other rfl ?_ | apply HX.e_then | apply HX.e_again | apply HX.n_block | apply HX.r_then | apply HX.r_block | apply HX.r_again | refine HC.cond_yes rfl ?_ | refine HC.cond_no rfl ?_ | refine HL.one (H1.ldb rfl memA rfl rfl ?_) | refine HC.cond rfl (fun hc => ?_) (fun hc => ?_) | refine HC.cond_b rfl (fun hc => ?_) (fun hc => ?_))
  refine HL.one (H1.boxAgg (cs := d.cells) rfl rfl (fun b5 => ?_))
  repeat' (first | apply HL.fold | apply HA.fold | apply HL.nil | apply HX.n_then | apply HC.seq | apply HC.region | refine HL.pa ?_ | refine HL.ga rfl ?_ | refine HL.na rfl ?_ | refine HL.nu rfl rfl ?_ | apply HC.block | apply HC.skip | apply HC.exit | apply HC.ret | apply HX.e_block | refine HX.e_other rfl ?_ | apply HX.e_then | apply HX.e_again | apply HX.n_block | apply HX.r_then | apply HX.r_block | apply HX.r_again | refine HC.cond_yes rfl ?_ | refine HC.cond_no rfl ?_ | refine HL.one (H1.ldb rfl memA rfl rfl ?_) | refine HC.cond rfl (fun hc => ?_) (fun hc => ?_) | refine HC.cond_b rfl (fun hc => ?_) (fun hc => ?_))
  refine HL.one (H1.ldAgg (vs := d.cells) rfl memA rfl (fun i v hv => by rw [Nat.zero_add]; exact hv) rfl ?_)
  repeat' (first | apply HL.fold | apply HA.fold | apply HL.nil | apply HX.n_then | apply HC.seq | apply HC.region | refine HL.pa ?_ | refine HL.ga rfl ?_ | refine HL.na rfl ?_ | refine HL.nu rfl rfl ?_ | apply HC.block | apply HC.skip | apply HC.exit | apply HC.ret | apply HX.e_block | refine HX.e_other rfl ?_ | apply HX.e_then | apply HX.e_again | apply HX.n_block | apply HX.r_then | apply HX.r_block | apply HX.r_again | refine HC.cond_yes rfl ?_ | refine HC.cond_no rfl ?_ | refine HL.one (H1.ldb rfl memA rfl rfl ?_) | refine HC.cond rfl (fun hc => ?_) (fun hc => ?_) | refine HC.cond_b rfl (fun hc => ?_) (fun hc => ?_))
  refine HL.one (H1.callx (vs := [.slice a S.length c, .agg d.cells.toArray]) rfl rfl (fun w' hM => rvalid18_fn _ S d (by omega) w' (hT.ext hM.ext)) ?_)
  repeat' (first | apply HL.fold | apply HA.fold | apply HL.nil | apply HX.n_then | apply HC.seq | apply HC.region | refine HL.pa ?_ | refine HL.ga rfl ?_ | refine HL.na rfl ?_ | refine HL.nu rfl rfl ?_ | apply HC.block | apply HC.skip | apply HC.exit | apply HC.ret | apply HX.e_block | refine HX.e_other rfl ?_ | apply HX.e_then | apply HX.e_again | apply HX.n_block | apply HX.r_then | apply HX.r_block | apply HX.r_again | refine HC.cond_yes rfl ?_ | refine HC.cond_no rfl ?_ | refine HL.one (H1.ldb rfl memA rfl rfl ?_) | refine HC.cond rfl (fun hc => ?_) (fun hc => ?_) | refine HC.cond_b rfl (fun hc => ?_) (fun hc => ?_))
  refine HL.one (H1.callz1 (vs := [.slice aH H.length cH, zv (S.length : Int)]) rfl rfl (fun w' hM => rsorted_fn _ H S.length (by omega) hS w' (hM.rd0 hR)) ?_)
  rintro ⟨al, cl⟩ -
  dsimp only
  cases hv : pvalid S d with
  | false =>
    have hbad : ¬ goodP S d H k := fun h => by have := h.1; rw [hv] at this; cases this
    repeat' (first | apply HL.fold | apply HA.fold | apply HL.nil | apply HX.n_then | apply HC.seq | apply HC.region | refine HL.pa ?_ | refine HL.ga rfl ?_ | refine HL.na rfl ?_ | refine HL.nu rfl rfl ?_ | apply HC.block | apply HC.skip | apply HC.exit | apply HC.ret | apply HX.e_block | refine HX.e_other rfl ?_ | apply HX.e_then | apply HX.e_again | apply HX.n_block | apply HX.r_then | apply HX.r_block | apply HX.r_again | refine HC.cond_yes rfl ?_ | refine HC.cond_no rfl ?_ | refine HL.one (H1.ldb rfl memA rfl rfl ?_) | refine HC.cond rfl (fun hc => ?_) (fun hc => ?_) | refine HC.cond_b rfl (fun hc => ?_) (fun hc => ?_))
    exact HX.ret2 rfl rfl rfl fun w' hM => hbadS hbad w' (hM.sub (Hs.nil _))
  | true =>
  have hpv := pvalid_ok hv
  have hS9 := hpv.n9
  by_cases hf : (inL H S.length).length = H.length ∧ 0 < (inL H S.length).length
  rotate_left
  · have hbad : ¬ goodP S d H k := fun h => hf ⟨inL_full.2 ⟨h.2.2.2, h.2.2.1⟩, by rw [inL_full.2 ⟨h.2.2.2, h.2.2.1⟩]; have := h.2.1; omega⟩
    repeat' (first | apply HL.fold | apply HA.fold | apply HL.nil | apply HX.n_then | apply HC.seq | apply HC.region | refine HL.pa ?_ | refine HL.ga rfl ?_ | refine HL.na rfl ?_ | refine HL.nu rfl rfl ?_ | apply HC.block | apply HC.skip | apply HC.exit | apply HC.ret | apply HX.e_block | refine HX.e_other rfl ?_ | apply HX.e_then | apply HX.e_again | apply HX.n_block | apply HX.r_then | apply HX.r_block | apply HX.r_again | refine HC.cond_yes rfl ?_ | refine HC.cond_no rfl ?_ | refine HL.one (H1.ldb rfl memA rfl rfl ?_) | refine HC.cond rfl (fun hc => ?_) (fun hc => ?_) | refine HC.cond_b rfl (fun hc => ?_) (fun hc => ?_))
    exact HX.ret2 rfl rfl rfl fun w' hM => hbadS hbad w' (hM.sub (Hs.nil _))
  repeat' (first | apply HL.fold | apply HA.fold | apply HL.nil | apply HX.n_then | apply HC.seq | apply HC.region | refine HL.pa ?_ | refine HL.ga rfl ?_ | refine HL.na rfl ?_ | refine HL.nu rfl rfl ?_ | apply HC.block | apply HC.skip | apply HC.exit | apply HC.ret | apply HX.e_block | refine HX.e_other rfl ?_ | apply HX.e_then | apply HX.e_again | apply HX.n_block | apply HX.r_then | apply HX.r_block | apply HX.r_again | refine HC.cond_yes rfl ?_ | refine HC.cond_no rfl ?_ | refine HL.one (H1.ldb rfl memA rfl rfl ?_) | refine HC.cond rfl (fun hc => ?_) (fun hc => ?_) | refine HC.cond_b rfl (fun hc => ?_) (fun hc => ?_))
  refine HL.one (H1.call0 (vs := [zv k, zv 1, zv ((inL H S.length).length : Int)]) rfl rfl (fun w' _ => kwithin_fn _ _ _ w') ?_)
  by_cases hk : 1 ≤ k ∧ k ≤ ((inL H S.length).length : Int)
  rotate_left
  · have hbad : ¬ goodP S d H k := fun h => hk ⟨h.2.1.1, by rw [hf.1]; exact h.2.1.2⟩
    repeat' (first | apply HL.fold | apply HA.fold | apply HL.nil | apply HX.n_then | apply HC.seq | apply HC.region | refine HL.pa ?_ | refine HL.ga rfl ?_ | refine HL.na rfl ?_ | refine HL.nu rfl rfl ?_ | apply HC.block | apply HC.skip | apply HC.exit | apply HC.ret | apply HX.e_block | refine HX.e_other rfl ?_ | apply HX.e_then | apply HX.e_again | apply HX.n_block | apply HX.r_then | apply HX.r_block | apply HX.r_again | refine HC.cond_yes rfl ?_ | refine HC.cond_no rfl ?_ | refine HL.one (H1.ldb rfl memA rfl rfl ?_) | refine HC.cond rfl (fun hc => ?_) (fun hc => ?_) | refine HC.cond_b rfl (fun hc => ?_) (fun hc => ?_))
    exact HX.ret2 rfl rfl rfl fun w' hM => hbadS hbad w' (hM.sub (Hs.nil _))
  have hgood : goodP S d H k := ⟨hv, ⟨hk.1, by rw [← hf.1]; exact hk.2⟩, (inL_full.1 hf.1).2, (inL_full.1 hf.1).1⟩
  have hHS := hgood.len
  obtain ⟨n, hn⟩ : ∃ n : Nat, n = H.length - k.toNat + 1 := ⟨_, rfl⟩
  have hk2 : 1 ≤ k ∧ k ≤ (H.length : Int) := hgood.2.1
  rw [inL_hold hgood] at hf hk ⊢
  have hl := hold_len H
  generalize hL : hold H = L at *
  have hLn : (L.length : Int) - k + 1 = ((n : Nat) : Int) := by omega
  repeat' (first | apply HL.fold | apply HA.fold | apply HL.nil | apply HX.n_then | apply HC.seq | apply HC.region | refine HL.pa ?_ | refine HL.ga rfl ?_ | refine HL.na rfl ?_ | refine HL.nu rfl rfl ?_ | apply HC.block | apply HC.skip | apply HC.exit | apply HC.ret | apply HX.e_block | refine HX.e_other rfl ?_ | apply HX.e_then | apply HX.e_again | apply HX.n_block | apply HX.r_then | apply HX.r_block | apply HX.r_again | refine HC.cond_yes rfl ?_ | refine HC.cond_no rfl ?_ | refine HL.one (H1.ldb rfl memA rfl rfl ?_) | refine HC.cond rfl (fun hc => ?_) (fun hc => ?_) | refine HC.cond_b rfl (fun hc => ?_) (fun hc => ?_))
  rw [hLn]
  refine HL.one (H1.callz (α := (Option Addr × Nat) × List (Option Addr × Nat)) (I := fun z => z.2.length = (combs L n).length) (V := fun z => .slice z.1.1 (combs L n).length z.1.2) (Hn := fun z => [A.grow 25 1 z.1.1 z.1.2 (combs L n).length (rowV (combs L n) z.2), A.all (rowK (combs L n) z.2)])
    (vs := [.slice al L.length cl, zv (n : Int)]) rfl rfl (fun w' hM => choose_fn n _ L w' (by omega) (by omega) (hM.gr memA)) ?_)
  rintro ⟨⟨aR, cR⟩, zr⟩ hzr
  dsimp only [List.cons_append, List.nil_append] at hzr ⊢
  have hTS : ∀ T ∈ combs L n, ∀ j ∈ T, j < S.length := fun T hT j hj => hgood.lt j (by rw [hL]; exact (mem_combs.1 hT).1.subset hj)
  have hT9 : ∀ T ∈ combs L n, T.length ≤ 9 := fun T hT => by have := (mem_combs.1 hT).1.length_le; omega
  have hR512 : (combs L n).length ≤ 512 := combs_9 n (by omega)
  have hlost : lostP S d (hold H) (H.length - k.toNat + 1) = (combs L n).find? fun T => hitB (gS S) T d.left d.m := by rw [hL, ← hn]; rfl
  generalize combs L n = R at *
  repeat' (first | apply HL.fold | apply HA.fold | apply HL.nil | apply HX.n_then | apply HC.seq | apply HC.region | refine HL.pa ?_ | refine HL.ga rfl ?_ | refine HL.na rfl ?_ | refine HL.nu rfl rfl ?_ | apply HC.block | apply HC.skip | apply HC.exit | apply HC.ret | apply HX.e_block | refine HX.e_other rfl ?_ | apply HX.e_then | apply HX.e_again | apply HX.n_block | apply HX.r_then | apply HX.r_block | apply HX.r_again | refine HC.cond_yes rfl ?_ | refine HC.cond_no rfl ?_ | refine HL.one (H1.ldb rfl memA rfl rfl ?_) | refine HC.cond rfl (fun hc => ?_) (fun hc => ?_) | refine HC.cond_b rfl (fun hc => ?_) (fun hc => ?_))
  refine HC.loop (α := Nat) (fun i => [(0, .slice a S.length c), (5, .pointer (some ⟨b5, 0, none⟩)), (13, .slice aR R.length cR), (14, zv (i : Int))])
    (fun _ => [A.grow 25 1 aR cR R.length (rowV R zr), A.all (rowK R zr), A.blk b5 d.cells 24]) (fun i => i ≤ R.length ∧ ∀ j, (hj : j < R.length) → j < i → hitB (gS S) R[j] d.left d.m = false) (fun i => R.length - i) 0 ⟨Nat.zero_le _, fun j _ hj => absurd hj (Nat.not_lt_zero _)⟩ esA (by repeat (first | exact Hs.nil _ | (refine Hs.cons pickA ?_))) ?_
  rintro i ⟨hi, hno⟩
  by_cases hlt : i < R.length
  rotate_left
  · have hnone : R.find? (fun T => hitB (gS S) T d.left d.m) = none := by
      rw [List.find?_eq_none]
      intro T hT
      obtain ⟨j, hj, rfl⟩ := List.getElem_of_mem hT
      rw [hno j hj (by omega)]; decide
    repeat' (first | apply HL.fold | apply HA.fold | apply HL.nil | apply HX.n_then | apply HC.seq | apply HC.region | refine HL.pa ?_ | refine HL.ga rfl ?_ | refine HL.na rfl ?_ | refine HL.nu rfl rfl ?_ | apply HC.block | apply HC.skip | apply HC.exit | apply HC.ret | apply HX.e_block | refine HX.e_other rfl ?_ | apply HX.e_then | apply HX.e_again | apply HX.n_block | apply HX.r_then | apply HX.r_block | apply HX.r_again | refine HC.cond_yes rfl ?_ | refine HC.cond_no rfl ?_ | refine HL.one (H1.ldb rfl memA rfl rfl ?_) | refine HC.cond rfl (fun hc => ?_) (fun hc => ?_) | refine HC.cond_b rfl (fun hc => ?_) (fun hc => ?_))
    refine HX.ret2 rfl rfl rfl fun w' hM => ⟨(none, 0), trivial, ?_, ?_⟩
    · rw [chk_none hgood (by rw [hlost, hnone])]; rfl
    · rw [chk_none hgood (by rw [hlost, hnone])]; exact (hM.sub (Hs.nil _)).grow0 _ _
  refine HC.growAt (a := aR) (c := cR) (n := R.length) memA (by omega) fun bR eR => ?_
  subst eR
  obtain ⟨⟨az, cz⟩, hzv, hzk⟩ := rows_get hzr hlt
  have h9 := hT9 _ (List.getElem_mem hlt)
  have hTs := hTS _ (List.getElem_mem hlt)
  dsimp only at hzv hzk
  repeat' (first | apply HL.fold | apply HA.fold | apply HL.nil | apply HX.n_then | apply HC.seq | apply HC.region | refine HL.pa ?_ | refine HL.ga rfl ?_ | refine HL.na rfl ?_ | refine HL.nu rfl rfl ?_ | apply HC.block | apply HC.skip | apply HC.exit | apply HC.ret | apply HX.e_block | refine HX.e_other rfl ?_ | apply HX.e_then | apply HX.e_again | apply HX.n_block | apply HX.r_then | apply HX.r_block | apply HX.r_again | refine HC.cond_yes rfl ?_ | refine HC.cond_no rfl ?_ | refine HL.one (H1.ldb rfl memA rfl rfl ?_) | refine HC.cond rfl (fun hc => ?_) (fun hc => ?_) | refine HC.cond_b rfl (fun hc => ?_) (fun hc => ?_))
  refine HC.anyC (cellsA b5 d.cells ++ [(⟨bR, i, none⟩, .slice az R[i].length cz)]) rfl ?_
  refine HB.pa 0 rfl ?_
  refine HB.ldA (vs := d.cells) 1 rfl rfl rfl (fun i v hv => cellsL (cellsA_mem hv)) ?_
  refine HB.pa 2 rfl ?_
  refine HB.pa 3 rfl ?_
  refine HB.pa 4 rfl ?_
  refine HB.ld 5 rfl rfl (cellsR (List.Mem.head _)) ?_
  refine HB.all (by exact Keep.blkA memA (Keep.grow memA hzv Keep.nil)) [6] (by kernel_rfl) rfl ⟨⟨_, rfl, ?_⟩, trivial⟩
  refine HP.one ?_
  refine H1.callx (vs := [.slice a S.length c, .agg d.cells.toArray, .slice az R[i].length cz]) rfl rfl (fun w' hM => rexposed_fn (.slice a S.length c) S hS9 R[i].length (.slice az R[i].length cz) R[i] d w' (Nat.le_refl _) h9 hTs ⟨hpv.bound, ⟨hpv.l0, hpv.l4⟩⟩ (hT.ext hM.ext) (hM.rowRd (TT := R) (zs := zr) (z := (az, cz)) memA hzk)) ?_
  apply HB.fold
  refine HB.done (by exact Keep.blkA memA (Keep.grow memA hzv Keep.nil)) (by kernel_rfl) ?_
  skip
  cases hb : hitB (gS S) R[i] d.left d.m with
  | true =>
    have hfound : R.find? (fun T => hitB (gS S) T d.left d.m) = some R[i] := by
      rw [List.find?_eq_some_iff_getElem]
      exact ⟨hb, i, hlt, rfl, fun j hj => by rw [hno j (by omega) hj]; rfl⟩
    repeat' (first | apply HL.fold | apply HA.fold | apply HL.nil | apply HX.n_then | apply HC.seq | apply HC.region | refine HL.pa ?_ | refine HL.ga rfl ?_ | refine HL.na rfl ?_ | refine HL.nu rfl rfl ?_ | apply HC.block | apply HC.skip | apply HC.exit | apply HC.ret | apply HX.e_block | refine HX.e_other rfl ?_ | apply HX.e_then | apply HX.e_again | apply HX.n_block | apply HX.r_then | apply HX.r_block | apply HX.r_again | refine HC.cond_yes rfl ?_ | refine HC.cond_no rfl ?_ | refine HL.one (H1.ldb rfl memA rfl rfl ?_) | refine HC.cond rfl (fun hc => ?_) (fun hc => ?_) | refine HC.cond_b rfl (fun hc => ?_) (fun hc => ?_))
    refine HL.one (H1.ldg (vs := rowV R zr) rfl memA hzv rfl ?_)
    repeat' (first | apply HL.fold | apply HA.fold | apply HL.nil | apply HX.n_then | apply HC.seq | apply HC.region | refine HL.pa ?_ | refine HL.ga rfl ?_ | refine HL.na rfl ?_ | refine HL.nu rfl rfl ?_ | apply HC.block | apply HC.skip | apply HC.exit | apply HC.ret | apply HX.e_block | refine HX.e_other rfl ?_ | apply HX.e_then | apply HX.e_again | apply HX.n_block | apply HX.r_then | apply HX.r_block | apply HX.r_again | refine HC.cond_yes rfl ?_ | refine HC.cond_no rfl ?_ | refine HL.one (H1.ldb rfl memA rfl rfl ?_) | refine HC.cond rfl (fun hc => ?_) (fun hc => ?_) | refine HC.cond_b rfl (fun hc => ?_) (fun hc => ?_))
    refine HX.ret2 rfl rfl rfl fun w' hM => ⟨(az, cz), trivial, ?_, ?_⟩
    · rw [chk_some hgood (by rw [hlost, hfound])]
    · rw [chk_some hgood (by rw [hlost, hfound])]
      have h1 : Mm w (A.all (rowK R zr) :: [A.grow 25 1 (some ⟨bR, 0, none⟩) cR R.length (rowV R zr), A.blk b5 d.cells 24]) w' := hM.sub (by repeat (first | exact Hs.nil _ | (refine Hs.cons pickA ?_)))
      exact h1.unpack.one (List.mem_append_left _ hzk)
  | false =>
    repeat' (first | apply HL.fold | apply HA.fold | apply HL.nil | apply HX.n_then | apply HC.seq | apply HC.region | refine HL.pa ?_ | refine HL.ga rfl ?_ | refine HL.na rfl ?_ | refine HL.nu rfl rfl ?_ | apply HC.block | apply HC.skip | apply HC.exit | apply HC.ret | apply HX.e_block | refine HX.e_other rfl ?_ | apply HX.e_then | apply HX.e_again | apply HX.n_block | apply HX.r_then | apply HX.r_block | apply HX.r_again | refine HC.cond_yes rfl ?_ | refine HC.cond_no rfl ?_ | refine HL.one (H1.ldb rfl memA rfl rfl ?_) | refine HC.cond rfl (fun hc => ?_) (fun hc => ?_) | refine HC.cond_b rfl (fun hc => ?_) (fun hc => ?_))
    refine HX.again (i + 1) ⟨by omega, fun j hj hj2 => ?_⟩ (by omega) esA (by repeat (first | exact Hs.nil _ | (refine Hs.cons pickA ?_)))
    by_cases e : j = i
    · subst e; exact hb
    · exact hno j hj (by omega)
end Go.Sx

