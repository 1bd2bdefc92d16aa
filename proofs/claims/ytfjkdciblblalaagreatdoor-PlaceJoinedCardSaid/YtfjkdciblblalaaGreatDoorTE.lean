/- Chapter 18: the fixed examples. -/
import Derived.Test.YtfjkdciblblalaaGreatDoorTD
namespace Go.Sx
open Go Go.Proofs Go.RowKit
theorem srt_self {l : List Int} (h : l.Pairwise (· ≤ ·)) : srt l = l :=
  List.Perm.eq_of_pairwise (le := (· ≤ ·)) (fun _ _ _ _ h1 h2 => Int.le_antisymm h1 h2) (srt_pw0 l) h (srt_perm0 l)
theorem natI_toNat (T : List Nat) : (natI T).map Int.toNat = T := by
  unfold natI
  rw [List.map_map]
  conv => rhs; rw [← List.map_id T]
  exact List.map_congr_left fun x _ => rfl
theorem hold_natI' {T : List Nat} (h : T.Pairwise (· < ·)) : hold (natI T) = T := by
  unfold hold
  rw [srt_self, natI_toNat]
  unfold natI
  rw [List.pairwise_map]
  exact h.imp fun {a b} hab => Int.ofNat_le.2 (Nat.le_of_lt hab)
theorem natI_nodup {T : List Nat} (h : T.Pairwise (· < ·)) : (natI T).Nodup := by
  unfold natI
  rw [List.Nodup, List.pairwise_map]
  exact h.imp fun {a b} hab e => Nat.ne_of_lt hab (Int.ofNat.inj e)
/-- Check at a placement in order: whether it is safe. -/
def chkC (S : List St) (d : Di) (k : Int) (T : List Nat) : Bool := decide (1 ≤ k ∧ k ≤ (T.length : Int)) && (combs T (T.length - k.toNat + 1)).all fun U => !hitB (gS S) U d.left d.m
theorem good_nat {S : List St} {d : Di} {T : List Nat} {k : Int} (hv : pvalid S d = true) (ha : T.Pairwise (· < ·)) (hT : ∀ i ∈ T, i < S.length) : goodP S d (natI T) k ↔ 1 ≤ k ∧ k ≤ (T.length : Int) := by
  unfold goodP
  rw [natI_len]
  constructor
  · exact fun h => h.2.1
  · refine fun h => ⟨hv, h, fun x hx => ?_, natI_nodup ha⟩
    obtain ⟨i, hi, rfl⟩ := List.mem_map.1 hx
    have := hT i hi
    exact ⟨Int.natCast_nonneg _, by show (i : Int) < _; omega⟩
theorem lost_none {S : List St} {d : Di} {l : List Nat} {n : Nat} : lostP S d l n = none ↔ ((combs l n).all fun U => !hitB (gS S) U d.left d.m) = true := by
  unfold lostP
  rw [List.find?_eq_none, List.all_eq_true]
  exact forall_congr' fun T => forall_congr' fun _ => by cases hitB (gS S) T d.left d.m <;> simp
theorem chk_c {S : List St} {d : Di} {T : List Nat} {k : Int} (hv : pvalid S d = true) (ha : T.Pairwise (· < ·)) (hT : ∀ i ∈ T, i < S.length) : (chk S d (natI T) k).2 = chkC S d k T := by
  rw [Bool.eq_iff_iff, chk_safe, good_nat hv ha hT, hold_natI' ha, natI_len, lost_none]
  unfold chkC
  rw [Bool.and_eq_true, decide_eq_true_eq]
theorem find_congr {α : Type} {p q : α → Bool} : ∀ {l : List α}, (∀ x ∈ l, p x = q x) → l.find? p = l.find? q
  | [], _ => rfl
  | x :: l, h => by
    rw [List.find?_cons, List.find?_cons, h x (List.Mem.head _), find_congr fun y hy => h y (List.Mem.tail _ hy)]
theorem bestP_c {S : List St} {d : Di} {k : Int} {n : Nat} (hv : pvalid S d = true) : bestP S d k n = (combs (List.range S.length) n).find? (chkC S d k) := find_congr fun T hT => by
  obtain ⟨h1, -⟩ := mem_combs.1 hT
  exact chk_c hv ((List.pairwise_lt_range).sublist h1) fun i hi => List.mem_range.1 (h1.subset hi)
def oneD : Di := ⟨⟨1, 0, 0, 0⟩, 0⟩
def twoD : Di := ⟨⟨1, 0, 0, 0⟩, 1⟩
theorem v1 : pvalid ex4 oneD = true := by decide
theorem v2 : pvalid ex4 twoD = true := by decide
theorem s1 : chk ex4 oneD [0, 1, 2] 1 = ([], true) := chk_none ((good_nat (T := [0, 1, 2]) v1 (by decide) (by decide)).2 (by decide)) (by rw [show ([0, 1, 2] : List Int) = natI [0, 1, 2] from rfl, hold_natI' (by decide)]; decide +kernel)
theorem s2 : chk ex4 oneD [0, 1, 2] 2 = ([0, 1], false) := chk_some ((good_nat (T := [0, 1, 2]) v1 (by decide) (by decide)).2 (by decide)) (by rw [hold_natI' (by decide)]; decide +kernel)
theorem s3 : chk ex4 twoD [0, 1, 2, 3] 1 = ([], true) := chk_none ((good_nat (T := [0, 1, 2, 3]) v2 (by decide) (by decide)).2 (by decide)) (by rw [show ([0, 1, 2, 3] : List Int) = natI [0, 1, 2, 3] from rfl, hold_natI' (by decide)]; decide +kernel)
theorem s4 : chk ex4 twoD [0, 1, 2, 3] 2 = ([0, 1, 2], false) := chk_some ((good_nat (T := [0, 1, 2, 3]) v2 (by decide) (by decide)).2 (by decide)) (by rw [hold_natI' (by decide)]; decide +kernel)
theorem s5 : best ex4 oneD 2 = some [0, 2, 3] := by
  rw [best_ok ⟨v1, by decide, by decide⟩]
  show bestFrom ex4 oneD 2 3 2 = _
  unfold bestFrom
  rw [bestP_c v1, show (combs (List.range ex4.length) 2).find? (chkC ex4 oneD 2) = none by decide +kernel]
  dsimp only
  unfold bestFrom
  rw [bestP_c v1, show (combs (List.range ex4.length) (2 + 1)).find? (chkC ex4 oneD 2) = some [0, 2, 3] by decide +kernel]
theorem s6 : best ex4 oneD 3 = none := by
  rw [best_ok ⟨v1, by decide, by decide⟩]
  show bestFrom ex4 oneD 3 2 3 = _
  unfold bestFrom
  rw [bestP_c v1, show (combs (List.range ex4.length) 3).find? (chkC ex4 oneD 3) = none by decide +kernel]
  dsimp only
  unfold bestFrom
  rw [bestP_c v1, show (combs (List.range ex4.length) (3 + 1)).find? (chkC ex4 oneD 3) = none by decide +kernel]
  rfl
def sG : Nat → List Int := fun q => if q = 0 then [0] else if q = 3 then [3] else []
theorem s7 : struckL ex4 sG 4 = [0, 1, 3] := by decide
attribute [local irreducible] WC WL WX POp Then Again Fn NX W1 WA WO QL RP RA Yld LoopAt HC HL HX HN H1 HA HO HQ HB HP A.blk A.grow A.rd A.obj A.mp AgainH CutH
attribute [local irreducible] A.mq A.mit A.dfrs A.loop mapsA A.land A.pure chk best
theorem exS {w0 w : World} {H : List Atom} {b : Nat} (hM : Mm w0 H w) (hm : A.blk b (ex4.flatMap sc) 95 ∈ H) : RdS w (.slice (some ⟨b, 0, none⟩) 4 4) ex4 := RdS.blk hM hm
theorem rdLit {w0 w : World} {H : List Atom} {b : Nat} {l : List Int} {e : TypeId} (hM : Mm w0 H w) (hm : A.blk b (ints l) e ∈ H) : Rd w (.slice (some ⟨b, 0, none⟩) l.length l.length) (ints l) := by
  have := Rd.of_blk (hM.blk hm) (l := l.length) (c := l.length) (by rw [ints_len]; exact Nat.le_refl _) (Nat.le_refl _)
  rwa [List.take_of_length_le (by rw [ints_len]; exact Nat.le_refl _)] at this
theorem strX {w0 w : World} {H : List Atom} {bf b21 b22 : Nat} (hM : Mm w0 H w) (h1 : A.blk bf (ex4.flatMap sc) 95 ∈ H) (h2 : A.blk b21 (ints [0]) 3 ∈ H) (h3 : A.blk b22 (ints [3]) 3 ∈ H) :
    Fn Tryz.prog 15 #[.slice (some ⟨bf, 0, none⟩) 4 4, .slice (some ⟨b21, 0, none⟩) 1 1, .slice none 0 0, .slice none 0 0, .slice (some ⟨b22, 0, none⟩) 1 1] w fun u w' => ∃ z : Option Addr × Nat, True ∧ u = .slice z.1 3 z.2 ∧ Mm w [A.grow 3 1 z.1 z.2 3 (ints (natI [0, 1, 3]))] w' := by
  have := struck_fn (.slice (some ⟨bf, 0, none⟩) 4 4) ex4 (fun q => if q = 0 then .slice (some ⟨b21, 0, none⟩) 1 1 else if q = 3 then .slice (some ⟨b22, 0, none⟩) 1 1 else .slice none 0 0) sG (by decide) (fun q hq => by
    rcases (show q = 0 ∨ q = 1 ∨ q = 2 ∨ q = 3 by omega) with rfl | rfl | rfl | rfl <;> decide) w (exS hM h1) (fun q hq => by
    rcases (show q = 0 ∨ q = 1 ∨ q = 2 ∨ q = 3 by omega) with rfl | rfl | rfl | rfl
    · exact rdLit (l := [0]) hM h2
    · exact Rd.nil w 0 none
    · exact Rd.nil w 0 none
    · exact rdLit (l := [3]) hM h3)
  have e : ex4.length = 4 := rfl
  rw [e, s7] at this
  exact this
set_option maxHeartbeats 4000000 in
theorem ksane_fn (w : World) : Fn Tryz.prog 12 #[] w fun v w' => v = .bool true ∧ Ext w w' := by
  refine enterH (l := []) rfl Tryz.ntmps12 rfl ?_
  repeat' (first | apply HL.fold | apply HA.fold | apply HL.nil | apply HX.n_then | apply HC.seq | apply HC.region | refine HL.pa ?_ | refine HL.ga rfl ?_ | refine HL.na rfl ?_ | refine HL.nu rfl rfl ?_ | apply HC.block | apply HC.skip | apply HC.exit | apply HC.ret | apply HX.e_block | refine HX.e_other rfl ?_ | apply HX.e_then | apply HX.e_again | apply HX.n_block | apply HX.r_then | apply HX.r_block | apply HX.r_again | refine HC.cond_yes rfl ?_ | refine HC.cond_no rfl ?_ | refine HL.one (H1.ldb rfl memA rfl rfl ?_) | refine HC.cond rfl (fun hc => ?_) (fun hc => ?_) | refine HC.cond_b rfl (fun hc => ?_) (fun hc => ?_))
  refine HL.build (cs := oneD.cells) rfl rfl rfl ?_
  refine HL.one (H1.alloc (cs := [zv 0, zv 0, zv 0, zv 0, zv 0]) rfl rfl (fun b1 => ?_))
  repeat' (first | apply HL.fold | apply HA.fold | apply HL.nil | apply HX.n_then | apply HC.seq | apply HC.region | refine HL.pa ?_ | refine HL.ga rfl ?_ | refine HL.na rfl ?_ | refine HL.nu rfl rfl ?_ | apply HC.block | apply HC.skip | apply HC.exit | apply HC.ret | apply HX.e_block | refine HX.e_other rfl ?_ | apply HX.e_then | apply HX.e_again | apply HX.n_block | apply HX.r_then | apply HX.r_block | apply HX.r_again | refine HC.cond_yes rfl ?_ | refine HC.cond_no rfl ?_ | refine HL.one (H1.ldb rfl memA rfl rfl ?_) | refine HC.cond rfl (fun hc => ?_) (fun hc => ?_) | refine HC.cond_b rfl (fun hc => ?_) (fun hc => ?_))
  refine HL.one (H1.stAgg (cs := [zv 0, zv 0, zv 0, zv 0, zv 0]) (vs := oneD.cells) rfl rfl rfl (by decide) rplA rfl ?_)
  repeat' (first | apply HL.fold | apply HA.fold | apply HL.nil | apply HX.n_then | apply HC.seq | apply HC.region | refine HL.pa ?_ | refine HL.ga rfl ?_ | refine HL.na rfl ?_ | refine HL.nu rfl rfl ?_ | apply HC.block | apply HC.skip | apply HC.exit | apply HC.ret | apply HX.e_block | refine HX.e_other rfl ?_ | apply HX.e_then | apply HX.e_again | apply HX.n_block | apply HX.r_then | apply HX.r_block | apply HX.r_again | refine HC.cond_yes rfl ?_ | refine HC.cond_no rfl ?_ | refine HL.one (H1.ldb rfl memA rfl rfl ?_) | refine HC.cond rfl (fun hc => ?_) (fun hc => ?_) | refine HC.cond_b rfl (fun hc => ?_) (fun hc => ?_))
  refine HL.build (cs := twoD.cells) rfl rfl rfl ?_
  refine HL.one (H1.alloc (cs := [zv 0, zv 0, zv 0, zv 0, zv 0]) rfl rfl (fun b2 => ?_))
  repeat' (first | apply HL.fold | apply HA.fold | apply HL.nil | apply HX.n_then | apply HC.seq | apply HC.region | refine HL.pa ?_ | refine HL.ga rfl ?_ | refine HL.na rfl ?_ | refine HL.nu rfl rfl ?_ | apply HC.block | apply HC.skip | apply HC.exit | apply HC.ret | apply HX.e_block | refine HX.e_other rfl ?_ | apply HX.e_then | apply HX.e_again | apply HX.n_block | apply HX.r_then | apply HX.r_block | apply HX.r_again | refine HC.cond_yes rfl ?_ | refine HC.cond_no rfl ?_ | refine HL.one (H1.ldb rfl memA rfl rfl ?_) | refine HC.cond rfl (fun hc => ?_) (fun hc => ?_) | refine HC.cond_b rfl (fun hc => ?_) (fun hc => ?_))
  refine HL.one (H1.stAgg (cs := [zv 0, zv 0, zv 0, zv 0, zv 0]) (vs := twoD.cells) rfl rfl rfl (by decide) rplA rfl ?_)
  repeat' (first | apply HL.fold | apply HA.fold | apply HL.nil | apply HX.n_then | apply HC.seq | apply HC.region | refine HL.pa ?_ | refine HL.ga rfl ?_ | refine HL.na rfl ?_ | refine HL.nu rfl rfl ?_ | apply HC.block | apply HC.skip | apply HC.exit | apply HC.ret | apply HX.e_block | refine HX.e_other rfl ?_ | apply HX.e_then | apply HX.e_again | apply HX.n_block | apply HX.r_then | apply HX.r_block | apply HX.r_again | refine HC.cond_yes rfl ?_ | refine HC.cond_no rfl ?_ | refine HL.one (H1.ldb rfl memA rfl rfl ?_) | refine HC.cond rfl (fun hc => ?_) (fun hc => ?_) | refine HC.cond_b rfl (fun hc => ?_) (fun hc => ?_))
  refine HC.cut (α := Unit) (fun _ => [(1, .pointer (some ⟨b1, 0, none⟩)), (2, .pointer (some ⟨b2, 0, none⟩)), (4, .bool true)]) (fun _ => [A.blk b2 twoD.cells 48, A.blk b1 oneD.cells 48]) (fun _ => True) ?_ ?_
  · refine HC.anyC (cellsA b1 oneD.cells ++ []) rfl ?_
    refine HB.ldA (vs := oneD.cells) 1 rfl rfl rfl (fun i v hv => cellsL (cellsA_mem hv)) ?_
    refine HB.all (by exact Keep.blkA memA Keep.nil) [0, 2] (by kernel_rfl) rfl ⟨⟨_, rfl, ?_⟩, ⟨_, rfl, ?_⟩, trivial⟩
    · refine HP.one ?_
      refine H1.callz1 (vs := []) rfl rfl (fun w' _ => example_fn w') ?_
      rintro be -
      apply HB.fold
      refine HB.all (by exact Keep.blkA memA Keep.nil) [2] (by kernel_rfl) rfl ⟨⟨_, rfl, ?_⟩, trivial⟩
      refine HP.one ?_
      refine H1.lit (cs := ints [0, 1, 2]) rfl rfl rfl rfl rfl rfl (fun bl => ?_)
      apply HB.fold
      refine HB.all (by exact Keep.blkA memA Keep.nil) [3] (by kernel_rfl) rfl ⟨⟨_, rfl, ?_⟩, trivial⟩
      refine HP.one ?_
      refine H1.callz1 (An := fun z : Option Addr × Nat => A.grow 3 1 z.1 z.2 0 (ints (natI []))) (V := fun z => .tuple #[.slice z.1 0 z.2, .bool true]) (I := fun _ => True) (vs := [.slice (some ⟨be, 0, none⟩) 4 4, .agg oneD.cells.toArray, .slice (some ⟨bl, 0, none⟩) 3 3, zv 1]) rfl rfl (fun w' hM => by
          have := check_fn _ ex4 oneD _ [0, 1, 2] 1 (by decide) (by decide) w' (exS (b := be) hM memA) (rdLit (b := bl) (l := [0, 1, 2]) hM memA)
          rw [s1] at this
          exact this) ?_
      rintro ⟨az, cz⟩ -
      dsimp only
      apply HB.fold
      refine HB.pa 4 rfl ?_
      refine HB.pa 5 rfl ?_
      refine HB.pa 6 rfl ?_
      refine HB.pa 7 rfl ?_
      refine HB.pa 8 rfl ?_
      refine HB.done (by exact Keep.blkA memA Keep.nil) (by kernel_rfl) ?_
      repeat' (first | apply HL.fold | apply HA.fold | apply HL.nil | apply HX.n_then | apply HC.seq | apply HC.region | refine HL.pa ?_ | refine HL.ga rfl ?_ | refine HL.na rfl ?_ | refine HL.nu rfl rfl ?_ | apply HC.block | apply HC.skip | apply HC.exit | apply HC.ret | apply HX.e_block | refine HX.e_other rfl ?_ | apply HX.e_then | apply HX.e_again | apply HX.n_block | apply HX.r_then | apply HX.r_block | apply HX.r_again | refine HC.cond_yes rfl ?_ | refine HC.cond_no rfl ?_ | refine HL.one (H1.ldb rfl memA rfl rfl ?_) | refine HC.cond rfl (fun hc => ?_) (fun hc => ?_) | refine HC.cond_b rfl (fun hc => ?_) (fun hc => ?_))
      exact HX.cut () trivial esA (by repeat (first | exact Hs.nil _ | (refine Hs.cons pickA ?_)))
    · refine HP.one ?_
      refine H1.lit (cs := ints [0, 1, 2]) rfl rfl rfl rfl rfl rfl (fun bl => ?_)
      apply HB.fold
      refine HB.all (by exact Keep.blkA memA Keep.nil) [0] (by kernel_rfl) rfl ⟨⟨_, rfl, ?_⟩, trivial⟩
      refine HP.one ?_
      refine H1.callz1 (vs := []) rfl rfl (fun w' _ => example_fn w') ?_
      rintro be -
      apply HB.fold
      refine HB.all (by exact Keep.blkA memA Keep.nil) [3] (by kernel_rfl) rfl ⟨⟨_, rfl, ?_⟩, trivial⟩
      refine HP.one ?_
      refine H1.callz1 (An := fun z : Option Addr × Nat => A.grow 3 1 z.1 z.2 0 (ints (natI []))) (V := fun z => .tuple #[.slice z.1 0 z.2, .bool true]) (I := fun _ => True) (vs := [.slice (some ⟨be, 0, none⟩) 4 4, .agg oneD.cells.toArray, .slice (some ⟨bl, 0, none⟩) 3 3, zv 1]) rfl rfl (fun w' hM => by
          have := check_fn _ ex4 oneD _ [0, 1, 2] 1 (by decide) (by decide) w' (exS (b := be) hM memA) (rdLit (b := bl) (l := [0, 1, 2]) hM memA)
          rw [s1] at this
          exact this) ?_
      rintro ⟨az, cz⟩ -
      dsimp only
      apply HB.fold
      refine HB.pa 4 rfl ?_
      refine HB.pa 5 rfl ?_
      refine HB.pa 6 rfl ?_
      refine HB.pa 7 rfl ?_
      refine HB.pa 8 rfl ?_
      refine HB.done (by exact Keep.blkA memA Keep.nil) (by kernel_rfl) ?_
      repeat' (first | apply HL.fold | apply HA.fold | apply HL.nil | apply HX.n_then | apply HC.seq | apply HC.region | refine HL.pa ?_ | refine HL.ga rfl ?_ | refine HL.na rfl ?_ | refine HL.nu rfl rfl ?_ | apply HC.block | apply HC.skip | apply HC.exit | apply HC.ret | apply HX.e_block | refine HX.e_other rfl ?_ | apply HX.e_then | apply HX.e_again | apply HX.n_block | apply HX.r_then | apply HX.r_block | apply HX.r_again | refine HC.cond_yes rfl ?_ | refine HC.cond_no rfl ?_ | refine HL.one (H1.ldb rfl memA rfl rfl ?_) | refine HC.cond rfl (fun hc => ?_) (fun hc => ?_) | refine HC.cond_b rfl (fun hc => ?_) (fun hc => ?_))
      exact HX.cut () trivial esA (by repeat (first | exact Hs.nil _ | (refine Hs.cons pickA ?_)))
  rintro - -
  repeat' (first | apply HL.fold | apply HA.fold | apply HL.nil | apply HX.n_then | apply HC.seq | apply HC.region | refine HL.pa ?_ | refine HL.ga rfl ?_ | refine HL.na rfl ?_ | refine HL.nu rfl rfl ?_ | apply HC.block | apply HC.skip | apply HC.exit | apply HC.ret | apply HX.e_block | refine HX.e_other rfl ?_ | apply HX.e_then | apply HX.e_again | apply HX.n_block | apply HX.r_then | apply HX.r_block | apply HX.r_again | refine HC.cond_yes rfl ?_ | refine HC.cond_no rfl ?_ | refine HL.one (H1.ldb rfl memA rfl rfl ?_) | refine HC.cond rfl (fun hc => ?_) (fun hc => ?_) | refine HC.cond_b rfl (fun hc => ?_) (fun hc => ?_))
  refine HC.cut (α := Option Addr × Nat) (fun z => [(1, .pointer (some ⟨b1, 0, none⟩)), (2, .pointer (some ⟨b2, 0, none⟩)), (4, .bool true), (5, .slice z.1 2 z.2), (6, .bool false)]) (fun z => [A.grow 3 1 z.1 z.2 2 (ints (natI [0, 1])), A.blk b2 twoD.cells 48, A.blk b1 oneD.cells 48]) (fun _ => True) ?_ ?_
  · refine HC.anyC (cellsA b1 oneD.cells ++ []) rfl ?_
    refine HB.ldA (vs := oneD.cells) 1 rfl rfl rfl (fun i v hv => cellsL (cellsA_mem hv)) ?_
    refine HB.all (by exact Keep.blkA memA Keep.nil) [0, 2] (by kernel_rfl) rfl ⟨⟨_, rfl, ?_⟩, ⟨_, rfl, ?_⟩, trivial⟩
    · refine HP.one ?_
      refine H1.callz1 (vs := []) rfl rfl (fun w' _ => example_fn w') ?_
      rintro be -
      apply HB.fold
      refine HB.all (by exact Keep.blkA memA Keep.nil) [2] (by kernel_rfl) rfl ⟨⟨_, rfl, ?_⟩, trivial⟩
      refine HP.one ?_
      refine H1.lit (cs := ints [0, 1, 2]) rfl rfl rfl rfl rfl rfl (fun bl => ?_)
      apply HB.fold
      refine HB.all (by exact Keep.blkA memA Keep.nil) [3] (by kernel_rfl) rfl ⟨⟨_, rfl, ?_⟩, trivial⟩
      refine HP.one ?_
      refine H1.callz1 (An := fun z : Option Addr × Nat => A.grow 3 1 z.1 z.2 2 (ints (natI [0, 1]))) (V := fun z => .tuple #[.slice z.1 2 z.2, .bool false]) (I := fun _ => True) (vs := [.slice (some ⟨be, 0, none⟩) 4 4, .agg oneD.cells.toArray, .slice (some ⟨bl, 0, none⟩) 3 3, zv 2]) rfl rfl (fun w' hM => by
          have := check_fn _ ex4 oneD _ [0, 1, 2] 2 (by decide) (by decide) w' (exS (b := be) hM memA) (rdLit (b := bl) (l := [0, 1, 2]) hM memA)
          rw [s2] at this
          exact this) ?_
      rintro ⟨az, cz⟩ -
      dsimp only
      apply HB.fold
      refine HB.pa 4 rfl ?_
      refine HB.pa 5 rfl ?_
      refine HB.pa 6 rfl ?_
      refine HB.pa 7 rfl ?_
      refine HB.pa 8 rfl ?_
      refine HB.done (by exact Keep.blkA memA Keep.nil) (by kernel_rfl) ?_
      repeat' (first | apply HL.fold | apply HA.fold | apply HL.nil | apply HX.n_then | apply HC.seq | apply HC.region | refine HL.pa ?_ | refine HL.ga rfl ?_ | refine HL.na rfl ?_ | refine HL.nu rfl rfl ?_ | apply HC.block | apply HC.skip | apply HC.exit | apply HC.ret | apply HX.e_block | refine HX.e_other rfl ?_ | apply HX.e_then | apply HX.e_again | apply HX.n_block | apply HX.r_then | apply HX.r_block | apply HX.r_again | refine HC.cond_yes rfl ?_ | refine HC.cond_no rfl ?_ | refine HL.one (H1.ldb rfl memA rfl rfl ?_) | refine HC.cond rfl (fun hc => ?_) (fun hc => ?_) | refine HC.cond_b rfl (fun hc => ?_) (fun hc => ?_))
      exact HX.cut (az, cz) trivial esA (by repeat (first | exact Hs.nil _ | (refine Hs.cons pickA ?_)))
    · refine HP.one ?_
      refine H1.lit (cs := ints [0, 1, 2]) rfl rfl rfl rfl rfl rfl (fun bl => ?_)
      apply HB.fold
      refine HB.all (by exact Keep.blkA memA Keep.nil) [0] (by kernel_rfl) rfl ⟨⟨_, rfl, ?_⟩, trivial⟩
      refine HP.one ?_
      refine H1.callz1 (vs := []) rfl rfl (fun w' _ => example_fn w') ?_
      rintro be -
      apply HB.fold
      refine HB.all (by exact Keep.blkA memA Keep.nil) [3] (by kernel_rfl) rfl ⟨⟨_, rfl, ?_⟩, trivial⟩
      refine HP.one ?_
      refine H1.callz1 (An := fun z : Option Addr × Nat => A.grow 3 1 z.1 z.2 2 (ints (natI [0, 1]))) (V := fun z => .tuple #[.slice z.1 2 z.2, .bool false]) (I := fun _ => True) (vs := [.slice (some ⟨be, 0, none⟩) 4 4, .agg oneD.cells.toArray, .slice (some ⟨bl, 0, none⟩) 3 3, zv 2]) rfl rfl (fun w' hM => by
          have := check_fn _ ex4 oneD _ [0, 1, 2] 2 (by decide) (by decide) w' (exS (b := be) hM memA) (rdLit (b := bl) (l := [0, 1, 2]) hM memA)
          rw [s2] at this
          exact this) ?_
      rintro ⟨az, cz⟩ -
      dsimp only
      apply HB.fold
      refine HB.pa 4 rfl ?_
      refine HB.pa 5 rfl ?_
      refine HB.pa 6 rfl ?_
      refine HB.pa 7 rfl ?_
      refine HB.pa 8 rfl ?_
      refine HB.done (by exact Keep.blkA memA Keep.nil) (by kernel_rfl) ?_
      repeat' (first | apply HL.fold | apply HA.fold | apply HL.nil | apply HX.n_then | apply HC.seq | apply HC.region | refine HL.pa ?_ | refine HL.ga rfl ?_ | refine HL.na rfl ?_ | refine HL.nu rfl rfl ?_ | apply HC.block | apply HC.skip | apply HC.exit | apply HC.ret | apply HX.e_block | refine HX.e_other rfl ?_ | apply HX.e_then | apply HX.e_again | apply HX.n_block | apply HX.r_then | apply HX.r_block | apply HX.r_again | refine HC.cond_yes rfl ?_ | refine HC.cond_no rfl ?_ | refine HL.one (H1.ldb rfl memA rfl rfl ?_) | refine HC.cond rfl (fun hc => ?_) (fun hc => ?_) | refine HC.cond_b rfl (fun hc => ?_) (fun hc => ?_))
      exact HX.cut (az, cz) trivial esA (by repeat (first | exact Hs.nil _ | (refine Hs.cons pickA ?_)))
  rintro ⟨a5, c5⟩ -
  dsimp only
  repeat' (first | apply HL.fold | apply HA.fold | apply HL.nil | apply HX.n_then | apply HC.seq | apply HC.region | refine HL.pa ?_ | refine HL.ga rfl ?_ | refine HL.na rfl ?_ | refine HL.nu rfl rfl ?_ | apply HC.block | apply HC.skip | apply HC.exit | apply HC.ret | apply HX.e_block | refine HX.e_other rfl ?_ | apply HX.e_then | apply HX.e_again | apply HX.n_block | apply HX.r_then | apply HX.r_block | apply HX.r_again | refine HC.cond_yes rfl ?_ | refine HC.cond_no rfl ?_ | refine HL.one (H1.ldb rfl memA rfl rfl ?_) | refine HC.cond rfl (fun hc => ?_) (fun hc => ?_) | refine HC.cond_b rfl (fun hc => ?_) (fun hc => ?_))
  refine HC.cut (α := Unit) (fun _ => [(1, .pointer (some ⟨b1, 0, none⟩)), (2, .pointer (some ⟨b2, 0, none⟩)), (4, .bool true), (5, .slice a5 2 c5), (6, .bool false), (8, .bool true)]) (fun _ => [A.grow 3 1 a5 c5 2 (ints (natI [0, 1])), A.blk b2 twoD.cells 48, A.blk b1 oneD.cells 48]) (fun _ => True) ?_ ?_
  · refine HC.anyC (cellsA b2 twoD.cells ++ []) rfl ?_
    refine HB.ldA (vs := twoD.cells) 1 rfl rfl rfl (fun i v hv => cellsL (cellsA_mem hv)) ?_
    refine HB.all (by exact Keep.blkA memA Keep.nil) [0, 2] (by kernel_rfl) rfl ⟨⟨_, rfl, ?_⟩, ⟨_, rfl, ?_⟩, trivial⟩
    · refine HP.one ?_
      refine H1.callz1 (vs := []) rfl rfl (fun w' _ => example_fn w') ?_
      rintro be -
      apply HB.fold
      refine HB.all (by exact Keep.blkA memA Keep.nil) [2] (by kernel_rfl) rfl ⟨⟨_, rfl, ?_⟩, trivial⟩
      refine HP.one ?_
      refine H1.lit (cs := ints [0, 1, 2, 3]) rfl rfl rfl rfl rfl rfl (fun bl => ?_)
      apply HB.fold
      refine HB.all (by exact Keep.blkA memA Keep.nil) [3] (by kernel_rfl) rfl ⟨⟨_, rfl, ?_⟩, trivial⟩
      refine HP.one ?_
      refine H1.callz1 (An := fun z : Option Addr × Nat => A.grow 3 1 z.1 z.2 0 (ints (natI []))) (V := fun z => .tuple #[.slice z.1 0 z.2, .bool true]) (I := fun _ => True) (vs := [.slice (some ⟨be, 0, none⟩) 4 4, .agg twoD.cells.toArray, .slice (some ⟨bl, 0, none⟩) 4 4, zv 1]) rfl rfl (fun w' hM => by
          have := check_fn _ ex4 twoD _ [0, 1, 2, 3] 1 (by decide) (by decide) w' (exS (b := be) hM memA) (rdLit (b := bl) (l := [0, 1, 2, 3]) hM memA)
          rw [s3] at this
          exact this) ?_
      rintro ⟨az, cz⟩ -
      dsimp only
      apply HB.fold
      refine HB.pa 4 rfl ?_
      refine HB.pa 5 rfl ?_
      refine HB.pa 6 rfl ?_
      refine HB.pa 7 rfl ?_
      refine HB.pa 8 rfl ?_
      refine HB.done (by exact Keep.blkA memA Keep.nil) (by kernel_rfl) ?_
      repeat' (first | apply HL.fold | apply HA.fold | apply HL.nil | apply HX.n_then | apply HC.seq | apply HC.region | refine HL.pa ?_ | refine HL.ga rfl ?_ | refine HL.na rfl ?_ | refine HL.nu rfl rfl ?_ | apply HC.block | apply HC.skip | apply HC.exit | apply HC.ret | apply HX.e_block | refine HX.e_other rfl ?_ | apply HX.e_then | apply HX.e_again | apply HX.n_block | apply HX.r_then | apply HX.r_block | apply HX.r_again | refine HC.cond_yes rfl ?_ | refine HC.cond_no rfl ?_ | refine HL.one (H1.ldb rfl memA rfl rfl ?_) | refine HC.cond rfl (fun hc => ?_) (fun hc => ?_) | refine HC.cond_b rfl (fun hc => ?_) (fun hc => ?_))
      exact HX.cut () trivial esA (by repeat (first | exact Hs.nil _ | (refine Hs.cons pickA ?_)))
    · refine HP.one ?_
      refine H1.lit (cs := ints [0, 1, 2, 3]) rfl rfl rfl rfl rfl rfl (fun bl => ?_)
      apply HB.fold
      refine HB.all (by exact Keep.blkA memA Keep.nil) [0] (by kernel_rfl) rfl ⟨⟨_, rfl, ?_⟩, trivial⟩
      refine HP.one ?_
      refine H1.callz1 (vs := []) rfl rfl (fun w' _ => example_fn w') ?_
      rintro be -
      apply HB.fold
      refine HB.all (by exact Keep.blkA memA Keep.nil) [3] (by kernel_rfl) rfl ⟨⟨_, rfl, ?_⟩, trivial⟩
      refine HP.one ?_
      refine H1.callz1 (An := fun z : Option Addr × Nat => A.grow 3 1 z.1 z.2 0 (ints (natI []))) (V := fun z => .tuple #[.slice z.1 0 z.2, .bool true]) (I := fun _ => True) (vs := [.slice (some ⟨be, 0, none⟩) 4 4, .agg twoD.cells.toArray, .slice (some ⟨bl, 0, none⟩) 4 4, zv 1]) rfl rfl (fun w' hM => by
          have := check_fn _ ex4 twoD _ [0, 1, 2, 3] 1 (by decide) (by decide) w' (exS (b := be) hM memA) (rdLit (b := bl) (l := [0, 1, 2, 3]) hM memA)
          rw [s3] at this
          exact this) ?_
      rintro ⟨az, cz⟩ -
      dsimp only
      apply HB.fold
      refine HB.pa 4 rfl ?_
      refine HB.pa 5 rfl ?_
      refine HB.pa 6 rfl ?_
      refine HB.pa 7 rfl ?_
      refine HB.pa 8 rfl ?_
      refine HB.done (by exact Keep.blkA memA Keep.nil) (by kernel_rfl) ?_
      repeat' (first | apply HL.fold | apply HA.fold | apply HL.nil | apply HX.n_then | apply HC.seq | apply HC.region | refine HL.pa ?_ | refine HL.ga rfl ?_ | refine HL.na rfl ?_ | refine HL.nu rfl rfl ?_ | apply HC.block | apply HC.skip | apply HC.exit | apply HC.ret | apply HX.e_block | refine HX.e_other rfl ?_ | apply HX.e_then | apply HX.e_again | apply HX.n_block | apply HX.r_then | apply HX.r_block | apply HX.r_again | refine HC.cond_yes rfl ?_ | refine HC.cond_no rfl ?_ | refine HL.one (H1.ldb rfl memA rfl rfl ?_) | refine HC.cond rfl (fun hc => ?_) (fun hc => ?_) | refine HC.cond_b rfl (fun hc => ?_) (fun hc => ?_))
      exact HX.cut () trivial esA (by repeat (first | exact Hs.nil _ | (refine Hs.cons pickA ?_)))
  rintro - -
  repeat' (first | apply HL.fold | apply HA.fold | apply HL.nil | apply HX.n_then | apply HC.seq | apply HC.region | refine HL.pa ?_ | refine HL.ga rfl ?_ | refine HL.na rfl ?_ | refine HL.nu rfl rfl ?_ | apply HC.block | apply HC.skip | apply HC.exit | apply HC.ret | apply HX.e_block | refine HX.e_other rfl ?_ | apply HX.e_then | apply HX.e_again | apply HX.n_block | apply HX.r_then | apply HX.r_block | apply HX.r_again | refine HC.cond_yes rfl ?_ | refine HC.cond_no rfl ?_ | refine HL.one (H1.ldb rfl memA rfl rfl ?_) | refine HC.cond rfl (fun hc => ?_) (fun hc => ?_) | refine HC.cond_b rfl (fun hc => ?_) (fun hc => ?_))
  refine HC.cut (α := Option Addr × Nat) (fun z => [(1, .pointer (some ⟨b1, 0, none⟩)), (2, .pointer (some ⟨b2, 0, none⟩)), (4, .bool true), (5, .slice a5 2 c5), (6, .bool false), (8, .bool true), (9, .slice z.1 3 z.2), (10, .bool false)]) (fun z => [A.grow 3 1 z.1 z.2 3 (ints (natI [0, 1, 2])), A.grow 3 1 a5 c5 2 (ints (natI [0, 1])), A.blk b2 twoD.cells 48, A.blk b1 oneD.cells 48]) (fun _ => True) ?_ ?_
  · refine HC.anyC (cellsA b2 twoD.cells ++ []) rfl ?_
    refine HB.ldA (vs := twoD.cells) 1 rfl rfl rfl (fun i v hv => cellsL (cellsA_mem hv)) ?_
    refine HB.all (by exact Keep.blkA memA Keep.nil) [0, 2] (by kernel_rfl) rfl ⟨⟨_, rfl, ?_⟩, ⟨_, rfl, ?_⟩, trivial⟩
    · refine HP.one ?_
      refine H1.callz1 (vs := []) rfl rfl (fun w' _ => example_fn w') ?_
      rintro be -
      apply HB.fold
      refine HB.all (by exact Keep.blkA memA Keep.nil) [2] (by kernel_rfl) rfl ⟨⟨_, rfl, ?_⟩, trivial⟩
      refine HP.one ?_
      refine H1.lit (cs := ints [0, 1, 2, 3]) rfl rfl rfl rfl rfl rfl (fun bl => ?_)
      apply HB.fold
      refine HB.all (by exact Keep.blkA memA Keep.nil) [3] (by kernel_rfl) rfl ⟨⟨_, rfl, ?_⟩, trivial⟩
      refine HP.one ?_
      refine H1.callz1 (An := fun z : Option Addr × Nat => A.grow 3 1 z.1 z.2 3 (ints (natI [0, 1, 2]))) (V := fun z => .tuple #[.slice z.1 3 z.2, .bool false]) (I := fun _ => True) (vs := [.slice (some ⟨be, 0, none⟩) 4 4, .agg twoD.cells.toArray, .slice (some ⟨bl, 0, none⟩) 4 4, zv 2]) rfl rfl (fun w' hM => by
          have := check_fn _ ex4 twoD _ [0, 1, 2, 3] 2 (by decide) (by decide) w' (exS (b := be) hM memA) (rdLit (b := bl) (l := [0, 1, 2, 3]) hM memA)
          rw [s4] at this
          exact this) ?_
      rintro ⟨az, cz⟩ -
      dsimp only
      apply HB.fold
      refine HB.pa 4 rfl ?_
      refine HB.pa 5 rfl ?_
      refine HB.pa 6 rfl ?_
      refine HB.pa 7 rfl ?_
      refine HB.pa 8 rfl ?_
      refine HB.done (by exact Keep.blkA memA Keep.nil) (by kernel_rfl) ?_
      repeat' (first | apply HL.fold | apply HA.fold | apply HL.nil | apply HX.n_then | apply HC.seq | apply HC.region | refine HL.pa ?_ | refine HL.ga rfl ?_ | refine HL.na rfl ?_ | refine HL.nu rfl rfl ?_ | apply HC.block | apply HC.skip | apply HC.exit | apply HC.ret | apply HX.e_block | refine HX.e_other rfl ?_ | apply HX.e_then | apply HX.e_again | apply HX.n_block | apply HX.r_then | apply HX.r_block | apply HX.r_again | refine HC.cond_yes rfl ?_ | refine HC.cond_no rfl ?_ | refine HL.one (H1.ldb rfl memA rfl rfl ?_) | refine HC.cond rfl (fun hc => ?_) (fun hc => ?_) | refine HC.cond_b rfl (fun hc => ?_) (fun hc => ?_))
      exact HX.cut (az, cz) trivial esA (by repeat (first | exact Hs.nil _ | (refine Hs.cons pickA ?_)))
    · refine HP.one ?_
      refine H1.lit (cs := ints [0, 1, 2, 3]) rfl rfl rfl rfl rfl rfl (fun bl => ?_)
      apply HB.fold
      refine HB.all (by exact Keep.blkA memA Keep.nil) [0] (by kernel_rfl) rfl ⟨⟨_, rfl, ?_⟩, trivial⟩
      refine HP.one ?_
      refine H1.callz1 (vs := []) rfl rfl (fun w' _ => example_fn w') ?_
      rintro be -
      apply HB.fold
      refine HB.all (by exact Keep.blkA memA Keep.nil) [3] (by kernel_rfl) rfl ⟨⟨_, rfl, ?_⟩, trivial⟩
      refine HP.one ?_
      refine H1.callz1 (An := fun z : Option Addr × Nat => A.grow 3 1 z.1 z.2 3 (ints (natI [0, 1, 2]))) (V := fun z => .tuple #[.slice z.1 3 z.2, .bool false]) (I := fun _ => True) (vs := [.slice (some ⟨be, 0, none⟩) 4 4, .agg twoD.cells.toArray, .slice (some ⟨bl, 0, none⟩) 4 4, zv 2]) rfl rfl (fun w' hM => by
          have := check_fn _ ex4 twoD _ [0, 1, 2, 3] 2 (by decide) (by decide) w' (exS (b := be) hM memA) (rdLit (b := bl) (l := [0, 1, 2, 3]) hM memA)
          rw [s4] at this
          exact this) ?_
      rintro ⟨az, cz⟩ -
      dsimp only
      apply HB.fold
      refine HB.pa 4 rfl ?_
      refine HB.pa 5 rfl ?_
      refine HB.pa 6 rfl ?_
      refine HB.pa 7 rfl ?_
      refine HB.pa 8 rfl ?_
      refine HB.done (by exact Keep.blkA memA Keep.nil) (by kernel_rfl) ?_
      repeat' (first | apply HL.fold | apply HA.fold | apply HL.nil | apply HX.n_then | apply HC.seq | apply HC.region | refine HL.pa ?_ | refine HL.ga rfl ?_ | refine HL.na rfl ?_ | refine HL.nu rfl rfl ?_ | apply HC.block | apply HC.skip | apply HC.exit | apply HC.ret | apply HX.e_block | refine HX.e_other rfl ?_ | apply HX.e_then | apply HX.e_again | apply HX.n_block | apply HX.r_then | apply HX.r_block | apply HX.r_again | refine HC.cond_yes rfl ?_ | refine HC.cond_no rfl ?_ | refine HL.one (H1.ldb rfl memA rfl rfl ?_) | refine HC.cond rfl (fun hc => ?_) (fun hc => ?_) | refine HC.cond_b rfl (fun hc => ?_) (fun hc => ?_))
      exact HX.cut (az, cz) trivial esA (by repeat (first | exact Hs.nil _ | (refine Hs.cons pickA ?_)))
  rintro ⟨a9, c9⟩ -
  dsimp only
  repeat' (first | apply HL.fold | apply HA.fold | apply HL.nil | apply HX.n_then | apply HC.seq | apply HC.region | refine HL.pa ?_ | refine HL.ga rfl ?_ | refine HL.na rfl ?_ | refine HL.nu rfl rfl ?_ | apply HC.block | apply HC.skip | apply HC.exit | apply HC.ret | apply HX.e_block | refine HX.e_other rfl ?_ | apply HX.e_then | apply HX.e_again | apply HX.n_block | apply HX.r_then | apply HX.r_block | apply HX.r_again | refine HC.cond_yes rfl ?_ | refine HC.cond_no rfl ?_ | refine HL.one (H1.ldb rfl memA rfl rfl ?_) | refine HC.cond rfl (fun hc => ?_) (fun hc => ?_) | refine HC.cond_b rfl (fun hc => ?_) (fun hc => ?_))
  refine HC.cut (α := Option Addr × Nat) (fun z => [(1, .pointer (some ⟨b1, 0, none⟩)), (2, .pointer (some ⟨b2, 0, none⟩)), (4, .bool true), (5, .slice a5 2 c5), (6, .bool false), (8, .bool true), (9, .slice a9 3 c9), (10, .bool false), (11, .slice z.1 3 z.2), (12, zv 0)]) (fun z => [A.grow 3 1 z.1 z.2 3 (ints (natI [0, 2, 3])), A.grow 3 1 a9 c9 3 (ints (natI [0, 1, 2])), A.grow 3 1 a5 c5 2 (ints (natI [0, 1])), A.blk b2 twoD.cells 48, A.blk b1 oneD.cells 48]) (fun _ => True) ?_ ?_
  · refine HC.anyC (cellsA b1 oneD.cells ++ []) rfl ?_
    refine HB.ldA (vs := oneD.cells) 1 rfl rfl rfl (fun i v hv => cellsL (cellsA_mem hv)) ?_
    refine HB.all (by exact Keep.blkA memA Keep.nil) [0] (by kernel_rfl) rfl ⟨⟨_, rfl, ?_⟩, trivial⟩
    refine HP.one ?_
    refine H1.callz1 (vs := []) rfl rfl (fun w' _ => example_fn w') ?_
    rintro be -
    apply HB.fold
    refine HB.all (by exact Keep.blkA memA Keep.nil) [2] (by kernel_rfl) rfl ⟨⟨_, rfl, ?_⟩, trivial⟩
    refine HP.one ?_
    refine H1.callz1 (An := fun z : Option Addr × Nat => A.grow 3 1 z.1 z.2 3 (ints (natI [0, 2, 3]))) (V := fun z => .tuple #[.slice z.1 3 z.2, zv 0]) (I := fun _ => True) (vs := [.slice (some ⟨be, 0, none⟩) 4 4, .agg oneD.cells.toArray, zv 2]) rfl rfl (fun w' hM => by
        have := best_fn _ ex4 oneD 2 (by decide) w' (exS (b := be) hM memA)
        rw [s5] at this
        exact this) ?_
    rintro ⟨az, cz⟩ -
    dsimp only
    apply HB.fold
    refine HB.pa 3 rfl ?_
    refine HB.pa 4 rfl ?_
    refine HB.pa 5 rfl ?_
    refine HB.pa 6 rfl ?_
    refine HB.pa 7 rfl ?_
    refine HB.done (by exact Keep.blkA memA Keep.nil) (by kernel_rfl) ?_
    repeat' (first | apply HL.fold | apply HA.fold | apply HL.nil | apply HX.n_then | apply HC.seq | apply HC.region | refine HL.pa ?_ | refine HL.ga rfl ?_ | refine HL.na rfl ?_ | refine HL.nu rfl rfl ?_ | apply HC.block | apply HC.skip | apply HC.exit | apply HC.ret | apply HX.e_block | refine HX.e_other rfl ?_ | apply HX.e_then | apply HX.e_again | apply HX.n_block | apply HX.r_then | apply HX.r_block | apply HX.r_again | refine HC.cond_yes rfl ?_ | refine HC.cond_no rfl ?_ | refine HL.one (H1.ldb rfl memA rfl rfl ?_) | refine HC.cond rfl (fun hc => ?_) (fun hc => ?_) | refine HC.cond_b rfl (fun hc => ?_) (fun hc => ?_))
    exact HX.cut (az, cz) trivial esA (by repeat (first | exact Hs.nil _ | (refine Hs.cons pickA ?_)))
  rintro ⟨a11, c11⟩ -
  dsimp only
  repeat' (first | apply HL.fold | apply HA.fold | apply HL.nil | apply HX.n_then | apply HC.seq | apply HC.region | refine HL.pa ?_ | refine HL.ga rfl ?_ | refine HL.na rfl ?_ | refine HL.nu rfl rfl ?_ | apply HC.block | apply HC.skip | apply HC.exit | apply HC.ret | apply HX.e_block | refine HX.e_other rfl ?_ | apply HX.e_then | apply HX.e_again | apply HX.n_block | apply HX.r_then | apply HX.r_block | apply HX.r_again | refine HC.cond_yes rfl ?_ | refine HC.cond_no rfl ?_ | refine HL.one (H1.ldb rfl memA rfl rfl ?_) | refine HC.cond rfl (fun hc => ?_) (fun hc => ?_) | refine HC.cond_b rfl (fun hc => ?_) (fun hc => ?_))
  refine HC.cut (α := Unit) (fun _ => [(1, .pointer (some ⟨b1, 0, none⟩)), (2, .pointer (some ⟨b2, 0, none⟩)), (4, .bool true), (5, .slice a5 2 c5), (6, .bool false), (8, .bool true), (9, .slice a9 3 c9), (10, .bool false), (11, .slice a11 3 c11), (12, zv 0), (14, zv 180)]) (fun _ => [A.grow 3 1 a11 c11 3 (ints (natI [0, 2, 3])), A.grow 3 1 a9 c9 3 (ints (natI [0, 1, 2])), A.grow 3 1 a5 c5 2 (ints (natI [0, 1])), A.blk b2 twoD.cells 48, A.blk b1 oneD.cells 48]) (fun _ => True) ?_ ?_
  · refine HC.anyC (cellsA b1 oneD.cells ++ []) rfl ?_
    refine HB.ldA (vs := oneD.cells) 1 rfl rfl rfl (fun i v hv => cellsL (cellsA_mem hv)) ?_
    refine HB.all (by exact Keep.blkA memA Keep.nil) [0] (by kernel_rfl) rfl ⟨⟨_, rfl, ?_⟩, trivial⟩
    refine HP.one ?_
    refine H1.callz1 (vs := []) rfl rfl (fun w' _ => example_fn w') ?_
    rintro be -
    apply HB.fold
    refine HB.all (by exact Keep.blkA memA Keep.nil) [2] (by kernel_rfl) rfl ⟨⟨_, rfl, ?_⟩, trivial⟩
    refine HP.one ?_
    refine H1.callz1 (An := fun z : Option Addr × Nat => A.grow 3 1 z.1 z.2 0 (ints (natI []))) (V := fun z => .tuple #[.slice z.1 0 z.2, zv 180]) (I := fun _ => True) (vs := [.slice (some ⟨be, 0, none⟩) 4 4, .agg oneD.cells.toArray, zv 3]) rfl rfl (fun w' hM => by
        have := best_fn _ ex4 oneD 3 (by decide) w' (exS (b := be) hM memA)
        rw [s6] at this
        exact this) ?_
    rintro ⟨az, cz⟩ -
    dsimp only
    apply HB.fold
    refine HB.pa 3 rfl ?_
    refine HB.pa 4 rfl ?_
    refine HB.pa 5 rfl ?_
    refine HB.pa 6 rfl ?_
    refine HB.pa 7 rfl ?_
    refine HB.done (by exact Keep.blkA memA Keep.nil) (by kernel_rfl) ?_
    repeat' (first | apply HL.fold | apply HA.fold | apply HL.nil | apply HX.n_then | apply HC.seq | apply HC.region | refine HL.pa ?_ | refine HL.ga rfl ?_ | refine HL.na rfl ?_ | refine HL.nu rfl rfl ?_ | apply HC.block | apply HC.skip | apply HC.exit | apply HC.ret | apply HX.e_block | refine HX.e_other rfl ?_ | apply HX.e_then | apply HX.e_again | apply HX.n_block | apply HX.r_then | apply HX.r_block | apply HX.r_again | refine HC.cond_yes rfl ?_ | refine HC.cond_no rfl ?_ | refine HL.one (H1.ldb rfl memA rfl rfl ?_) | refine HC.cond rfl (fun hc => ?_) (fun hc => ?_) | refine HC.cond_b rfl (fun hc => ?_) (fun hc => ?_))
    exact HX.cut () trivial esA (by repeat (first | exact Hs.nil _ | (refine Hs.cons pickA ?_)))
  rintro - -
  repeat' (first | apply HL.fold | apply HA.fold | apply HL.nil | apply HX.n_then | apply HC.seq | apply HC.region | refine HL.pa ?_ | refine HL.ga rfl ?_ | refine HL.na rfl ?_ | refine HL.nu rfl rfl ?_ | apply HC.block | apply HC.skip | apply HC.exit | apply HC.ret | apply HX.e_block | refine HX.e_other rfl ?_ | apply HX.e_then | apply HX.e_again | apply HX.n_block | apply HX.r_then | apply HX.r_block | apply HX.r_again | refine HC.cond_yes rfl ?_ | refine HC.cond_no rfl ?_ | refine HL.one (H1.ldb rfl memA rfl rfl ?_) | refine HC.cond rfl (fun hc => ?_) (fun hc => ?_) | refine HC.cond_b rfl (fun hc => ?_) (fun hc => ?_))
  refine HL.one (H1.lit (cs := ints [0, 1]) rfl rfl rfl rfl rfl rfl (fun bx => ?_))
  repeat' (first | apply HL.fold | apply HA.fold | apply HL.nil | apply HX.n_then | apply HC.seq | apply HC.region | refine HL.pa ?_ | refine HL.ga rfl ?_ | refine HL.na rfl ?_ | refine HL.nu rfl rfl ?_ | apply HC.block | apply HC.skip | apply HC.exit | apply HC.ret | apply HX.e_block | refine HX.e_other rfl ?_ | apply HX.e_then | apply HX.e_again | apply HX.n_block | apply HX.r_then | apply HX.r_block | apply HX.r_again | refine HC.cond_yes rfl ?_ | refine HC.cond_no rfl ?_ | refine HL.one (H1.ldb rfl memA rfl rfl ?_) | refine HC.cond rfl (fun hc => ?_) (fun hc => ?_) | refine HC.cond_b rfl (fun hc => ?_) (fun hc => ?_))
  refine HL.one (H1.callx (vs := [.slice a5 2 c5, .slice (some ⟨bx, 0, none⟩) 2 2]) rfl rfl (fun w' hM => ksame_fn _ _ [0, 1] [0, 1] (by decide) (by decide) w' (hM.gr (a := a5) (c := c5) memA) (rdLit (b := bx) (l := [0, 1]) hM memA)) ?_)
  repeat' (first | apply HL.fold | apply HA.fold | apply HL.nil | apply HX.n_then | apply HC.seq | apply HC.region | refine HL.pa ?_ | refine HL.ga rfl ?_ | refine HL.na rfl ?_ | refine HL.nu rfl rfl ?_ | apply HC.block | apply HC.skip | apply HC.exit | apply HC.ret | apply HX.e_block | refine HX.e_other rfl ?_ | apply HX.e_then | apply HX.e_again | apply HX.n_block | apply HX.r_then | apply HX.r_block | apply HX.r_again | refine HC.cond_yes rfl ?_ | refine HC.cond_no rfl ?_ | refine HL.one (H1.ldb rfl memA rfl rfl ?_) | refine HC.cond rfl (fun hc => ?_) (fun hc => ?_) | refine HC.cond_b rfl (fun hc => ?_) (fun hc => ?_))
  refine HL.one (H1.lit (cs := ints [0, 1, 2]) rfl rfl rfl rfl rfl rfl (fun by' => ?_))
  repeat' (first | apply HL.fold | apply HA.fold | apply HL.nil | apply HX.n_then | apply HC.seq | apply HC.region | refine HL.pa ?_ | refine HL.ga rfl ?_ | refine HL.na rfl ?_ | refine HL.nu rfl rfl ?_ | apply HC.block | apply HC.skip | apply HC.exit | apply HC.ret | apply HX.e_block | refine HX.e_other rfl ?_ | apply HX.e_then | apply HX.e_again | apply HX.n_block | apply HX.r_then | apply HX.r_block | apply HX.r_again | refine HC.cond_yes rfl ?_ | refine HC.cond_no rfl ?_ | refine HL.one (H1.ldb rfl memA rfl rfl ?_) | refine HC.cond rfl (fun hc => ?_) (fun hc => ?_) | refine HC.cond_b rfl (fun hc => ?_) (fun hc => ?_))
  refine HL.one (H1.callx (vs := [.slice a9 3 c9, .slice (some ⟨by', 0, none⟩) 3 3]) rfl rfl (fun w' hM => ksame_fn _ _ [0, 1, 2] [0, 1, 2] (by decide) (by decide) w' (hM.gr (a := a9) (c := c9) memA) (rdLit (b := by') (l := [0, 1, 2]) hM memA)) ?_)
  repeat' (first | apply HL.fold | apply HA.fold | apply HL.nil | apply HX.n_then | apply HC.seq | apply HC.region | refine HL.pa ?_ | refine HL.ga rfl ?_ | refine HL.na rfl ?_ | refine HL.nu rfl rfl ?_ | apply HC.block | apply HC.skip | apply HC.exit | apply HC.ret | apply HX.e_block | refine HX.e_other rfl ?_ | apply HX.e_then | apply HX.e_again | apply HX.n_block | apply HX.r_then | apply HX.r_block | apply HX.r_again | refine HC.cond_yes rfl ?_ | refine HC.cond_no rfl ?_ | refine HL.one (H1.ldb rfl memA rfl rfl ?_) | refine HC.cond rfl (fun hc => ?_) (fun hc => ?_) | refine HC.cond_b rfl (fun hc => ?_) (fun hc => ?_))
  refine HC.anyC ([]) rfl ?_
  refine HB.pa 0 rfl ?_
  refine HB.pa 1 rfl ?_
  first | refine HB.ga 2 rfl rfl ?_ | refine HB.na 2 rfl rfl ?_ | refine HB.nu 2 rfl rfl ?_
  first | refine HB.ga 3 rfl rfl ?_ | refine HB.na 3 rfl rfl ?_ | refine HB.nu 3 rfl rfl ?_
  refine HB.pa 4 rfl ?_
  refine HB.pa 5 rfl ?_
  first | refine HB.ga 6 rfl rfl ?_ | refine HB.na 6 rfl rfl ?_ | refine HB.nu 6 rfl rfl ?_
  refine HB.all (by exact Keep.nil) [7] (by kernel_rfl) rfl ⟨⟨_, rfl, ?_⟩, trivial⟩
  refine HP.one_a rfl ?_
  refine H1.lit (cs := ints [0, 2, 3]) rfl rfl rfl rfl rfl rfl (fun b7 => ?_)
  apply HB.fold
  refine HB.all (by exact Keep.nil) [8] (by kernel_rfl) rfl ⟨⟨_, rfl, ?_⟩, trivial⟩
  refine HP.one_a rfl ?_
  refine H1.callx (vs := [.slice a11 3 c11, .slice (some ⟨b7, 0, none⟩) 3 3]) rfl rfl (fun w' hM => ksame_fn _ _ [0, 2, 3] [0, 2, 3] (by decide) (by decide) w' (hM.gr (a := a11) (c := c11) memA) (rdLit (b := b7) (l := [0, 2, 3]) hM memA)) ?_
  apply HB.fold
  refine HB.pa 9 rfl ?_
  refine HB.pa 10 rfl ?_
  first | refine HB.ga 11 rfl rfl ?_ | refine HB.na 11 rfl rfl ?_ | refine HB.nu 11 rfl rfl ?_
  first | refine HB.ga 12 rfl rfl ?_ | refine HB.na 12 rfl rfl ?_ | refine HB.nu 12 rfl rfl ?_
  refine HB.pa 13 rfl ?_
  refine HB.pa 14 rfl ?_
  refine HB.all (by exact Keep.nil) [15, 16] (by kernel_rfl) rfl ⟨⟨_, rfl, ?_⟩, ⟨_, rfl, ?_⟩, trivial⟩
  · refine HP.one_a rfl ?_
    refine H1.callz1 (vs := []) rfl rfl (fun w' _ => example_fn w') ?_
    rintro be -
    apply HB.fold
    refine HB.all (by exact Keep.nil) [16] (by kernel_rfl) rfl ⟨⟨_, rfl, ?_⟩, trivial⟩
    refine HP.one_a rfl ?_
    refine H1.ldAgg (vs := twoD.cells) rfl memA rfl (fun i v hv => by rw [Nat.zero_add]; exact hv) rfl ?_
    apply HB.fold
    refine HB.all (by exact Keep.nil) [17] (by kernel_rfl) rfl ⟨⟨_, rfl, ?_⟩, trivial⟩
    refine HP.one_a rfl ?_
    refine H1.callx (vs := [.slice (some ⟨be, 0, none⟩) 4 4, .agg twoD.cells.toArray]) rfl rfl (fun w' hM => pvalid_fn _ ex4 twoD (by decide) w' (exS (b := be) hM memA)) ?_
    rw [v2]
    apply HB.fold
    refine HB.pa 18 rfl ?_
    refine HB.pa 19 rfl ?_
    refine HB.all (by exact Keep.nil) [20, 21, 22, 24] (by kernel_rfl) rfl ⟨⟨_, rfl, ?_⟩, ⟨_, rfl, ?_⟩, ⟨_, rfl, ?_⟩, ⟨_, rfl, ?_⟩, trivial⟩
    · refine HP.one_a rfl ?_
      refine H1.callz1 (vs := []) rfl rfl (fun w' _ => example_fn w') ?_
      rintro bf -
      apply HB.fold
      refine HB.all (by exact Keep.nil) [21, 22, 24] (by kernel_rfl) rfl ⟨⟨_, rfl, ?_⟩, ⟨_, rfl, ?_⟩, ⟨_, rfl, ?_⟩, trivial⟩
      · refine HP.one_a rfl ?_
        refine H1.lit (cs := ints [0]) rfl rfl rfl rfl rfl rfl (fun b21 => ?_)
        apply HB.fold
        refine HB.all (by exact Keep.nil) [22, 24] (by kernel_rfl) rfl ⟨⟨_, rfl, ?_⟩, ⟨_, rfl, ?_⟩, trivial⟩
        · refine HP.one_a rfl ?_
          refine H1.lit (cs := ints [3]) rfl rfl rfl rfl rfl rfl (fun b22 => ?_)
          apply HB.fold
          refine HB.all (by exact Keep.nil) [23, 24] (by kernel_rfl) rfl ⟨⟨_, rfl, ?_⟩, ⟨_, rfl, ?_⟩, trivial⟩
          · refine HP.one_a rfl ?_
            refine H1.callz1 (An := fun z : Option Addr × Nat => A.grow 3 1 z.1 z.2 3 (ints (natI [0, 1, 3]))) (V := fun z => .slice z.1 3 z.2) (I := fun _ => True) (vs := [.slice (some ⟨bf, 0, none⟩) 4 4, .slice (some ⟨b21, 0, none⟩) 1 1, .slice none 0 0, .slice none 0 0, .slice (some ⟨b22, 0, none⟩) 1 1]) rfl rfl (fun w' hM => strX hM memA memA memA) ?_
            rintro ⟨aS, cS⟩ -
            dsimp only
            apply HB.fold
            refine HB.all (by exact Keep.nil) [24] (by kernel_rfl) rfl ⟨⟨_, rfl, ?_⟩, trivial⟩
            refine HP.one_a rfl ?_
            refine H1.lit (cs := ints [0, 1, 3]) rfl rfl rfl rfl rfl rfl (fun b24 => ?_)
            apply HB.fold
            refine HB.all (by exact Keep.nil) [25] (by kernel_rfl) rfl ⟨⟨_, rfl, ?_⟩, trivial⟩
            refine HP.one_a rfl ?_
            refine H1.callx (vs := [.slice aS 3 cS, .slice (some ⟨b24, 0, none⟩) 3 3]) rfl rfl (fun w' hM => ksame_fn _ _ [0, 1, 3] [0, 1, 3] (by decide) (by decide) w' (hM.gr (a := aS) (c := cS) memA) (rdLit (b := b24) (l := [0, 1, 3]) hM memA)) ?_
            apply HB.fold
            refine HB.pa 26 rfl ?_
            refine HB.pa 27 rfl ?_
            refine HB.done (by exact Keep.nil) (by kernel_rfl) ?_
            repeat' (first | apply HL.fold | apply HA.fold | apply HL.nil | apply HX.n_then | apply HC.seq | apply HC.region | refine HL.pa ?_ | refine HL.ga rfl ?_ | refine HL.na rfl ?_ | refine HL.nu rfl rfl ?_ | apply HC.block | apply HC.skip | apply HC.exit | apply HC.ret | apply HX.e_block | refine HX.e_other rfl ?_ | apply HX.e_then | apply HX.e_again | apply HX.n_block | apply HX.r_then | apply HX.r_block | apply HX.r_again | refine HC.cond_yes rfl ?_ | refine HC.cond_no rfl ?_ | refine HL.one (H1.ldb rfl memA rfl rfl ?_) | refine HC.cond rfl (fun hc => ?_) (fun hc => ?_) | refine HC.cond_b rfl (fun hc => ?_) (fun hc => ?_))
            exact HX.ret1 rfl rfl fun w' hM => ⟨congrArg Value.bool (decide_eq_true rfl), hM.ext⟩
          · refine HP.one_a rfl ?_
            refine H1.lit (cs := ints [0, 1, 3]) rfl rfl rfl rfl rfl rfl (fun b24 => ?_)
            apply HB.fold
            refine HB.all (by exact Keep.nil) [23] (by kernel_rfl) rfl ⟨⟨_, rfl, ?_⟩, trivial⟩
            refine HP.one_a rfl ?_
            refine H1.callz1 (An := fun z : Option Addr × Nat => A.grow 3 1 z.1 z.2 3 (ints (natI [0, 1, 3]))) (V := fun z => .slice z.1 3 z.2) (I := fun _ => True) (vs := [.slice (some ⟨bf, 0, none⟩) 4 4, .slice (some ⟨b21, 0, none⟩) 1 1, .slice none 0 0, .slice none 0 0, .slice (some ⟨b22, 0, none⟩) 1 1]) rfl rfl (fun w' hM => strX hM memA memA memA) ?_
            rintro ⟨aS, cS⟩ -
            dsimp only
            apply HB.fold
            refine HB.all (by exact Keep.nil) [25] (by kernel_rfl) rfl ⟨⟨_, rfl, ?_⟩, trivial⟩
            refine HP.one_a rfl ?_
            refine H1.callx (vs := [.slice aS 3 cS, .slice (some ⟨b24, 0, none⟩) 3 3]) rfl rfl (fun w' hM => ksame_fn _ _ [0, 1, 3] [0, 1, 3] (by decide) (by decide) w' (hM.gr (a := aS) (c := cS) memA) (rdLit (b := b24) (l := [0, 1, 3]) hM memA)) ?_
            apply HB.fold
            refine HB.pa 26 rfl ?_
            refine HB.pa 27 rfl ?_
            refine HB.done (by exact Keep.nil) (by kernel_rfl) ?_
            repeat' (first | apply HL.fold | apply HA.fold | apply HL.nil | apply HX.n_then | apply HC.seq | apply HC.region | refine HL.pa ?_ | refine HL.ga rfl ?_ | refine HL.na rfl ?_ | refine HL.nu rfl rfl ?_ | apply HC.block | apply HC.skip | apply HC.exit | apply HC.ret | apply HX.e_block | refine HX.e_other rfl ?_ | apply HX.e_then | apply HX.e_again | apply HX.n_block | apply HX.r_then | apply HX.r_block | apply HX.r_again | refine HC.cond_yes rfl ?_ | refine HC.cond_no rfl ?_ | refine HL.one (H1.ldb rfl memA rfl rfl ?_) | refine HC.cond rfl (fun hc => ?_) (fun hc => ?_) | refine HC.cond_b rfl (fun hc => ?_) (fun hc => ?_))
            exact HX.ret1 rfl rfl fun w' hM => ⟨congrArg Value.bool (decide_eq_true rfl), hM.ext⟩
        · refine HP.one_a rfl ?_
          refine H1.lit (cs := ints [0, 1, 3]) rfl rfl rfl rfl rfl rfl (fun b24 => ?_)
          apply HB.fold
          refine HB.all (by exact Keep.nil) [22] (by kernel_rfl) rfl ⟨⟨_, rfl, ?_⟩, trivial⟩
          refine HP.one_a rfl ?_
          refine H1.lit (cs := ints [3]) rfl rfl rfl rfl rfl rfl (fun b22 => ?_)
          apply HB.fold
          refine HB.all (by exact Keep.nil) [23] (by kernel_rfl) rfl ⟨⟨_, rfl, ?_⟩, trivial⟩
          refine HP.one_a rfl ?_
          refine H1.callz1 (An := fun z : Option Addr × Nat => A.grow 3 1 z.1 z.2 3 (ints (natI [0, 1, 3]))) (V := fun z => .slice z.1 3 z.2) (I := fun _ => True) (vs := [.slice (some ⟨bf, 0, none⟩) 4 4, .slice (some ⟨b21, 0, none⟩) 1 1, .slice none 0 0, .slice none 0 0, .slice (some ⟨b22, 0, none⟩) 1 1]) rfl rfl (fun w' hM => strX hM memA memA memA) ?_
          rintro ⟨aS, cS⟩ -
          dsimp only
          apply HB.fold
          refine HB.all (by exact Keep.nil) [25] (by kernel_rfl) rfl ⟨⟨_, rfl, ?_⟩, trivial⟩
          refine HP.one_a rfl ?_
          refine H1.callx (vs := [.slice aS 3 cS, .slice (some ⟨b24, 0, none⟩) 3 3]) rfl rfl (fun w' hM => ksame_fn _ _ [0, 1, 3] [0, 1, 3] (by decide) (by decide) w' (hM.gr (a := aS) (c := cS) memA) (rdLit (b := b24) (l := [0, 1, 3]) hM memA)) ?_
          apply HB.fold
          refine HB.pa 26 rfl ?_
          refine HB.pa 27 rfl ?_
          refine HB.done (by exact Keep.nil) (by kernel_rfl) ?_
          repeat' (first | apply HL.fold | apply HA.fold | apply HL.nil | apply HX.n_then | apply HC.seq | apply HC.region | refine HL.pa ?_ | refine HL.ga rfl ?_ | refine HL.na rfl ?_ | refine HL.nu rfl rfl ?_ | apply HC.block | apply HC.skip | apply HC.exit | apply HC.ret | apply HX.e_block | refine HX.e_other rfl ?_ | apply HX.e_then | apply HX.e_again | apply HX.n_block | apply HX.r_then | apply HX.r_block | apply HX.r_again | refine HC.cond_yes rfl ?_ | refine HC.cond_no rfl ?_ | refine HL.one (H1.ldb rfl memA rfl rfl ?_) | refine HC.cond rfl (fun hc => ?_) (fun hc => ?_) | refine HC.cond_b rfl (fun hc => ?_) (fun hc => ?_))
          exact HX.ret1 rfl rfl fun w' hM => ⟨congrArg Value.bool (decide_eq_true rfl), hM.ext⟩
      · refine HP.one_a rfl ?_
        refine H1.lit (cs := ints [3]) rfl rfl rfl rfl rfl rfl (fun b22 => ?_)
        apply HB.fold
        refine HB.all (by exact Keep.nil) [21, 24] (by kernel_rfl) rfl ⟨⟨_, rfl, ?_⟩, ⟨_, rfl, ?_⟩, trivial⟩
        · refine HP.one_a rfl ?_
          refine H1.lit (cs := ints [0]) rfl rfl rfl rfl rfl rfl (fun b21 => ?_)
          apply HB.fold
          refine HB.all (by exact Keep.nil) [23, 24] (by kernel_rfl) rfl ⟨⟨_, rfl, ?_⟩, ⟨_, rfl, ?_⟩, trivial⟩
          · refine HP.one_a rfl ?_
            refine H1.callz1 (An := fun z : Option Addr × Nat => A.grow 3 1 z.1 z.2 3 (ints (natI [0, 1, 3]))) (V := fun z => .slice z.1 3 z.2) (I := fun _ => True) (vs := [.slice (some ⟨bf, 0, none⟩) 4 4, .slice (some ⟨b21, 0, none⟩) 1 1, .slice none 0 0, .slice none 0 0, .slice (some ⟨b22, 0, none⟩) 1 1]) rfl rfl (fun w' hM => strX hM memA memA memA) ?_
            rintro ⟨aS, cS⟩ -
            dsimp only
            apply HB.fold
            refine HB.all (by exact Keep.nil) [24] (by kernel_rfl) rfl ⟨⟨_, rfl, ?_⟩, trivial⟩
            refine HP.one_a rfl ?_
            refine H1.lit (cs := ints [0, 1, 3]) rfl rfl rfl rfl rfl rfl (fun b24 => ?_)
            apply HB.fold
            refine HB.all (by exact Keep.nil) [25] (by kernel_rfl) rfl ⟨⟨_, rfl, ?_⟩, trivial⟩
            refine HP.one_a rfl ?_
            refine H1.callx (vs := [.slice aS 3 cS, .slice (some ⟨b24, 0, none⟩) 3 3]) rfl rfl (fun w' hM => ksame_fn _ _ [0, 1, 3] [0, 1, 3] (by decide) (by decide) w' (hM.gr (a := aS) (c := cS) memA) (rdLit (b := b24) (l := [0, 1, 3]) hM memA)) ?_
            apply HB.fold
            refine HB.pa 26 rfl ?_
            refine HB.pa 27 rfl ?_
            refine HB.done (by exact Keep.nil) (by kernel_rfl) ?_
            repeat' (first | apply HL.fold | apply HA.fold | apply HL.nil | apply HX.n_then | apply HC.seq | apply HC.region | refine HL.pa ?_ | refine HL.ga rfl ?_ | refine HL.na rfl ?_ | refine HL.nu rfl rfl ?_ | apply HC.block | apply HC.skip | apply HC.exit | apply HC.ret | apply HX.e_block | refine HX.e_other rfl ?_ | apply HX.e_then | apply HX.e_again | apply HX.n_block | apply HX.r_then | apply HX.r_block | apply HX.r_again | refine HC.cond_yes rfl ?_ | refine HC.cond_no rfl ?_ | refine HL.one (H1.ldb rfl memA rfl rfl ?_) | refine HC.cond rfl (fun hc => ?_) (fun hc => ?_) | refine HC.cond_b rfl (fun hc => ?_) (fun hc => ?_))
            exact HX.ret1 rfl rfl fun w' hM => ⟨congrArg Value.bool (decide_eq_true rfl), hM.ext⟩
          · refine HP.one_a rfl ?_
            refine H1.lit (cs := ints [0, 1, 3]) rfl rfl rfl rfl rfl rfl (fun b24 => ?_)
            apply HB.fold
            refine HB.all (by exact Keep.nil) [23] (by kernel_rfl) rfl ⟨⟨_, rfl, ?_⟩, trivial⟩
            refine HP.one_a rfl ?_
            refine H1.callz1 (An := fun z : Option Addr × Nat => A.grow 3 1 z.1 z.2 3 (ints (natI [0, 1, 3]))) (V := fun z => .slice z.1 3 z.2) (I := fun _ => True) (vs := [.slice (some ⟨bf, 0, none⟩) 4 4, .slice (some ⟨b21, 0, none⟩) 1 1, .slice none 0 0, .slice none 0 0, .slice (some ⟨b22, 0, none⟩) 1 1]) rfl rfl (fun w' hM => strX hM memA memA memA) ?_
            rintro ⟨aS, cS⟩ -
            dsimp only
            apply HB.fold
            refine HB.all (by exact Keep.nil) [25] (by kernel_rfl) rfl ⟨⟨_, rfl, ?_⟩, trivial⟩
            refine HP.one_a rfl ?_
            refine H1.callx (vs := [.slice aS 3 cS, .slice (some ⟨b24, 0, none⟩) 3 3]) rfl rfl (fun w' hM => ksame_fn _ _ [0, 1, 3] [0, 1, 3] (by decide) (by decide) w' (hM.gr (a := aS) (c := cS) memA) (rdLit (b := b24) (l := [0, 1, 3]) hM memA)) ?_
            apply HB.fold
            refine HB.pa 26 rfl ?_
            refine HB.pa 27 rfl ?_
            refine HB.done (by exact Keep.nil) (by kernel_rfl) ?_
            repeat' (first | apply HL.fold | apply HA.fold | apply HL.nil | apply HX.n_then | apply HC.seq | apply HC.region | refine HL.pa ?_ | refine HL.ga rfl ?_ | refine HL.na rfl ?_ | refine HL.nu rfl rfl ?_ | apply HC.block | apply HC.skip | apply HC.exit | apply HC.ret | apply HX.e_block | refine HX.e_other rfl ?_ | apply HX.e_then | apply HX.e_again | apply HX.n_block | apply HX.r_then | apply HX.r_block | apply HX.r_again | refine HC.cond_yes rfl ?_ | refine HC.cond_no rfl ?_ | refine HL.one (H1.ldb rfl memA rfl rfl ?_) | refine HC.cond rfl (fun hc => ?_) (fun hc => ?_) | refine HC.cond_b rfl (fun hc => ?_) (fun hc => ?_))
            exact HX.ret1 rfl rfl fun w' hM => ⟨congrArg Value.bool (decide_eq_true rfl), hM.ext⟩
        · refine HP.one_a rfl ?_
          refine H1.lit (cs := ints [0, 1, 3]) rfl rfl rfl rfl rfl rfl (fun b24 => ?_)
          apply HB.fold
          refine HB.all (by exact Keep.nil) [21] (by kernel_rfl) rfl ⟨⟨_, rfl, ?_⟩, trivial⟩
          refine HP.one_a rfl ?_
          refine H1.lit (cs := ints [0]) rfl rfl rfl rfl rfl rfl (fun b21 => ?_)
          apply HB.fold
          refine HB.all (by exact Keep.nil) [23] (by kernel_rfl) rfl ⟨⟨_, rfl, ?_⟩, trivial⟩
          refine HP.one_a rfl ?_
          refine H1.callz1 (An := fun z : Option Addr × Nat => A.grow 3 1 z.1 z.2 3 (ints (natI [0, 1, 3]))) (V := fun z => .slice z.1 3 z.2) (I := fun _ => True) (vs := [.slice (some ⟨bf, 0, none⟩) 4 4, .slice (some ⟨b21, 0, none⟩) 1 1, .slice none 0 0, .slice none 0 0, .slice (some ⟨b22, 0, none⟩) 1 1]) rfl rfl (fun w' hM => strX hM memA memA memA) ?_
          rintro ⟨aS, cS⟩ -
          dsimp only
          apply HB.fold
          refine HB.all (by exact Keep.nil) [25] (by kernel_rfl) rfl ⟨⟨_, rfl, ?_⟩, trivial⟩
          refine HP.one_a rfl ?_
          refine H1.callx (vs := [.slice aS 3 cS, .slice (some ⟨b24, 0, none⟩) 3 3]) rfl rfl (fun w' hM => ksame_fn _ _ [0, 1, 3] [0, 1, 3] (by decide) (by decide) w' (hM.gr (a := aS) (c := cS) memA) (rdLit (b := b24) (l := [0, 1, 3]) hM memA)) ?_
          apply HB.fold
          refine HB.pa 26 rfl ?_
          refine HB.pa 27 rfl ?_
          refine HB.done (by exact Keep.nil) (by kernel_rfl) ?_
          repeat' (first | apply HL.fold | apply HA.fold | apply HL.nil | apply HX.n_then | apply HC.seq | apply HC.region | refine HL.pa ?_ | refine HL.ga rfl ?_ | refine HL.na rfl ?_ | refine HL.nu rfl rfl ?_ | apply HC.block | apply HC.skip | apply HC.exit | apply HC.ret | apply HX.e_block | refine HX.e_other rfl ?_ | apply HX.e_then | apply HX.e_again | apply HX.n_block | apply HX.r_then | apply HX.r_block | apply HX.r_again | refine HC.cond_yes rfl ?_ | refine HC.cond_no rfl ?_ | refine HL.one (H1.ldb rfl memA rfl rfl ?_) | refine HC.cond rfl (fun hc => ?_) (fun hc => ?_) | refine HC.cond_b rfl (fun hc => ?_) (fun hc => ?_))
          exact HX.ret1 rfl rfl fun w' hM => ⟨congrArg Value.bool (decide_eq_true rfl), hM.ext⟩
      · refine HP.one_a rfl ?_
        refine H1.lit (cs := ints [0, 1, 3]) rfl rfl rfl rfl rfl rfl (fun b24 => ?_)
        apply HB.fold
        refine HB.all (by exact Keep.nil) [21, 22] (by kernel_rfl) rfl ⟨⟨_, rfl, ?_⟩, ⟨_, rfl, ?_⟩, trivial⟩
        · refine HP.one_a rfl ?_
          refine H1.lit (cs := ints [0]) rfl rfl rfl rfl rfl rfl (fun b21 => ?_)
          apply HB.fold
          refine HB.all (by exact Keep.nil) [22] (by kernel_rfl) rfl ⟨⟨_, rfl, ?_⟩, trivial⟩
          refine HP.one_a rfl ?_
          refine H1.lit (cs := ints [3]) rfl rfl rfl rfl rfl rfl (fun b22 => ?_)
          apply HB.fold
          refine HB.all (by exact Keep.nil) [23] (by kernel_rfl) rfl ⟨⟨_, rfl, ?_⟩, trivial⟩
          refine HP.one_a rfl ?_
          refine H1.callz1 (An := fun z : Option Addr × Nat => A.grow 3 1 z.1 z.2 3 (ints (natI [0, 1, 3]))) (V := fun z => .slice z.1 3 z.2) (I := fun _ => True) (vs := [.slice (some ⟨bf, 0, none⟩) 4 4, .slice (some ⟨b21, 0, none⟩) 1 1, .slice none 0 0, .slice none 0 0, .slice (some ⟨b22, 0, none⟩) 1 1]) rfl rfl (fun w' hM => strX hM memA memA memA) ?_
          rintro ⟨aS, cS⟩ -
          dsimp only
          apply HB.fold
          refine HB.all (by exact Keep.nil) [25] (by kernel_rfl) rfl ⟨⟨_, rfl, ?_⟩, trivial⟩
          refine HP.one_a rfl ?_
          refine H1.callx (vs := [.slice aS 3 cS, .slice (some ⟨b24, 0, none⟩) 3 3]) rfl rfl (fun w' hM => ksame_fn _ _ [0, 1, 3] [0, 1, 3] (by decide) (by decide) w' (hM.gr (a := aS) (c := cS) memA) (rdLit (b := b24) (l := [0, 1, 3]) hM memA)) ?_
          apply HB.fold
          refine HB.pa 26 rfl ?_
          refine HB.pa 27 rfl ?_
          refine HB.done (by exact Keep.nil) (by kernel_rfl) ?_
          repeat' (first | apply HL.fold | apply HA.fold | apply HL.nil | apply HX.n_then | apply HC.seq | apply HC.region | refine HL.pa ?_ | refine HL.ga rfl ?_ | refine HL.na rfl ?_ | refine HL.nu rfl rfl ?_ | apply HC.block | apply HC.skip | apply HC.exit | apply HC.ret | apply HX.e_block | refine HX.e_other rfl ?_ | apply HX.e_then | apply HX.e_again | apply HX.n_block | apply HX.r_then | apply HX.r_block | apply HX.r_again | refine HC.cond_yes rfl ?_ | refine HC.cond_no rfl ?_ | refine HL.one (H1.ldb rfl memA rfl rfl ?_) | refine HC.cond rfl (fun hc => ?_) (fun hc => ?_) | refine HC.cond_b rfl (fun hc => ?_) (fun hc => ?_))
          exact HX.ret1 rfl rfl fun w' hM => ⟨congrArg Value.bool (decide_eq_true rfl), hM.ext⟩
        · refine HP.one_a rfl ?_
          refine H1.lit (cs := ints [3]) rfl rfl rfl rfl rfl rfl (fun b22 => ?_)
          apply HB.fold
          refine HB.all (by exact Keep.nil) [21] (by kernel_rfl) rfl ⟨⟨_, rfl, ?_⟩, trivial⟩
          refine HP.one_a rfl ?_
          refine H1.lit (cs := ints [0]) rfl rfl rfl rfl rfl rfl (fun b21 => ?_)
          apply HB.fold
          refine HB.all (by exact Keep.nil) [23] (by kernel_rfl) rfl ⟨⟨_, rfl, ?_⟩, trivial⟩
          refine HP.one_a rfl ?_
          refine H1.callz1 (An := fun z : Option Addr × Nat => A.grow 3 1 z.1 z.2 3 (ints (natI [0, 1, 3]))) (V := fun z => .slice z.1 3 z.2) (I := fun _ => True) (vs := [.slice (some ⟨bf, 0, none⟩) 4 4, .slice (some ⟨b21, 0, none⟩) 1 1, .slice none 0 0, .slice none 0 0, .slice (some ⟨b22, 0, none⟩) 1 1]) rfl rfl (fun w' hM => strX hM memA memA memA) ?_
          rintro ⟨aS, cS⟩ -
          dsimp only
          apply HB.fold
          refine HB.all (by exact Keep.nil) [25] (by kernel_rfl) rfl ⟨⟨_, rfl, ?_⟩, trivial⟩
          refine HP.one_a rfl ?_
          refine H1.callx (vs := [.slice aS 3 cS, .slice (some ⟨b24, 0, none⟩) 3 3]) rfl rfl (fun w' hM => ksame_fn _ _ [0, 1, 3] [0, 1, 3] (by decide) (by decide) w' (hM.gr (a := aS) (c := cS) memA) (rdLit (b := b24) (l := [0, 1, 3]) hM memA)) ?_
          apply HB.fold
          refine HB.pa 26 rfl ?_
          refine HB.pa 27 rfl ?_
          refine HB.done (by exact Keep.nil) (by kernel_rfl) ?_
          repeat' (first | apply HL.fold | apply HA.fold | apply HL.nil | apply HX.n_then | apply HC.seq | apply HC.region | refine HL.pa ?_ | refine HL.ga rfl ?_ | refine HL.na rfl ?_ | refine HL.nu rfl rfl ?_ | apply HC.block | apply HC.skip | apply HC.exit | apply HC.ret | apply HX.e_block | refine HX.e_other rfl ?_ | apply HX.e_then | apply HX.e_again | apply HX.n_block | apply HX.r_then | apply HX.r_block | apply HX.r_again | refine HC.cond_yes rfl ?_ | refine HC.cond_no rfl ?_ | refine HL.one (H1.ldb rfl memA rfl rfl ?_) | refine HC.cond rfl (fun hc => ?_) (fun hc => ?_) | refine HC.cond_b rfl (fun hc => ?_) (fun hc => ?_))
          exact HX.ret1 rfl rfl fun w' hM => ⟨congrArg Value.bool (decide_eq_true rfl), hM.ext⟩
    · refine HP.one_a rfl ?_
      refine H1.lit (cs := ints [0]) rfl rfl rfl rfl rfl rfl (fun b21 => ?_)
      apply HB.fold
      refine HB.all (by exact Keep.nil) [20, 22, 24] (by kernel_rfl) rfl ⟨⟨_, rfl, ?_⟩, ⟨_, rfl, ?_⟩, ⟨_, rfl, ?_⟩, trivial⟩
      · refine HP.one_a rfl ?_
        refine H1.callz1 (vs := []) rfl rfl (fun w' _ => example_fn w') ?_
        rintro bf -
        apply HB.fold
        refine HB.all (by exact Keep.nil) [22, 24] (by kernel_rfl) rfl ⟨⟨_, rfl, ?_⟩, ⟨_, rfl, ?_⟩, trivial⟩
        · refine HP.one_a rfl ?_
          refine H1.lit (cs := ints [3]) rfl rfl rfl rfl rfl rfl (fun b22 => ?_)
          apply HB.fold
          refine HB.all (by exact Keep.nil) [23, 24] (by kernel_rfl) rfl ⟨⟨_, rfl, ?_⟩, ⟨_, rfl, ?_⟩, trivial⟩
          · refine HP.one_a rfl ?_
            refine H1.callz1 (An := fun z : Option Addr × Nat => A.grow 3 1 z.1 z.2 3 (ints (natI [0, 1, 3]))) (V := fun z => .slice z.1 3 z.2) (I := fun _ => True) (vs := [.slice (some ⟨bf, 0, none⟩) 4 4, .slice (some ⟨b21, 0, none⟩) 1 1, .slice none 0 0, .slice none 0 0, .slice (some ⟨b22, 0, none⟩) 1 1]) rfl rfl (fun w' hM => strX hM memA memA memA) ?_
            rintro ⟨aS, cS⟩ -
            dsimp only
            apply HB.fold
            refine HB.all (by exact Keep.nil) [24] (by kernel_rfl) rfl ⟨⟨_, rfl, ?_⟩, trivial⟩
            refine HP.one_a rfl ?_
            refine H1.lit (cs := ints [0, 1, 3]) rfl rfl rfl rfl rfl rfl (fun b24 => ?_)
            apply HB.fold
            refine HB.all (by exact Keep.nil) [25] (by kernel_rfl) rfl ⟨⟨_, rfl, ?_⟩, trivial⟩
            refine HP.one_a rfl ?_
            refine H1.callx (vs := [.slice aS 3 cS, .slice (some ⟨b24, 0, none⟩) 3 3]) rfl rfl (fun w' hM => ksame_fn _ _ [0, 1, 3] [0, 1, 3] (by decide) (by decide) w' (hM.gr (a := aS) (c := cS) memA) (rdLit (b := b24) (l := [0, 1, 3]) hM memA)) ?_
            apply HB.fold
            refine HB.pa 26 rfl ?_
            refine HB.pa 27 rfl ?_
            refine HB.done (by exact Keep.nil) (by kernel_rfl) ?_
            repeat' (first | apply HL.fold | apply HA.fold | apply HL.nil | apply HX.n_then | apply HC.seq | apply HC.region | refine HL.pa ?_ | refine HL.ga rfl ?_ | refine HL.na rfl ?_ | refine HL.nu rfl rfl ?_ | apply HC.block | apply HC.skip | apply HC.exit | apply HC.ret | apply HX.e_block | refine HX.e_other rfl ?_ | apply HX.e_then | apply HX.e_again | apply HX.n_block | apply HX.r_then | apply HX.r_block | apply HX.r_again | refine HC.cond_yes rfl ?_ | refine HC.cond_no rfl ?_ | refine HL.one (H1.ldb rfl memA rfl rfl ?_) | refine HC.cond rfl (fun hc => ?_) (fun hc => ?_) | refine HC.cond_b rfl (fun hc => ?_) (fun hc => ?_))
            exact HX.ret1 rfl rfl fun w' hM => ⟨congrArg Value.bool (decide_eq_true rfl), hM.ext⟩
          · refine HP.one_a rfl ?_
            refine H1.lit (cs := ints [0, 1, 3]) rfl rfl rfl rfl rfl rfl (fun b24 => ?_)
            apply HB.fold
            refine HB.all (by exact Keep.nil) [23] (by kernel_rfl) rfl ⟨⟨_, rfl, ?_⟩, trivial⟩
            refine HP.one_a rfl ?_
            refine H1.callz1 (An := fun z : Option Addr × Nat => A.grow 3 1 z.1 z.2 3 (ints (natI [0, 1, 3]))) (V := fun z => .slice z.1 3 z.2) (I := fun _ => True) (vs := [.slice (some ⟨bf, 0, none⟩) 4 4, .slice (some ⟨b21, 0, none⟩) 1 1, .slice none 0 0, .slice none 0 0, .slice (some ⟨b22, 0, none⟩) 1 1]) rfl rfl (fun w' hM => strX hM memA memA memA) ?_
            rintro ⟨aS, cS⟩ -
            dsimp only
            apply HB.fold
            refine HB.all (by exact Keep.nil) [25] (by kernel_rfl) rfl ⟨⟨_, rfl, ?_⟩, trivial⟩
            refine HP.one_a rfl ?_
            refine H1.callx (vs := [.slice aS 3 cS, .slice (some ⟨b24, 0, none⟩) 3 3]) rfl rfl (fun w' hM => ksame_fn _ _ [0, 1, 3] [0, 1, 3] (by decide) (by decide) w' (hM.gr (a := aS) (c := cS) memA) (rdLit (b := b24) (l := [0, 1, 3]) hM memA)) ?_
            apply HB.fold
            refine HB.pa 26 rfl ?_
            refine HB.pa 27 rfl ?_
            refine HB.done (by exact Keep.nil) (by kernel_rfl) ?_
            repeat' (first | apply HL.fold | apply HA.fold | apply HL.nil | apply HX.n_then | apply HC.seq | apply HC.region | refine HL.pa ?_ | refine HL.ga rfl ?_ | refine HL.na rfl ?_ | refine HL.nu rfl rfl ?_ | apply HC.block | apply HC.skip | apply HC.exit | apply HC.ret | apply HX.e_block | refine HX.e_other rfl ?_ | apply HX.e_then | apply HX.e_again | apply HX.n_block | apply HX.r_then | apply HX.r_block | apply HX.r_again | refine HC.cond_yes rfl ?_ | refine HC.cond_no rfl ?_ | refine HL.one (H1.ldb rfl memA rfl rfl ?_) | refine HC.cond rfl (fun hc => ?_) (fun hc => ?_) | refine HC.cond_b rfl (fun hc => ?_) (fun hc => ?_))
            exact HX.ret1 rfl rfl fun w' hM => ⟨congrArg Value.bool (decide_eq_true rfl), hM.ext⟩
        · refine HP.one_a rfl ?_
          refine H1.lit (cs := ints [0, 1, 3]) rfl rfl rfl rfl rfl rfl (fun b24 => ?_)
          apply HB.fold
          refine HB.all (by exact Keep.nil) [22] (by kernel_rfl) rfl ⟨⟨_, rfl, ?_⟩, trivial⟩
          refine HP.one_a rfl ?_
          refine H1.lit (cs := ints [3]) rfl rfl rfl rfl rfl rfl (fun b22 => ?_)
          apply HB.fold
          refine HB.all (by exact Keep.nil) [23] (by kernel_rfl) rfl ⟨⟨_, rfl, ?_⟩, trivial⟩
          refine HP.one_a rfl ?_
          refine H1.callz1 (An := fun z : Option Addr × Nat => A.grow 3 1 z.1 z.2 3 (ints (natI [0, 1, 3]))) (V := fun z => .slice z.1 3 z.2) (I := fun _ => True) (vs := [.slice (some ⟨bf, 0, none⟩) 4 4, .slice (some ⟨b21, 0, none⟩) 1 1, .slice none 0 0, .slice none 0 0, .slice (some ⟨b22, 0, none⟩) 1 1]) rfl rfl (fun w' hM => strX hM memA memA memA) ?_
          rintro ⟨aS, cS⟩ -
          dsimp only
          apply HB.fold
          refine HB.all (by exact Keep.nil) [25] (by kernel_rfl) rfl ⟨⟨_, rfl, ?_⟩, trivial⟩
          refine HP.one_a rfl ?_
          refine H1.callx (vs := [.slice aS 3 cS, .slice (some ⟨b24, 0, none⟩) 3 3]) rfl rfl (fun w' hM => ksame_fn _ _ [0, 1, 3] [0, 1, 3] (by decide) (by decide) w' (hM.gr (a := aS) (c := cS) memA) (rdLit (b := b24) (l := [0, 1, 3]) hM memA)) ?_
          apply HB.fold
          refine HB.pa 26 rfl ?_
          refine HB.pa 27 rfl ?_
          refine HB.done (by exact Keep.nil) (by kernel_rfl) ?_
          repeat' (first | apply HL.fold | apply HA.fold | apply HL.nil | apply HX.n_then | apply HC.seq | apply HC.region | refine HL.pa ?_ | refine HL.ga rfl ?_ | refine HL.na rfl ?_ | refine HL.nu rfl rfl ?_ | apply HC.block | apply HC.skip | apply HC.exit | apply HC.ret | apply HX.e_block | refine HX.e_other rfl ?_ | apply HX.e_then | apply HX.e_again | apply HX.n_block | apply HX.r_then | apply HX.r_block | apply HX.r_again | refine HC.cond_yes rfl ?_ | refine HC.cond_no rfl ?_ | refine HL.one (H1.ldb rfl memA rfl rfl ?_) | refine HC.cond rfl (fun hc => ?_) (fun hc => ?_) | refine HC.cond_b rfl (fun hc => ?_) (fun hc => ?_))
          exact HX.ret1 rfl rfl fun w' hM => ⟨congrArg Value.bool (decide_eq_true rfl), hM.ext⟩
      · refine HP.one_a rfl ?_
        refine H1.lit (cs := ints [3]) rfl rfl rfl rfl rfl rfl (fun b22 => ?_)
        apply HB.fold
        refine HB.all (by exact Keep.nil) [20, 24] (by kernel_rfl) rfl ⟨⟨_, rfl, ?_⟩, ⟨_, rfl, ?_⟩, trivial⟩
        · refine HP.one_a rfl ?_
          refine H1.callz1 (vs := []) rfl rfl (fun w' _ => example_fn w') ?_
          rintro bf -
          apply HB.fold
          refine HB.all (by exact Keep.nil) [23, 24] (by kernel_rfl) rfl ⟨⟨_, rfl, ?_⟩, ⟨_, rfl, ?_⟩, trivial⟩
          · refine HP.one_a rfl ?_
            refine H1.callz1 (An := fun z : Option Addr × Nat => A.grow 3 1 z.1 z.2 3 (ints (natI [0, 1, 3]))) (V := fun z => .slice z.1 3 z.2) (I := fun _ => True) (vs := [.slice (some ⟨bf, 0, none⟩) 4 4, .slice (some ⟨b21, 0, none⟩) 1 1, .slice none 0 0, .slice none 0 0, .slice (some ⟨b22, 0, none⟩) 1 1]) rfl rfl (fun w' hM => strX hM memA memA memA) ?_
            rintro ⟨aS, cS⟩ -
            dsimp only
            apply HB.fold
            refine HB.all (by exact Keep.nil) [24] (by kernel_rfl) rfl ⟨⟨_, rfl, ?_⟩, trivial⟩
            refine HP.one_a rfl ?_
            refine H1.lit (cs := ints [0, 1, 3]) rfl rfl rfl rfl rfl rfl (fun b24 => ?_)
            apply HB.fold
            refine HB.all (by exact Keep.nil) [25] (by kernel_rfl) rfl ⟨⟨_, rfl, ?_⟩, trivial⟩
            refine HP.one_a rfl ?_
            refine H1.callx (vs := [.slice aS 3 cS, .slice (some ⟨b24, 0, none⟩) 3 3]) rfl rfl (fun w' hM => ksame_fn _ _ [0, 1, 3] [0, 1, 3] (by decide) (by decide) w' (hM.gr (a := aS) (c := cS) memA) (rdLit (b := b24) (l := [0, 1, 3]) hM memA)) ?_
            apply HB.fold
            refine HB.pa 26 rfl ?_
            refine HB.pa 27 rfl ?_
            refine HB.done (by exact Keep.nil) (by kernel_rfl) ?_
            repeat' (first | apply HL.fold | apply HA.fold | apply HL.nil | apply HX.n_then | apply HC.seq | apply HC.region | refine HL.pa ?_ | refine HL.ga rfl ?_ | refine HL.na rfl ?_ | refine HL.nu rfl rfl ?_ | apply HC.block | apply HC.skip | apply HC.exit | apply HC.ret | apply HX.e_block | refine HX.e_other rfl ?_ | apply HX.e_then | apply HX.e_again | apply HX.n_block | apply HX.r_then | apply HX.r_block | apply HX.r_again | refine HC.cond_yes rfl ?_ | refine HC.cond_no rfl ?_ | refine HL.one (H1.ldb rfl memA rfl rfl ?_) | refine HC.cond rfl (fun hc => ?_) (fun hc => ?_) | refine HC.cond_b rfl (fun hc => ?_) (fun hc => ?_))
            exact HX.ret1 rfl rfl fun w' hM => ⟨congrArg Value.bool (decide_eq_true rfl), hM.ext⟩
          · refine HP.one_a rfl ?_
            refine H1.lit (cs := ints [0, 1, 3]) rfl rfl rfl rfl rfl rfl (fun b24 => ?_)
            apply HB.fold
            refine HB.all (by exact Keep.nil) [23] (by kernel_rfl) rfl ⟨⟨_, rfl, ?_⟩, trivial⟩
            refine HP.one_a rfl ?_
            refine H1.callz1 (An := fun z : Option Addr × Nat => A.grow 3 1 z.1 z.2 3 (ints (natI [0, 1, 3]))) (V := fun z => .slice z.1 3 z.2) (I := fun _ => True) (vs := [.slice (some ⟨bf, 0, none⟩) 4 4, .slice (some ⟨b21, 0, none⟩) 1 1, .slice none 0 0, .slice none 0 0, .slice (some ⟨b22, 0, none⟩) 1 1]) rfl rfl (fun w' hM => strX hM memA memA memA) ?_
            rintro ⟨aS, cS⟩ -
            dsimp only
            apply HB.fold
            refine HB.all (by exact Keep.nil) [25] (by kernel_rfl) rfl ⟨⟨_, rfl, ?_⟩, trivial⟩
            refine HP.one_a rfl ?_
            refine H1.callx (vs := [.slice aS 3 cS, .slice (some ⟨b24, 0, none⟩) 3 3]) rfl rfl (fun w' hM => ksame_fn _ _ [0, 1, 3] [0, 1, 3] (by decide) (by decide) w' (hM.gr (a := aS) (c := cS) memA) (rdLit (b := b24) (l := [0, 1, 3]) hM memA)) ?_
            apply HB.fold
            refine HB.pa 26 rfl ?_
            refine HB.pa 27 rfl ?_
            refine HB.done (by exact Keep.nil) (by kernel_rfl) ?_
            repeat' (first | apply HL.fold | apply HA.fold | apply HL.nil | apply HX.n_then | apply HC.seq | apply HC.region | refine HL.pa ?_ | refine HL.ga rfl ?_ | refine HL.na rfl ?_ | refine HL.nu rfl rfl ?_ | apply HC.block | apply HC.skip | apply HC.exit | apply HC.ret | apply HX.e_block | refine HX.e_other rfl ?_ | apply HX.e_then | apply HX.e_again | apply HX.n_block | apply HX.r_then | apply HX.r_block | apply HX.r_again | refine HC.cond_yes rfl ?_ | refine HC.cond_no rfl ?_ | refine HL.one (H1.ldb rfl memA rfl rfl ?_) | refine HC.cond rfl (fun hc => ?_) (fun hc => ?_) | refine HC.cond_b rfl (fun hc => ?_) (fun hc => ?_))
            exact HX.ret1 rfl rfl fun w' hM => ⟨congrArg Value.bool (decide_eq_true rfl), hM.ext⟩
        · refine HP.one_a rfl ?_
          refine H1.lit (cs := ints [0, 1, 3]) rfl rfl rfl rfl rfl rfl (fun b24 => ?_)
          apply HB.fold
          refine HB.all (by exact Keep.nil) [20] (by kernel_rfl) rfl ⟨⟨_, rfl, ?_⟩, trivial⟩
          refine HP.one_a rfl ?_
          refine H1.callz1 (vs := []) rfl rfl (fun w' _ => example_fn w') ?_
          rintro bf -
          apply HB.fold
          refine HB.all (by exact Keep.nil) [23] (by kernel_rfl) rfl ⟨⟨_, rfl, ?_⟩, trivial⟩
          refine HP.one_a rfl ?_
          refine H1.callz1 (An := fun z : Option Addr × Nat => A.grow 3 1 z.1 z.2 3 (ints (natI [0, 1, 3]))) (V := fun z => .slice z.1 3 z.2) (I := fun _ => True) (vs := [.slice (some ⟨bf, 0, none⟩) 4 4, .slice (some ⟨b21, 0, none⟩) 1 1, .slice none 0 0, .slice none 0 0, .slice (some ⟨b22, 0, none⟩) 1 1]) rfl rfl (fun w' hM => strX hM memA memA memA) ?_
          rintro ⟨aS, cS⟩ -
          dsimp only
          apply HB.fold
          refine HB.all (by exact Keep.nil) [25] (by kernel_rfl) rfl ⟨⟨_, rfl, ?_⟩, trivial⟩
          refine HP.one_a rfl ?_
          refine H1.callx (vs := [.slice aS 3 cS, .slice (some ⟨b24, 0, none⟩) 3 3]) rfl rfl (fun w' hM => ksame_fn _ _ [0, 1, 3] [0, 1, 3] (by decide) (by decide) w' (hM.gr (a := aS) (c := cS) memA) (rdLit (b := b24) (l := [0, 1, 3]) hM memA)) ?_
          apply HB.fold
          refine HB.pa 26 rfl ?_
          refine HB.pa 27 rfl ?_
          refine HB.done (by exact Keep.nil) (by kernel_rfl) ?_
          repeat' (first | apply HL.fold | apply HA.fold | apply HL.nil | apply HX.n_then | apply HC.seq | apply HC.region | refine HL.pa ?_ | refine HL.ga rfl ?_ | refine HL.na rfl ?_ | refine HL.nu rfl rfl ?_ | apply HC.block | apply HC.skip | apply HC.exit | apply HC.ret | apply HX.e_block | refine HX.e_other rfl ?_ | apply HX.e_then | apply HX.e_again | apply HX.n_block | apply HX.r_then | apply HX.r_block | apply HX.r_again | refine HC.cond_yes rfl ?_ | refine HC.cond_no rfl ?_ | refine HL.one (H1.ldb rfl memA rfl rfl ?_) | refine HC.cond rfl (fun hc => ?_) (fun hc => ?_) | refine HC.cond_b rfl (fun hc => ?_) (fun hc => ?_))
          exact HX.ret1 rfl rfl fun w' hM => ⟨congrArg Value.bool (decide_eq_true rfl), hM.ext⟩
      · refine HP.one_a rfl ?_
        refine H1.lit (cs := ints [0, 1, 3]) rfl rfl rfl rfl rfl rfl (fun b24 => ?_)
        apply HB.fold
        refine HB.all (by exact Keep.nil) [20, 22] (by kernel_rfl) rfl ⟨⟨_, rfl, ?_⟩, ⟨_, rfl, ?_⟩, trivial⟩
        · refine HP.one_a rfl ?_
          refine H1.callz1 (vs := []) rfl rfl (fun w' _ => example_fn w') ?_
          rintro bf -
          apply HB.fold
          refine HB.all (by exact Keep.nil) [22] (by kernel_rfl) rfl ⟨⟨_, rfl, ?_⟩, trivial⟩
          refine HP.one_a rfl ?_
          refine H1.lit (cs := ints [3]) rfl rfl rfl rfl rfl rfl (fun b22 => ?_)
          apply HB.fold
          refine HB.all (by exact Keep.nil) [23] (by kernel_rfl) rfl ⟨⟨_, rfl, ?_⟩, trivial⟩
          refine HP.one_a rfl ?_
          refine H1.callz1 (An := fun z : Option Addr × Nat => A.grow 3 1 z.1 z.2 3 (ints (natI [0, 1, 3]))) (V := fun z => .slice z.1 3 z.2) (I := fun _ => True) (vs := [.slice (some ⟨bf, 0, none⟩) 4 4, .slice (some ⟨b21, 0, none⟩) 1 1, .slice none 0 0, .slice none 0 0, .slice (some ⟨b22, 0, none⟩) 1 1]) rfl rfl (fun w' hM => strX hM memA memA memA) ?_
          rintro ⟨aS, cS⟩ -
          dsimp only
          apply HB.fold
          refine HB.all (by exact Keep.nil) [25] (by kernel_rfl) rfl ⟨⟨_, rfl, ?_⟩, trivial⟩
          refine HP.one_a rfl ?_
          refine H1.callx (vs := [.slice aS 3 cS, .slice (some ⟨b24, 0, none⟩) 3 3]) rfl rfl (fun w' hM => ksame_fn _ _ [0, 1, 3] [0, 1, 3] (by decide) (by decide) w' (hM.gr (a := aS) (c := cS) memA) (rdLit (b := b24) (l := [0, 1, 3]) hM memA)) ?_
          apply HB.fold
          refine HB.pa 26 rfl ?_
          refine HB.pa 27 rfl ?_
          refine HB.done (by exact Keep.nil) (by kernel_rfl) ?_
          repeat' (first | apply HL.fold | apply HA.fold | apply HL.nil | apply HX.n_then | apply HC.seq | apply HC.region | refine HL.pa ?_ | refine HL.ga rfl ?_ | refine HL.na rfl ?_ | refine HL.nu rfl rfl ?_ | apply HC.block | apply HC.skip | apply HC.exit | apply HC.ret | apply HX.e_block | refine HX.e_other rfl ?_ | apply HX.e_then | apply HX.e_again | apply HX.n_block | apply HX.r_then | apply HX.r_block | apply HX.r_again | refine HC.cond_yes rfl ?_ | refine HC.cond_no rfl ?_ | refine HL.one (H1.ldb rfl memA rfl rfl ?_) | refine HC.cond rfl (fun hc => ?_) (fun hc => ?_) | refine HC.cond_b rfl (fun hc => ?_) (fun hc => ?_))
          exact HX.ret1 rfl rfl fun w' hM => ⟨congrArg Value.bool (decide_eq_true rfl), hM.ext⟩
        · refine HP.one_a rfl ?_
          refine H1.lit (cs := ints [3]) rfl rfl rfl rfl rfl rfl (fun b22 => ?_)
          apply HB.fold
          refine HB.all (by exact Keep.nil) [20] (by kernel_rfl) rfl ⟨⟨_, rfl, ?_⟩, trivial⟩
          refine HP.one_a rfl ?_
          refine H1.callz1 (vs := []) rfl rfl (fun w' _ => example_fn w') ?_
          rintro bf -
          apply HB.fold
          refine HB.all (by exact Keep.nil) [23] (by kernel_rfl) rfl ⟨⟨_, rfl, ?_⟩, trivial⟩
          refine HP.one_a rfl ?_
          refine H1.callz1 (An := fun z : Option Addr × Nat => A.grow 3 1 z.1 z.2 3 (ints (natI [0, 1, 3]))) (V := fun z => .slice z.1 3 z.2) (I := fun _ => True) (vs := [.slice (some ⟨bf, 0, none⟩) 4 4, .slice (some ⟨b21, 0, none⟩) 1 1, .slice none 0 0, .slice none 0 0, .slice (some ⟨b22, 0, none⟩) 1 1]) rfl rfl (fun w' hM => strX hM memA memA memA) ?_
          rintro ⟨aS, cS⟩ -
          dsimp only
          apply HB.fold
          refine HB.all (by exact Keep.nil) [25] (by kernel_rfl) rfl ⟨⟨_, rfl, ?_⟩, trivial⟩
          refine HP.one_a rfl ?_
          refine H1.callx (vs := [.slice aS 3 cS, .slice (some ⟨b24, 0, none⟩) 3 3]) rfl rfl (fun w' hM => ksame_fn _ _ [0, 1, 3] [0, 1, 3] (by decide) (by decide) w' (hM.gr (a := aS) (c := cS) memA) (rdLit (b := b24) (l := [0, 1, 3]) hM memA)) ?_
          apply HB.fold
          refine HB.pa 26 rfl ?_
          refine HB.pa 27 rfl ?_
          refine HB.done (by exact Keep.nil) (by kernel_rfl) ?_
          repeat' (first | apply HL.fold | apply HA.fold | apply HL.nil | apply HX.n_then | apply HC.seq | apply HC.region | refine HL.pa ?_ | refine HL.ga rfl ?_ | refine HL.na rfl ?_ | refine HL.nu rfl rfl ?_ | apply HC.block | apply HC.skip | apply HC.exit | apply HC.ret | apply HX.e_block | refine HX.e_other rfl ?_ | apply HX.e_then | apply HX.e_again | apply HX.n_block | apply HX.r_then | apply HX.r_block | apply HX.r_again | refine HC.cond_yes rfl ?_ | refine HC.cond_no rfl ?_ | refine HL.one (H1.ldb rfl memA rfl rfl ?_) | refine HC.cond rfl (fun hc => ?_) (fun hc => ?_) | refine HC.cond_b rfl (fun hc => ?_) (fun hc => ?_))
          exact HX.ret1 rfl rfl fun w' hM => ⟨congrArg Value.bool (decide_eq_true rfl), hM.ext⟩
    · refine HP.one_a rfl ?_
      refine H1.lit (cs := ints [3]) rfl rfl rfl rfl rfl rfl (fun b22 => ?_)
      apply HB.fold
      refine HB.all (by exact Keep.nil) [20, 21, 24] (by kernel_rfl) rfl ⟨⟨_, rfl, ?_⟩, ⟨_, rfl, ?_⟩, ⟨_, rfl, ?_⟩, trivial⟩
      · refine HP.one_a rfl ?_
        refine H1.callz1 (vs := []) rfl rfl (fun w' _ => example_fn w') ?_
        rintro bf -
        apply HB.fold
        refine HB.all (by exact Keep.nil) [21, 24] (by kernel_rfl) rfl ⟨⟨_, rfl, ?_⟩, ⟨_, rfl, ?_⟩, trivial⟩
        · refine HP.one_a rfl ?_
          refine H1.lit (cs := ints [0]) rfl rfl rfl rfl rfl rfl (fun b21 => ?_)
          apply HB.fold
          refine HB.all (by exact Keep.nil) [23, 24] (by kernel_rfl) rfl ⟨⟨_, rfl, ?_⟩, ⟨_, rfl, ?_⟩, trivial⟩
          · refine HP.one_a rfl ?_
            refine H1.callz1 (An := fun z : Option Addr × Nat => A.grow 3 1 z.1 z.2 3 (ints (natI [0, 1, 3]))) (V := fun z => .slice z.1 3 z.2) (I := fun _ => True) (vs := [.slice (some ⟨bf, 0, none⟩) 4 4, .slice (some ⟨b21, 0, none⟩) 1 1, .slice none 0 0, .slice none 0 0, .slice (some ⟨b22, 0, none⟩) 1 1]) rfl rfl (fun w' hM => strX hM memA memA memA) ?_
            rintro ⟨aS, cS⟩ -
            dsimp only
            apply HB.fold
            refine HB.all (by exact Keep.nil) [24] (by kernel_rfl) rfl ⟨⟨_, rfl, ?_⟩, trivial⟩
            refine HP.one_a rfl ?_
            refine H1.lit (cs := ints [0, 1, 3]) rfl rfl rfl rfl rfl rfl (fun b24 => ?_)
            apply HB.fold
            refine HB.all (by exact Keep.nil) [25] (by kernel_rfl) rfl ⟨⟨_, rfl, ?_⟩, trivial⟩
            refine HP.one_a rfl ?_
            refine H1.callx (vs := [.slice aS 3 cS, .slice (some ⟨b24, 0, none⟩) 3 3]) rfl rfl (fun w' hM => ksame_fn _ _ [0, 1, 3] [0, 1, 3] (by decide) (by decide) w' (hM.gr (a := aS) (c := cS) memA) (rdLit (b := b24) (l := [0, 1, 3]) hM memA)) ?_
            apply HB.fold
            refine HB.pa 26 rfl ?_
            refine HB.pa 27 rfl ?_
            refine HB.done (by exact Keep.nil) (by kernel_rfl) ?_
            repeat' (first | apply HL.fold | apply HA.fold | apply HL.nil | apply HX.n_then | apply HC.seq | apply HC.region | refine HL.pa ?_ | refine HL.ga rfl ?_ | refine HL.na rfl ?_ | refine HL.nu rfl rfl ?_ | apply HC.block | apply HC.skip | apply HC.exit | apply HC.ret | apply HX.e_block | refine HX.e_other rfl ?_ | apply HX.e_then | apply HX.e_again | apply HX.n_block | apply HX.r_then | apply HX.r_block | apply HX.r_again | refine HC.cond_yes rfl ?_ | refine HC.cond_no rfl ?_ | refine HL.one (H1.ldb rfl memA rfl rfl ?_) | refine HC.cond rfl (fun hc => ?_) (fun hc => ?_) | refine HC.cond_b rfl (fun hc => ?_) (fun hc => ?_))
            exact HX.ret1 rfl rfl fun w' hM => ⟨congrArg Value.bool (decide_eq_true rfl), hM.ext⟩
          · refine HP.one_a rfl ?_
            refine H1.lit (cs := ints [0, 1, 3]) rfl rfl rfl rfl rfl rfl (fun b24 => ?_)
            apply HB.fold
            refine HB.all (by exact Keep.nil) [23] (by kernel_rfl) rfl ⟨⟨_, rfl, ?_⟩, trivial⟩
            refine HP.one_a rfl ?_
            refine H1.callz1 (An := fun z : Option Addr × Nat => A.grow 3 1 z.1 z.2 3 (ints (natI [0, 1, 3]))) (V := fun z => .slice z.1 3 z.2) (I := fun _ => True) (vs := [.slice (some ⟨bf, 0, none⟩) 4 4, .slice (some ⟨b21, 0, none⟩) 1 1, .slice none 0 0, .slice none 0 0, .slice (some ⟨b22, 0, none⟩) 1 1]) rfl rfl (fun w' hM => strX hM memA memA memA) ?_
            rintro ⟨aS, cS⟩ -
            dsimp only
            apply HB.fold
            refine HB.all (by exact Keep.nil) [25] (by kernel_rfl) rfl ⟨⟨_, rfl, ?_⟩, trivial⟩
            refine HP.one_a rfl ?_
            refine H1.callx (vs := [.slice aS 3 cS, .slice (some ⟨b24, 0, none⟩) 3 3]) rfl rfl (fun w' hM => ksame_fn _ _ [0, 1, 3] [0, 1, 3] (by decide) (by decide) w' (hM.gr (a := aS) (c := cS) memA) (rdLit (b := b24) (l := [0, 1, 3]) hM memA)) ?_
            apply HB.fold
            refine HB.pa 26 rfl ?_
            refine HB.pa 27 rfl ?_
            refine HB.done (by exact Keep.nil) (by kernel_rfl) ?_
            repeat' (first | apply HL.fold | apply HA.fold | apply HL.nil | apply HX.n_then | apply HC.seq | apply HC.region | refine HL.pa ?_ | refine HL.ga rfl ?_ | refine HL.na rfl ?_ | refine HL.nu rfl rfl ?_ | apply HC.block | apply HC.skip | apply HC.exit | apply HC.ret | apply HX.e_block | refine HX.e_other rfl ?_ | apply HX.e_then | apply HX.e_again | apply HX.n_block | apply HX.r_then | apply HX.r_block | apply HX.r_again | refine HC.cond_yes rfl ?_ | refine HC.cond_no rfl ?_ | refine HL.one (H1.ldb rfl memA rfl rfl ?_) | refine HC.cond rfl (fun hc => ?_) (fun hc => ?_) | refine HC.cond_b rfl (fun hc => ?_) (fun hc => ?_))
            exact HX.ret1 rfl rfl fun w' hM => ⟨congrArg Value.bool (decide_eq_true rfl), hM.ext⟩
        · refine HP.one_a rfl ?_
          refine H1.lit (cs := ints [0, 1, 3]) rfl rfl rfl rfl rfl rfl (fun b24 => ?_)
          apply HB.fold
          refine HB.all (by exact Keep.nil) [21] (by kernel_rfl) rfl ⟨⟨_, rfl, ?_⟩, trivial⟩
          refine HP.one_a rfl ?_
          refine H1.lit (cs := ints [0]) rfl rfl rfl rfl rfl rfl (fun b21 => ?_)
          apply HB.fold
          refine HB.all (by exact Keep.nil) [23] (by kernel_rfl) rfl ⟨⟨_, rfl, ?_⟩, trivial⟩
          refine HP.one_a rfl ?_
          refine H1.callz1 (An := fun z : Option Addr × Nat => A.grow 3 1 z.1 z.2 3 (ints (natI [0, 1, 3]))) (V := fun z => .slice z.1 3 z.2) (I := fun _ => True) (vs := [.slice (some ⟨bf, 0, none⟩) 4 4, .slice (some ⟨b21, 0, none⟩) 1 1, .slice none 0 0, .slice none 0 0, .slice (some ⟨b22, 0, none⟩) 1 1]) rfl rfl (fun w' hM => strX hM memA memA memA) ?_
          rintro ⟨aS, cS⟩ -
          dsimp only
          apply HB.fold
          refine HB.all (by exact Keep.nil) [25] (by kernel_rfl) rfl ⟨⟨_, rfl, ?_⟩, trivial⟩
          refine HP.one_a rfl ?_
          refine H1.callx (vs := [.slice aS 3 cS, .slice (some ⟨b24, 0, none⟩) 3 3]) rfl rfl (fun w' hM => ksame_fn _ _ [0, 1, 3] [0, 1, 3] (by decide) (by decide) w' (hM.gr (a := aS) (c := cS) memA) (rdLit (b := b24) (l := [0, 1, 3]) hM memA)) ?_
          apply HB.fold
          refine HB.pa 26 rfl ?_
          refine HB.pa 27 rfl ?_
          refine HB.done (by exact Keep.nil) (by kernel_rfl) ?_
          repeat' (first | apply HL.fold | apply HA.fold | apply HL.nil | apply HX.n_then | apply HC.seq | apply HC.region | refine HL.pa ?_ | refine HL.ga rfl ?_ | refine HL.na rfl ?_ | refine HL.nu rfl rfl ?_ | apply HC.block | apply HC.skip | apply HC.exit | apply HC.ret | apply HX.e_block | refine HX.e_other rfl ?_ | apply HX.e_then | apply HX.e_again | apply HX.n_block | apply HX.r_then | apply HX.r_block | apply HX.r_again | refine HC.cond_yes rfl ?_ | refine HC.cond_no rfl ?_ | refine HL.one (H1.ldb rfl memA rfl rfl ?_) | refine HC.cond rfl (fun hc => ?_) (fun hc => ?_) | refine HC.cond_b rfl (fun hc => ?_) (fun hc => ?_))
          exact HX.ret1 rfl rfl fun w' hM => ⟨congrArg Value.bool (decide_eq_true rfl), hM.ext⟩
      · refine HP.one_a rfl ?_
        refine H1.lit (cs := ints [0]) rfl rfl rfl rfl rfl rfl (fun b21 => ?_)
        apply HB.fold
        refine HB.all (by exact Keep.nil) [20, 24] (by kernel_rfl) rfl ⟨⟨_, rfl, ?_⟩, ⟨_, rfl, ?_⟩, trivial⟩
        · refine HP.one_a rfl ?_
          refine H1.callz1 (vs := []) rfl rfl (fun w' _ => example_fn w') ?_
          rintro bf -
          apply HB.fold
          refine HB.all (by exact Keep.nil) [23, 24] (by kernel_rfl) rfl ⟨⟨_, rfl, ?_⟩, ⟨_, rfl, ?_⟩, trivial⟩
          · refine HP.one_a rfl ?_
            refine H1.callz1 (An := fun z : Option Addr × Nat => A.grow 3 1 z.1 z.2 3 (ints (natI [0, 1, 3]))) (V := fun z => .slice z.1 3 z.2) (I := fun _ => True) (vs := [.slice (some ⟨bf, 0, none⟩) 4 4, .slice (some ⟨b21, 0, none⟩) 1 1, .slice none 0 0, .slice none 0 0, .slice (some ⟨b22, 0, none⟩) 1 1]) rfl rfl (fun w' hM => strX hM memA memA memA) ?_
            rintro ⟨aS, cS⟩ -
            dsimp only
            apply HB.fold
            refine HB.all (by exact Keep.nil) [24] (by kernel_rfl) rfl ⟨⟨_, rfl, ?_⟩, trivial⟩
            refine HP.one_a rfl ?_
            refine H1.lit (cs := ints [0, 1, 3]) rfl rfl rfl rfl rfl rfl (fun b24 => ?_)
            apply HB.fold
            refine HB.all (by exact Keep.nil) [25] (by kernel_rfl) rfl ⟨⟨_, rfl, ?_⟩, trivial⟩
            refine HP.one_a rfl ?_
            refine H1.callx (vs := [.slice aS 3 cS, .slice (some ⟨b24, 0, none⟩) 3 3]) rfl rfl (fun w' hM => ksame_fn _ _ [0, 1, 3] [0, 1, 3] (by decide) (by decide) w' (hM.gr (a := aS) (c := cS) memA) (rdLit (b := b24) (l := [0, 1, 3]) hM memA)) ?_
            apply HB.fold
            refine HB.pa 26 rfl ?_
            refine HB.pa 27 rfl ?_
            refine HB.done (by exact Keep.nil) (by kernel_rfl) ?_
            repeat' (first | apply HL.fold | apply HA.fold | apply HL.nil | apply HX.n_then | apply HC.seq | apply HC.region | refine HL.pa ?_ | refine HL.ga rfl ?_ | refine HL.na rfl ?_ | refine HL.nu rfl rfl ?_ | apply HC.block | apply HC.skip | apply HC.exit | apply HC.ret | apply HX.e_block | refine HX.e_other rfl ?_ | apply HX.e_then | apply HX.e_again | apply HX.n_block | apply HX.r_then | apply HX.r_block | apply HX.r_again | refine HC.cond_yes rfl ?_ | refine HC.cond_no rfl ?_ | refine HL.one (H1.ldb rfl memA rfl rfl ?_) | refine HC.cond rfl (fun hc => ?_) (fun hc => ?_) | refine HC.cond_b rfl (fun hc => ?_) (fun hc => ?_))
            exact HX.ret1 rfl rfl fun w' hM => ⟨congrArg Value.bool (decide_eq_true rfl), hM.ext⟩
          · refine HP.one_a rfl ?_
            refine H1.lit (cs := ints [0, 1, 3]) rfl rfl rfl rfl rfl rfl (fun b24 => ?_)
            apply HB.fold
            refine HB.all (by exact Keep.nil) [23] (by kernel_rfl) rfl ⟨⟨_, rfl, ?_⟩, trivial⟩
            refine HP.one_a rfl ?_
            refine H1.callz1 (An := fun z : Option Addr × Nat => A.grow 3 1 z.1 z.2 3 (ints (natI [0, 1, 3]))) (V := fun z => .slice z.1 3 z.2) (I := fun _ => True) (vs := [.slice (some ⟨bf, 0, none⟩) 4 4, .slice (some ⟨b21, 0, none⟩) 1 1, .slice none 0 0, .slice none 0 0, .slice (some ⟨b22, 0, none⟩) 1 1]) rfl rfl (fun w' hM => strX hM memA memA memA) ?_
            rintro ⟨aS, cS⟩ -
            dsimp only
            apply HB.fold
            refine HB.all (by exact Keep.nil) [25] (by kernel_rfl) rfl ⟨⟨_, rfl, ?_⟩, trivial⟩
            refine HP.one_a rfl ?_
            refine H1.callx (vs := [.slice aS 3 cS, .slice (some ⟨b24, 0, none⟩) 3 3]) rfl rfl (fun w' hM => ksame_fn _ _ [0, 1, 3] [0, 1, 3] (by decide) (by decide) w' (hM.gr (a := aS) (c := cS) memA) (rdLit (b := b24) (l := [0, 1, 3]) hM memA)) ?_
            apply HB.fold
            refine HB.pa 26 rfl ?_
            refine HB.pa 27 rfl ?_
            refine HB.done (by exact Keep.nil) (by kernel_rfl) ?_
            repeat' (first | apply HL.fold | apply HA.fold | apply HL.nil | apply HX.n_then | apply HC.seq | apply HC.region | refine HL.pa ?_ | refine HL.ga rfl ?_ | refine HL.na rfl ?_ | refine HL.nu rfl rfl ?_ | apply HC.block | apply HC.skip | apply HC.exit | apply HC.ret | apply HX.e_block | refine HX.e_other rfl ?_ | apply HX.e_then | apply HX.e_again | apply HX.n_block | apply HX.r_then | apply HX.r_block | apply HX.r_again | refine HC.cond_yes rfl ?_ | refine HC.cond_no rfl ?_ | refine HL.one (H1.ldb rfl memA rfl rfl ?_) | refine HC.cond rfl (fun hc => ?_) (fun hc => ?_) | refine HC.cond_b rfl (fun hc => ?_) (fun hc => ?_))
            exact HX.ret1 rfl rfl fun w' hM => ⟨congrArg Value.bool (decide_eq_true rfl), hM.ext⟩
        · refine HP.one_a rfl ?_
          refine H1.lit (cs := ints [0, 1, 3]) rfl rfl rfl rfl rfl rfl (fun b24 => ?_)
          apply HB.fold
          refine HB.all (by exact Keep.nil) [20] (by kernel_rfl) rfl ⟨⟨_, rfl, ?_⟩, trivial⟩
          refine HP.one_a rfl ?_
          refine H1.callz1 (vs := []) rfl rfl (fun w' _ => example_fn w') ?_
          rintro bf -
          apply HB.fold
          refine HB.all (by exact Keep.nil) [23] (by kernel_rfl) rfl ⟨⟨_, rfl, ?_⟩, trivial⟩
          refine HP.one_a rfl ?_
          refine H1.callz1 (An := fun z : Option Addr × Nat => A.grow 3 1 z.1 z.2 3 (ints (natI [0, 1, 3]))) (V := fun z => .slice z.1 3 z.2) (I := fun _ => True) (vs := [.slice (some ⟨bf, 0, none⟩) 4 4, .slice (some ⟨b21, 0, none⟩) 1 1, .slice none 0 0, .slice none 0 0, .slice (some ⟨b22, 0, none⟩) 1 1]) rfl rfl (fun w' hM => strX hM memA memA memA) ?_
          rintro ⟨aS, cS⟩ -
          dsimp only
          apply HB.fold
          refine HB.all (by exact Keep.nil) [25] (by kernel_rfl) rfl ⟨⟨_, rfl, ?_⟩, trivial⟩
          refine HP.one_a rfl ?_
          refine H1.callx (vs := [.slice aS 3 cS, .slice (some ⟨b24, 0, none⟩) 3 3]) rfl rfl (fun w' hM => ksame_fn _ _ [0, 1, 3] [0, 1, 3] (by decide) (by decide) w' (hM.gr (a := aS) (c := cS) memA) (rdLit (b := b24) (l := [0, 1, 3]) hM memA)) ?_
          apply HB.fold
          refine HB.pa 26 rfl ?_
          refine HB.pa 27 rfl ?_
          refine HB.done (by exact Keep.nil) (by kernel_rfl) ?_
          repeat' (first | apply HL.fold | apply HA.fold | apply HL.nil | apply HX.n_then | apply HC.seq | apply HC.region | refine HL.pa ?_ | refine HL.ga rfl ?_ | refine HL.na rfl ?_ | refine HL.nu rfl rfl ?_ | apply HC.block | apply HC.skip | apply HC.exit | apply HC.ret | apply HX.e_block | refine HX.e_other rfl ?_ | apply HX.e_then | apply HX.e_again | apply HX.n_block | apply HX.r_then | apply HX.r_block | apply HX.r_again | refine HC.cond_yes rfl ?_ | refine HC.cond_no rfl ?_ | refine HL.one (H1.ldb rfl memA rfl rfl ?_) | refine HC.cond rfl (fun hc => ?_) (fun hc => ?_) | refine HC.cond_b rfl (fun hc => ?_) (fun hc => ?_))
          exact HX.ret1 rfl rfl fun w' hM => ⟨congrArg Value.bool (decide_eq_true rfl), hM.ext⟩
      · refine HP.one_a rfl ?_
        refine H1.lit (cs := ints [0, 1, 3]) rfl rfl rfl rfl rfl rfl (fun b24 => ?_)
        apply HB.fold
        refine HB.all (by exact Keep.nil) [20, 21] (by kernel_rfl) rfl ⟨⟨_, rfl, ?_⟩, ⟨_, rfl, ?_⟩, trivial⟩
        · refine HP.one_a rfl ?_
          refine H1.callz1 (vs := []) rfl rfl (fun w' _ => example_fn w') ?_
          rintro bf -
          apply HB.fold
          refine HB.all (by exact Keep.nil) [21] (by kernel_rfl) rfl ⟨⟨_, rfl, ?_⟩, trivial⟩
          refine HP.one_a rfl ?_
          refine H1.lit (cs := ints [0]) rfl rfl rfl rfl rfl rfl (fun b21 => ?_)
          apply HB.fold
          refine HB.all (by exact Keep.nil) [23] (by kernel_rfl) rfl ⟨⟨_, rfl, ?_⟩, trivial⟩
          refine HP.one_a rfl ?_
          refine H1.callz1 (An := fun z : Option Addr × Nat => A.grow 3 1 z.1 z.2 3 (ints (natI [0, 1, 3]))) (V := fun z => .slice z.1 3 z.2) (I := fun _ => True) (vs := [.slice (some ⟨bf, 0, none⟩) 4 4, .slice (some ⟨b21, 0, none⟩) 1 1, .slice none 0 0, .slice none 0 0, .slice (some ⟨b22, 0, none⟩) 1 1]) rfl rfl (fun w' hM => strX hM memA memA memA) ?_
          rintro ⟨aS, cS⟩ -
          dsimp only
          apply HB.fold
          refine HB.all (by exact Keep.nil) [25] (by kernel_rfl) rfl ⟨⟨_, rfl, ?_⟩, trivial⟩
          refine HP.one_a rfl ?_
          refine H1.callx (vs := [.slice aS 3 cS, .slice (some ⟨b24, 0, none⟩) 3 3]) rfl rfl (fun w' hM => ksame_fn _ _ [0, 1, 3] [0, 1, 3] (by decide) (by decide) w' (hM.gr (a := aS) (c := cS) memA) (rdLit (b := b24) (l := [0, 1, 3]) hM memA)) ?_
          apply HB.fold
          refine HB.pa 26 rfl ?_
          refine HB.pa 27 rfl ?_
          refine HB.done (by exact Keep.nil) (by kernel_rfl) ?_
          repeat' (first | apply HL.fold | apply HA.fold | apply HL.nil | apply HX.n_then | apply HC.seq | apply HC.region | refine HL.pa ?_ | refine HL.ga rfl ?_ | refine HL.na rfl ?_ | refine HL.nu rfl rfl ?_ | apply HC.block | apply HC.skip | apply HC.exit | apply HC.ret | apply HX.e_block | refine HX.e_other rfl ?_ | apply HX.e_then | apply HX.e_again | apply HX.n_block | apply HX.r_then | apply HX.r_block | apply HX.r_again | refine HC.cond_yes rfl ?_ | refine HC.cond_no rfl ?_ | refine HL.one (H1.ldb rfl memA rfl rfl ?_) | refine HC.cond rfl (fun hc => ?_) (fun hc => ?_) | refine HC.cond_b rfl (fun hc => ?_) (fun hc => ?_))
          exact HX.ret1 rfl rfl fun w' hM => ⟨congrArg Value.bool (decide_eq_true rfl), hM.ext⟩
        · refine HP.one_a rfl ?_
          refine H1.lit (cs := ints [0]) rfl rfl rfl rfl rfl rfl (fun b21 => ?_)
          apply HB.fold
          refine HB.all (by exact Keep.nil) [20] (by kernel_rfl) rfl ⟨⟨_, rfl, ?_⟩, trivial⟩
          refine HP.one_a rfl ?_
          refine H1.callz1 (vs := []) rfl rfl (fun w' _ => example_fn w') ?_
          rintro bf -
          apply HB.fold
          refine HB.all (by exact Keep.nil) [23] (by kernel_rfl) rfl ⟨⟨_, rfl, ?_⟩, trivial⟩
          refine HP.one_a rfl ?_
          refine H1.callz1 (An := fun z : Option Addr × Nat => A.grow 3 1 z.1 z.2 3 (ints (natI [0, 1, 3]))) (V := fun z => .slice z.1 3 z.2) (I := fun _ => True) (vs := [.slice (some ⟨bf, 0, none⟩) 4 4, .slice (some ⟨b21, 0, none⟩) 1 1, .slice none 0 0, .slice none 0 0, .slice (some ⟨b22, 0, none⟩) 1 1]) rfl rfl (fun w' hM => strX hM memA memA memA) ?_
          rintro ⟨aS, cS⟩ -
          dsimp only
          apply HB.fold
          refine HB.all (by exact Keep.nil) [25] (by kernel_rfl) rfl ⟨⟨_, rfl, ?_⟩, trivial⟩
          refine HP.one_a rfl ?_
          refine H1.callx (vs := [.slice aS 3 cS, .slice (some ⟨b24, 0, none⟩) 3 3]) rfl rfl (fun w' hM => ksame_fn _ _ [0, 1, 3] [0, 1, 3] (by decide) (by decide) w' (hM.gr (a := aS) (c := cS) memA) (rdLit (b := b24) (l := [0, 1, 3]) hM memA)) ?_
          apply HB.fold
          refine HB.pa 26 rfl ?_
          refine HB.pa 27 rfl ?_
          refine HB.done (by exact Keep.nil) (by kernel_rfl) ?_
          repeat' (first | apply HL.fold | apply HA.fold | apply HL.nil | apply HX.n_then | apply HC.seq | apply HC.region | refine HL.pa ?_ | refine HL.ga rfl ?_ | refine HL.na rfl ?_ | refine HL.nu rfl rfl ?_ | apply HC.block | apply HC.skip | apply HC.exit | apply HC.ret | apply HX.e_block | refine HX.e_other rfl ?_ | apply HX.e_then | apply HX.e_again | apply HX.n_block | apply HX.r_then | apply HX.r_block | apply HX.r_again | refine HC.cond_yes rfl ?_ | refine HC.cond_no rfl ?_ | refine HL.one (H1.ldb rfl memA rfl rfl ?_) | refine HC.cond rfl (fun hc => ?_) (fun hc => ?_) | refine HC.cond_b rfl (fun hc => ?_) (fun hc => ?_))
          exact HX.ret1 rfl rfl fun w' hM => ⟨congrArg Value.bool (decide_eq_true rfl), hM.ext⟩
    · refine HP.one_a rfl ?_
      refine H1.lit (cs := ints [0, 1, 3]) rfl rfl rfl rfl rfl rfl (fun b24 => ?_)
      apply HB.fold
      refine HB.all (by exact Keep.nil) [20, 21, 22] (by kernel_rfl) rfl ⟨⟨_, rfl, ?_⟩, ⟨_, rfl, ?_⟩, ⟨_, rfl, ?_⟩, trivial⟩
      · refine HP.one_a rfl ?_
        refine H1.callz1 (vs := []) rfl rfl (fun w' _ => example_fn w') ?_
        rintro bf -
        apply HB.fold
        refine HB.all (by exact Keep.nil) [21, 22] (by kernel_rfl) rfl ⟨⟨_, rfl, ?_⟩, ⟨_, rfl, ?_⟩, trivial⟩
        · refine HP.one_a rfl ?_
          refine H1.lit (cs := ints [0]) rfl rfl rfl rfl rfl rfl (fun b21 => ?_)
          apply HB.fold
          refine HB.all (by exact Keep.nil) [22] (by kernel_rfl) rfl ⟨⟨_, rfl, ?_⟩, trivial⟩
          refine HP.one_a rfl ?_
          refine H1.lit (cs := ints [3]) rfl rfl rfl rfl rfl rfl (fun b22 => ?_)
          apply HB.fold
          refine HB.all (by exact Keep.nil) [23] (by kernel_rfl) rfl ⟨⟨_, rfl, ?_⟩, trivial⟩
          refine HP.one_a rfl ?_
          refine H1.callz1 (An := fun z : Option Addr × Nat => A.grow 3 1 z.1 z.2 3 (ints (natI [0, 1, 3]))) (V := fun z => .slice z.1 3 z.2) (I := fun _ => True) (vs := [.slice (some ⟨bf, 0, none⟩) 4 4, .slice (some ⟨b21, 0, none⟩) 1 1, .slice none 0 0, .slice none 0 0, .slice (some ⟨b22, 0, none⟩) 1 1]) rfl rfl (fun w' hM => strX hM memA memA memA) ?_
          rintro ⟨aS, cS⟩ -
          dsimp only
          apply HB.fold
          refine HB.all (by exact Keep.nil) [25] (by kernel_rfl) rfl ⟨⟨_, rfl, ?_⟩, trivial⟩
          refine HP.one_a rfl ?_
          refine H1.callx (vs := [.slice aS 3 cS, .slice (some ⟨b24, 0, none⟩) 3 3]) rfl rfl (fun w' hM => ksame_fn _ _ [0, 1, 3] [0, 1, 3] (by decide) (by decide) w' (hM.gr (a := aS) (c := cS) memA) (rdLit (b := b24) (l := [0, 1, 3]) hM memA)) ?_
          apply HB.fold
          refine HB.pa 26 rfl ?_
          refine HB.pa 27 rfl ?_
          refine HB.done (by exact Keep.nil) (by kernel_rfl) ?_
          repeat' (first | apply HL.fold | apply HA.fold | apply HL.nil | apply HX.n_then | apply HC.seq | apply HC.region | refine HL.pa ?_ | refine HL.ga rfl ?_ | refine HL.na rfl ?_ | refine HL.nu rfl rfl ?_ | apply HC.block | apply HC.skip | apply HC.exit | apply HC.ret | apply HX.e_block | refine HX.e_other rfl ?_ | apply HX.e_then | apply HX.e_again | apply HX.n_block | apply HX.r_then | apply HX.r_block | apply HX.r_again | refine HC.cond_yes rfl ?_ | refine HC.cond_no rfl ?_ | refine HL.one (H1.ldb rfl memA rfl rfl ?_) | refine HC.cond rfl (fun hc => ?_) (fun hc => ?_) | refine HC.cond_b rfl (fun hc => ?_) (fun hc => ?_))
          exact HX.ret1 rfl rfl fun w' hM => ⟨congrArg Value.bool (decide_eq_true rfl), hM.ext⟩
        · refine HP.one_a rfl ?_
          refine H1.lit (cs := ints [3]) rfl rfl rfl rfl rfl rfl (fun b22 => ?_)
          apply HB.fold
          refine HB.all (by exact Keep.nil) [21] (by kernel_rfl) rfl ⟨⟨_, rfl, ?_⟩, trivial⟩
          refine HP.one_a rfl ?_
          refine H1.lit (cs := ints [0]) rfl rfl rfl rfl rfl rfl (fun b21 => ?_)
          apply HB.fold
          refine HB.all (by exact Keep.nil) [23] (by kernel_rfl) rfl ⟨⟨_, rfl, ?_⟩, trivial⟩
          refine HP.one_a rfl ?_
          refine H1.callz1 (An := fun z : Option Addr × Nat => A.grow 3 1 z.1 z.2 3 (ints (natI [0, 1, 3]))) (V := fun z => .slice z.1 3 z.2) (I := fun _ => True) (vs := [.slice (some ⟨bf, 0, none⟩) 4 4, .slice (some ⟨b21, 0, none⟩) 1 1, .slice none 0 0, .slice none 0 0, .slice (some ⟨b22, 0, none⟩) 1 1]) rfl rfl (fun w' hM => strX hM memA memA memA) ?_
          rintro ⟨aS, cS⟩ -
          dsimp only
          apply HB.fold
          refine HB.all (by exact Keep.nil) [25] (by kernel_rfl) rfl ⟨⟨_, rfl, ?_⟩, trivial⟩
          refine HP.one_a rfl ?_
          refine H1.callx (vs := [.slice aS 3 cS, .slice (some ⟨b24, 0, none⟩) 3 3]) rfl rfl (fun w' hM => ksame_fn _ _ [0, 1, 3] [0, 1, 3] (by decide) (by decide) w' (hM.gr (a := aS) (c := cS) memA) (rdLit (b := b24) (l := [0, 1, 3]) hM memA)) ?_
          apply HB.fold
          refine HB.pa 26 rfl ?_
          refine HB.pa 27 rfl ?_
          refine HB.done (by exact Keep.nil) (by kernel_rfl) ?_
          repeat' (first | apply HL.fold | apply HA.fold | apply HL.nil | apply HX.n_then | apply HC.seq | apply HC.region | refine HL.pa ?_ | refine HL.ga rfl ?_ | refine HL.na rfl ?_ | refine HL.nu rfl rfl ?_ | apply HC.block | apply HC.skip | apply HC.exit | apply HC.ret | apply HX.e_block | refine HX.e_other rfl ?_ | apply HX.e_then | apply HX.e_again | apply HX.n_block | apply HX.r_then | apply HX.r_block | apply HX.r_again | refine HC.cond_yes rfl ?_ | refine HC.cond_no rfl ?_ | refine HL.one (H1.ldb rfl memA rfl rfl ?_) | refine HC.cond rfl (fun hc => ?_) (fun hc => ?_) | refine HC.cond_b rfl (fun hc => ?_) (fun hc => ?_))
          exact HX.ret1 rfl rfl fun w' hM => ⟨congrArg Value.bool (decide_eq_true rfl), hM.ext⟩
      · refine HP.one_a rfl ?_
        refine H1.lit (cs := ints [0]) rfl rfl rfl rfl rfl rfl (fun b21 => ?_)
        apply HB.fold
        refine HB.all (by exact Keep.nil) [20, 22] (by kernel_rfl) rfl ⟨⟨_, rfl, ?_⟩, ⟨_, rfl, ?_⟩, trivial⟩
        · refine HP.one_a rfl ?_
          refine H1.callz1 (vs := []) rfl rfl (fun w' _ => example_fn w') ?_
          rintro bf -
          apply HB.fold
          refine HB.all (by exact Keep.nil) [22] (by kernel_rfl) rfl ⟨⟨_, rfl, ?_⟩, trivial⟩
          refine HP.one_a rfl ?_
          refine H1.lit (cs := ints [3]) rfl rfl rfl rfl rfl rfl (fun b22 => ?_)
          apply HB.fold
          refine HB.all (by exact Keep.nil) [23] (by kernel_rfl) rfl ⟨⟨_, rfl, ?_⟩, trivial⟩
          refine HP.one_a rfl ?_
          refine H1.callz1 (An := fun z : Option Addr × Nat => A.grow 3 1 z.1 z.2 3 (ints (natI [0, 1, 3]))) (V := fun z => .slice z.1 3 z.2) (I := fun _ => True) (vs := [.slice (some ⟨bf, 0, none⟩) 4 4, .slice (some ⟨b21, 0, none⟩) 1 1, .slice none 0 0, .slice none 0 0, .slice (some ⟨b22, 0, none⟩) 1 1]) rfl rfl (fun w' hM => strX hM memA memA memA) ?_
          rintro ⟨aS, cS⟩ -
          dsimp only
          apply HB.fold
          refine HB.all (by exact Keep.nil) [25] (by kernel_rfl) rfl ⟨⟨_, rfl, ?_⟩, trivial⟩
          refine HP.one_a rfl ?_
          refine H1.callx (vs := [.slice aS 3 cS, .slice (some ⟨b24, 0, none⟩) 3 3]) rfl rfl (fun w' hM => ksame_fn _ _ [0, 1, 3] [0, 1, 3] (by decide) (by decide) w' (hM.gr (a := aS) (c := cS) memA) (rdLit (b := b24) (l := [0, 1, 3]) hM memA)) ?_
          apply HB.fold
          refine HB.pa 26 rfl ?_
          refine HB.pa 27 rfl ?_
          refine HB.done (by exact Keep.nil) (by kernel_rfl) ?_
          repeat' (first | apply HL.fold | apply HA.fold | apply HL.nil | apply HX.n_then | apply HC.seq | apply HC.region | refine HL.pa ?_ | refine HL.ga rfl ?_ | refine HL.na rfl ?_ | refine HL.nu rfl rfl ?_ | apply HC.block | apply HC.skip | apply HC.exit | apply HC.ret | apply HX.e_block | refine HX.e_other rfl ?_ | apply HX.e_then | apply HX.e_again | apply HX.n_block | apply HX.r_then | apply HX.r_block | apply HX.r_again | refine HC.cond_yes rfl ?_ | refine HC.cond_no rfl ?_ | refine HL.one (H1.ldb rfl memA rfl rfl ?_) | refine HC.cond rfl (fun hc => ?_) (fun hc => ?_) | refine HC.cond_b rfl (fun hc => ?_) (fun hc => ?_))
          exact HX.ret1 rfl rfl fun w' hM => ⟨congrArg Value.bool (decide_eq_true rfl), hM.ext⟩
        · refine HP.one_a rfl ?_
          refine H1.lit (cs := ints [3]) rfl rfl rfl rfl rfl rfl (fun b22 => ?_)
          apply HB.fold
          refine HB.all (by exact Keep.nil) [20] (by kernel_rfl) rfl ⟨⟨_, rfl, ?_⟩, trivial⟩
          refine HP.one_a rfl ?_
          refine H1.callz1 (vs := []) rfl rfl (fun w' _ => example_fn w') ?_
          rintro bf -
          apply HB.fold
          refine HB.all (by exact Keep.nil) [23] (by kernel_rfl) rfl ⟨⟨_, rfl, ?_⟩, trivial⟩
          refine HP.one_a rfl ?_
          refine H1.callz1 (An := fun z : Option Addr × Nat => A.grow 3 1 z.1 z.2 3 (ints (natI [0, 1, 3]))) (V := fun z => .slice z.1 3 z.2) (I := fun _ => True) (vs := [.slice (some ⟨bf, 0, none⟩) 4 4, .slice (some ⟨b21, 0, none⟩) 1 1, .slice none 0 0, .slice none 0 0, .slice (some ⟨b22, 0, none⟩) 1 1]) rfl rfl (fun w' hM => strX hM memA memA memA) ?_
          rintro ⟨aS, cS⟩ -
          dsimp only
          apply HB.fold
          refine HB.all (by exact Keep.nil) [25] (by kernel_rfl) rfl ⟨⟨_, rfl, ?_⟩, trivial⟩
          refine HP.one_a rfl ?_
          refine H1.callx (vs := [.slice aS 3 cS, .slice (some ⟨b24, 0, none⟩) 3 3]) rfl rfl (fun w' hM => ksame_fn _ _ [0, 1, 3] [0, 1, 3] (by decide) (by decide) w' (hM.gr (a := aS) (c := cS) memA) (rdLit (b := b24) (l := [0, 1, 3]) hM memA)) ?_
          apply HB.fold
          refine HB.pa 26 rfl ?_
          refine HB.pa 27 rfl ?_
          refine HB.done (by exact Keep.nil) (by kernel_rfl) ?_
          repeat' (first | apply HL.fold | apply HA.fold | apply HL.nil | apply HX.n_then | apply HC.seq | apply HC.region | refine HL.pa ?_ | refine HL.ga rfl ?_ | refine HL.na rfl ?_ | refine HL.nu rfl rfl ?_ | apply HC.block | apply HC.skip | apply HC.exit | apply HC.ret | apply HX.e_block | refine HX.e_other rfl ?_ | apply HX.e_then | apply HX.e_again | apply HX.n_block | apply HX.r_then | apply HX.r_block | apply HX.r_again | refine HC.cond_yes rfl ?_ | refine HC.cond_no rfl ?_ | refine HL.one (H1.ldb rfl memA rfl rfl ?_) | refine HC.cond rfl (fun hc => ?_) (fun hc => ?_) | refine HC.cond_b rfl (fun hc => ?_) (fun hc => ?_))
          exact HX.ret1 rfl rfl fun w' hM => ⟨congrArg Value.bool (decide_eq_true rfl), hM.ext⟩
      · refine HP.one_a rfl ?_
        refine H1.lit (cs := ints [3]) rfl rfl rfl rfl rfl rfl (fun b22 => ?_)
        apply HB.fold
        refine HB.all (by exact Keep.nil) [20, 21] (by kernel_rfl) rfl ⟨⟨_, rfl, ?_⟩, ⟨_, rfl, ?_⟩, trivial⟩
        · refine HP.one_a rfl ?_
          refine H1.callz1 (vs := []) rfl rfl (fun w' _ => example_fn w') ?_
          rintro bf -
          apply HB.fold
          refine HB.all (by exact Keep.nil) [21] (by kernel_rfl) rfl ⟨⟨_, rfl, ?_⟩, trivial⟩
          refine HP.one_a rfl ?_
          refine H1.lit (cs := ints [0]) rfl rfl rfl rfl rfl rfl (fun b21 => ?_)
          apply HB.fold
          refine HB.all (by exact Keep.nil) [23] (by kernel_rfl) rfl ⟨⟨_, rfl, ?_⟩, trivial⟩
          refine HP.one_a rfl ?_
          refine H1.callz1 (An := fun z : Option Addr × Nat => A.grow 3 1 z.1 z.2 3 (ints (natI [0, 1, 3]))) (V := fun z => .slice z.1 3 z.2) (I := fun _ => True) (vs := [.slice (some ⟨bf, 0, none⟩) 4 4, .slice (some ⟨b21, 0, none⟩) 1 1, .slice none 0 0, .slice none 0 0, .slice (some ⟨b22, 0, none⟩) 1 1]) rfl rfl (fun w' hM => strX hM memA memA memA) ?_
          rintro ⟨aS, cS⟩ -
          dsimp only
          apply HB.fold
          refine HB.all (by exact Keep.nil) [25] (by kernel_rfl) rfl ⟨⟨_, rfl, ?_⟩, trivial⟩
          refine HP.one_a rfl ?_
          refine H1.callx (vs := [.slice aS 3 cS, .slice (some ⟨b24, 0, none⟩) 3 3]) rfl rfl (fun w' hM => ksame_fn _ _ [0, 1, 3] [0, 1, 3] (by decide) (by decide) w' (hM.gr (a := aS) (c := cS) memA) (rdLit (b := b24) (l := [0, 1, 3]) hM memA)) ?_
          apply HB.fold
          refine HB.pa 26 rfl ?_
          refine HB.pa 27 rfl ?_
          refine HB.done (by exact Keep.nil) (by kernel_rfl) ?_
          repeat' (first | apply HL.fold | apply HA.fold | apply HL.nil | apply HX.n_then | apply HC.seq | apply HC.region | refine HL.pa ?_ | refine HL.ga rfl ?_ | refine HL.na rfl ?_ | refine HL.nu rfl rfl ?_ | apply HC.block | apply HC.skip | apply HC.exit | apply HC.ret | apply HX.e_block | refine HX.e_other rfl ?_ | apply HX.e_then | apply HX.e_again | apply HX.n_block | apply HX.r_then | apply HX.r_block | apply HX.r_again | refine HC.cond_yes rfl ?_ | refine HC.cond_no rfl ?_ | refine HL.one (H1.ldb rfl memA rfl rfl ?_) | refine HC.cond rfl (fun hc => ?_) (fun hc => ?_) | refine HC.cond_b rfl (fun hc => ?_) (fun hc => ?_))
          exact HX.ret1 rfl rfl fun w' hM => ⟨congrArg Value.bool (decide_eq_true rfl), hM.ext⟩
        · refine HP.one_a rfl ?_
          refine H1.lit (cs := ints [0]) rfl rfl rfl rfl rfl rfl (fun b21 => ?_)
          apply HB.fold
          refine HB.all (by exact Keep.nil) [20] (by kernel_rfl) rfl ⟨⟨_, rfl, ?_⟩, trivial⟩
          refine HP.one_a rfl ?_
          refine H1.callz1 (vs := []) rfl rfl (fun w' _ => example_fn w') ?_
          rintro bf -
          apply HB.fold
          refine HB.all (by exact Keep.nil) [23] (by kernel_rfl) rfl ⟨⟨_, rfl, ?_⟩, trivial⟩
          refine HP.one_a rfl ?_
          refine H1.callz1 (An := fun z : Option Addr × Nat => A.grow 3 1 z.1 z.2 3 (ints (natI [0, 1, 3]))) (V := fun z => .slice z.1 3 z.2) (I := fun _ => True) (vs := [.slice (some ⟨bf, 0, none⟩) 4 4, .slice (some ⟨b21, 0, none⟩) 1 1, .slice none 0 0, .slice none 0 0, .slice (some ⟨b22, 0, none⟩) 1 1]) rfl rfl (fun w' hM => strX hM memA memA memA) ?_
          rintro ⟨aS, cS⟩ -
          dsimp only
          apply HB.fold
          refine HB.all (by exact Keep.nil) [25] (by kernel_rfl) rfl ⟨⟨_, rfl, ?_⟩, trivial⟩
          refine HP.one_a rfl ?_
          refine H1.callx (vs := [.slice aS 3 cS, .slice (some ⟨b24, 0, none⟩) 3 3]) rfl rfl (fun w' hM => ksame_fn _ _ [0, 1, 3] [0, 1, 3] (by decide) (by decide) w' (hM.gr (a := aS) (c := cS) memA) (rdLit (b := b24) (l := [0, 1, 3]) hM memA)) ?_
          apply HB.fold
          refine HB.pa 26 rfl ?_
          refine HB.pa 27 rfl ?_
          refine HB.done (by exact Keep.nil) (by kernel_rfl) ?_
          repeat' (first | apply HL.fold | apply HA.fold | apply HL.nil | apply HX.n_then | apply HC.seq | apply HC.region | refine HL.pa ?_ | refine HL.ga rfl ?_ | refine HL.na rfl ?_ | refine HL.nu rfl rfl ?_ | apply HC.block | apply HC.skip | apply HC.exit | apply HC.ret | apply HX.e_block | refine HX.e_other rfl ?_ | apply HX.e_then | apply HX.e_again | apply HX.n_block | apply HX.r_then | apply HX.r_block | apply HX.r_again | refine HC.cond_yes rfl ?_ | refine HC.cond_no rfl ?_ | refine HL.one (H1.ldb rfl memA rfl rfl ?_) | refine HC.cond rfl (fun hc => ?_) (fun hc => ?_) | refine HC.cond_b rfl (fun hc => ?_) (fun hc => ?_))
          exact HX.ret1 rfl rfl fun w' hM => ⟨congrArg Value.bool (decide_eq_true rfl), hM.ext⟩
  · refine HP.one_a rfl ?_
    refine H1.ldAgg (vs := twoD.cells) rfl memA rfl (fun i v hv => by rw [Nat.zero_add]; exact hv) rfl ?_
    apply HB.fold
    refine HB.all (by exact Keep.nil) [15] (by kernel_rfl) rfl ⟨⟨_, rfl, ?_⟩, trivial⟩
    refine HP.one_a rfl ?_
    refine H1.callz1 (vs := []) rfl rfl (fun w' _ => example_fn w') ?_
    rintro be -
    apply HB.fold
    refine HB.all (by exact Keep.nil) [17] (by kernel_rfl) rfl ⟨⟨_, rfl, ?_⟩, trivial⟩
    refine HP.one_a rfl ?_
    refine H1.callx (vs := [.slice (some ⟨be, 0, none⟩) 4 4, .agg twoD.cells.toArray]) rfl rfl (fun w' hM => pvalid_fn _ ex4 twoD (by decide) w' (exS (b := be) hM memA)) ?_
    rw [v2]
    apply HB.fold
    refine HB.pa 18 rfl ?_
    refine HB.pa 19 rfl ?_
    refine HB.all (by exact Keep.nil) [20, 21, 22, 24] (by kernel_rfl) rfl ⟨⟨_, rfl, ?_⟩, ⟨_, rfl, ?_⟩, ⟨_, rfl, ?_⟩, ⟨_, rfl, ?_⟩, trivial⟩
    · refine HP.one_a rfl ?_
      refine H1.callz1 (vs := []) rfl rfl (fun w' _ => example_fn w') ?_
      rintro bf -
      apply HB.fold
      refine HB.all (by exact Keep.nil) [21, 22, 24] (by kernel_rfl) rfl ⟨⟨_, rfl, ?_⟩, ⟨_, rfl, ?_⟩, ⟨_, rfl, ?_⟩, trivial⟩
      · refine HP.one_a rfl ?_
        refine H1.lit (cs := ints [0]) rfl rfl rfl rfl rfl rfl (fun b21 => ?_)
        apply HB.fold
        refine HB.all (by exact Keep.nil) [22, 24] (by kernel_rfl) rfl ⟨⟨_, rfl, ?_⟩, ⟨_, rfl, ?_⟩, trivial⟩
        · refine HP.one_a rfl ?_
          refine H1.lit (cs := ints [3]) rfl rfl rfl rfl rfl rfl (fun b22 => ?_)
          apply HB.fold
          refine HB.all (by exact Keep.nil) [23, 24] (by kernel_rfl) rfl ⟨⟨_, rfl, ?_⟩, ⟨_, rfl, ?_⟩, trivial⟩
          · refine HP.one_a rfl ?_
            refine H1.callz1 (An := fun z : Option Addr × Nat => A.grow 3 1 z.1 z.2 3 (ints (natI [0, 1, 3]))) (V := fun z => .slice z.1 3 z.2) (I := fun _ => True) (vs := [.slice (some ⟨bf, 0, none⟩) 4 4, .slice (some ⟨b21, 0, none⟩) 1 1, .slice none 0 0, .slice none 0 0, .slice (some ⟨b22, 0, none⟩) 1 1]) rfl rfl (fun w' hM => strX hM memA memA memA) ?_
            rintro ⟨aS, cS⟩ -
            dsimp only
            apply HB.fold
            refine HB.all (by exact Keep.nil) [24] (by kernel_rfl) rfl ⟨⟨_, rfl, ?_⟩, trivial⟩
            refine HP.one_a rfl ?_
            refine H1.lit (cs := ints [0, 1, 3]) rfl rfl rfl rfl rfl rfl (fun b24 => ?_)
            apply HB.fold
            refine HB.all (by exact Keep.nil) [25] (by kernel_rfl) rfl ⟨⟨_, rfl, ?_⟩, trivial⟩
            refine HP.one_a rfl ?_
            refine H1.callx (vs := [.slice aS 3 cS, .slice (some ⟨b24, 0, none⟩) 3 3]) rfl rfl (fun w' hM => ksame_fn _ _ [0, 1, 3] [0, 1, 3] (by decide) (by decide) w' (hM.gr (a := aS) (c := cS) memA) (rdLit (b := b24) (l := [0, 1, 3]) hM memA)) ?_
            apply HB.fold
            refine HB.pa 26 rfl ?_
            refine HB.pa 27 rfl ?_
            refine HB.done (by exact Keep.nil) (by kernel_rfl) ?_
            repeat' (first | apply HL.fold | apply HA.fold | apply HL.nil | apply HX.n_then | apply HC.seq | apply HC.region | refine HL.pa ?_ | refine HL.ga rfl ?_ | refine HL.na rfl ?_ | refine HL.nu rfl rfl ?_ | apply HC.block | apply HC.skip | apply HC.exit | apply HC.ret | apply HX.e_block | refine HX.e_other rfl ?_ | apply HX.e_then | apply HX.e_again | apply HX.n_block | apply HX.r_then | apply HX.r_block | apply HX.r_again | refine HC.cond_yes rfl ?_ | refine HC.cond_no rfl ?_ | refine HL.one (H1.ldb rfl memA rfl rfl ?_) | refine HC.cond rfl (fun hc => ?_) (fun hc => ?_) | refine HC.cond_b rfl (fun hc => ?_) (fun hc => ?_))
            exact HX.ret1 rfl rfl fun w' hM => ⟨congrArg Value.bool (decide_eq_true rfl), hM.ext⟩
          · refine HP.one_a rfl ?_
            refine H1.lit (cs := ints [0, 1, 3]) rfl rfl rfl rfl rfl rfl (fun b24 => ?_)
            apply HB.fold
            refine HB.all (by exact Keep.nil) [23] (by kernel_rfl) rfl ⟨⟨_, rfl, ?_⟩, trivial⟩
            refine HP.one_a rfl ?_
            refine H1.callz1 (An := fun z : Option Addr × Nat => A.grow 3 1 z.1 z.2 3 (ints (natI [0, 1, 3]))) (V := fun z => .slice z.1 3 z.2) (I := fun _ => True) (vs := [.slice (some ⟨bf, 0, none⟩) 4 4, .slice (some ⟨b21, 0, none⟩) 1 1, .slice none 0 0, .slice none 0 0, .slice (some ⟨b22, 0, none⟩) 1 1]) rfl rfl (fun w' hM => strX hM memA memA memA) ?_
            rintro ⟨aS, cS⟩ -
            dsimp only
            apply HB.fold
            refine HB.all (by exact Keep.nil) [25] (by kernel_rfl) rfl ⟨⟨_, rfl, ?_⟩, trivial⟩
            refine HP.one_a rfl ?_
            refine H1.callx (vs := [.slice aS 3 cS, .slice (some ⟨b24, 0, none⟩) 3 3]) rfl rfl (fun w' hM => ksame_fn _ _ [0, 1, 3] [0, 1, 3] (by decide) (by decide) w' (hM.gr (a := aS) (c := cS) memA) (rdLit (b := b24) (l := [0, 1, 3]) hM memA)) ?_
            apply HB.fold
            refine HB.pa 26 rfl ?_
            refine HB.pa 27 rfl ?_
            refine HB.done (by exact Keep.nil) (by kernel_rfl) ?_
            repeat' (first | apply HL.fold | apply HA.fold | apply HL.nil | apply HX.n_then | apply HC.seq | apply HC.region | refine HL.pa ?_ | refine HL.ga rfl ?_ | refine HL.na rfl ?_ | refine HL.nu rfl rfl ?_ | apply HC.block | apply HC.skip | apply HC.exit | apply HC.ret | apply HX.e_block | refine HX.e_other rfl ?_ | apply HX.e_then | apply HX.e_again | apply HX.n_block | apply HX.r_then | apply HX.r_block | apply HX.r_again | refine HC.cond_yes rfl ?_ | refine HC.cond_no rfl ?_ | refine HL.one (H1.ldb rfl memA rfl rfl ?_) | refine HC.cond rfl (fun hc => ?_) (fun hc => ?_) | refine HC.cond_b rfl (fun hc => ?_) (fun hc => ?_))
            exact HX.ret1 rfl rfl fun w' hM => ⟨congrArg Value.bool (decide_eq_true rfl), hM.ext⟩
        · refine HP.one_a rfl ?_
          refine H1.lit (cs := ints [0, 1, 3]) rfl rfl rfl rfl rfl rfl (fun b24 => ?_)
          apply HB.fold
          refine HB.all (by exact Keep.nil) [22] (by kernel_rfl) rfl ⟨⟨_, rfl, ?_⟩, trivial⟩
          refine HP.one_a rfl ?_
          refine H1.lit (cs := ints [3]) rfl rfl rfl rfl rfl rfl (fun b22 => ?_)
          apply HB.fold
          refine HB.all (by exact Keep.nil) [23] (by kernel_rfl) rfl ⟨⟨_, rfl, ?_⟩, trivial⟩
          refine HP.one_a rfl ?_
          refine H1.callz1 (An := fun z : Option Addr × Nat => A.grow 3 1 z.1 z.2 3 (ints (natI [0, 1, 3]))) (V := fun z => .slice z.1 3 z.2) (I := fun _ => True) (vs := [.slice (some ⟨bf, 0, none⟩) 4 4, .slice (some ⟨b21, 0, none⟩) 1 1, .slice none 0 0, .slice none 0 0, .slice (some ⟨b22, 0, none⟩) 1 1]) rfl rfl (fun w' hM => strX hM memA memA memA) ?_
          rintro ⟨aS, cS⟩ -
          dsimp only
          apply HB.fold
          refine HB.all (by exact Keep.nil) [25] (by kernel_rfl) rfl ⟨⟨_, rfl, ?_⟩, trivial⟩
          refine HP.one_a rfl ?_
          refine H1.callx (vs := [.slice aS 3 cS, .slice (some ⟨b24, 0, none⟩) 3 3]) rfl rfl (fun w' hM => ksame_fn _ _ [0, 1, 3] [0, 1, 3] (by decide) (by decide) w' (hM.gr (a := aS) (c := cS) memA) (rdLit (b := b24) (l := [0, 1, 3]) hM memA)) ?_
          apply HB.fold
          refine HB.pa 26 rfl ?_
          refine HB.pa 27 rfl ?_
          refine HB.done (by exact Keep.nil) (by kernel_rfl) ?_
          repeat' (first | apply HL.fold | apply HA.fold | apply HL.nil | apply HX.n_then | apply HC.seq | apply HC.region | refine HL.pa ?_ | refine HL.ga rfl ?_ | refine HL.na rfl ?_ | refine HL.nu rfl rfl ?_ | apply HC.block | apply HC.skip | apply HC.exit | apply HC.ret | apply HX.e_block | refine HX.e_other rfl ?_ | apply HX.e_then | apply HX.e_again | apply HX.n_block | apply HX.r_then | apply HX.r_block | apply HX.r_again | refine HC.cond_yes rfl ?_ | refine HC.cond_no rfl ?_ | refine HL.one (H1.ldb rfl memA rfl rfl ?_) | refine HC.cond rfl (fun hc => ?_) (fun hc => ?_) | refine HC.cond_b rfl (fun hc => ?_) (fun hc => ?_))
          exact HX.ret1 rfl rfl fun w' hM => ⟨congrArg Value.bool (decide_eq_true rfl), hM.ext⟩
      · refine HP.one_a rfl ?_
        refine H1.lit (cs := ints [3]) rfl rfl rfl rfl rfl rfl (fun b22 => ?_)
        apply HB.fold
        refine HB.all (by exact Keep.nil) [21, 24] (by kernel_rfl) rfl ⟨⟨_, rfl, ?_⟩, ⟨_, rfl, ?_⟩, trivial⟩
        · refine HP.one_a rfl ?_
          refine H1.lit (cs := ints [0]) rfl rfl rfl rfl rfl rfl (fun b21 => ?_)
          apply HB.fold
          refine HB.all (by exact Keep.nil) [23, 24] (by kernel_rfl) rfl ⟨⟨_, rfl, ?_⟩, ⟨_, rfl, ?_⟩, trivial⟩
          · refine HP.one_a rfl ?_
            refine H1.callz1 (An := fun z : Option Addr × Nat => A.grow 3 1 z.1 z.2 3 (ints (natI [0, 1, 3]))) (V := fun z => .slice z.1 3 z.2) (I := fun _ => True) (vs := [.slice (some ⟨bf, 0, none⟩) 4 4, .slice (some ⟨b21, 0, none⟩) 1 1, .slice none 0 0, .slice none 0 0, .slice (some ⟨b22, 0, none⟩) 1 1]) rfl rfl (fun w' hM => strX hM memA memA memA) ?_
            rintro ⟨aS, cS⟩ -
            dsimp only
            apply HB.fold
            refine HB.all (by exact Keep.nil) [24] (by kernel_rfl) rfl ⟨⟨_, rfl, ?_⟩, trivial⟩
            refine HP.one_a rfl ?_
            refine H1.lit (cs := ints [0, 1, 3]) rfl rfl rfl rfl rfl rfl (fun b24 => ?_)
            apply HB.fold
            refine HB.all (by exact Keep.nil) [25] (by kernel_rfl) rfl ⟨⟨_, rfl, ?_⟩, trivial⟩
            refine HP.one_a rfl ?_
            refine H1.callx (vs := [.slice aS 3 cS, .slice (some ⟨b24, 0, none⟩) 3 3]) rfl rfl (fun w' hM => ksame_fn _ _ [0, 1, 3] [0, 1, 3] (by decide) (by decide) w' (hM.gr (a := aS) (c := cS) memA) (rdLit (b := b24) (l := [0, 1, 3]) hM memA)) ?_
            apply HB.fold
            refine HB.pa 26 rfl ?_
            refine HB.pa 27 rfl ?_
            refine HB.done (by exact Keep.nil) (by kernel_rfl) ?_
            repeat' (first | apply HL.fold | apply HA.fold | apply HL.nil | apply HX.n_then | apply HC.seq | apply HC.region | refine HL.pa ?_ | refine HL.ga rfl ?_ | refine HL.na rfl ?_ | refine HL.nu rfl rfl ?_ | apply HC.block | apply HC.skip | apply HC.exit | apply HC.ret | apply HX.e_block | refine HX.e_other rfl ?_ | apply HX.e_then | apply HX.e_again | apply HX.n_block | apply HX.r_then | apply HX.r_block | apply HX.r_again | refine HC.cond_yes rfl ?_ | refine HC.cond_no rfl ?_ | refine HL.one (H1.ldb rfl memA rfl rfl ?_) | refine HC.cond rfl (fun hc => ?_) (fun hc => ?_) | refine HC.cond_b rfl (fun hc => ?_) (fun hc => ?_))
            exact HX.ret1 rfl rfl fun w' hM => ⟨congrArg Value.bool (decide_eq_true rfl), hM.ext⟩
          · refine HP.one_a rfl ?_
            refine H1.lit (cs := ints [0, 1, 3]) rfl rfl rfl rfl rfl rfl (fun b24 => ?_)
            apply HB.fold
            refine HB.all (by exact Keep.nil) [23] (by kernel_rfl) rfl ⟨⟨_, rfl, ?_⟩, trivial⟩
            refine HP.one_a rfl ?_
            refine H1.callz1 (An := fun z : Option Addr × Nat => A.grow 3 1 z.1 z.2 3 (ints (natI [0, 1, 3]))) (V := fun z => .slice z.1 3 z.2) (I := fun _ => True) (vs := [.slice (some ⟨bf, 0, none⟩) 4 4, .slice (some ⟨b21, 0, none⟩) 1 1, .slice none 0 0, .slice none 0 0, .slice (some ⟨b22, 0, none⟩) 1 1]) rfl rfl (fun w' hM => strX hM memA memA memA) ?_
            rintro ⟨aS, cS⟩ -
            dsimp only
            apply HB.fold
            refine HB.all (by exact Keep.nil) [25] (by kernel_rfl) rfl ⟨⟨_, rfl, ?_⟩, trivial⟩
            refine HP.one_a rfl ?_
            refine H1.callx (vs := [.slice aS 3 cS, .slice (some ⟨b24, 0, none⟩) 3 3]) rfl rfl (fun w' hM => ksame_fn _ _ [0, 1, 3] [0, 1, 3] (by decide) (by decide) w' (hM.gr (a := aS) (c := cS) memA) (rdLit (b := b24) (l := [0, 1, 3]) hM memA)) ?_
            apply HB.fold
            refine HB.pa 26 rfl ?_
            refine HB.pa 27 rfl ?_
            refine HB.done (by exact Keep.nil) (by kernel_rfl) ?_
            repeat' (first | apply HL.fold | apply HA.fold | apply HL.nil | apply HX.n_then | apply HC.seq | apply HC.region | refine HL.pa ?_ | refine HL.ga rfl ?_ | refine HL.na rfl ?_ | refine HL.nu rfl rfl ?_ | apply HC.block | apply HC.skip | apply HC.exit | apply HC.ret | apply HX.e_block | refine HX.e_other rfl ?_ | apply HX.e_then | apply HX.e_again | apply HX.n_block | apply HX.r_then | apply HX.r_block | apply HX.r_again | refine HC.cond_yes rfl ?_ | refine HC.cond_no rfl ?_ | refine HL.one (H1.ldb rfl memA rfl rfl ?_) | refine HC.cond rfl (fun hc => ?_) (fun hc => ?_) | refine HC.cond_b rfl (fun hc => ?_) (fun hc => ?_))
            exact HX.ret1 rfl rfl fun w' hM => ⟨congrArg Value.bool (decide_eq_true rfl), hM.ext⟩
        · refine HP.one_a rfl ?_
          refine H1.lit (cs := ints [0, 1, 3]) rfl rfl rfl rfl rfl rfl (fun b24 => ?_)
          apply HB.fold
          refine HB.all (by exact Keep.nil) [21] (by kernel_rfl) rfl ⟨⟨_, rfl, ?_⟩, trivial⟩
          refine HP.one_a rfl ?_
          refine H1.lit (cs := ints [0]) rfl rfl rfl rfl rfl rfl (fun b21 => ?_)
          apply HB.fold
          refine HB.all (by exact Keep.nil) [23] (by kernel_rfl) rfl ⟨⟨_, rfl, ?_⟩, trivial⟩
          refine HP.one_a rfl ?_
          refine H1.callz1 (An := fun z : Option Addr × Nat => A.grow 3 1 z.1 z.2 3 (ints (natI [0, 1, 3]))) (V := fun z => .slice z.1 3 z.2) (I := fun _ => True) (vs := [.slice (some ⟨bf, 0, none⟩) 4 4, .slice (some ⟨b21, 0, none⟩) 1 1, .slice none 0 0, .slice none 0 0, .slice (some ⟨b22, 0, none⟩) 1 1]) rfl rfl (fun w' hM => strX hM memA memA memA) ?_
          rintro ⟨aS, cS⟩ -
          dsimp only
          apply HB.fold
          refine HB.all (by exact Keep.nil) [25] (by kernel_rfl) rfl ⟨⟨_, rfl, ?_⟩, trivial⟩
          refine HP.one_a rfl ?_
          refine H1.callx (vs := [.slice aS 3 cS, .slice (some ⟨b24, 0, none⟩) 3 3]) rfl rfl (fun w' hM => ksame_fn _ _ [0, 1, 3] [0, 1, 3] (by decide) (by decide) w' (hM.gr (a := aS) (c := cS) memA) (rdLit (b := b24) (l := [0, 1, 3]) hM memA)) ?_
          apply HB.fold
          refine HB.pa 26 rfl ?_
          refine HB.pa 27 rfl ?_
          refine HB.done (by exact Keep.nil) (by kernel_rfl) ?_
          repeat' (first | apply HL.fold | apply HA.fold | apply HL.nil | apply HX.n_then | apply HC.seq | apply HC.region | refine HL.pa ?_ | refine HL.ga rfl ?_ | refine HL.na rfl ?_ | refine HL.nu rfl rfl ?_ | apply HC.block | apply HC.skip | apply HC.exit | apply HC.ret | apply HX.e_block | refine HX.e_other rfl ?_ | apply HX.e_then | apply HX.e_again | apply HX.n_block | apply HX.r_then | apply HX.r_block | apply HX.r_again | refine HC.cond_yes rfl ?_ | refine HC.cond_no rfl ?_ | refine HL.one (H1.ldb rfl memA rfl rfl ?_) | refine HC.cond rfl (fun hc => ?_) (fun hc => ?_) | refine HC.cond_b rfl (fun hc => ?_) (fun hc => ?_))
          exact HX.ret1 rfl rfl fun w' hM => ⟨congrArg Value.bool (decide_eq_true rfl), hM.ext⟩
      · refine HP.one_a rfl ?_
        refine H1.lit (cs := ints [0, 1, 3]) rfl rfl rfl rfl rfl rfl (fun b24 => ?_)
        apply HB.fold
        refine HB.all (by exact Keep.nil) [21, 22] (by kernel_rfl) rfl ⟨⟨_, rfl, ?_⟩, ⟨_, rfl, ?_⟩, trivial⟩
        · refine HP.one_a rfl ?_
          refine H1.lit (cs := ints [0]) rfl rfl rfl rfl rfl rfl (fun b21 => ?_)
          apply HB.fold
          refine HB.all (by exact Keep.nil) [22] (by kernel_rfl) rfl ⟨⟨_, rfl, ?_⟩, trivial⟩
          refine HP.one_a rfl ?_
          refine H1.lit (cs := ints [3]) rfl rfl rfl rfl rfl rfl (fun b22 => ?_)
          apply HB.fold
          refine HB.all (by exact Keep.nil) [23] (by kernel_rfl) rfl ⟨⟨_, rfl, ?_⟩, trivial⟩
          refine HP.one_a rfl ?_
          refine H1.callz1 (An := fun z : Option Addr × Nat => A.grow 3 1 z.1 z.2 3 (ints (natI [0, 1, 3]))) (V := fun z => .slice z.1 3 z.2) (I := fun _ => True) (vs := [.slice (some ⟨bf, 0, none⟩) 4 4, .slice (some ⟨b21, 0, none⟩) 1 1, .slice none 0 0, .slice none 0 0, .slice (some ⟨b22, 0, none⟩) 1 1]) rfl rfl (fun w' hM => strX hM memA memA memA) ?_
          rintro ⟨aS, cS⟩ -
          dsimp only
          apply HB.fold
          refine HB.all (by exact Keep.nil) [25] (by kernel_rfl) rfl ⟨⟨_, rfl, ?_⟩, trivial⟩
          refine HP.one_a rfl ?_
          refine H1.callx (vs := [.slice aS 3 cS, .slice (some ⟨b24, 0, none⟩) 3 3]) rfl rfl (fun w' hM => ksame_fn _ _ [0, 1, 3] [0, 1, 3] (by decide) (by decide) w' (hM.gr (a := aS) (c := cS) memA) (rdLit (b := b24) (l := [0, 1, 3]) hM memA)) ?_
          apply HB.fold
          refine HB.pa 26 rfl ?_
          refine HB.pa 27 rfl ?_
          refine HB.done (by exact Keep.nil) (by kernel_rfl) ?_
          repeat' (first | apply HL.fold | apply HA.fold | apply HL.nil | apply HX.n_then | apply HC.seq | apply HC.region | refine HL.pa ?_ | refine HL.ga rfl ?_ | refine HL.na rfl ?_ | refine HL.nu rfl rfl ?_ | apply HC.block | apply HC.skip | apply HC.exit | apply HC.ret | apply HX.e_block | refine HX.e_other rfl ?_ | apply HX.e_then | apply HX.e_again | apply HX.n_block | apply HX.r_then | apply HX.r_block | apply HX.r_again | refine HC.cond_yes rfl ?_ | refine HC.cond_no rfl ?_ | refine HL.one (H1.ldb rfl memA rfl rfl ?_) | refine HC.cond rfl (fun hc => ?_) (fun hc => ?_) | refine HC.cond_b rfl (fun hc => ?_) (fun hc => ?_))
          exact HX.ret1 rfl rfl fun w' hM => ⟨congrArg Value.bool (decide_eq_true rfl), hM.ext⟩
        · refine HP.one_a rfl ?_
          refine H1.lit (cs := ints [3]) rfl rfl rfl rfl rfl rfl (fun b22 => ?_)
          apply HB.fold
          refine HB.all (by exact Keep.nil) [21] (by kernel_rfl) rfl ⟨⟨_, rfl, ?_⟩, trivial⟩
          refine HP.one_a rfl ?_
          refine H1.lit (cs := ints [0]) rfl rfl rfl rfl rfl rfl (fun b21 => ?_)
          apply HB.fold
          refine HB.all (by exact Keep.nil) [23] (by kernel_rfl) rfl ⟨⟨_, rfl, ?_⟩, trivial⟩
          refine HP.one_a rfl ?_
          refine H1.callz1 (An := fun z : Option Addr × Nat => A.grow 3 1 z.1 z.2 3 (ints (natI [0, 1, 3]))) (V := fun z => .slice z.1 3 z.2) (I := fun _ => True) (vs := [.slice (some ⟨bf, 0, none⟩) 4 4, .slice (some ⟨b21, 0, none⟩) 1 1, .slice none 0 0, .slice none 0 0, .slice (some ⟨b22, 0, none⟩) 1 1]) rfl rfl (fun w' hM => strX hM memA memA memA) ?_
          rintro ⟨aS, cS⟩ -
          dsimp only
          apply HB.fold
          refine HB.all (by exact Keep.nil) [25] (by kernel_rfl) rfl ⟨⟨_, rfl, ?_⟩, trivial⟩
          refine HP.one_a rfl ?_
          refine H1.callx (vs := [.slice aS 3 cS, .slice (some ⟨b24, 0, none⟩) 3 3]) rfl rfl (fun w' hM => ksame_fn _ _ [0, 1, 3] [0, 1, 3] (by decide) (by decide) w' (hM.gr (a := aS) (c := cS) memA) (rdLit (b := b24) (l := [0, 1, 3]) hM memA)) ?_
          apply HB.fold
          refine HB.pa 26 rfl ?_
          refine HB.pa 27 rfl ?_
          refine HB.done (by exact Keep.nil) (by kernel_rfl) ?_
          repeat' (first | apply HL.fold | apply HA.fold | apply HL.nil | apply HX.n_then | apply HC.seq | apply HC.region | refine HL.pa ?_ | refine HL.ga rfl ?_ | refine HL.na rfl ?_ | refine HL.nu rfl rfl ?_ | apply HC.block | apply HC.skip | apply HC.exit | apply HC.ret | apply HX.e_block | refine HX.e_other rfl ?_ | apply HX.e_then | apply HX.e_again | apply HX.n_block | apply HX.r_then | apply HX.r_block | apply HX.r_again | refine HC.cond_yes rfl ?_ | refine HC.cond_no rfl ?_ | refine HL.one (H1.ldb rfl memA rfl rfl ?_) | refine HC.cond rfl (fun hc => ?_) (fun hc => ?_) | refine HC.cond_b rfl (fun hc => ?_) (fun hc => ?_))
          exact HX.ret1 rfl rfl fun w' hM => ⟨congrArg Value.bool (decide_eq_true rfl), hM.ext⟩
    · refine HP.one_a rfl ?_
      refine H1.lit (cs := ints [0]) rfl rfl rfl rfl rfl rfl (fun b21 => ?_)
      apply HB.fold
      refine HB.all (by exact Keep.nil) [20, 22, 24] (by kernel_rfl) rfl ⟨⟨_, rfl, ?_⟩, ⟨_, rfl, ?_⟩, ⟨_, rfl, ?_⟩, trivial⟩
      · refine HP.one_a rfl ?_
        refine H1.callz1 (vs := []) rfl rfl (fun w' _ => example_fn w') ?_
        rintro bf -
        apply HB.fold
        refine HB.all (by exact Keep.nil) [22, 24] (by kernel_rfl) rfl ⟨⟨_, rfl, ?_⟩, ⟨_, rfl, ?_⟩, trivial⟩
        · refine HP.one_a rfl ?_
          refine H1.lit (cs := ints [3]) rfl rfl rfl rfl rfl rfl (fun b22 => ?_)
          apply HB.fold
          refine HB.all (by exact Keep.nil) [23, 24] (by kernel_rfl) rfl ⟨⟨_, rfl, ?_⟩, ⟨_, rfl, ?_⟩, trivial⟩
          · refine HP.one_a rfl ?_
            refine H1.callz1 (An := fun z : Option Addr × Nat => A.grow 3 1 z.1 z.2 3 (ints (natI [0, 1, 3]))) (V := fun z => .slice z.1 3 z.2) (I := fun _ => True) (vs := [.slice (some ⟨bf, 0, none⟩) 4 4, .slice (some ⟨b21, 0, none⟩) 1 1, .slice none 0 0, .slice none 0 0, .slice (some ⟨b22, 0, none⟩) 1 1]) rfl rfl (fun w' hM => strX hM memA memA memA) ?_
            rintro ⟨aS, cS⟩ -
            dsimp only
            apply HB.fold
            refine HB.all (by exact Keep.nil) [24] (by kernel_rfl) rfl ⟨⟨_, rfl, ?_⟩, trivial⟩
            refine HP.one_a rfl ?_
            refine H1.lit (cs := ints [0, 1, 3]) rfl rfl rfl rfl rfl rfl (fun b24 => ?_)
            apply HB.fold
            refine HB.all (by exact Keep.nil) [25] (by kernel_rfl) rfl ⟨⟨_, rfl, ?_⟩, trivial⟩
            refine HP.one_a rfl ?_
            refine H1.callx (vs := [.slice aS 3 cS, .slice (some ⟨b24, 0, none⟩) 3 3]) rfl rfl (fun w' hM => ksame_fn _ _ [0, 1, 3] [0, 1, 3] (by decide) (by decide) w' (hM.gr (a := aS) (c := cS) memA) (rdLit (b := b24) (l := [0, 1, 3]) hM memA)) ?_
            apply HB.fold
            refine HB.pa 26 rfl ?_
            refine HB.pa 27 rfl ?_
            refine HB.done (by exact Keep.nil) (by kernel_rfl) ?_
            repeat' (first | apply HL.fold | apply HA.fold | apply HL.nil | apply HX.n_then | apply HC.seq | apply HC.region | refine HL.pa ?_ | refine HL.ga rfl ?_ | refine HL.na rfl ?_ | refine HL.nu rfl rfl ?_ | apply HC.block | apply HC.skip | apply HC.exit | apply HC.ret | apply HX.e_block | refine HX.e_other rfl ?_ | apply HX.e_then | apply HX.e_again | apply HX.n_block | apply HX.r_then | apply HX.r_block | apply HX.r_again | refine HC.cond_yes rfl ?_ | refine HC.cond_no rfl ?_ | refine HL.one (H1.ldb rfl memA rfl rfl ?_) | refine HC.cond rfl (fun hc => ?_) (fun hc => ?_) | refine HC.cond_b rfl (fun hc => ?_) (fun hc => ?_))
            exact HX.ret1 rfl rfl fun w' hM => ⟨congrArg Value.bool (decide_eq_true rfl), hM.ext⟩
          · refine HP.one_a rfl ?_
            refine H1.lit (cs := ints [0, 1, 3]) rfl rfl rfl rfl rfl rfl (fun b24 => ?_)
            apply HB.fold
            refine HB.all (by exact Keep.nil) [23] (by kernel_rfl) rfl ⟨⟨_, rfl, ?_⟩, trivial⟩
            refine HP.one_a rfl ?_
            refine H1.callz1 (An := fun z : Option Addr × Nat => A.grow 3 1 z.1 z.2 3 (ints (natI [0, 1, 3]))) (V := fun z => .slice z.1 3 z.2) (I := fun _ => True) (vs := [.slice (some ⟨bf, 0, none⟩) 4 4, .slice (some ⟨b21, 0, none⟩) 1 1, .slice none 0 0, .slice none 0 0, .slice (some ⟨b22, 0, none⟩) 1 1]) rfl rfl (fun w' hM => strX hM memA memA memA) ?_
            rintro ⟨aS, cS⟩ -
            dsimp only
            apply HB.fold
            refine HB.all (by exact Keep.nil) [25] (by kernel_rfl) rfl ⟨⟨_, rfl, ?_⟩, trivial⟩
            refine HP.one_a rfl ?_
            refine H1.callx (vs := [.slice aS 3 cS, .slice (some ⟨b24, 0, none⟩) 3 3]) rfl rfl (fun w' hM => ksame_fn _ _ [0, 1, 3] [0, 1, 3] (by decide) (by decide) w' (hM.gr (a := aS) (c := cS) memA) (rdLit (b := b24) (l := [0, 1, 3]) hM memA)) ?_
            apply HB.fold
            refine HB.pa 26 rfl ?_
            refine HB.pa 27 rfl ?_
            refine HB.done (by exact Keep.nil) (by kernel_rfl) ?_
            repeat' (first | apply HL.fold | apply HA.fold | apply HL.nil | apply HX.n_then | apply HC.seq | apply HC.region | refine HL.pa ?_ | refine HL.ga rfl ?_ | refine HL.na rfl ?_ | refine HL.nu rfl rfl ?_ | apply HC.block | apply HC.skip | apply HC.exit | apply HC.ret | apply HX.e_block | refine HX.e_other rfl ?_ | apply HX.e_then | apply HX.e_again | apply HX.n_block | apply HX.r_then | apply HX.r_block | apply HX.r_again | refine HC.cond_yes rfl ?_ | refine HC.cond_no rfl ?_ | refine HL.one (H1.ldb rfl memA rfl rfl ?_) | refine HC.cond rfl (fun hc => ?_) (fun hc => ?_) | refine HC.cond_b rfl (fun hc => ?_) (fun hc => ?_))
            exact HX.ret1 rfl rfl fun w' hM => ⟨congrArg Value.bool (decide_eq_true rfl), hM.ext⟩
        · refine HP.one_a rfl ?_
          refine H1.lit (cs := ints [0, 1, 3]) rfl rfl rfl rfl rfl rfl (fun b24 => ?_)
          apply HB.fold
          refine HB.all (by exact Keep.nil) [22] (by kernel_rfl) rfl ⟨⟨_, rfl, ?_⟩, trivial⟩
          refine HP.one_a rfl ?_
          refine H1.lit (cs := ints [3]) rfl rfl rfl rfl rfl rfl (fun b22 => ?_)
          apply HB.fold
          refine HB.all (by exact Keep.nil) [23] (by kernel_rfl) rfl ⟨⟨_, rfl, ?_⟩, trivial⟩
          refine HP.one_a rfl ?_
          refine H1.callz1 (An := fun z : Option Addr × Nat => A.grow 3 1 z.1 z.2 3 (ints (natI [0, 1, 3]))) (V := fun z => .slice z.1 3 z.2) (I := fun _ => True) (vs := [.slice (some ⟨bf, 0, none⟩) 4 4, .slice (some ⟨b21, 0, none⟩) 1 1, .slice none 0 0, .slice none 0 0, .slice (some ⟨b22, 0, none⟩) 1 1]) rfl rfl (fun w' hM => strX hM memA memA memA) ?_
          rintro ⟨aS, cS⟩ -
          dsimp only
          apply HB.fold
          refine HB.all (by exact Keep.nil) [25] (by kernel_rfl) rfl ⟨⟨_, rfl, ?_⟩, trivial⟩
          refine HP.one_a rfl ?_
          refine H1.callx (vs := [.slice aS 3 cS, .slice (some ⟨b24, 0, none⟩) 3 3]) rfl rfl (fun w' hM => ksame_fn _ _ [0, 1, 3] [0, 1, 3] (by decide) (by decide) w' (hM.gr (a := aS) (c := cS) memA) (rdLit (b := b24) (l := [0, 1, 3]) hM memA)) ?_
          apply HB.fold
          refine HB.pa 26 rfl ?_
          refine HB.pa 27 rfl ?_
          refine HB.done (by exact Keep.nil) (by kernel_rfl) ?_
          repeat' (first | apply HL.fold | apply HA.fold | apply HL.nil | apply HX.n_then | apply HC.seq | apply HC.region | refine HL.pa ?_ | refine HL.ga rfl ?_ | refine HL.na rfl ?_ | refine HL.nu rfl rfl ?_ | apply HC.block | apply HC.skip | apply HC.exit | apply HC.ret | apply HX.e_block | refine HX.e_other rfl ?_ | apply HX.e_then | apply HX.e_again | apply HX.n_block | apply HX.r_then | apply HX.r_block | apply HX.r_again | refine HC.cond_yes rfl ?_ | refine HC.cond_no rfl ?_ | refine HL.one (H1.ldb rfl memA rfl rfl ?_) | refine HC.cond rfl (fun hc => ?_) (fun hc => ?_) | refine HC.cond_b rfl (fun hc => ?_) (fun hc => ?_))
          exact HX.ret1 rfl rfl fun w' hM => ⟨congrArg Value.bool (decide_eq_true rfl), hM.ext⟩
      · refine HP.one_a rfl ?_
        refine H1.lit (cs := ints [3]) rfl rfl rfl rfl rfl rfl (fun b22 => ?_)
        apply HB.fold
        refine HB.all (by exact Keep.nil) [20, 24] (by kernel_rfl) rfl ⟨⟨_, rfl, ?_⟩, ⟨_, rfl, ?_⟩, trivial⟩
        · refine HP.one_a rfl ?_
          refine H1.callz1 (vs := []) rfl rfl (fun w' _ => example_fn w') ?_
          rintro bf -
          apply HB.fold
          refine HB.all (by exact Keep.nil) [23, 24] (by kernel_rfl) rfl ⟨⟨_, rfl, ?_⟩, ⟨_, rfl, ?_⟩, trivial⟩
          · refine HP.one_a rfl ?_
            refine H1.callz1 (An := fun z : Option Addr × Nat => A.grow 3 1 z.1 z.2 3 (ints (natI [0, 1, 3]))) (V := fun z => .slice z.1 3 z.2) (I := fun _ => True) (vs := [.slice (some ⟨bf, 0, none⟩) 4 4, .slice (some ⟨b21, 0, none⟩) 1 1, .slice none 0 0, .slice none 0 0, .slice (some ⟨b22, 0, none⟩) 1 1]) rfl rfl (fun w' hM => strX hM memA memA memA) ?_
            rintro ⟨aS, cS⟩ -
            dsimp only
            apply HB.fold
            refine HB.all (by exact Keep.nil) [24] (by kernel_rfl) rfl ⟨⟨_, rfl, ?_⟩, trivial⟩
            refine HP.one_a rfl ?_
            refine H1.lit (cs := ints [0, 1, 3]) rfl rfl rfl rfl rfl rfl (fun b24 => ?_)
            apply HB.fold
            refine HB.all (by exact Keep.nil) [25] (by kernel_rfl) rfl ⟨⟨_, rfl, ?_⟩, trivial⟩
            refine HP.one_a rfl ?_
            refine H1.callx (vs := [.slice aS 3 cS, .slice (some ⟨b24, 0, none⟩) 3 3]) rfl rfl (fun w' hM => ksame_fn _ _ [0, 1, 3] [0, 1, 3] (by decide) (by decide) w' (hM.gr (a := aS) (c := cS) memA) (rdLit (b := b24) (l := [0, 1, 3]) hM memA)) ?_
            apply HB.fold
            refine HB.pa 26 rfl ?_
            refine HB.pa 27 rfl ?_
            refine HB.done (by exact Keep.nil) (by kernel_rfl) ?_
            repeat' (first | apply HL.fold | apply HA.fold | apply HL.nil | apply HX.n_then | apply HC.seq | apply HC.region | refine HL.pa ?_ | refine HL.ga rfl ?_ | refine HL.na rfl ?_ | refine HL.nu rfl rfl ?_ | apply HC.block | apply HC.skip | apply HC.exit | apply HC.ret | apply HX.e_block | refine HX.e_other rfl ?_ | apply HX.e_then | apply HX.e_again | apply HX.n_block | apply HX.r_then | apply HX.r_block | apply HX.r_again | refine HC.cond_yes rfl ?_ | refine HC.cond_no rfl ?_ | refine HL.one (H1.ldb rfl memA rfl rfl ?_) | refine HC.cond rfl (fun hc => ?_) (fun hc => ?_) | refine HC.cond_b rfl (fun hc => ?_) (fun hc => ?_))
            exact HX.ret1 rfl rfl fun w' hM => ⟨congrArg Value.bool (decide_eq_true rfl), hM.ext⟩
          · refine HP.one_a rfl ?_
            refine H1.lit (cs := ints [0, 1, 3]) rfl rfl rfl rfl rfl rfl (fun b24 => ?_)
            apply HB.fold
            refine HB.all (by exact Keep.nil) [23] (by kernel_rfl) rfl ⟨⟨_, rfl, ?_⟩, trivial⟩
            refine HP.one_a rfl ?_
            refine H1.callz1 (An := fun z : Option Addr × Nat => A.grow 3 1 z.1 z.2 3 (ints (natI [0, 1, 3]))) (V := fun z => .slice z.1 3 z.2) (I := fun _ => True) (vs := [.slice (some ⟨bf, 0, none⟩) 4 4, .slice (some ⟨b21, 0, none⟩) 1 1, .slice none 0 0, .slice none 0 0, .slice (some ⟨b22, 0, none⟩) 1 1]) rfl rfl (fun w' hM => strX hM memA memA memA) ?_
            rintro ⟨aS, cS⟩ -
            dsimp only
            apply HB.fold
            refine HB.all (by exact Keep.nil) [25] (by kernel_rfl) rfl ⟨⟨_, rfl, ?_⟩, trivial⟩
            refine HP.one_a rfl ?_
            refine H1.callx (vs := [.slice aS 3 cS, .slice (some ⟨b24, 0, none⟩) 3 3]) rfl rfl (fun w' hM => ksame_fn _ _ [0, 1, 3] [0, 1, 3] (by decide) (by decide) w' (hM.gr (a := aS) (c := cS) memA) (rdLit (b := b24) (l := [0, 1, 3]) hM memA)) ?_
            apply HB.fold
            refine HB.pa 26 rfl ?_
            refine HB.pa 27 rfl ?_
            refine HB.done (by exact Keep.nil) (by kernel_rfl) ?_
            repeat' (first | apply HL.fold | apply HA.fold | apply HL.nil | apply HX.n_then | apply HC.seq | apply HC.region | refine HL.pa ?_ | refine HL.ga rfl ?_ | refine HL.na rfl ?_ | refine HL.nu rfl rfl ?_ | apply HC.block | apply HC.skip | apply HC.exit | apply HC.ret | apply HX.e_block | refine HX.e_other rfl ?_ | apply HX.e_then | apply HX.e_again | apply HX.n_block | apply HX.r_then | apply HX.r_block | apply HX.r_again | refine HC.cond_yes rfl ?_ | refine HC.cond_no rfl ?_ | refine HL.one (H1.ldb rfl memA rfl rfl ?_) | refine HC.cond rfl (fun hc => ?_) (fun hc => ?_) | refine HC.cond_b rfl (fun hc => ?_) (fun hc => ?_))
            exact HX.ret1 rfl rfl fun w' hM => ⟨congrArg Value.bool (decide_eq_true rfl), hM.ext⟩
        · refine HP.one_a rfl ?_
          refine H1.lit (cs := ints [0, 1, 3]) rfl rfl rfl rfl rfl rfl (fun b24 => ?_)
          apply HB.fold
          refine HB.all (by exact Keep.nil) [20] (by kernel_rfl) rfl ⟨⟨_, rfl, ?_⟩, trivial⟩
          refine HP.one_a rfl ?_
          refine H1.callz1 (vs := []) rfl rfl (fun w' _ => example_fn w') ?_
          rintro bf -
          apply HB.fold
          refine HB.all (by exact Keep.nil) [23] (by kernel_rfl) rfl ⟨⟨_, rfl, ?_⟩, trivial⟩
          refine HP.one_a rfl ?_
          refine H1.callz1 (An := fun z : Option Addr × Nat => A.grow 3 1 z.1 z.2 3 (ints (natI [0, 1, 3]))) (V := fun z => .slice z.1 3 z.2) (I := fun _ => True) (vs := [.slice (some ⟨bf, 0, none⟩) 4 4, .slice (some ⟨b21, 0, none⟩) 1 1, .slice none 0 0, .slice none 0 0, .slice (some ⟨b22, 0, none⟩) 1 1]) rfl rfl (fun w' hM => strX hM memA memA memA) ?_
          rintro ⟨aS, cS⟩ -
          dsimp only
          apply HB.fold
          refine HB.all (by exact Keep.nil) [25] (by kernel_rfl) rfl ⟨⟨_, rfl, ?_⟩, trivial⟩
          refine HP.one_a rfl ?_
          refine H1.callx (vs := [.slice aS 3 cS, .slice (some ⟨b24, 0, none⟩) 3 3]) rfl rfl (fun w' hM => ksame_fn _ _ [0, 1, 3] [0, 1, 3] (by decide) (by decide) w' (hM.gr (a := aS) (c := cS) memA) (rdLit (b := b24) (l := [0, 1, 3]) hM memA)) ?_
          apply HB.fold
          refine HB.pa 26 rfl ?_
          refine HB.pa 27 rfl ?_
          refine HB.done (by exact Keep.nil) (by kernel_rfl) ?_
          repeat' (first | apply HL.fold | apply HA.fold | apply HL.nil | apply HX.n_then | apply HC.seq | apply HC.region | refine HL.pa ?_ | refine HL.ga rfl ?_ | refine HL.na rfl ?_ | refine HL.nu rfl rfl ?_ | apply HC.block | apply HC.skip | apply HC.exit | apply HC.ret | apply HX.e_block | refine HX.e_other rfl ?_ | apply HX.e_then | apply HX.e_again | apply HX.n_block | apply HX.r_then | apply HX.r_block | apply HX.r_again | refine HC.cond_yes rfl ?_ | refine HC.cond_no rfl ?_ | refine HL.one (H1.ldb rfl memA rfl rfl ?_) | refine HC.cond rfl (fun hc => ?_) (fun hc => ?_) | refine HC.cond_b rfl (fun hc => ?_) (fun hc => ?_))
          exact HX.ret1 rfl rfl fun w' hM => ⟨congrArg Value.bool (decide_eq_true rfl), hM.ext⟩
      · refine HP.one_a rfl ?_
        refine H1.lit (cs := ints [0, 1, 3]) rfl rfl rfl rfl rfl rfl (fun b24 => ?_)
        apply HB.fold
        refine HB.all (by exact Keep.nil) [20, 22] (by kernel_rfl) rfl ⟨⟨_, rfl, ?_⟩, ⟨_, rfl, ?_⟩, trivial⟩
        · refine HP.one_a rfl ?_
          refine H1.callz1 (vs := []) rfl rfl (fun w' _ => example_fn w') ?_
          rintro bf -
          apply HB.fold
          refine HB.all (by exact Keep.nil) [22] (by kernel_rfl) rfl ⟨⟨_, rfl, ?_⟩, trivial⟩
          refine HP.one_a rfl ?_
          refine H1.lit (cs := ints [3]) rfl rfl rfl rfl rfl rfl (fun b22 => ?_)
          apply HB.fold
          refine HB.all (by exact Keep.nil) [23] (by kernel_rfl) rfl ⟨⟨_, rfl, ?_⟩, trivial⟩
          refine HP.one_a rfl ?_
          refine H1.callz1 (An := fun z : Option Addr × Nat => A.grow 3 1 z.1 z.2 3 (ints (natI [0, 1, 3]))) (V := fun z => .slice z.1 3 z.2) (I := fun _ => True) (vs := [.slice (some ⟨bf, 0, none⟩) 4 4, .slice (some ⟨b21, 0, none⟩) 1 1, .slice none 0 0, .slice none 0 0, .slice (some ⟨b22, 0, none⟩) 1 1]) rfl rfl (fun w' hM => strX hM memA memA memA) ?_
          rintro ⟨aS, cS⟩ -
          dsimp only
          apply HB.fold
          refine HB.all (by exact Keep.nil) [25] (by kernel_rfl) rfl ⟨⟨_, rfl, ?_⟩, trivial⟩
          refine HP.one_a rfl ?_
          refine H1.callx (vs := [.slice aS 3 cS, .slice (some ⟨b24, 0, none⟩) 3 3]) rfl rfl (fun w' hM => ksame_fn _ _ [0, 1, 3] [0, 1, 3] (by decide) (by decide) w' (hM.gr (a := aS) (c := cS) memA) (rdLit (b := b24) (l := [0, 1, 3]) hM memA)) ?_
          apply HB.fold
          refine HB.pa 26 rfl ?_
          refine HB.pa 27 rfl ?_
          refine HB.done (by exact Keep.nil) (by kernel_rfl) ?_
          repeat' (first | apply HL.fold | apply HA.fold | apply HL.nil | apply HX.n_then | apply HC.seq | apply HC.region | refine HL.pa ?_ | refine HL.ga rfl ?_ | refine HL.na rfl ?_ | refine HL.nu rfl rfl ?_ | apply HC.block | apply HC.skip | apply HC.exit | apply HC.ret | apply HX.e_block | refine HX.e_other rfl ?_ | apply HX.e_then | apply HX.e_again | apply HX.n_block | apply HX.r_then | apply HX.r_block | apply HX.r_again | refine HC.cond_yes rfl ?_ | refine HC.cond_no rfl ?_ | refine HL.one (H1.ldb rfl memA rfl rfl ?_) | refine HC.cond rfl (fun hc => ?_) (fun hc => ?_) | refine HC.cond_b rfl (fun hc => ?_) (fun hc => ?_))
          exact HX.ret1 rfl rfl fun w' hM => ⟨congrArg Value.bool (decide_eq_true rfl), hM.ext⟩
        · refine HP.one_a rfl ?_
          refine H1.lit (cs := ints [3]) rfl rfl rfl rfl rfl rfl (fun b22 => ?_)
          apply HB.fold
          refine HB.all (by exact Keep.nil) [20] (by kernel_rfl) rfl ⟨⟨_, rfl, ?_⟩, trivial⟩
          refine HP.one_a rfl ?_
          refine H1.callz1 (vs := []) rfl rfl (fun w' _ => example_fn w') ?_
          rintro bf -
          apply HB.fold
          refine HB.all (by exact Keep.nil) [23] (by kernel_rfl) rfl ⟨⟨_, rfl, ?_⟩, trivial⟩
          refine HP.one_a rfl ?_
          refine H1.callz1 (An := fun z : Option Addr × Nat => A.grow 3 1 z.1 z.2 3 (ints (natI [0, 1, 3]))) (V := fun z => .slice z.1 3 z.2) (I := fun _ => True) (vs := [.slice (some ⟨bf, 0, none⟩) 4 4, .slice (some ⟨b21, 0, none⟩) 1 1, .slice none 0 0, .slice none 0 0, .slice (some ⟨b22, 0, none⟩) 1 1]) rfl rfl (fun w' hM => strX hM memA memA memA) ?_
          rintro ⟨aS, cS⟩ -
          dsimp only
          apply HB.fold
          refine HB.all (by exact Keep.nil) [25] (by kernel_rfl) rfl ⟨⟨_, rfl, ?_⟩, trivial⟩
          refine HP.one_a rfl ?_
          refine H1.callx (vs := [.slice aS 3 cS, .slice (some ⟨b24, 0, none⟩) 3 3]) rfl rfl (fun w' hM => ksame_fn _ _ [0, 1, 3] [0, 1, 3] (by decide) (by decide) w' (hM.gr (a := aS) (c := cS) memA) (rdLit (b := b24) (l := [0, 1, 3]) hM memA)) ?_
          apply HB.fold
          refine HB.pa 26 rfl ?_
          refine HB.pa 27 rfl ?_
          refine HB.done (by exact Keep.nil) (by kernel_rfl) ?_
          repeat' (first | apply HL.fold | apply HA.fold | apply HL.nil | apply HX.n_then | apply HC.seq | apply HC.region | refine HL.pa ?_ | refine HL.ga rfl ?_ | refine HL.na rfl ?_ | refine HL.nu rfl rfl ?_ | apply HC.block | apply HC.skip | apply HC.exit | apply HC.ret | apply HX.e_block | refine HX.e_other rfl ?_ | apply HX.e_then | apply HX.e_again | apply HX.n_block | apply HX.r_then | apply HX.r_block | apply HX.r_again | refine HC.cond_yes rfl ?_ | refine HC.cond_no rfl ?_ | refine HL.one (H1.ldb rfl memA rfl rfl ?_) | refine HC.cond rfl (fun hc => ?_) (fun hc => ?_) | refine HC.cond_b rfl (fun hc => ?_) (fun hc => ?_))
          exact HX.ret1 rfl rfl fun w' hM => ⟨congrArg Value.bool (decide_eq_true rfl), hM.ext⟩
    · refine HP.one_a rfl ?_
      refine H1.lit (cs := ints [3]) rfl rfl rfl rfl rfl rfl (fun b22 => ?_)
      apply HB.fold
      refine HB.all (by exact Keep.nil) [20, 21, 24] (by kernel_rfl) rfl ⟨⟨_, rfl, ?_⟩, ⟨_, rfl, ?_⟩, ⟨_, rfl, ?_⟩, trivial⟩
      · refine HP.one_a rfl ?_
        refine H1.callz1 (vs := []) rfl rfl (fun w' _ => example_fn w') ?_
        rintro bf -
        apply HB.fold
        refine HB.all (by exact Keep.nil) [21, 24] (by kernel_rfl) rfl ⟨⟨_, rfl, ?_⟩, ⟨_, rfl, ?_⟩, trivial⟩
        · refine HP.one_a rfl ?_
          refine H1.lit (cs := ints [0]) rfl rfl rfl rfl rfl rfl (fun b21 => ?_)
          apply HB.fold
          refine HB.all (by exact Keep.nil) [23, 24] (by kernel_rfl) rfl ⟨⟨_, rfl, ?_⟩, ⟨_, rfl, ?_⟩, trivial⟩
          · refine HP.one_a rfl ?_
            refine H1.callz1 (An := fun z : Option Addr × Nat => A.grow 3 1 z.1 z.2 3 (ints (natI [0, 1, 3]))) (V := fun z => .slice z.1 3 z.2) (I := fun _ => True) (vs := [.slice (some ⟨bf, 0, none⟩) 4 4, .slice (some ⟨b21, 0, none⟩) 1 1, .slice none 0 0, .slice none 0 0, .slice (some ⟨b22, 0, none⟩) 1 1]) rfl rfl (fun w' hM => strX hM memA memA memA) ?_
            rintro ⟨aS, cS⟩ -
            dsimp only
            apply HB.fold
            refine HB.all (by exact Keep.nil) [24] (by kernel_rfl) rfl ⟨⟨_, rfl, ?_⟩, trivial⟩
            refine HP.one_a rfl ?_
            refine H1.lit (cs := ints [0, 1, 3]) rfl rfl rfl rfl rfl rfl (fun b24 => ?_)
            apply HB.fold
            refine HB.all (by exact Keep.nil) [25] (by kernel_rfl) rfl ⟨⟨_, rfl, ?_⟩, trivial⟩
            refine HP.one_a rfl ?_
            refine H1.callx (vs := [.slice aS 3 cS, .slice (some ⟨b24, 0, none⟩) 3 3]) rfl rfl (fun w' hM => ksame_fn _ _ [0, 1, 3] [0, 1, 3] (by decide) (by decide) w' (hM.gr (a := aS) (c := cS) memA) (rdLit (b := b24) (l := [0, 1, 3]) hM memA)) ?_
            apply HB.fold
            refine HB.pa 26 rfl ?_
            refine HB.pa 27 rfl ?_
            refine HB.done (by exact Keep.nil) (by kernel_rfl) ?_
            repeat' (first | apply HL.fold | apply HA.fold | apply HL.nil | apply HX.n_then | apply HC.seq | apply HC.region | refine HL.pa ?_ | refine HL.ga rfl ?_ | refine HL.na rfl ?_ | refine HL.nu rfl rfl ?_ | apply HC.block | apply HC.skip | apply HC.exit | apply HC.ret | apply HX.e_block | refine HX.e_other rfl ?_ | apply HX.e_then | apply HX.e_again | apply HX.n_block | apply HX.r_then | apply HX.r_block | apply HX.r_again | refine HC.cond_yes rfl ?_ | refine HC.cond_no rfl ?_ | refine HL.one (H1.ldb rfl memA rfl rfl ?_) | refine HC.cond rfl (fun hc => ?_) (fun hc => ?_) | refine HC.cond_b rfl (fun hc => ?_) (fun hc => ?_))
            exact HX.ret1 rfl rfl fun w' hM => ⟨congrArg Value.bool (decide_eq_true rfl), hM.ext⟩
          · refine HP.one_a rfl ?_
            refine H1.lit (cs := ints [0, 1, 3]) rfl rfl rfl rfl rfl rfl (fun b24 => ?_)
            apply HB.fold
            refine HB.all (by exact Keep.nil) [23] (by kernel_rfl) rfl ⟨⟨_, rfl, ?_⟩, trivial⟩
            refine HP.one_a rfl ?_
            refine H1.callz1 (An := fun z : Option Addr × Nat => A.grow 3 1 z.1 z.2 3 (ints (natI [0, 1, 3]))) (V := fun z => .slice z.1 3 z.2) (I := fun _ => True) (vs := [.slice (some ⟨bf, 0, none⟩) 4 4, .slice (some ⟨b21, 0, none⟩) 1 1, .slice none 0 0, .slice none 0 0, .slice (some ⟨b22, 0, none⟩) 1 1]) rfl rfl (fun w' hM => strX hM memA memA memA) ?_
            rintro ⟨aS, cS⟩ -
            dsimp only
            apply HB.fold
            refine HB.all (by exact Keep.nil) [25] (by kernel_rfl) rfl ⟨⟨_, rfl, ?_⟩, trivial⟩
            refine HP.one_a rfl ?_
            refine H1.callx (vs := [.slice aS 3 cS, .slice (some ⟨b24, 0, none⟩) 3 3]) rfl rfl (fun w' hM => ksame_fn _ _ [0, 1, 3] [0, 1, 3] (by decide) (by decide) w' (hM.gr (a := aS) (c := cS) memA) (rdLit (b := b24) (l := [0, 1, 3]) hM memA)) ?_
            apply HB.fold
            refine HB.pa 26 rfl ?_
            refine HB.pa 27 rfl ?_
            refine HB.done (by exact Keep.nil) (by kernel_rfl) ?_
            repeat' (first | apply HL.fold | apply HA.fold | apply HL.nil | apply HX.n_then | apply HC.seq | apply HC.region | refine HL.pa ?_ | refine HL.ga rfl ?_ | refine HL.na rfl ?_ | refine HL.nu rfl rfl ?_ | apply HC.block | apply HC.skip | apply HC.exit | apply HC.ret | apply HX.e_block | refine HX.e_other rfl ?_ | apply HX.e_then | apply HX.e_again | apply HX.n_block | apply HX.r_then | apply HX.r_block | apply HX.r_again | refine HC.cond_yes rfl ?_ | refine HC.cond_no rfl ?_ | refine HL.one (H1.ldb rfl memA rfl rfl ?_) | refine HC.cond rfl (fun hc => ?_) (fun hc => ?_) | refine HC.cond_b rfl (fun hc => ?_) (fun hc => ?_))
            exact HX.ret1 rfl rfl fun w' hM => ⟨congrArg Value.bool (decide_eq_true rfl), hM.ext⟩
        · refine HP.one_a rfl ?_
          refine H1.lit (cs := ints [0, 1, 3]) rfl rfl rfl rfl rfl rfl (fun b24 => ?_)
          apply HB.fold
          refine HB.all (by exact Keep.nil) [21] (by kernel_rfl) rfl ⟨⟨_, rfl, ?_⟩, trivial⟩
          refine HP.one_a rfl ?_
          refine H1.lit (cs := ints [0]) rfl rfl rfl rfl rfl rfl (fun b21 => ?_)
          apply HB.fold
          refine HB.all (by exact Keep.nil) [23] (by kernel_rfl) rfl ⟨⟨_, rfl, ?_⟩, trivial⟩
          refine HP.one_a rfl ?_
          refine H1.callz1 (An := fun z : Option Addr × Nat => A.grow 3 1 z.1 z.2 3 (ints (natI [0, 1, 3]))) (V := fun z => .slice z.1 3 z.2) (I := fun _ => True) (vs := [.slice (some ⟨bf, 0, none⟩) 4 4, .slice (some ⟨b21, 0, none⟩) 1 1, .slice none 0 0, .slice none 0 0, .slice (some ⟨b22, 0, none⟩) 1 1]) rfl rfl (fun w' hM => strX hM memA memA memA) ?_
          rintro ⟨aS, cS⟩ -
          dsimp only
          apply HB.fold
          refine HB.all (by exact Keep.nil) [25] (by kernel_rfl) rfl ⟨⟨_, rfl, ?_⟩, trivial⟩
          refine HP.one_a rfl ?_
          refine H1.callx (vs := [.slice aS 3 cS, .slice (some ⟨b24, 0, none⟩) 3 3]) rfl rfl (fun w' hM => ksame_fn _ _ [0, 1, 3] [0, 1, 3] (by decide) (by decide) w' (hM.gr (a := aS) (c := cS) memA) (rdLit (b := b24) (l := [0, 1, 3]) hM memA)) ?_
          apply HB.fold
          refine HB.pa 26 rfl ?_
          refine HB.pa 27 rfl ?_
          refine HB.done (by exact Keep.nil) (by kernel_rfl) ?_
          repeat' (first | apply HL.fold | apply HA.fold | apply HL.nil | apply HX.n_then | apply HC.seq | apply HC.region | refine HL.pa ?_ | refine HL.ga rfl ?_ | refine HL.na rfl ?_ | refine HL.nu rfl rfl ?_ | apply HC.block | apply HC.skip | apply HC.exit | apply HC.ret | apply HX.e_block | refine HX.e_other rfl ?_ | apply HX.e_then | apply HX.e_again | apply HX.n_block | apply HX.r_then | apply HX.r_block | apply HX.r_again | refine HC.cond_yes rfl ?_ | refine HC.cond_no rfl ?_ | refine HL.one (H1.ldb rfl memA rfl rfl ?_) | refine HC.cond rfl (fun hc => ?_) (fun hc => ?_) | refine HC.cond_b rfl (fun hc => ?_) (fun hc => ?_))
          exact HX.ret1 rfl rfl fun w' hM => ⟨congrArg Value.bool (decide_eq_true rfl), hM.ext⟩
      · refine HP.one_a rfl ?_
        refine H1.lit (cs := ints [0]) rfl rfl rfl rfl rfl rfl (fun b21 => ?_)
        apply HB.fold
        refine HB.all (by exact Keep.nil) [20, 24] (by kernel_rfl) rfl ⟨⟨_, rfl, ?_⟩, ⟨_, rfl, ?_⟩, trivial⟩
        · refine HP.one_a rfl ?_
          refine H1.callz1 (vs := []) rfl rfl (fun w' _ => example_fn w') ?_
          rintro bf -
          apply HB.fold
          refine HB.all (by exact Keep.nil) [23, 24] (by kernel_rfl) rfl ⟨⟨_, rfl, ?_⟩, ⟨_, rfl, ?_⟩, trivial⟩
          · refine HP.one_a rfl ?_
            refine H1.callz1 (An := fun z : Option Addr × Nat => A.grow 3 1 z.1 z.2 3 (ints (natI [0, 1, 3]))) (V := fun z => .slice z.1 3 z.2) (I := fun _ => True) (vs := [.slice (some ⟨bf, 0, none⟩) 4 4, .slice (some ⟨b21, 0, none⟩) 1 1, .slice none 0 0, .slice none 0 0, .slice (some ⟨b22, 0, none⟩) 1 1]) rfl rfl (fun w' hM => strX hM memA memA memA) ?_
            rintro ⟨aS, cS⟩ -
            dsimp only
            apply HB.fold
            refine HB.all (by exact Keep.nil) [24] (by kernel_rfl) rfl ⟨⟨_, rfl, ?_⟩, trivial⟩
            refine HP.one_a rfl ?_
            refine H1.lit (cs := ints [0, 1, 3]) rfl rfl rfl rfl rfl rfl (fun b24 => ?_)
            apply HB.fold
            refine HB.all (by exact Keep.nil) [25] (by kernel_rfl) rfl ⟨⟨_, rfl, ?_⟩, trivial⟩
            refine HP.one_a rfl ?_
            refine H1.callx (vs := [.slice aS 3 cS, .slice (some ⟨b24, 0, none⟩) 3 3]) rfl rfl (fun w' hM => ksame_fn _ _ [0, 1, 3] [0, 1, 3] (by decide) (by decide) w' (hM.gr (a := aS) (c := cS) memA) (rdLit (b := b24) (l := [0, 1, 3]) hM memA)) ?_
            apply HB.fold
            refine HB.pa 26 rfl ?_
            refine HB.pa 27 rfl ?_
            refine HB.done (by exact Keep.nil) (by kernel_rfl) ?_
            repeat' (first | apply HL.fold | apply HA.fold | apply HL.nil | apply HX.n_then | apply HC.seq | apply HC.region | refine HL.pa ?_ | refine HL.ga rfl ?_ | refine HL.na rfl ?_ | refine HL.nu rfl rfl ?_ | apply HC.block | apply HC.skip | apply HC.exit | apply HC.ret | apply HX.e_block | refine HX.e_other rfl ?_ | apply HX.e_then | apply HX.e_again | apply HX.n_block | apply HX.r_then | apply HX.r_block | apply HX.r_again | refine HC.cond_yes rfl ?_ | refine HC.cond_no rfl ?_ | refine HL.one (H1.ldb rfl memA rfl rfl ?_) | refine HC.cond rfl (fun hc => ?_) (fun hc => ?_) | refine HC.cond_b rfl (fun hc => ?_) (fun hc => ?_))
            exact HX.ret1 rfl rfl fun w' hM => ⟨congrArg Value.bool (decide_eq_true rfl), hM.ext⟩
          · refine HP.one_a rfl ?_
            refine H1.lit (cs := ints [0, 1, 3]) rfl rfl rfl rfl rfl rfl (fun b24 => ?_)
            apply HB.fold
            refine HB.all (by exact Keep.nil) [23] (by kernel_rfl) rfl ⟨⟨_, rfl, ?_⟩, trivial⟩
            refine HP.one_a rfl ?_
            refine H1.callz1 (An := fun z : Option Addr × Nat => A.grow 3 1 z.1 z.2 3 (ints (natI [0, 1, 3]))) (V := fun z => .slice z.1 3 z.2) (I := fun _ => True) (vs := [.slice (some ⟨bf, 0, none⟩) 4 4, .slice (some ⟨b21, 0, none⟩) 1 1, .slice none 0 0, .slice none 0 0, .slice (some ⟨b22, 0, none⟩) 1 1]) rfl rfl (fun w' hM => strX hM memA memA memA) ?_
            rintro ⟨aS, cS⟩ -
            dsimp only
            apply HB.fold
            refine HB.all (by exact Keep.nil) [25] (by kernel_rfl) rfl ⟨⟨_, rfl, ?_⟩, trivial⟩
            refine HP.one_a rfl ?_
            refine H1.callx (vs := [.slice aS 3 cS, .slice (some ⟨b24, 0, none⟩) 3 3]) rfl rfl (fun w' hM => ksame_fn _ _ [0, 1, 3] [0, 1, 3] (by decide) (by decide) w' (hM.gr (a := aS) (c := cS) memA) (rdLit (b := b24) (l := [0, 1, 3]) hM memA)) ?_
            apply HB.fold
            refine HB.pa 26 rfl ?_
            refine HB.pa 27 rfl ?_
            refine HB.done (by exact Keep.nil) (by kernel_rfl) ?_
            repeat' (first | apply HL.fold | apply HA.fold | apply HL.nil | apply HX.n_then | apply HC.seq | apply HC.region | refine HL.pa ?_ | refine HL.ga rfl ?_ | refine HL.na rfl ?_ | refine HL.nu rfl rfl ?_ | apply HC.block | apply HC.skip | apply HC.exit | apply HC.ret | apply HX.e_block | refine HX.e_other rfl ?_ | apply HX.e_then | apply HX.e_again | apply HX.n_block | apply HX.r_then | apply HX.r_block | apply HX.r_again | refine HC.cond_yes rfl ?_ | refine HC.cond_no rfl ?_ | refine HL.one (H1.ldb rfl memA rfl rfl ?_) | refine HC.cond rfl (fun hc => ?_) (fun hc => ?_) | refine HC.cond_b rfl (fun hc => ?_) (fun hc => ?_))
            exact HX.ret1 rfl rfl fun w' hM => ⟨congrArg Value.bool (decide_eq_true rfl), hM.ext⟩
        · refine HP.one_a rfl ?_
          refine H1.lit (cs := ints [0, 1, 3]) rfl rfl rfl rfl rfl rfl (fun b24 => ?_)
          apply HB.fold
          refine HB.all (by exact Keep.nil) [20] (by kernel_rfl) rfl ⟨⟨_, rfl, ?_⟩, trivial⟩
          refine HP.one_a rfl ?_
          refine H1.callz1 (vs := []) rfl rfl (fun w' _ => example_fn w') ?_
          rintro bf -
          apply HB.fold
          refine HB.all (by exact Keep.nil) [23] (by kernel_rfl) rfl ⟨⟨_, rfl, ?_⟩, trivial⟩
          refine HP.one_a rfl ?_
          refine H1.callz1 (An := fun z : Option Addr × Nat => A.grow 3 1 z.1 z.2 3 (ints (natI [0, 1, 3]))) (V := fun z => .slice z.1 3 z.2) (I := fun _ => True) (vs := [.slice (some ⟨bf, 0, none⟩) 4 4, .slice (some ⟨b21, 0, none⟩) 1 1, .slice none 0 0, .slice none 0 0, .slice (some ⟨b22, 0, none⟩) 1 1]) rfl rfl (fun w' hM => strX hM memA memA memA) ?_
          rintro ⟨aS, cS⟩ -
          dsimp only
          apply HB.fold
          refine HB.all (by exact Keep.nil) [25] (by kernel_rfl) rfl ⟨⟨_, rfl, ?_⟩, trivial⟩
          refine HP.one_a rfl ?_
          refine H1.callx (vs := [.slice aS 3 cS, .slice (some ⟨b24, 0, none⟩) 3 3]) rfl rfl (fun w' hM => ksame_fn _ _ [0, 1, 3] [0, 1, 3] (by decide) (by decide) w' (hM.gr (a := aS) (c := cS) memA) (rdLit (b := b24) (l := [0, 1, 3]) hM memA)) ?_
          apply HB.fold
          refine HB.pa 26 rfl ?_
          refine HB.pa 27 rfl ?_
          refine HB.done (by exact Keep.nil) (by kernel_rfl) ?_
          repeat' (first | apply HL.fold | apply HA.fold | apply HL.nil | apply HX.n_then | apply HC.seq | apply HC.region | refine HL.pa ?_ | refine HL.ga rfl ?_ | refine HL.na rfl ?_ | refine HL.nu rfl rfl ?_ | apply HC.block | apply HC.skip | apply HC.exit | apply HC.ret | apply HX.e_block | refine HX.e_other rfl ?_ | apply HX.e_then | apply HX.e_again | apply HX.n_block | apply HX.r_then | apply HX.r_block | apply HX.r_again | refine HC.cond_yes rfl ?_ | refine HC.cond_no rfl ?_ | refine HL.one (H1.ldb rfl memA rfl rfl ?_) | refine HC.cond rfl (fun hc => ?_) (fun hc => ?_) | refine HC.cond_b rfl (fun hc => ?_) (fun hc => ?_))
          exact HX.ret1 rfl rfl fun w' hM => ⟨congrArg Value.bool (decide_eq_true rfl), hM.ext⟩
      · refine HP.one_a rfl ?_
        refine H1.lit (cs := ints [0, 1, 3]) rfl rfl rfl rfl rfl rfl (fun b24 => ?_)
        apply HB.fold
        refine HB.all (by exact Keep.nil) [20, 21] (by kernel_rfl) rfl ⟨⟨_, rfl, ?_⟩, ⟨_, rfl, ?_⟩, trivial⟩
        · refine HP.one_a rfl ?_
          refine H1.callz1 (vs := []) rfl rfl (fun w' _ => example_fn w') ?_
          rintro bf -
          apply HB.fold
          refine HB.all (by exact Keep.nil) [21] (by kernel_rfl) rfl ⟨⟨_, rfl, ?_⟩, trivial⟩
          refine HP.one_a rfl ?_
          refine H1.lit (cs := ints [0]) rfl rfl rfl rfl rfl rfl (fun b21 => ?_)
          apply HB.fold
          refine HB.all (by exact Keep.nil) [23] (by kernel_rfl) rfl ⟨⟨_, rfl, ?_⟩, trivial⟩
          refine HP.one_a rfl ?_
          refine H1.callz1 (An := fun z : Option Addr × Nat => A.grow 3 1 z.1 z.2 3 (ints (natI [0, 1, 3]))) (V := fun z => .slice z.1 3 z.2) (I := fun _ => True) (vs := [.slice (some ⟨bf, 0, none⟩) 4 4, .slice (some ⟨b21, 0, none⟩) 1 1, .slice none 0 0, .slice none 0 0, .slice (some ⟨b22, 0, none⟩) 1 1]) rfl rfl (fun w' hM => strX hM memA memA memA) ?_
          rintro ⟨aS, cS⟩ -
          dsimp only
          apply HB.fold
          refine HB.all (by exact Keep.nil) [25] (by kernel_rfl) rfl ⟨⟨_, rfl, ?_⟩, trivial⟩
          refine HP.one_a rfl ?_
          refine H1.callx (vs := [.slice aS 3 cS, .slice (some ⟨b24, 0, none⟩) 3 3]) rfl rfl (fun w' hM => ksame_fn _ _ [0, 1, 3] [0, 1, 3] (by decide) (by decide) w' (hM.gr (a := aS) (c := cS) memA) (rdLit (b := b24) (l := [0, 1, 3]) hM memA)) ?_
          apply HB.fold
          refine HB.pa 26 rfl ?_
          refine HB.pa 27 rfl ?_
          refine HB.done (by exact Keep.nil) (by kernel_rfl) ?_
          repeat' (first | apply HL.fold | apply HA.fold | apply HL.nil | apply HX.n_then | apply HC.seq | apply HC.region | refine HL.pa ?_ | refine HL.ga rfl ?_ | refine HL.na rfl ?_ | refine HL.nu rfl rfl ?_ | apply HC.block | apply HC.skip | apply HC.exit | apply HC.ret | apply HX.e_block | refine HX.e_other rfl ?_ | apply HX.e_then | apply HX.e_again | apply HX.n_block | apply HX.r_then | apply HX.r_block | apply HX.r_again | refine HC.cond_yes rfl ?_ | refine HC.cond_no rfl ?_ | refine HL.one (H1.ldb rfl memA rfl rfl ?_) | refine HC.cond rfl (fun hc => ?_) (fun hc => ?_) | refine HC.cond_b rfl (fun hc => ?_) (fun hc => ?_))
          exact HX.ret1 rfl rfl fun w' hM => ⟨congrArg Value.bool (decide_eq_true rfl), hM.ext⟩
        · refine HP.one_a rfl ?_
          refine H1.lit (cs := ints [0]) rfl rfl rfl rfl rfl rfl (fun b21 => ?_)
          apply HB.fold
          refine HB.all (by exact Keep.nil) [20] (by kernel_rfl) rfl ⟨⟨_, rfl, ?_⟩, trivial⟩
          refine HP.one_a rfl ?_
          refine H1.callz1 (vs := []) rfl rfl (fun w' _ => example_fn w') ?_
          rintro bf -
          apply HB.fold
          refine HB.all (by exact Keep.nil) [23] (by kernel_rfl) rfl ⟨⟨_, rfl, ?_⟩, trivial⟩
          refine HP.one_a rfl ?_
          refine H1.callz1 (An := fun z : Option Addr × Nat => A.grow 3 1 z.1 z.2 3 (ints (natI [0, 1, 3]))) (V := fun z => .slice z.1 3 z.2) (I := fun _ => True) (vs := [.slice (some ⟨bf, 0, none⟩) 4 4, .slice (some ⟨b21, 0, none⟩) 1 1, .slice none 0 0, .slice none 0 0, .slice (some ⟨b22, 0, none⟩) 1 1]) rfl rfl (fun w' hM => strX hM memA memA memA) ?_
          rintro ⟨aS, cS⟩ -
          dsimp only
          apply HB.fold
          refine HB.all (by exact Keep.nil) [25] (by kernel_rfl) rfl ⟨⟨_, rfl, ?_⟩, trivial⟩
          refine HP.one_a rfl ?_
          refine H1.callx (vs := [.slice aS 3 cS, .slice (some ⟨b24, 0, none⟩) 3 3]) rfl rfl (fun w' hM => ksame_fn _ _ [0, 1, 3] [0, 1, 3] (by decide) (by decide) w' (hM.gr (a := aS) (c := cS) memA) (rdLit (b := b24) (l := [0, 1, 3]) hM memA)) ?_
          apply HB.fold
          refine HB.pa 26 rfl ?_
          refine HB.pa 27 rfl ?_
          refine HB.done (by exact Keep.nil) (by kernel_rfl) ?_
          repeat' (first | apply HL.fold | apply HA.fold | apply HL.nil | apply HX.n_then | apply HC.seq | apply HC.region | refine HL.pa ?_ | refine HL.ga rfl ?_ | refine HL.na rfl ?_ | refine HL.nu rfl rfl ?_ | apply HC.block | apply HC.skip | apply HC.exit | apply HC.ret | apply HX.e_block | refine HX.e_other rfl ?_ | apply HX.e_then | apply HX.e_again | apply HX.n_block | apply HX.r_then | apply HX.r_block | apply HX.r_again | refine HC.cond_yes rfl ?_ | refine HC.cond_no rfl ?_ | refine HL.one (H1.ldb rfl memA rfl rfl ?_) | refine HC.cond rfl (fun hc => ?_) (fun hc => ?_) | refine HC.cond_b rfl (fun hc => ?_) (fun hc => ?_))
          exact HX.ret1 rfl rfl fun w' hM => ⟨congrArg Value.bool (decide_eq_true rfl), hM.ext⟩
    · refine HP.one_a rfl ?_
      refine H1.lit (cs := ints [0, 1, 3]) rfl rfl rfl rfl rfl rfl (fun b24 => ?_)
      apply HB.fold
      refine HB.all (by exact Keep.nil) [20, 21, 22] (by kernel_rfl) rfl ⟨⟨_, rfl, ?_⟩, ⟨_, rfl, ?_⟩, ⟨_, rfl, ?_⟩, trivial⟩
      · refine HP.one_a rfl ?_
        refine H1.callz1 (vs := []) rfl rfl (fun w' _ => example_fn w') ?_
        rintro bf -
        apply HB.fold
        refine HB.all (by exact Keep.nil) [21, 22] (by kernel_rfl) rfl ⟨⟨_, rfl, ?_⟩, ⟨_, rfl, ?_⟩, trivial⟩
        · refine HP.one_a rfl ?_
          refine H1.lit (cs := ints [0]) rfl rfl rfl rfl rfl rfl (fun b21 => ?_)
          apply HB.fold
          refine HB.all (by exact Keep.nil) [22] (by kernel_rfl) rfl ⟨⟨_, rfl, ?_⟩, trivial⟩
          refine HP.one_a rfl ?_
          refine H1.lit (cs := ints [3]) rfl rfl rfl rfl rfl rfl (fun b22 => ?_)
          apply HB.fold
          refine HB.all (by exact Keep.nil) [23] (by kernel_rfl) rfl ⟨⟨_, rfl, ?_⟩, trivial⟩
          refine HP.one_a rfl ?_
          refine H1.callz1 (An := fun z : Option Addr × Nat => A.grow 3 1 z.1 z.2 3 (ints (natI [0, 1, 3]))) (V := fun z => .slice z.1 3 z.2) (I := fun _ => True) (vs := [.slice (some ⟨bf, 0, none⟩) 4 4, .slice (some ⟨b21, 0, none⟩) 1 1, .slice none 0 0, .slice none 0 0, .slice (some ⟨b22, 0, none⟩) 1 1]) rfl rfl (fun w' hM => strX hM memA memA memA) ?_
          rintro ⟨aS, cS⟩ -
          dsimp only
          apply HB.fold
          refine HB.all (by exact Keep.nil) [25] (by kernel_rfl) rfl ⟨⟨_, rfl, ?_⟩, trivial⟩
          refine HP.one_a rfl ?_
          refine H1.callx (vs := [.slice aS 3 cS, .slice (some ⟨b24, 0, none⟩) 3 3]) rfl rfl (fun w' hM => ksame_fn _ _ [0, 1, 3] [0, 1, 3] (by decide) (by decide) w' (hM.gr (a := aS) (c := cS) memA) (rdLit (b := b24) (l := [0, 1, 3]) hM memA)) ?_
          apply HB.fold
          refine HB.pa 26 rfl ?_
          refine HB.pa 27 rfl ?_
          refine HB.done (by exact Keep.nil) (by kernel_rfl) ?_
          repeat' (first | apply HL.fold | apply HA.fold | apply HL.nil | apply HX.n_then | apply HC.seq | apply HC.region | refine HL.pa ?_ | refine HL.ga rfl ?_ | refine HL.na rfl ?_ | refine HL.nu rfl rfl ?_ | apply HC.block | apply HC.skip | apply HC.exit | apply HC.ret | apply HX.e_block | refine HX.e_other rfl ?_ | apply HX.e_then | apply HX.e_again | apply HX.n_block | apply HX.r_then | apply HX.r_block | apply HX.r_again | refine HC.cond_yes rfl ?_ | refine HC.cond_no rfl ?_ | refine HL.one (H1.ldb rfl memA rfl rfl ?_) | refine HC.cond rfl (fun hc => ?_) (fun hc => ?_) | refine HC.cond_b rfl (fun hc => ?_) (fun hc => ?_))
          exact HX.ret1 rfl rfl fun w' hM => ⟨congrArg Value.bool (decide_eq_true rfl), hM.ext⟩
        · refine HP.one_a rfl ?_
          refine H1.lit (cs := ints [3]) rfl rfl rfl rfl rfl rfl (fun b22 => ?_)
          apply HB.fold
          refine HB.all (by exact Keep.nil) [21] (by kernel_rfl) rfl ⟨⟨_, rfl, ?_⟩, trivial⟩
          refine HP.one_a rfl ?_
          refine H1.lit (cs := ints [0]) rfl rfl rfl rfl rfl rfl (fun b21 => ?_)
          apply HB.fold
          refine HB.all (by exact Keep.nil) [23] (by kernel_rfl) rfl ⟨⟨_, rfl, ?_⟩, trivial⟩
          refine HP.one_a rfl ?_
          refine H1.callz1 (An := fun z : Option Addr × Nat => A.grow 3 1 z.1 z.2 3 (ints (natI [0, 1, 3]))) (V := fun z => .slice z.1 3 z.2) (I := fun _ => True) (vs := [.slice (some ⟨bf, 0, none⟩) 4 4, .slice (some ⟨b21, 0, none⟩) 1 1, .slice none 0 0, .slice none 0 0, .slice (some ⟨b22, 0, none⟩) 1 1]) rfl rfl (fun w' hM => strX hM memA memA memA) ?_
          rintro ⟨aS, cS⟩ -
          dsimp only
          apply HB.fold
          refine HB.all (by exact Keep.nil) [25] (by kernel_rfl) rfl ⟨⟨_, rfl, ?_⟩, trivial⟩
          refine HP.one_a rfl ?_
          refine H1.callx (vs := [.slice aS 3 cS, .slice (some ⟨b24, 0, none⟩) 3 3]) rfl rfl (fun w' hM => ksame_fn _ _ [0, 1, 3] [0, 1, 3] (by decide) (by decide) w' (hM.gr (a := aS) (c := cS) memA) (rdLit (b := b24) (l := [0, 1, 3]) hM memA)) ?_
          apply HB.fold
          refine HB.pa 26 rfl ?_
          refine HB.pa 27 rfl ?_
          refine HB.done (by exact Keep.nil) (by kernel_rfl) ?_
          repeat' (first | apply HL.fold | apply HA.fold | apply HL.nil | apply HX.n_then | apply HC.seq | apply HC.region | refine HL.pa ?_ | refine HL.ga rfl ?_ | refine HL.na rfl ?_ | refine HL.nu rfl rfl ?_ | apply HC.block | apply HC.skip | apply HC.exit | apply HC.ret | apply HX.e_block | refine HX.e_other rfl ?_ | apply HX.e_then | apply HX.e_again | apply HX.n_block | apply HX.r_then | apply HX.r_block | apply HX.r_again | refine HC.cond_yes rfl ?_ | refine HC.cond_no rfl ?_ | refine HL.one (H1.ldb rfl memA rfl rfl ?_) | refine HC.cond rfl (fun hc => ?_) (fun hc => ?_) | refine HC.cond_b rfl (fun hc => ?_) (fun hc => ?_))
          exact HX.ret1 rfl rfl fun w' hM => ⟨congrArg Value.bool (decide_eq_true rfl), hM.ext⟩
      · refine HP.one_a rfl ?_
        refine H1.lit (cs := ints [0]) rfl rfl rfl rfl rfl rfl (fun b21 => ?_)
        apply HB.fold
        refine HB.all (by exact Keep.nil) [20, 22] (by kernel_rfl) rfl ⟨⟨_, rfl, ?_⟩, ⟨_, rfl, ?_⟩, trivial⟩
        · refine HP.one_a rfl ?_
          refine H1.callz1 (vs := []) rfl rfl (fun w' _ => example_fn w') ?_
          rintro bf -
          apply HB.fold
          refine HB.all (by exact Keep.nil) [22] (by kernel_rfl) rfl ⟨⟨_, rfl, ?_⟩, trivial⟩
          refine HP.one_a rfl ?_
          refine H1.lit (cs := ints [3]) rfl rfl rfl rfl rfl rfl (fun b22 => ?_)
          apply HB.fold
          refine HB.all (by exact Keep.nil) [23] (by kernel_rfl) rfl ⟨⟨_, rfl, ?_⟩, trivial⟩
          refine HP.one_a rfl ?_
          refine H1.callz1 (An := fun z : Option Addr × Nat => A.grow 3 1 z.1 z.2 3 (ints (natI [0, 1, 3]))) (V := fun z => .slice z.1 3 z.2) (I := fun _ => True) (vs := [.slice (some ⟨bf, 0, none⟩) 4 4, .slice (some ⟨b21, 0, none⟩) 1 1, .slice none 0 0, .slice none 0 0, .slice (some ⟨b22, 0, none⟩) 1 1]) rfl rfl (fun w' hM => strX hM memA memA memA) ?_
          rintro ⟨aS, cS⟩ -
          dsimp only
          apply HB.fold
          refine HB.all (by exact Keep.nil) [25] (by kernel_rfl) rfl ⟨⟨_, rfl, ?_⟩, trivial⟩
          refine HP.one_a rfl ?_
          refine H1.callx (vs := [.slice aS 3 cS, .slice (some ⟨b24, 0, none⟩) 3 3]) rfl rfl (fun w' hM => ksame_fn _ _ [0, 1, 3] [0, 1, 3] (by decide) (by decide) w' (hM.gr (a := aS) (c := cS) memA) (rdLit (b := b24) (l := [0, 1, 3]) hM memA)) ?_
          apply HB.fold
          refine HB.pa 26 rfl ?_
          refine HB.pa 27 rfl ?_
          refine HB.done (by exact Keep.nil) (by kernel_rfl) ?_
          repeat' (first | apply HL.fold | apply HA.fold | apply HL.nil | apply HX.n_then | apply HC.seq | apply HC.region | refine HL.pa ?_ | refine HL.ga rfl ?_ | refine HL.na rfl ?_ | refine HL.nu rfl rfl ?_ | apply HC.block | apply HC.skip | apply HC.exit | apply HC.ret | apply HX.e_block | refine HX.e_other rfl ?_ | apply HX.e_then | apply HX.e_again | apply HX.n_block | apply HX.r_then | apply HX.r_block | apply HX.r_again | refine HC.cond_yes rfl ?_ | refine HC.cond_no rfl ?_ | refine HL.one (H1.ldb rfl memA rfl rfl ?_) | refine HC.cond rfl (fun hc => ?_) (fun hc => ?_) | refine HC.cond_b rfl (fun hc => ?_) (fun hc => ?_))
          exact HX.ret1 rfl rfl fun w' hM => ⟨congrArg Value.bool (decide_eq_true rfl), hM.ext⟩
        · refine HP.one_a rfl ?_
          refine H1.lit (cs := ints [3]) rfl rfl rfl rfl rfl rfl (fun b22 => ?_)
          apply HB.fold
          refine HB.all (by exact Keep.nil) [20] (by kernel_rfl) rfl ⟨⟨_, rfl, ?_⟩, trivial⟩
          refine HP.one_a rfl ?_
          refine H1.callz1 (vs := []) rfl rfl (fun w' _ => example_fn w') ?_
          rintro bf -
          apply HB.fold
          refine HB.all (by exact Keep.nil) [23] (by kernel_rfl) rfl ⟨⟨_, rfl, ?_⟩, trivial⟩
          refine HP.one_a rfl ?_
          refine H1.callz1 (An := fun z : Option Addr × Nat => A.grow 3 1 z.1 z.2 3 (ints (natI [0, 1, 3]))) (V := fun z => .slice z.1 3 z.2) (I := fun _ => True) (vs := [.slice (some ⟨bf, 0, none⟩) 4 4, .slice (some ⟨b21, 0, none⟩) 1 1, .slice none 0 0, .slice none 0 0, .slice (some ⟨b22, 0, none⟩) 1 1]) rfl rfl (fun w' hM => strX hM memA memA memA) ?_
          rintro ⟨aS, cS⟩ -
          dsimp only
          apply HB.fold
          refine HB.all (by exact Keep.nil) [25] (by kernel_rfl) rfl ⟨⟨_, rfl, ?_⟩, trivial⟩
          refine HP.one_a rfl ?_
          refine H1.callx (vs := [.slice aS 3 cS, .slice (some ⟨b24, 0, none⟩) 3 3]) rfl rfl (fun w' hM => ksame_fn _ _ [0, 1, 3] [0, 1, 3] (by decide) (by decide) w' (hM.gr (a := aS) (c := cS) memA) (rdLit (b := b24) (l := [0, 1, 3]) hM memA)) ?_
          apply HB.fold
          refine HB.pa 26 rfl ?_
          refine HB.pa 27 rfl ?_
          refine HB.done (by exact Keep.nil) (by kernel_rfl) ?_
          repeat' (first | apply HL.fold | apply HA.fold | apply HL.nil | apply HX.n_then | apply HC.seq | apply HC.region | refine HL.pa ?_ | refine HL.ga rfl ?_ | refine HL.na rfl ?_ | refine HL.nu rfl rfl ?_ | apply HC.block | apply HC.skip | apply HC.exit | apply HC.ret | apply HX.e_block | refine HX.e_other rfl ?_ | apply HX.e_then | apply HX.e_again | apply HX.n_block | apply HX.r_then | apply HX.r_block | apply HX.r_again | refine HC.cond_yes rfl ?_ | refine HC.cond_no rfl ?_ | refine HL.one (H1.ldb rfl memA rfl rfl ?_) | refine HC.cond rfl (fun hc => ?_) (fun hc => ?_) | refine HC.cond_b rfl (fun hc => ?_) (fun hc => ?_))
          exact HX.ret1 rfl rfl fun w' hM => ⟨congrArg Value.bool (decide_eq_true rfl), hM.ext⟩
      · refine HP.one_a rfl ?_
        refine H1.lit (cs := ints [3]) rfl rfl rfl rfl rfl rfl (fun b22 => ?_)
        apply HB.fold
        refine HB.all (by exact Keep.nil) [20, 21] (by kernel_rfl) rfl ⟨⟨_, rfl, ?_⟩, ⟨_, rfl, ?_⟩, trivial⟩
        · refine HP.one_a rfl ?_
          refine H1.callz1 (vs := []) rfl rfl (fun w' _ => example_fn w') ?_
          rintro bf -
          apply HB.fold
          refine HB.all (by exact Keep.nil) [21] (by kernel_rfl) rfl ⟨⟨_, rfl, ?_⟩, trivial⟩
          refine HP.one_a rfl ?_
          refine H1.lit (cs := ints [0]) rfl rfl rfl rfl rfl rfl (fun b21 => ?_)
          apply HB.fold
          refine HB.all (by exact Keep.nil) [23] (by kernel_rfl) rfl ⟨⟨_, rfl, ?_⟩, trivial⟩
          refine HP.one_a rfl ?_
          refine H1.callz1 (An := fun z : Option Addr × Nat => A.grow 3 1 z.1 z.2 3 (ints (natI [0, 1, 3]))) (V := fun z => .slice z.1 3 z.2) (I := fun _ => True) (vs := [.slice (some ⟨bf, 0, none⟩) 4 4, .slice (some ⟨b21, 0, none⟩) 1 1, .slice none 0 0, .slice none 0 0, .slice (some ⟨b22, 0, none⟩) 1 1]) rfl rfl (fun w' hM => strX hM memA memA memA) ?_
          rintro ⟨aS, cS⟩ -
          dsimp only
          apply HB.fold
          refine HB.all (by exact Keep.nil) [25] (by kernel_rfl) rfl ⟨⟨_, rfl, ?_⟩, trivial⟩
          refine HP.one_a rfl ?_
          refine H1.callx (vs := [.slice aS 3 cS, .slice (some ⟨b24, 0, none⟩) 3 3]) rfl rfl (fun w' hM => ksame_fn _ _ [0, 1, 3] [0, 1, 3] (by decide) (by decide) w' (hM.gr (a := aS) (c := cS) memA) (rdLit (b := b24) (l := [0, 1, 3]) hM memA)) ?_
          apply HB.fold
          refine HB.pa 26 rfl ?_
          refine HB.pa 27 rfl ?_
          refine HB.done (by exact Keep.nil) (by kernel_rfl) ?_
          repeat' (first | apply HL.fold | apply HA.fold | apply HL.nil | apply HX.n_then | apply HC.seq | apply HC.region | refine HL.pa ?_ | refine HL.ga rfl ?_ | refine HL.na rfl ?_ | refine HL.nu rfl rfl ?_ | apply HC.block | apply HC.skip | apply HC.exit | apply HC.ret | apply HX.e_block | refine HX.e_other rfl ?_ | apply HX.e_then | apply HX.e_again | apply HX.n_block | apply HX.r_then | apply HX.r_block | apply HX.r_again | refine HC.cond_yes rfl ?_ | refine HC.cond_no rfl ?_ | refine HL.one (H1.ldb rfl memA rfl rfl ?_) | refine HC.cond rfl (fun hc => ?_) (fun hc => ?_) | refine HC.cond_b rfl (fun hc => ?_) (fun hc => ?_))
          exact HX.ret1 rfl rfl fun w' hM => ⟨congrArg Value.bool (decide_eq_true rfl), hM.ext⟩
        · refine HP.one_a rfl ?_
          refine H1.lit (cs := ints [0]) rfl rfl rfl rfl rfl rfl (fun b21 => ?_)
          apply HB.fold
          refine HB.all (by exact Keep.nil) [20] (by kernel_rfl) rfl ⟨⟨_, rfl, ?_⟩, trivial⟩
          refine HP.one_a rfl ?_
          refine H1.callz1 (vs := []) rfl rfl (fun w' _ => example_fn w') ?_
          rintro bf -
          apply HB.fold
          refine HB.all (by exact Keep.nil) [23] (by kernel_rfl) rfl ⟨⟨_, rfl, ?_⟩, trivial⟩
          refine HP.one_a rfl ?_
          refine H1.callz1 (An := fun z : Option Addr × Nat => A.grow 3 1 z.1 z.2 3 (ints (natI [0, 1, 3]))) (V := fun z => .slice z.1 3 z.2) (I := fun _ => True) (vs := [.slice (some ⟨bf, 0, none⟩) 4 4, .slice (some ⟨b21, 0, none⟩) 1 1, .slice none 0 0, .slice none 0 0, .slice (some ⟨b22, 0, none⟩) 1 1]) rfl rfl (fun w' hM => strX hM memA memA memA) ?_
          rintro ⟨aS, cS⟩ -
          dsimp only
          apply HB.fold
          refine HB.all (by exact Keep.nil) [25] (by kernel_rfl) rfl ⟨⟨_, rfl, ?_⟩, trivial⟩
          refine HP.one_a rfl ?_
          refine H1.callx (vs := [.slice aS 3 cS, .slice (some ⟨b24, 0, none⟩) 3 3]) rfl rfl (fun w' hM => ksame_fn _ _ [0, 1, 3] [0, 1, 3] (by decide) (by decide) w' (hM.gr (a := aS) (c := cS) memA) (rdLit (b := b24) (l := [0, 1, 3]) hM memA)) ?_
          apply HB.fold
          refine HB.pa 26 rfl ?_
          refine HB.pa 27 rfl ?_
          refine HB.done (by exact Keep.nil) (by kernel_rfl) ?_
          repeat' (first | apply HL.fold | apply HA.fold | apply HL.nil | apply HX.n_then | apply HC.seq | apply HC.region | refine HL.pa ?_ | refine HL.ga rfl ?_ | refine HL.na rfl ?_ | refine HL.nu rfl rfl ?_ | apply HC.block | apply HC.skip | apply HC.exit | apply HC.ret | apply HX.e_block | refine HX.e_other rfl ?_ | apply HX.e_then | apply HX.e_again | apply HX.n_block | apply HX.r_then | apply HX.r_block | apply HX.r_again | refine HC.cond_yes rfl ?_ | refine HC.cond_no rfl ?_ | refine HL.one (H1.ldb rfl memA rfl rfl ?_) | refine HC.cond rfl (fun hc => ?_) (fun hc => ?_) | refine HC.cond_b rfl (fun hc => ?_) (fun hc => ?_))
          exact HX.ret1 rfl rfl fun w' hM => ⟨congrArg Value.bool (decide_eq_true rfl), hM.ext⟩
end Go.Sx

