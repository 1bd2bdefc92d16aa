/- Chapter 20's reference: Some: at most 30 valid records. -/
import Derived.Test.YtehehfcmanccjaaGreatDoorQI10
namespace Go.Sx
open Go Go.Proofs Go.RowKit
theorem i64W.tdiv {x n : Int} (h : i64W x) (hn : 0 < n) : i64W (x.tdiv n) := tdiv_abs hn h.1 h.2
theorem i64W.shr {x : Int} (h : i64W x) (n : Nat) : i64W (x / 2 ^ n) := shr_abs n h.1 h.2
theorem spec_n {k : Int} {p : Nat × Int × Int} (hp : p ∈ specF k) : (p.1 = 0 → p.2.1 ≤ 1 ∧ 9 ≤ p.2.2) ∧ (p.1 = 1 → p.2.1 ≤ 0 ∧ 39 ≤ p.2.2) ∧ (p.1 = 2 → p.2.1 ≤ 0 ∧ 68 ≤ p.2.2) ∧ (p.1 = 8 → p.2.1 = 0 ∧ p.2.2 = 1) ∧ (p.1 ≠ 8 → p.2.1 + 3 ≤ p.2.2) := by
 unfold specF at hp
 repeat' split at hp
 all_goals (simp only [List.mem_cons, List.not_mem_nil, or_false] at hp)
 all_goals (first | (rcases hp with rfl | rfl | rfl | rfl | rfl | rfl | rfl | rfl <;> decide) | (rcases hp with rfl | rfl | rfl | rfl | rfl | rfl <;> decide) | (rcases hp with rfl | rfl | rfl | rfl | rfl <;> decide) | (rcases hp with rfl | rfl | rfl | rfl <;> decide) | (rcases hp with rfl | rfl <;> decide))
theorem spec_one {k : Int} {j : Nat} {p : Nat × Int × Int} (h : (specF k)[j]? = some p) (h1 : p.1 = 1) : 2 ∉ ((specF k).take j).map Prod.fst := by
 have hc : ∀ j, j < 8 → ((specF k).map Prod.fst)[j]? = some 1 → 2 ∉ ((specF k).map Prod.fst).take j := by
  unfold specF
  repeat' split
  all_goals decide
 have hj := (List.getElem?_eq_some_iff.1 h).1
 have hl := spec_len k
 rw [List.map_take]
 exact hc j (by omega) (by rw [List.getElem?_map, h, ← h1]; rfl)
theorem six {y : List Int} (h : y.length = 6) : ∃ y0 y1 y2 y3 y4 y5, y = [y0, y1, y2, y3, y4, y5] := by
 match y, h with
 | [a, b, c, d, e, f], _ => exact ⟨a, b, c, d, e, f, rfl⟩
theorem getter_no {L : List (Nat × Int × Int)} (hnd : (L.map Prod.fst).Nodup) {k : Nat} {p : Nat × Int × Int} (hp : L[k]? = some p) : p.1 ∉ (L.take k).map Prod.fst := by
 have h1 : (L.map Prod.fst)[k]? = some p.1 := by rw [List.getElem?_map, hp]; rfl
 have hlt := (List.getElem?_eq_some_iff.1 hp).1
 intro hm
 rw [List.map_take] at hm
 obtain ⟨i, hi, e⟩ := List.getElem_of_mem hm
 rw [List.length_take] at hi
 have h2 : (L.map Prod.fst)[i]? = some p.1 := by
  rw [List.getElem?_eq_getElem (by omega)]
  rw [List.getElem_take] at e
  rw [e]
 have := (List.getElem?_inj (by omega) hnd).1 (h2.trans h1.symm)
 omega
attribute [local irreducible] WC WL WX POp Then Again Fn NX W1 WA WO QL RP RA Yld LoopAt HC HL HX HN H1 HA HO HQ HB HP A.blk A.grow A.rd A.obj A.mp AgainH CutH
attribute [local irreducible] specF fldN
set_option maxHeartbeats 8000000 in
theorem Some_fn (v : Value) (rows : List (List Int)) (hrow : ∀ y ∈ rows, y.length = 6 ∧ ∀ z ∈ y, i64W z) (w : World) (hR : RdA 6 w v rows) :
  Fn Tryz.prog 58 #[v] w fun v w' => ∃ z : (Option Addr × Nat) × List Rc, (z.2.length ≤ 30 ∧ ∀ r ∈ z.2, SomeOk r) ∧ v = .slice z.1.1 z.2.length z.1.2 ∧ Mm w [A.grow 46 15 z.1.1 z.1.2 z.2.length (rcl z.2)] w' := by
 obtain ⟨a0, c0, rfl, -⟩ := hR.shape
 refine enterH (l := [_]) rfl Tryz.ntmps58 rfl ?_
 refine hwNE ?_
 refine HC.grow0 46 15 ?_
 refine HC.loop (α := Nat × List Rc × Option Addr × Nat) (fun z => [(0, .slice a0 rows.length c0), (3, .slice z.2.2.1 z.2.1.length z.2.2.2), (4, zv (z.1 : Int))]) (fun z => [A.grow 46 15 z.2.2.1 z.2.2.2 z.2.1.length (rcl z.2.1)])
  (fun z => z.1 ≤ rows.length ∧ z.1 ≤ 30 ∧ z.2.1.length = z.1 ∧ ∀ r ∈ z.2.1, SomeOk r) (fun z => 30 - z.1) (0, [], none, 0) ⟨Nat.zero_le _, Nat.zero_le _, rfl, fun r h => by cases h⟩ esA (by repeat (first | exact Hs.nil _ | (refine Hs.cons pickA ?_))) ?_
 rintro ⟨i, l, a, c⟩ ⟨hi1, hi2, hll, hok⟩
 dsimp only at hi1 hi2 hll hok ⊢
 by_cases hlt : i < rows.length
 rotate_left
 ·have h1 : ¬ (i : Int) < (rows.length : Int) := by omega
  refine hwNE ?_
  exact HX.ret1 rfl rfl fun w' hM => ⟨((a, c), l), ⟨by show l.length ≤ 30; omega, hok⟩, rfl, hM⟩
 by_cases h30 : i < 30
 rotate_left
 ·have h1 : (i : Int) < (rows.length : Int) := by omega
  have h2 : ¬ (i : Int) < 30 := by omega
  refine hwNE ?_
  exact HX.ret1 rfl rfl fun w' hM => ⟨((a, c), l), ⟨by show l.length ≤ 30; omega, hok⟩, rfl, hM⟩
 have hsnoc : ∀ s, SomeOk s → ∀ r ∈ l ++ [s], SomeOk r := fun s hs r hr => by
  rcases List.mem_append.1 hr with hr | hr
  ·exact hok r hr
  ·obtain rfl := List.mem_singleton.1 hr; exact hs
 obtain ⟨y, hy⟩ : ∃ y, rows[i]? = some y := ⟨_, List.getElem?_eq_getElem hlt⟩
 have hy6 := hrow y (List.mem_of_getElem? hy)
 obtain ⟨b1, off, rfl, -, hcell⟩ := hR.at (fun e => by rw [e] at hlt; exact absurd hlt (Nat.not_lt_zero _))
 have hcl := hcell i y hy
 clear hcell hR
 obtain ⟨y0, y1, y2, y3, y4, y5, rfl⟩ := six hy6.1
 have w0 := hy6.2 y0 (by simp)
 have w1 := hy6.2 y1 (by simp)
 have w2 := hy6.2 y2 (by simp)
 have w3 := hy6.2 y3 (by simp)
 have w4 := hy6.2 y4 (by simp)
 have w5 := hy6.2 y5 (by simp)
 have h1 : (i : Int) < (rows.length : Int) := by omega
 have h2 : (i : Int) < 30 := by omega
 refine hwNE ?_
 refine HL.one (H1.ldAggw (vs := ints [y0, y1, y2, y3, y4, y5]) rfl rfl (fun w' hM i v hv => cell_ext hM.ext (hcl i v hv)) rfl ?_)
 clear hcl hy hy6
 refine hwNE ?_
 refine HL.one (H1.alloc (cs := ints [0, 0, 0, 0, 0, 0]) rfl rfl (fun b5 => ?_))
 refine hwNE ?_
 refine HL.one (H1.stAgg (cs := ints [0, 0, 0, 0, 0, 0]) (vs := ints [y0, y1, y2, y3, y4, y5]) rfl rfl rfl (ints_one _) rplA rfl ?_)
 refine hwNE ?_
 have q0 := pickI21_lt y0 (n := 8) (by decide)
 have q1 := pickI21_lt (y0.tdiv 8) (n := 3) (by decide)
 have q2 := pickI21_lt y1 (n := 30) (by decide)
 have u0 := w0.tdiv (n := 8) (by decide)
 have u1 := w1.tdiv (n := 30) (by decide)
 obtain ⟨r0, hr0⟩ : ∃ r0 : Rc, r0 = ⟨1 + pickI21 y0 8, 0, 1 + pickI21 (y0.tdiv 8) 3, pickI21 y1 30, decide (pickI21 (y1.tdiv 30) 7 = 0), 0, 0, 0, 0, 0, 0, 0, false, 0, ByteArray.mk #[]⟩ := ⟨_, rfl⟩
 have hS0 : SomeI [] r0 := by
  subst hr0
  refine ⟨?_, ?_, ?_, rfl, (fun p hp => by cases hp), (fun i hi _ => ?_), ⟨Int.le_refl _, of_decide_eq_true rfl⟩, (fun h => by cases h)⟩
  ·show 1 ≤ 1 + pickI21 y0 8 ∧ 1 + pickI21 y0 8 ≤ 8; omega
  ·show 1 ≤ 1 + pickI21 (y0.tdiv 8) 3 ∧ 1 + pickI21 (y0.tdiv 8) 3 ≤ 3; omega
  ·show 0 ≤ pickI21 y1 30 ∧ pickI21 y1 30 ≤ 29; omega
  ·rcases ten hi with rfl | rfl | rfl | rfl | rfl | rfl | rfl | rfl | rfl | rfl <;> rfl
 refine HC.cut (α := Nat) (fun b6 => [(0, .slice (some ⟨b1, off, none⟩) rows.length c0), (3, .slice a l.length c), (4, zv (i : Int)), (5, .pointer (some ⟨b5, 0, none⟩)), (6, .pointer (some ⟨b6, 0, none⟩))])
  (fun b6 => [A.blk b6 (rcells r0) 46, A.blk b5 (ints [y0, y1, y2, y3, y4, y5]) 137, A.grow 46 15 a c l.length (rcl l)]) (fun _ => True) ?_ ?_
 ·refine HC.anyC ([(⟨b5, 0, none⟩, zv y0), (⟨b5, 1, none⟩, zv y1)]) rfl ?_
  refine HB.pa 0 rfl ?_
  refine HB.ld 1 rfl rfl memD ?_
  refine HB.pa 4 rfl ?_
  refine HB.ld 5 rfl rfl memD ?_
  refine HB.pa (v := zv (y0.tdiv 8)) 6 rfl ?_ (POp.quoT rfl rfl w0.1 w0.2 (by decide))
  refine HB.pa 9 rfl ?_
  refine HB.ld 10 rfl rfl memD ?_
  refine HB.pa 12 rfl ?_
  refine HB.ld 13 rfl rfl memD ?_
  refine HB.pa (v := zv (y1.tdiv 30)) 14 rfl ?_ (POp.quoT rfl rfl w1.1 w1.2 (by decide))
  refine HB.all keepA [2, 18] (by kernel_rfl) rfl ⟨⟨_, rfl, ?_⟩, ⟨_, rfl, ?_⟩, trivial⟩
  ·refine HP.one ?_
   refine H1.call0 (vs := [zv y0, zv 8]) rfl rfl (fun w' _ => pick20_fn y0 8 w0.1 w0.2 (by decide) w') ?_
   apply HB.fold
   refine HB.pa 3 rfl ?_
   refine HB.all keepA [7, 18] (by kernel_rfl) rfl ⟨⟨_, rfl, ?_⟩, ⟨_, rfl, ?_⟩, trivial⟩
   ·refine HP.one ?_
    refine H1.call0 (vs := [zv (y0.tdiv 8), zv 3]) rfl rfl (fun w' _ => pick20_fn (y0.tdiv 8) 3 u0.1 u0.2 (by decide) w') ?_
    apply HB.fold
    refine HB.pa 8 rfl ?_
    refine HB.all keepA [11, 18] (by kernel_rfl) rfl ⟨⟨_, rfl, ?_⟩, ⟨_, rfl, ?_⟩, trivial⟩
    ·refine HP.one ?_
     refine H1.call0 (vs := [zv y1, zv 30]) rfl rfl (fun w' _ => pick20_fn y1 30 w1.1 w1.2 (by decide) w') ?_
     apply HB.fold
     refine HB.all keepA [15, 18] (by kernel_rfl) rfl ⟨⟨_, rfl, ?_⟩, ⟨_, rfl, ?_⟩, trivial⟩
     ·refine HP.one ?_
      refine H1.call0 (vs := [zv (y1.tdiv 30), zv 7]) rfl rfl (fun w' _ => pick20_fn (y1.tdiv 30) 7 u1.1 u1.2 (by decide) w') ?_
      apply HB.fold
      refine HB.pa 16 rfl ?_
      refine HB.pa (v := recV r0) 17 rfl ?_ (by rw [hr0]; exact POp.build (cs := rcells ⟨1 + pickI21 y0 8, 0, 1 + pickI21 (y0.tdiv 8) 3, pickI21 y1 30, decide (pickI21 (y1.tdiv 30) 7 = 0), 0, 0, 0, 0, 0, 0, 0, false, 0, ByteArray.mk #[]⟩) rfl rfl)
      refine HB.all keepA [18] (by kernel_rfl) rfl ⟨⟨_, rfl, ?_⟩, trivial⟩
      refine HP.one ?_
      refine H1.alloc (cs := rcells rcZ) rfl rfl (fun b6 => ?_)
      apply HB.fold
      refine HB.all keepA [19] (by kernel_rfl) rfl ⟨⟨_, rfl, ?_⟩, trivial⟩
      refine HP.one ?_
      refine H1.stAgg (cs := rcells rcZ) (vs := rcells r0) rfl rfl rfl (rcells_one _) rplA rfl ?_
      apply HB.fold
      refine HB.done keepA (by kernel_rfl) ?_
      exact HX.cut b6 trivial esA (by repeat (first | exact Hs.nil _ | (refine Hs.cons pickA ?_)))
     ·refine HP.one ?_
      refine H1.alloc (cs := rcells rcZ) rfl rfl (fun b6 => ?_)
      apply HB.fold
      refine HB.all keepA [15] (by kernel_rfl) rfl ⟨⟨_, rfl, ?_⟩, trivial⟩
      refine HP.one ?_
      refine H1.call0 (vs := [zv (y1.tdiv 30), zv 7]) rfl rfl (fun w' _ => pick20_fn (y1.tdiv 30) 7 u1.1 u1.2 (by decide) w') ?_
      apply HB.fold
      refine HB.pa 16 rfl ?_
      refine HB.pa (v := recV r0) 17 rfl ?_ (by rw [hr0]; exact POp.build (cs := rcells ⟨1 + pickI21 y0 8, 0, 1 + pickI21 (y0.tdiv 8) 3, pickI21 y1 30, decide (pickI21 (y1.tdiv 30) 7 = 0), 0, 0, 0, 0, 0, 0, 0, false, 0, ByteArray.mk #[]⟩) rfl rfl)
      refine HB.all keepA [19] (by kernel_rfl) rfl ⟨⟨_, rfl, ?_⟩, trivial⟩
      refine HP.one ?_
      refine H1.stAgg (cs := rcells rcZ) (vs := rcells r0) rfl rfl rfl (rcells_one _) rplA rfl ?_
      apply HB.fold
      refine HB.done keepA (by kernel_rfl) ?_
      exact HX.cut b6 trivial esA (by repeat (first | exact Hs.nil _ | (refine Hs.cons pickA ?_)))
    ·refine HP.one ?_
     refine H1.alloc (cs := rcells rcZ) rfl rfl (fun b6 => ?_)
     apply HB.fold
     refine HB.all keepA [11] (by kernel_rfl) rfl ⟨⟨_, rfl, ?_⟩, trivial⟩
     refine HP.one ?_
     refine H1.call0 (vs := [zv y1, zv 30]) rfl rfl (fun w' _ => pick20_fn y1 30 w1.1 w1.2 (by decide) w') ?_
     apply HB.fold
     refine HB.all keepA [15] (by kernel_rfl) rfl ⟨⟨_, rfl, ?_⟩, trivial⟩
     refine HP.one ?_
     refine H1.call0 (vs := [zv (y1.tdiv 30), zv 7]) rfl rfl (fun w' _ => pick20_fn (y1.tdiv 30) 7 u1.1 u1.2 (by decide) w') ?_
     apply HB.fold
     refine HB.pa 16 rfl ?_
     refine HB.pa (v := recV r0) 17 rfl ?_ (by rw [hr0]; exact POp.build (cs := rcells ⟨1 + pickI21 y0 8, 0, 1 + pickI21 (y0.tdiv 8) 3, pickI21 y1 30, decide (pickI21 (y1.tdiv 30) 7 = 0), 0, 0, 0, 0, 0, 0, 0, false, 0, ByteArray.mk #[]⟩) rfl rfl)
     refine HB.all keepA [19] (by kernel_rfl) rfl ⟨⟨_, rfl, ?_⟩, trivial⟩
     refine HP.one ?_
     refine H1.stAgg (cs := rcells rcZ) (vs := rcells r0) rfl rfl rfl (rcells_one _) rplA rfl ?_
     apply HB.fold
     refine HB.done keepA (by kernel_rfl) ?_
     exact HX.cut b6 trivial esA (by repeat (first | exact Hs.nil _ | (refine Hs.cons pickA ?_)))
   ·refine HP.one ?_
    refine H1.alloc (cs := rcells rcZ) rfl rfl (fun b6 => ?_)
    apply HB.fold
    refine HB.all keepA [7] (by kernel_rfl) rfl ⟨⟨_, rfl, ?_⟩, trivial⟩
    refine HP.one ?_
    refine H1.call0 (vs := [zv (y0.tdiv 8), zv 3]) rfl rfl (fun w' _ => pick20_fn (y0.tdiv 8) 3 u0.1 u0.2 (by decide) w') ?_
    apply HB.fold
    refine HB.pa 8 rfl ?_
    refine HB.all keepA [11] (by kernel_rfl) rfl ⟨⟨_, rfl, ?_⟩, trivial⟩
    refine HP.one ?_
    refine H1.call0 (vs := [zv y1, zv 30]) rfl rfl (fun w' _ => pick20_fn y1 30 w1.1 w1.2 (by decide) w') ?_
    apply HB.fold
    refine HB.all keepA [15] (by kernel_rfl) rfl ⟨⟨_, rfl, ?_⟩, trivial⟩
    refine HP.one ?_
    refine H1.call0 (vs := [zv (y1.tdiv 30), zv 7]) rfl rfl (fun w' _ => pick20_fn (y1.tdiv 30) 7 u1.1 u1.2 (by decide) w') ?_
    apply HB.fold
    refine HB.pa 16 rfl ?_
    refine HB.pa (v := recV r0) 17 rfl ?_ (by rw [hr0]; exact POp.build (cs := rcells ⟨1 + pickI21 y0 8, 0, 1 + pickI21 (y0.tdiv 8) 3, pickI21 y1 30, decide (pickI21 (y1.tdiv 30) 7 = 0), 0, 0, 0, 0, 0, 0, 0, false, 0, ByteArray.mk #[]⟩) rfl rfl)
    refine HB.all keepA [19] (by kernel_rfl) rfl ⟨⟨_, rfl, ?_⟩, trivial⟩
    refine HP.one ?_
    refine H1.stAgg (cs := rcells rcZ) (vs := rcells r0) rfl rfl rfl (rcells_one _) rplA rfl ?_
    apply HB.fold
    refine HB.done keepA (by kernel_rfl) ?_
    exact HX.cut b6 trivial esA (by repeat (first | exact Hs.nil _ | (refine Hs.cons pickA ?_)))
  ·refine HP.one ?_
   refine H1.alloc (cs := rcells rcZ) rfl rfl (fun b6 => ?_)
   apply HB.fold
   refine HB.all keepA [2] (by kernel_rfl) rfl ⟨⟨_, rfl, ?_⟩, trivial⟩
   refine HP.one ?_
   refine H1.call0 (vs := [zv y0, zv 8]) rfl rfl (fun w' _ => pick20_fn y0 8 w0.1 w0.2 (by decide) w') ?_
   apply HB.fold
   refine HB.pa 3 rfl ?_
   refine HB.all keepA [7] (by kernel_rfl) rfl ⟨⟨_, rfl, ?_⟩, trivial⟩
   refine HP.one ?_
   refine H1.call0 (vs := [zv (y0.tdiv 8), zv 3]) rfl rfl (fun w' _ => pick20_fn (y0.tdiv 8) 3 u0.1 u0.2 (by decide) w') ?_
   apply HB.fold
   refine HB.pa 8 rfl ?_
   refine HB.all keepA [11] (by kernel_rfl) rfl ⟨⟨_, rfl, ?_⟩, trivial⟩
   refine HP.one ?_
   refine H1.call0 (vs := [zv y1, zv 30]) rfl rfl (fun w' _ => pick20_fn y1 30 w1.1 w1.2 (by decide) w') ?_
   apply HB.fold
   refine HB.all keepA [15] (by kernel_rfl) rfl ⟨⟨_, rfl, ?_⟩, trivial⟩
   refine HP.one ?_
   refine H1.call0 (vs := [zv (y1.tdiv 30), zv 7]) rfl rfl (fun w' _ => pick20_fn (y1.tdiv 30) 7 u1.1 u1.2 (by decide) w') ?_
   apply HB.fold
   refine HB.pa 16 rfl ?_
   refine HB.pa (v := recV r0) 17 rfl ?_ (by rw [hr0]; exact POp.build (cs := rcells ⟨1 + pickI21 y0 8, 0, 1 + pickI21 (y0.tdiv 8) 3, pickI21 y1 30, decide (pickI21 (y1.tdiv 30) 7 = 0), 0, 0, 0, 0, 0, 0, 0, false, 0, ByteArray.mk #[]⟩) rfl rfl)
   refine HB.all keepA [19] (by kernel_rfl) rfl ⟨⟨_, rfl, ?_⟩, trivial⟩
   refine HP.one ?_
   refine H1.stAgg (cs := rcells rcZ) (vs := rcells r0) rfl rfl rfl (rcells_one _) rplA rfl ?_
   apply HB.fold
   refine HB.done keepA (by kernel_rfl) ?_
   exact HX.cut b6 trivial esA (by repeat (first | exact Hs.nil _ | (refine Hs.cons pickA ?_)))
 rintro b6 -
 clear hr0 q0 q1 q2 u0 u1
 refine hwNE ?_
 refine HL.one (H1.callz1 (α := Nat) (V := fun b => .slice (some ⟨b, 0, none⟩) (specF r0.kind).length (specF r0.kind).length) (An := fun b => A.blk b (ints (fldN r0.kind)) 3) (I := fun _ => True) (vs := [zv r0.kind]) rfl rfl (fun w' _ => Fields_fn r0.kind hS0.kind w') ?_)
 rintro bf -
 have hK := hS0.kind
 obtain ⟨K, hKe⟩ : ∃ K, K = r0.kind := ⟨_, rfl⟩
 rw [← hKe] at hK ⊢
 unfold fldN
 obtain ⟨L, hL⟩ : ∃ L, L = specF K := ⟨_, rfl⟩
 rw [← hL]
 have hnd : (L.map Prod.fst).Nodup := by rw [hL]; exact spec_nodup K
 have hL8 : L.length ≤ 8 := by rw [hL]; exact spec_len K
 refine hwNE ?_
 refine HC.loop (α := Nat × Rc) (fun z => [(0, .slice (some ⟨b1, off, none⟩) rows.length c0), (3, .slice a l.length c), (4, zv (i : Int)), (5, .pointer (some ⟨b5, 0, none⟩)), (6, .pointer (some ⟨b6, 0, none⟩)), (7, .slice (some ⟨bf, 0, none⟩) L.length L.length), (8, zv (z.1 : Int))])
  (fun z => [A.blk b6 (rcells z.2) 46, A.blk bf (ints (L.map fun p => (p.1 : Int))) 3, A.blk b5 (ints [y0, y1, y2, y3, y4, y5]) 137, A.grow 46 15 a c l.length (rcl l)])
  (fun z => z.1 ≤ L.length ∧ z.2.kind = K ∧ SomeI (L.take z.1) z.2) (fun z => L.length - z.1) (0, r0) ⟨Nat.zero_le _, hKe.symm, by rw [List.take_zero]; exact hS0⟩ esA (by repeat (first | exact Hs.nil _ | (refine Hs.cons pickA ?_))) ?_
 clear hKe hS0 r0
 rintro ⟨k, r⟩ ⟨hk, hrk, hS⟩
 dsimp only at hk hrk hS ⊢
 by_cases hkl : k < L.length
 ·obtain ⟨p, hp⟩ : ∃ p, L[k]? = some p := ⟨_, List.getElem?_eq_getElem hkl⟩
  have hpm : p ∈ specF K := hL ▸ List.mem_of_getElem? hp
  have htk : L.take (k + 1) = L.take k ++ [p] := by rw [List.take_add_one, hp]; rfl
  have hno := getter_no hnd hp
  have hone : p.1 = 1 → 2 ∉ (L.take k).map Prod.fst := fun e => by
   have := spec_one (k := K) (j := k) (p := p) (by rw [← hL]; exact hp) e
   rwa [← hL] at this
  have hp10 := (spec_lo hpm).2
  have hsn := spec_n hpm
  have hl10 : ∀ q ∈ L.take k, q.1 < 10 := fun q hq => (spec_lo (hL ▸ List.mem_of_mem_take hq)).2
  have hstep := fun (n : Int) a1 a2 a3 a4 => hS.step (p := p) hp10 hno (n := n) a1 a2 a3 a4 hl10
  rw [← htk] at hstep
  have hlim := fun w' => Limits_fn K hK p hpm w'
  have hget : (ints (L.map fun p => (p.1 : Int)))[k]? = some (zv (p.1 : Int)) := by
   unfold ints
   rw [List.map_map, List.getElem?_map, hp]; rfl
  have hlo := (spec_lo hpm).1
  have hhi := spec_hi hpm
  obtain ⟨q, lo, hi⟩ := p
  dsimp only at hp10 hsn hstep hlim hget hlo hhi hone
  have hst := hS.start
  have hkb : (k : Int) < 8 := by omega
  refine hwNE ?_
  refine HC.cut (α := Unit) (fun _ => [(0, .slice (some ⟨b1, off, none⟩) rows.length c0), (3, .slice a l.length c), (4, zv (i : Int)), (5, .pointer (some ⟨b5, 0, none⟩)), (6, .pointer (some ⟨b6, 0, none⟩)), (7, .slice (some ⟨bf, 0, none⟩) L.length L.length), (8, zv (k : Int)), (9, zv lo)]) (fun _ => [A.blk b6 (rcells r) 46, A.blk bf (ints (L.map fun p => (p.1 : Int))) 3, A.blk b5 (ints [y0, y1, y2, y3, y4, y5]) 137, A.grow 46 15 a c l.length (rcl l)]) (fun _ => True) ?_ ?_
  ·refine HC.any rfl ?_
   refine HA.pa 0 rfl ?_
   refine HA.pa 2 rfl ?_
   refine HA.pa 3 rfl ?_
   refine HA.pa 4 rfl ?_
   refine HA.all [1, 5] (by kernel_rfl) rfl ⟨⟨_, rfl, ?_⟩, ⟨_, rfl, ?_⟩, trivial⟩
   ·refine HO.one ?_
    refine H1.ldb (v := zv K) (cs := rcells r) rfl memA (by rw [← hrk]; rfl) rfl ?_
    apply HA.fold
    refine HA.all [5] (by kernel_rfl) rfl ⟨⟨_, rfl, ?_⟩, trivial⟩
    refine HO.one ?_
    refine H1.ldb (v := zv (q : Int)) (cs := ints (L.map fun p => (p.1 : Int))) rfl memA hget rfl ?_
    apply HA.fold
    refine HA.all [6] (by kernel_rfl) rfl ⟨⟨_, rfl, ?_⟩, trivial⟩
    refine HO.one ?_
    refine H1.callx (vs := [zv K, zv (q : Int)]) rfl rfl (fun w' _ => hlim w') ?_
    apply HA.fold
    refine HA.pa 7 rfl ?_
    refine HA.pa 8 rfl ?_
    refine HA.pa 9 rfl ?_
    refine HA.pa 10 rfl ?_
    refine HA.pa 11 rfl ?_
    refine HA.done (by kernel_rfl) ?_
    exact HX.cut () trivial esA (by repeat (first | exact Hs.nil _ | (refine Hs.cons pickA ?_)))
   ·refine HO.one ?_
    refine H1.ldb (v := zv (q : Int)) (cs := ints (L.map fun p => (p.1 : Int))) rfl memA hget rfl ?_
    apply HA.fold
    refine HA.all [1] (by kernel_rfl) rfl ⟨⟨_, rfl, ?_⟩, trivial⟩
    refine HO.one ?_
    refine H1.ldb (v := zv K) (cs := rcells r) rfl memA (by rw [← hrk]; rfl) rfl ?_
    apply HA.fold
    refine HA.all [6] (by kernel_rfl) rfl ⟨⟨_, rfl, ?_⟩, trivial⟩
    refine HO.one ?_
    refine H1.callx (vs := [zv K, zv (q : Int)]) rfl rfl (fun w' _ => hlim w') ?_
    apply HA.fold
    refine HA.pa 7 rfl ?_
    refine HA.pa 8 rfl ?_
    refine HA.pa 9 rfl ?_
    refine HA.pa 10 rfl ?_
    refine HA.pa 11 rfl ?_
    refine HA.done (by kernel_rfl) ?_
    exact HX.cut () trivial esA (by repeat (first | exact Hs.nil _ | (refine Hs.cons pickA ?_)))
  rintro - -
  refine hbDD ?_
  refine HL.pa ?_ (POp.shrI (b := 2 * k) rfl rfl (by push_cast; rfl) (by omega))
  have v2 := w2.shr (2 * k)
  generalize y2 / 2 ^ (2 * k) = s2 at v2 ⊢
  refine hbDD ?_
  refine HL.one (H1.call0 (vs := [zv s2, zv 4]) rfl rfl (fun w' _ => pick20_fn s2 4 v2.1 v2.2 (by decide) w') ?_)
  have qq := pickI21_lt s2 (n := 4) (by decide)
  generalize pickI21 s2 4 = g at qq ⊢
  refine hbDD ?_
  refine HL.one (H1.ldb (v := zv (q : Int)) (cs := ints (L.map fun p => (p.1 : Int))) rfl memA hget rfl ?_)
  refine hbDD ?_
  refine HC.cut (α := Int) (fun n => [(0, .slice (some ⟨b1, off, none⟩) rows.length c0), (3, .slice a l.length c), (4, zv (i : Int)), (5, .pointer (some ⟨b5, 0, none⟩)), (6, .pointer (some ⟨b6, 0, none⟩)), (7, .slice (some ⟨bf, 0, none⟩) L.length L.length), (8, zv (k : Int)), (11, zv n)]) (fun _ => [A.blk b6 (rcells r) 46, A.blk bf (ints (L.map fun p => (p.1 : Int))) 3, A.blk b5 (ints [y0, y1, y2, y3, y4, y5]) 137, A.grow 46 15 a c l.length (rcl l)]) (fun n => (lo ≤ n ∧ n ≤ hi) ∧ (q = 8 → n = 0 ∨ n = 1) ∧ (q = 1 → (0 ≤ n ∧ n ≤ 39) ∧ 2 ∉ (L.take k).map Prod.fst) ∧ (q = 2 → r.start ≤ n)) ?_ ?_
  ·by_cases e0 : q = 0
   ·have e0' : (q : Int) = 0 := by omega
    refine hwNE ?_
    refine HL.one (H1.call0 (vs := [zv y3, zv 9]) rfl rfl (fun w' _ => pick20_fn y3 9 w3.1 w3.2 (by decide) w') ?_)
    have qn := pickI21_lt y3 (n := 9) (by decide)
    generalize pickI21 y3 9 = n0 at qn ⊢
    refine hwNE ?_
    exact HX.cut (1 + n0) ⟨⟨by have := (hsn.1 e0).1; omega, by have := (hsn.1 e0).2; omega⟩, by omega, by omega, by omega⟩ esA (by repeat (first | exact Hs.nil _ | (refine Hs.cons pickA ?_)))
   have e0' : ¬ (q : Int) = 0 := by omega
   by_cases e1 : q = 1
   ·have e1' : (q : Int) = 1 := by omega
    refine hwNE ?_
    refine HL.one (H1.call0 (vs := [zv y4, zv 40]) rfl rfl (fun w' _ => pick20_fn y4 40 w4.1 w4.2 (by decide) w') ?_)
    have qn := pickI21_lt y4 (n := 40) (by decide)
    generalize pickI21 y4 40 = n0 at qn ⊢
    refine hwNE ?_
    exact HX.cut n0 ⟨⟨by have := (hsn.2.1 e1).1; omega, by have := (hsn.2.1 e1).2; omega⟩, by omega, fun _ => ⟨by omega, hone e1⟩, by omega⟩ esA (by repeat (first | exact Hs.nil _ | (refine Hs.cons pickA ?_)))
   have e1' : ¬ (q : Int) = 1 := by omega
   by_cases e2 : q = 2
   ·have e2' : (q : Int) = 2 := by omega
    have qn := pickI21_lt y5 (n := 30) (by decide)
    refine hwNE ?_
    refine HC.anyC ([(⟨b6, 5, none⟩, zv r.start), (⟨b5, 5, none⟩, zv y5)]) rfl ?_
    refine HB.pa 0 rfl ?_
    refine HB.ld 1 rfl rfl memD ?_
    refine HB.pa 2 rfl ?_
    refine HB.ld 3 rfl rfl memD ?_
    refine HB.all keepA [4] (by kernel_rfl) rfl ⟨⟨_, rfl, ?_⟩, trivial⟩
    refine HP.one ?_
    refine H1.call0 (vs := [zv y5, zv 30]) rfl rfl (fun w' _ => pick20_fn y5 30 w5.1 w5.2 (by decide) w') ?_
    apply HB.fold
    refine HB.pa 5 rfl ?_
    refine HB.pa 6 rfl ?_
    refine HB.done keepA (by kernel_rfl) ?_
    refine hwNE ?_
    exact HX.cut (r.start + pickI21 y5 30) ⟨⟨by have := (hsn.2.2.1 e2).1; omega, by have := (hsn.2.2.1 e2).2; omega⟩, by omega, by omega, by omega⟩ esA (by repeat (first | exact Hs.nil _ | (refine Hs.cons pickA ?_)))
   have e2' : ¬ (q : Int) = 2 := by omega
   by_cases e8 : q = 8
   ·have e8' : (q : Int) = 8 := by omega
    have u5 := w5.tdiv (n := 30) (by decide)
    refine hwNE ?_
    refine HL.pa ?_ (POp.quoT rfl rfl w5.1 w5.2 (by decide))
    refine hwNE ?_
    refine HL.one (H1.call0 (vs := [zv (y5.tdiv 30), zv 2]) rfl rfl (fun w' _ => pick20_fn (y5.tdiv 30) 2 u5.1 u5.2 (by decide) w') ?_)
    have qn := pickI21_lt (y5.tdiv 30) (n := 2) (by decide)
    generalize pickI21 (y5.tdiv 30) 2 = n0 at qn ⊢
    refine hwNE ?_
    exact HX.cut n0 ⟨⟨by have := (hsn.2.2.2.1 e8).1; omega, by have := (hsn.2.2.2.1 e8).2; omega⟩, by omega, by omega, by omega⟩ esA (by repeat (first | exact Hs.nil _ | (refine Hs.cons pickA ?_)))
   have e8' : ¬ (q : Int) = 8 := by omega
   refine hwNE ?_
   exact HX.cut (lo + g) ⟨⟨by omega, by have := hsn.2.2.2.2 e8; omega⟩, by omega, by omega, by omega⟩ esA (by repeat (first | exact Hs.nil _ | (refine Hs.cons pickA ?_)))
  rintro n ⟨n1, n2, n3, n4⟩
  have hS' := hstep n n1 n2 n3 n4
  have hk' : (r.setF q n).kind = K := by rw [(setF_same r q n).1]; exact hrk
  refine hwNE ?_
  refine HC.any rfl ?_
  refine HA.pa 1 rfl ?_
  refine HA.pa 2 rfl ?_
  refine HA.pa 3 rfl ?_
  refine HA.pa 5 rfl ?_
  refine HA.all [0, 4] (by kernel_rfl) rfl ⟨⟨_, rfl, ?_⟩, ⟨_, rfl, ?_⟩, trivial⟩
  ·refine HO.one ?_
   refine H1.ldAgg (vs := rcells r) rfl memA rfl (fun i v hv => by simp only [Nat.zero_add]; exact hv) rfl ?_
   apply HA.fold
   refine HA.all [4] (by kernel_rfl) rfl ⟨⟨_, rfl, ?_⟩, trivial⟩
   refine HO.one ?_
   refine H1.ldb (v := zv (q : Int)) (cs := ints (L.map fun p => (p.1 : Int))) rfl memA hget rfl ?_
   apply HA.fold
   refine HA.all [6] (by kernel_rfl) rfl ⟨⟨_, rfl, ?_⟩, trivial⟩
   refine HO.one ?_
   refine H1.callx (vs := [recV r, zv (q : Int), zv n]) rfl rfl (fun w' _ => Set_fn r q hp10 n w') ?_
   apply HA.fold
   refine HA.all [7] (by kernel_rfl) rfl ⟨⟨_, rfl, ?_⟩, trivial⟩
   refine HO.one ?_
   refine H1.stAgg (cs := rcells r) (vs := rcells (r.setF q n)) rfl rfl rfl (rcells_one _) rplA rfl ?_
   apply HA.fold
   refine HA.done (by kernel_rfl) ?_
   refine hwNE ?_
   exact HX.again (k + 1, r.setF q n) ⟨hkl, hk', hS'⟩ (by show L.length - (k + 1) < L.length - k; omega) esA (by repeat (first | exact Hs.nil _ | (refine Hs.cons pickA ?_)))
  ·refine HO.one ?_
   refine H1.ldb (v := zv (q : Int)) (cs := ints (L.map fun p => (p.1 : Int))) rfl memA hget rfl ?_
   apply HA.fold
   refine HA.all [0] (by kernel_rfl) rfl ⟨⟨_, rfl, ?_⟩, trivial⟩
   refine HO.one ?_
   refine H1.ldAgg (vs := rcells r) rfl memA rfl (fun i v hv => by simp only [Nat.zero_add]; exact hv) rfl ?_
   apply HA.fold
   refine HA.all [6] (by kernel_rfl) rfl ⟨⟨_, rfl, ?_⟩, trivial⟩
   refine HO.one ?_
   refine H1.callx (vs := [recV r, zv (q : Int), zv n]) rfl rfl (fun w' _ => Set_fn r q hp10 n w') ?_
   apply HA.fold
   refine HA.all [7] (by kernel_rfl) rfl ⟨⟨_, rfl, ?_⟩, trivial⟩
   refine HO.one ?_
   refine H1.stAgg (cs := rcells r) (vs := rcells (r.setF q n)) rfl rfl rfl (rcells_one _) rplA rfl ?_
   apply HA.fold
   refine HA.done (by kernel_rfl) ?_
   refine hwNE ?_
   exact HX.again (k + 1, r.setF q n) ⟨hkl, hk', hS'⟩ (by show L.length - (k + 1) < L.length - k; omega) esA (by repeat (first | exact Hs.nil _ | (refine Hs.cons pickA ?_)))
 obtain rfl : k = L.length := by omega
 rw [List.take_length] at hS
 have hS9 : SomeI (specF r.kind) r := by rw [hrk, ← hL]; exact hS
 clear hS hrk hk hkl hnd hL8 hL
 by_cases c2 : r.kind = 2
 ·by_cases c3 : r.clause = r.party
  ·refine hwNE ?_
   refine HL.one (H1.st (b := b6) rfl rfl (by intro _ h; cases h) (by intro _ h; cases h) rplA (of_decide_eq_true rfl) ?_)
   refine hwNE ?_
   refine HL.one (H1.ldAgg (vs := rcells (r.setF 9 0)) rfl memA rfl (fun i v hv => by simp only [Nat.zero_add]; exact hv) rfl ?_)
   refine hwNE ?_
   refine HL.one (H1.lit (cs := rcells (r.setF 9 0)) rfl rfl rfl rfl rfl rfl (fun b8 => ?_))
   refine hwNE ?_
   refine HL.one (H1.app (e := 46) (sz := 15) (m := 1) (n := l.length) (a := a) (c := c) (xs := rcl l) (news := rcells (r.setF 9 0)) rfl (by decide) rfl rfl (fun a' c' => by first | ((repeat (first | with_reducible exact Rpl.here | with_reducible apply Rpl.there)); done) | (repeat (first | exact Rpl.here | apply Rpl.there))) rfl (fun w hM j u hu => by rw [add_lit, Nat.zero_add]; exact (hM.blk memA).cell hu) (rcells_one _) (by omega) (by decide) rfl (fun a' c' _ => ?_))
   refine hwNE ?_
   exact HX.again (i + 1, l ++ [(r.setF 9 0)], a', c') ⟨by show i + 1 ≤ rows.length; omega, by show i + 1 ≤ 30; omega, by show (l ++ [(r.setF 9 0)]).length = i + 1; rw [List.length_append, hll]; rfl, hsnoc (r.setF 9 0) (hS9.done2 c2)⟩ (by show 30 - (i + 1) < 30 - i; omega) (by show Env.sub _ [(0, .slice (some ⟨b1, off, none⟩) rows.length c0), (3, .slice a' (l ++ [(r.setF 9 0)]).length c'), (4, zv ((i + 1 : Nat) : Int))]; rw [List.length_append]; repeat (first | exact trivial | refine ⟨rfl, ?_⟩)) (by show Hs _ [A.grow 46 15 a' c' (l ++ [(r.setF 9 0)]).length (rcl (l ++ [(r.setF 9 0)]))]; rw [List.length_append, rcl_app, show rcl [(r.setF 9 0)] = rcells (r.setF 9 0) from List.append_nil _]; repeat (first | exact Hs.nil _ | (refine Hs.cons pickA ?_)))
  ·refine hwNE ?_
   refine HL.one (H1.ldAgg (vs := rcells r) rfl memA rfl (fun i v hv => by simp only [Nat.zero_add]; exact hv) rfl ?_)
   refine hwNE ?_
   refine HL.one (H1.lit (cs := rcells r) rfl rfl rfl rfl rfl rfl (fun b8 => ?_))
   refine hwNE ?_
   refine HL.one (H1.app (e := 46) (sz := 15) (m := 1) (n := l.length) (a := a) (c := c) (xs := rcl l) (news := rcells r) rfl (by decide) rfl rfl (fun a' c' => by first | ((repeat (first | with_reducible exact Rpl.here | with_reducible apply Rpl.there)); done) | (repeat (first | exact Rpl.here | apply Rpl.there))) rfl (fun w hM j u hu => by rw [add_lit, Nat.zero_add]; exact (hM.blk memA).cell hu) (rcells_one _) (by omega) (by decide) rfl (fun a' c' _ => ?_))
   refine hwNE ?_
   exact HX.again (i + 1, l ++ [r], a', c') ⟨by show i + 1 ≤ rows.length; omega, by show i + 1 ≤ 30; omega, by show (l ++ [r]).length = i + 1; rw [List.length_append, hll]; rfl, hsnoc r (hS9.done fun _ => c3)⟩ (by show 30 - (i + 1) < 30 - i; omega) (by show Env.sub _ [(0, .slice (some ⟨b1, off, none⟩) rows.length c0), (3, .slice a' (l ++ [r]).length c'), (4, zv ((i + 1 : Nat) : Int))]; rw [List.length_append]; repeat (first | exact trivial | refine ⟨rfl, ?_⟩)) (by show Hs _ [A.grow 46 15 a' c' (l ++ [r]).length (rcl (l ++ [r]))]; rw [List.length_append, rcl_app, show rcl [r] = rcells r from List.append_nil _]; repeat (first | exact Hs.nil _ | (refine Hs.cons pickA ?_)))
 ·refine hwNE ?_
  refine HL.one (H1.ldAgg (vs := rcells r) rfl memA rfl (fun i v hv => by simp only [Nat.zero_add]; exact hv) rfl ?_)
  refine hwNE ?_
  refine HL.one (H1.lit (cs := rcells r) rfl rfl rfl rfl rfl rfl (fun b8 => ?_))
  refine hwNE ?_
  refine HL.one (H1.app (e := 46) (sz := 15) (m := 1) (n := l.length) (a := a) (c := c) (xs := rcl l) (news := rcells r) rfl (by decide) rfl rfl (fun a' c' => by first | ((repeat (first | with_reducible exact Rpl.here | with_reducible apply Rpl.there)); done) | (repeat (first | exact Rpl.here | apply Rpl.there))) rfl (fun w hM j u hu => by rw [add_lit, Nat.zero_add]; exact (hM.blk memA).cell hu) (rcells_one _) (by omega) (by decide) rfl (fun a' c' _ => ?_))
  refine hwNE ?_
  exact HX.again (i + 1, l ++ [r], a', c') ⟨by show i + 1 ≤ rows.length; omega, by show i + 1 ≤ 30; omega, by show (l ++ [r]).length = i + 1; rw [List.length_append, hll]; rfl, hsnoc r (hS9.done fun h => absurd h c2)⟩ (by show 30 - (i + 1) < 30 - i; omega) (by show Env.sub _ [(0, .slice (some ⟨b1, off, none⟩) rows.length c0), (3, .slice a' (l ++ [r]).length c'), (4, zv ((i + 1 : Nat) : Int))]; rw [List.length_append]; repeat (first | exact trivial | refine ⟨rfl, ?_⟩)) (by show Hs _ [A.grow 46 15 a' c' (l ++ [r]).length (rcl (l ++ [r]))]; rw [List.length_append, rcl_app, show rcl [r] = rcells r from List.append_nil _]; repeat (first | exact Hs.nil _ | (refine Hs.cons pickA ?_)))
end Go.Sx
/- Chapter 24: the nodes that integers determine: the walk. -/
namespace Go.Sx
open Go Go.Proofs Go.RowKit
def madeD (rows : List (List Int)) : Nat → List ByteArray
 | 0 => []
 | i + 1 => madeD rows i ++ [sumS (rnsB [yI (rows.getD i []) 2, (i : Int)])]
theorem madeD_len (rows : List (List Int)) : ∀ i, (madeD rows i).length = i
 | 0 => rfl
 | i + 1 => by show (_ ++ [_]).length = _; rw [List.length_append, madeD_len rows i]; rfl
theorem madeD_size (rows : List (List Int)) : ∀ i, ∀ d ∈ madeD rows i, d.size = 32
 | 0, _, h => by cases h
 | i + 1, d, h => by
  rcases List.mem_append.1 h with h | h
  ·exact madeD_size rows i d h
  ·rw [List.mem_singleton] at h; subst h; exact sumS_size _
theorem four {y : List Int} (h : y.length = 4) : ∃ y0 y1 y2 y3, y = [y0, y1, y2, y3] := by
 match y, h with
 | [a, b, c, d], _ => exact ⟨a, b, c, d, rfl⟩
def madeN (rows : List (List Int)) : Nat := min rows.length 20
theorem lastId_le {l : List Nd} (h : MadeP l) (hl : l.length ≤ 20) : 0 ≤ lastId l ∧ lastId l ≤ 60 := by have := h.last; omega
theorem zGet {z : List NdZ} {N : List Nd} (h : ndsZ z = N) {i : Nat} (hi : i < N.length) : (ndsV z)[i * 4]? = some (zv (ndAt N i).id) ∧ (ndsV z)[i * 4 + 2]? = some (zv (ndAt N i).pack) := by
 subst h
 rw [ndsZ_len] at hi
 have e : z[i]? = some (z.getD i default) := by simp [hi]
 have e2 : ndAt (ndsZ z) i = (z.getD i default).1 := by unfold ndAt ndsZ; simp [hi]
 rw [e2]
 exact ⟨ndsV_get e (j := 0) (by decide), ndsV_get e (j := 2) (by decide)⟩
theorem HL.conv24 {P : Program} {r : Option Nat} {N : Nat} {ds : List Deferred} {ol l : List Oper} {Q : Post} {E : Env} {w0 : World} {H H2 : List Atom} (hh : ∀ w, Mm w0 H w → Mm w0 H2 w) (h : HL P r N ds ol l Q E w0 H2) : HL P r N ds ol l Q E w0 H := fun w hM => h w (hh w hM)
attribute [local irreducible] WC WL WX POp Then Again Fn NX W1 WA WO QL RP RA Yld LoopAt HC HL HX HN H1 HA HO HQ HB HP A.blk A.grow A.rd A.obj A.mp AgainH CutH
attribute [local irreducible] A.mq A.mit A.all sumS HU HV
set_option maxHeartbeats 8000000 in
theorem made24_fn (v : Value) (rows : List (List Int)) (hrow : ∀ y ∈ rows, y.length = 4 ∧ ∀ z ∈ y, i64W z) (w : World) (hR : RdA 4 w v rows) :
  Fn Tryz.prog 11 #[v] w fun u w' => (∃ v g U, u = .tuple #[v, g] ∧ RdN w' v (madeL rows (madeN rows)) U ∧ Rd w' g (strs (madeD rows (madeN rows)))) ∧ Ext w w' := by
 obtain ⟨a0, c0, rfl, -⟩ := hR.shape
 refine enterH (l := [_]) rfl Tryz.ntmps11 rfl ?_
 refine HC.grow0 31 4 ?_
 refine HC.grow0 9 1 ?_
 refine HC.conv (H2 := A.all (rowsA []) :: [A.grow 9 1 none 0 0 [], A.grow 31 4 none 0 0 []]) (fun w h => h.allNil) ?_
 refine hwNB ?_
 refine HC.loop (α := Nat × List NdZ × (Option Addr × Nat) × (Option Addr × Nat)) (fun q => [(0, .slice a0 rows.length c0), (4, .slice q.2.2.1.1 q.1 q.2.2.1.2), (5, .slice q.2.2.2.1 q.1 q.2.2.2.2), (6, zv (lastId (madeL rows q.1))), (7, zv (q.1 : Int))])
  (fun q => [A.grow 31 4 q.2.2.1.1 q.2.2.1.2 q.1 (ndsV q.2.1), A.grow 9 1 q.2.2.2.1 q.2.2.2.2 q.1 (strs (madeD rows q.1)), A.all (rowsA q.2.1)]) (fun q => q.1 ≤ rows.length ∧ q.1 ≤ 20 ∧ ndsZ q.2.1 = madeL rows q.1) (fun q => 20 - q.1) (0, [], (none, 0), (none, 0)) ⟨Nat.zero_le _, Nat.zero_le _, rfl⟩ esA (by repeat (first | exact Hs.nil _ | (refine Hs.cons pickA ?_))) ?_
 rintro ⟨i, z, ⟨an, cn⟩, ad, cd⟩ ⟨hi1, hi2, hz⟩
 dsimp only at hi1 hi2 hz ⊢
 have hzl : z.length = i := by rw [← ndsZ_len, hz, madeL_len]
 have hend : i = madeN rows → ∀ w', Mm w [A.grow 31 4 an cn i (ndsV z), A.grow 9 1 ad cd i (strs (madeD rows i)), A.all (rowsA z)] w' → (∃ v g U, Value.tuple #[.slice an i cn, .slice ad i cd] = .tuple #[v, g] ∧ RdN w' v (madeL rows (madeN rows)) U ∧ Rd w' g (strs (madeD rows (madeN rows)))) ∧ Ext w w' := by
  intro e w' hM
  refine ⟨⟨_, _, adrZ z, rfl, ?_, ?_⟩, hM.ext⟩
  ·have h := hM.rdN (a := an) (c := cn) (z := z) (by rw [hzl]; first | ((repeat (first | with_reducible exact mem_hd | with_reducible apply mem_tl)); done) | (repeat (first | exact List.Mem.head _ | apply List.Mem.tail))) memA
   rw [hz, hzl] at h
   rw [← e]; exact h
  ·have h := hM.gr (e := 9) (a := ad) (c := cd) (n := i) memA
   rw [← e]; exact h
 by_cases hlt : i < rows.length
 rotate_left
 ·have h1 : ¬ (i : Int) < (rows.length : Int) := by omega
  refine hwNB ?_
  exact HX.ret2 rfl rfl rfl fun w' hM => hend (by unfold madeN; omega) w' hM
 have h1 : (i : Int) < (rows.length : Int) := by omega
 by_cases h20 : i < 20
 rotate_left
 ·have h2 : ¬ (i : Int) < 20 := by omega
  refine hwNB ?_
  exact HX.ret2 rfl rfl rfl fun w' hM => hend (by unfold madeN; omega) w' hM
 have h2 : (i : Int) < 20 := by omega
 obtain ⟨y, hy⟩ : ∃ y, rows[i]? = some y := ⟨_, List.getElem?_eq_getElem hlt⟩
 have hy4 := hrow y (List.mem_of_getElem? hy)
 have hgy : rows.getD i [] = y := by rw [List.getD_eq_getElem?_getD, hy]; rfl
 obtain ⟨bx, off, rfl, -, hcell⟩ := hR.at (fun e => by rw [e] at hlt; exact absurd hlt (Nat.not_lt_zero _))
 have hcl := hcell i y hy
 clear hcell hend
 obtain ⟨y0, y1, y2, y3, rfl⟩ := four hy4.1
 have w0 := hy4.2 y0 (by simp)
 have w1 := hy4.2 y1 (by simp)
 have w2 := hy4.2 y2 (by simp)
 have w3 := hy4.2 y3 (by simp)
 have hok := madeL_ok rows i (by omega)
 have hll := madeL_len rows i
 have hlast := lastId_le hok (by omega)
 have hstep : madeL rows (i + 1) = madeL rows i ++ [mkNd (madeL rows i) [y0, y1, y2, y3]] := by
  show madeL rows i ++ [mkNd (madeL rows i) (rows.getD i [])] = _; rw [hgy]
 have hdst : strs (madeD rows i) ++ [.string (sumS (rnsB [y2, (i : Int)]))] = strs (madeD rows (i + 1)) := by
  rw [strs_snoc]
  show _ = strs (madeD rows i ++ [sumS (rnsB [yI (rows.getD i []) 2, (i : Int)])])
  rw [hgy]; rfl
 have hlast2 : lastId (madeL rows (i + 1)) = (mkNd (madeL rows i) [y0, y1, y2, y3]).id := by rw [hstep, lastId_snoc]
 have hmk : ∀ n, mkNd (madeL rows i) [y0, y1, y2, y3] = n → mkNd (madeL rows i) [y0, y1, y2, y3] = n := fun _ h => h
 have hid : (mkNd (madeL rows i) [y0, y1, y2, y3]).id = lastId (madeL rows i) + 1 + pickI21 y0 3 := mkNd_id _ _
 have q0 := pickI21_lt y0 (n := 3) (by decide)
 have q1 := pickI21_lt y1 (n := 4) (by decide)
 generalize hN : madeL rows i = N at hz hok hll hlast hstep hmk hid hlast2 ⊢
 refine hwNB ?_
 refine HL.one (H1.ldAggw (vs := ints [y0, y1, y2, y3]) rfl rfl (fun w' hM i v hv => cell_ext hM.ext (hcl i v hv)) rfl ?_)
 clear hcl hy hy4
 refine hwNB ?_
 refine HL.one (H1.alloc (cs := ints [0, 0, 0, 0]) rfl rfl (fun b8 => ?_))
 refine hwNB ?_
 refine HL.one (H1.stAgg (b := b8) (cs := ints [0, 0, 0, 0]) (vs := ints [y0, y1, y2, y3]) rfl rfl rfl (ints_one _) rplA rfl ?_)
 refine hwNB ?_
 refine HC.cut (α := Nat) (fun b9 => [(0, .slice (some ⟨bx, off, none⟩) rows.length c0), (4, .slice an i cn), (5, .slice ad i cd), (7, zv (i : Int)), (8, .pointer (some ⟨b8, 0, none⟩)), (9, .pointer (some ⟨b9, 0, none⟩))]) (fun b9 => [A.blk b9 (ndC ⟨lastId N + 1 + pickI21 y0 3, 1, 1 + pickI21 y1 4, []⟩ (.slice none 0 0)) 31, A.blk b8 (ints [y0, y1, y2, y3]) 70, A.grow 31 4 an cn i (ndsV z), A.grow 9 1 ad cd i (strs (madeD rows i)), A.all (rowsA z)]) (fun _ => True) ?_ ?_
 ·refine HC.anyC ([(⟨b8, 0, none⟩, zv y0), (⟨b8, 1, none⟩, zv y1)]) rfl ?_
  refine HB.pa 0 rfl ?_
  refine HB.pa 1 rfl ?_
  refine HB.pa 2 rfl ?_
  refine HB.ld 3 rfl rfl memD ?_
  refine HB.pa 6 rfl ?_
  refine HB.ld 7 rfl rfl memD ?_
  refine HB.all keepA [4, 11] (by kernel_rfl) rfl ⟨⟨_, rfl, ?_⟩, ⟨_, rfl, ?_⟩, trivial⟩
  ·refine HP.one ?_
   refine H1.call0 (vs := [zv y0, zv 3]) rfl rfl (fun w' _ => rpick24_fn y0 3 w0.1 w0.2 (by decide) w') ?_
   apply HB.fold
   refine HB.pa 5 rfl ?_
   refine HB.all keepA [8, 11] (by kernel_rfl) rfl ⟨⟨_, rfl, ?_⟩, ⟨_, rfl, ?_⟩, trivial⟩
   ·refine HP.one ?_
    refine H1.call0 (vs := [zv y1, zv 4]) rfl rfl (fun w' _ => rpick24_fn y1 4 w1.1 w1.2 (by decide) w') ?_
    apply HB.fold
    refine HB.pa 9 rfl ?_
    refine HB.pa 10 rfl ?_ (POp.build (cs := ndC ⟨lastId N + 1 + pickI21 y0 3, 1, 1 + pickI21 y1 4, []⟩ (.slice none 0 0)) rfl rfl)
    refine HB.all keepA [11] (by kernel_rfl) rfl ⟨⟨_, rfl, ?_⟩, trivial⟩
    refine HP.one ?_
    refine H1.alloc (cs := ndC ⟨0, 0, 0, []⟩ (.slice none 0 0)) rfl rfl (fun b9 => ?_)
    apply HB.fold
    refine HB.all keepA [12] (by kernel_rfl) rfl ⟨⟨_, rfl, ?_⟩, trivial⟩
    refine HP.one ?_
    refine H1.stAgg (b := b9) (cs := ndC ⟨0, 0, 0, []⟩ (.slice none 0 0)) (vs := ndC ⟨lastId N + 1 + pickI21 y0 3, 1, 1 + pickI21 y1 4, []⟩ (.slice none 0 0)) rfl rfl rfl (nd_one rfl) rplA rfl ?_
    apply HB.fold
    refine HB.done keepA (by kernel_rfl) ?_
    exact HX.cut b9 trivial esA (by repeat (first | exact Hs.nil _ | (refine Hs.cons pickA ?_)))
   ·refine HP.one ?_
    refine H1.alloc (cs := ndC ⟨0, 0, 0, []⟩ (.slice none 0 0)) rfl rfl (fun b9 => ?_)
    apply HB.fold
    refine HB.all keepA [8] (by kernel_rfl) rfl ⟨⟨_, rfl, ?_⟩, trivial⟩
    refine HP.one ?_
    refine H1.call0 (vs := [zv y1, zv 4]) rfl rfl (fun w' _ => rpick24_fn y1 4 w1.1 w1.2 (by decide) w') ?_
    apply HB.fold
    refine HB.pa 9 rfl ?_
    refine HB.pa 10 rfl ?_ (POp.build (cs := ndC ⟨lastId N + 1 + pickI21 y0 3, 1, 1 + pickI21 y1 4, []⟩ (.slice none 0 0)) rfl rfl)
    refine HB.all keepA [12] (by kernel_rfl) rfl ⟨⟨_, rfl, ?_⟩, trivial⟩
    refine HP.one ?_
    refine H1.stAgg (b := b9) (cs := ndC ⟨0, 0, 0, []⟩ (.slice none 0 0)) (vs := ndC ⟨lastId N + 1 + pickI21 y0 3, 1, 1 + pickI21 y1 4, []⟩ (.slice none 0 0)) rfl rfl rfl (nd_one rfl) rplA rfl ?_
    apply HB.fold
    refine HB.done keepA (by kernel_rfl) ?_
    exact HX.cut b9 trivial esA (by repeat (first | exact Hs.nil _ | (refine Hs.cons pickA ?_)))
  ·refine HP.one ?_
   refine H1.alloc (cs := ndC ⟨0, 0, 0, []⟩ (.slice none 0 0)) rfl rfl (fun b9 => ?_)
   apply HB.fold
   refine HB.all keepA [4] (by kernel_rfl) rfl ⟨⟨_, rfl, ?_⟩, trivial⟩
   refine HP.one ?_
   refine H1.call0 (vs := [zv y0, zv 3]) rfl rfl (fun w' _ => rpick24_fn y0 3 w0.1 w0.2 (by decide) w') ?_
   apply HB.fold
   refine HB.pa 5 rfl ?_
   refine HB.all keepA [8] (by kernel_rfl) rfl ⟨⟨_, rfl, ?_⟩, trivial⟩
   refine HP.one ?_
   refine H1.call0 (vs := [zv y1, zv 4]) rfl rfl (fun w' _ => rpick24_fn y1 4 w1.1 w1.2 (by decide) w') ?_
   apply HB.fold
   refine HB.pa 9 rfl ?_
   refine HB.pa 10 rfl ?_ (POp.build (cs := ndC ⟨lastId N + 1 + pickI21 y0 3, 1, 1 + pickI21 y1 4, []⟩ (.slice none 0 0)) rfl rfl)
   refine HB.all keepA [12] (by kernel_rfl) rfl ⟨⟨_, rfl, ?_⟩, trivial⟩
   refine HP.one ?_
   refine H1.stAgg (b := b9) (cs := ndC ⟨0, 0, 0, []⟩ (.slice none 0 0)) (vs := ndC ⟨lastId N + 1 + pickI21 y0 3, 1, 1 + pickI21 y1 4, []⟩ (.slice none 0 0)) rfl rfl rfl (nd_one rfl) rplA rfl ?_
   apply HB.fold
   refine HB.done keepA (by kernel_rfl) ?_
   exact HX.cut b9 trivial esA (by repeat (first | exact Hs.nil _ | (refine Hs.cons pickA ?_)))
 rintro b9 -
 refine HC.seq ?_
 refine HC.cut (α := Option Addr × Nat) (fun _ => [(0, .slice (some ⟨bx, off, none⟩) rows.length c0), (4, .slice an i cn), (5, .slice ad i cd), (7, zv (i : Int)), (8, .pointer (some ⟨b8, 0, none⟩)), (9, .pointer (some ⟨b9, 0, none⟩))])
  (fun q => [A.grow 3 1 q.1 q.2 (mkNd N [y0, y1, y2, y3]).src.length (ints (mkNd N [y0, y1, y2, y3]).src), A.blk b9 (ndC (mkNd N [y0, y1, y2, y3]) (.slice q.1 (mkNd N [y0, y1, y2, y3]).src.length q.2)) 31, A.blk b8 (ints [y0, y1, y2, y3]) 70, A.grow 31 4 an cn i (ndsV z), A.grow 9 1 ad cd i (strs (madeD rows i)), A.all (rowsA z)]) (fun _ => True) ?_ ?_
 ·by_cases h0 : 0 < i
  rotate_left
  ·have h0' : ¬ (0 : Int) < (i : Int) := by omega
   have hm : mkNd N [y0, y1, y2, y3] = ⟨lastId N + 1 + pickI21 y0 3, 1, 1 + pickI21 y1 4, []⟩ := by
    unfold mkNd
    rw [if_neg fun h => by have := h.1; omega]
    rfl
   rw [hm]
   refine HC.grow0 3 1 ?_
   refine hwNB ?_
   exact HX.cut (none, 0) trivial esA (by repeat (first | exact Hs.nil _ | (refine Hs.cons pickA ?_)))
  have h0' : (0 : Int) < (i : Int) := by omega
  have q2 := pickI21_lt (y0.tdiv 3) (n := 3) (by decide)
  have u0 := w0.tdiv (n := 3) (by decide)
  have u1 := w1.tdiv (n := 4) (by decide)
  refine hwNB ?_
  refine HL.pa ?_ (POp.quoT rfl rfl w0.1 w0.2 (by decide))
  refine hwNB ?_
  refine HL.one (H1.call0 (vs := [_, zv 3]) rfl rfl (fun w' _ => rpick24_fn (y0.tdiv 3) 3 u0.1 u0.2 (by decide) w') ?_)
  by_cases hp : 0 < pickI21 (y0.tdiv 3) 3
  rotate_left
  ·have hm : mkNd N [y0, y1, y2, y3] = ⟨lastId N + 1 + pickI21 y0 3, 1, 1 + pickI21 y1 4, []⟩ := by
    unfold mkNd
    rw [if_neg fun h => hp h.2]
    rfl
   rw [hm]
   refine HL.fold ?_
   refine HL.grow0 3 1 ?_
   refine hwNB ?_
   exact HX.cut (none, 0) trivial esA (by repeat (first | exact Hs.nil _ | (refine Hs.cons pickA ?_)))
  have hsrc : isSrc N [y0, y1, y2, y3] := ⟨by omega, hp⟩
  obtain ⟨a, hae, ha⟩ : ∃ a : Nat, pickI21 y2 (i : Int) = (a : Int) ∧ a < i := by
   have := pickI21_lt y2 (n := (i : Int)) (by omega)
   exact ⟨(pickI21 y2 (i : Int)).toNat, by omega, by omega⟩
  obtain ⟨b, hbe, hb⟩ : ∃ b : Nat, pickI21 y3 (i : Int) = (b : Int) ∧ b < i := by
   have := pickI21_lt y3 (n := (i : Int)) (by omega)
   exact ⟨(pickI21 y3 (i : Int)).toNat, by omega, by omega⟩
  have hm : mkNd N [y0, y1, y2, y3] = ⟨lastId N + 1 + pickI21 y0 3, 2 + pickI21 (y1.tdiv 4) 4, (ndAt N a).pack, (ndAt N (min a b)).id :: if a = b then [] else [(ndAt N (max a b)).id]⟩ := by
   have h1 : srcA N [y0, y1, y2, y3] = a := by
    show (pickI21 y2 (N.length : Int)).toNat = a
    rw [hll, hae]; rfl
   have h2 : srcB N [y0, y1, y2, y3] = b := by
    show (pickI21 y3 (N.length : Int)).toNat = b
    rw [hll, hbe]; rfl
   unfold mkNd
   rw [if_pos hsrc, h1, h2]
   rfl
  have q3 := pickI21_lt (y1.tdiv 4) (n := 4) (by decide)
  have gpa := (zGet hz (i := a) (by omega)).2
  have gmin := (zGet hz (i := min a b) (by omega)).1
  have gmax := (zGet hz (i := max a b) (by omega)).1
  have hmin : (min (a : Int) (b : Int)).toNat = min a b := by omega
  have hmax : (max (a : Int) (b : Int)).toNat = max a b := by omega
  rw [hm]
  generalize (ndAt N a).pack = pk at gpa hm ⊢
  generalize (ndAt N (min a b)).id = idn at gmin hm ⊢
  generalize (ndAt N (max a b)).id = idx at gmax hm ⊢
  refine HL.fold ?_
  refine HL.openg (e := 31) (sz := 4) (a := an) (c := cn) (n := i) (xs := ndsV z) memA (by omega) ?_
  rintro bn rfl
  refine hwNB ?_
  refine HL.pa ?_ (POp.quoT rfl rfl w1.1 w1.2 (by decide))
  refine hwNB ?_
  refine HL.one (H1.call0 (vs := [_, zv 4]) rfl rfl (fun w' _ => rpick24_fn (y1.tdiv 4) 4 u1.1 u1.2 (by decide) w') ?_)
  refine hwNB ?_
  refine HL.one (H1.st (b := b9) (i := 1) rfl rfl (by intro _ h; cases h) (by intro _ h; cases h) rplA (by show 1 < 4; decide) ?_)
  refine hwNB ?_
  refine HL.one (H1.call0 (vs := [zv y2, zv (i : Int)]) rfl rfl (fun w' _ => rpick24_fn y2 (i : Int) w2.1 w2.2 (by omega) w') ?_)
  rw [hae]
  refine hwNB ?_
  refine HL.one (H1.call0 (vs := [zv y3, zv (i : Int)]) rfl rfl (fun w' _ => rpick24_fn y3 (i : Int) w3.1 w3.2 (by omega) w') ?_)
  rw [hbe]
  refine hwNB ?_
  refine HL.one (H1.ldg (c := cn) (n := i) (sz := 4) (e := 31) (vs := ndsV z) (i := a * 4 + 2) rfl memA gpa rfl ?_)
  refine hwNB ?_
  refine HL.one (H1.st (b := b9) (i := 2) rfl rfl (by intro _ h; cases h) (by intro _ h; cases h) rplA (by show 2 < 4; decide) ?_)
  refine hwNB ?_
  refine HL.one (H1.ldg (c := cn) (n := i) (sz := 4) (e := 31) (vs := ndsV z) (i := min a b * 4) (by show some (Value.pointer (some ⟨bn, (min (a : Int) (b : Int)).toNat * 4 + 0, none⟩)) = _; rw [hmin]; rfl) memA gmin rfl ?_)
  refine hwNB ?_
  refine HL.one (H1.lit (cs := [zv idn]) rfl rfl rfl rfl rfl rfl (fun b10 => ?_))
  refine hwNB ?_
  refine HL.one (H1.st (b := b9) (i := 3) rfl rfl (by intro _ h; cases h) (by intro _ h; cases h) rplA (by show 3 < 4; decide) ?_)
  refine HL.fold ?_
  refine HL.conv24 (H2 := [A.blk b10 [zv idn] 3, A.blk b9 [zv (lastId N + 1 + pickI21 y0 3), zv (2 + pickI21 (y1.tdiv 4) 4), zv pk, .slice (some ⟨b10, 0, none⟩) 1 1] 31, A.blk b8 (ints [y0, y1, y2, y3]) 70, A.grow 31 4 (some ⟨bn, 0, none⟩) cn i (ndsV z), A.grow 9 1 ad cd i (strs (madeD rows i)), A.all (rowsA z)]) (fun w h => h) ?_
  by_cases hab : a = b
  ·have hab' : ((a : Nat) : Int) = (b : Int) := by omega
   rw [if_pos hab]
   refine hwNB ?_
   refine HX.conv (fun w h => Mm.blkGrow (n := 1) (sz := 1) h rfl (by decide)) ?_
   exact HX.cut (some ⟨b10, 0, none⟩, 1) trivial esA (by repeat (first | exact Hs.nil _ | (refine Hs.cons pickA ?_)))
  have hab' : ¬ ((a : Nat) : Int) = (b : Int) := by omega
  rw [if_neg hab]
  refine hwNB ?_
  refine HC.anyU ([(12, ⟨b9, 3, none⟩, .slice (some ⟨b10, 0, none⟩) 1 1), (12, ⟨bn, max a b * 4, none⟩, zv idx)]) rfl ?_
  refine HU.pa 0 rfl ?_
  refine HU.ld (s := 12) 1 rfl rfl (.head _) ?_
  refine HU.pa 2 rfl ?_
  refine HU.pa 3 rfl ?_
  refine HU.pa 4 rfl ?_
  refine HU.pa 5 rfl ?_
  refine HU.pa 6 rfl ?_
  refine HU.pa 7 rfl ?_
  refine HU.ld (s := 12) (ad := ⟨bn, max a b * 4, none⟩) (v := zv idx) 8 rfl (by show some (Value.pointer (some ⟨bn, (max (a : Int) (b : Int)).toNat * 4 + 0, none⟩)) = _; rw [hmax]; rfl) (.tail _ (.head _)) ?_
  refine HU.all (kU (kU KeepU.nil)) [9] (by kernel_rfl) rfl ⟨⟨_, rfl, ?_⟩, trivial⟩
  refine HV.one ?_
  refine H1.lit (cs := [zv idx]) rfl rfl rfl rfl rfl rfl (fun b11 => ?_)
  apply HU.fold
  refine HU.all (kU (kU KeepU.nil)) [10] (by kernel_rfl) rfl ⟨⟨_, rfl, ?_⟩, trivial⟩
  refine HV.one ?_
  refine H1.conv2 (H2 := A.grow 3 1 (some ⟨b10, 0, none⟩) 1 1 [zv idn] :: [A.blk b11 [zv idx] 3, A.blk b9 [zv (lastId N + 1 + pickI21 y0 3), zv (2 + pickI21 (y1.tdiv 4) 4), zv pk, .slice (some ⟨b10, 0, none⟩) 1 1] 31, A.blk b8 (ints [y0, y1, y2, y3]) 70, A.grow 31 4 (some ⟨bn, 0, none⟩) cn i (ndsV z), A.grow 9 1 ad cd i (strs (madeD rows i)), A.all (rowsA z)]) (fun w h => Mm.blkGrow (n := 1) (sz := 1) (h.sub (by repeat (first | exact Hs.nil _ | (refine Hs.cons pickA ?_)))) rfl (by decide)) ?_
  refine H1.app1 (u := zv idx) rfl rfl (fun _ _ => by first | ((repeat (first | with_reducible exact Rpl.here | with_reducible apply Rpl.there)); done) | (repeat (first | exact Rpl.here | apply Rpl.there))) memA rfl rfl (by omega) rfl rfl (fun a' c' => ?_)
  apply HU.fold
  refine HU.pa 11 rfl ?_
  refine HU.all (kU (kU KeepU.nil)) [12] (by kernel_rfl) rfl ⟨⟨_, rfl, ?_⟩, trivial⟩
  refine HV.one ?_
  refine H1.st (b := b9) (i := 3) rfl rfl (by intro _ h; cases h) (by intro _ h; cases h) rplA (by show 3 < 4; decide) ?_
  apply HU.fold
  refine HU.done (KeepU.skip (by kernel_rfl) (KeepU.skip (by kernel_rfl) KeepU.nil)) (by kernel_rfl) ?_
  refine hwNB ?_
  exact HX.cut (some ⟨a', 0, none⟩, c') trivial esA (by repeat (first | exact Hs.nil _ | (refine Hs.cons pickA ?_)))
 rintro ⟨az, cz⟩ -
 dsimp only
 generalize hM0 : mkNd N [y0, y1, y2, y3] = n at hstep hid hlast2 ⊢
 have hzn : ndsZ (z ++ [(n, az, cz)]) = madeL rows (i + 1) := by
  rw [hstep]
  unfold ndsZ at hz ⊢
  rw [List.map_append, hz]; rfl
 have hnv : ndsV z ++ ndC n (.slice az n.src.length cz) = ndsV (z ++ [(n, az, cz)]) := (ndsV_snoc z (n, az, cz)).symm
 have hi3 : i64W (i : Int) := by unfold i64W; omega
 refine hwNB ?_
 refine HL.one (H1.ldAgg (b := b9) (vs := ndC n (.slice az n.src.length cz)) rfl memA rfl (fun i v hv => by rw [Nat.zero_add]; exact hv) rfl ?_)
 refine hwNB ?_
 refine HL.one (H1.lit (cs := ndC n (.slice az n.src.length cz)) rfl rfl rfl rfl rfl rfl (fun b10 => ?_))
 refine hwNB ?_
 refine HL.one (H1.app (sz := 4) (m := 1) (news := ndC n (.slice az n.src.length cz)) rfl (by decide) rfl rfl (fun _ _ => by first | ((repeat (first | with_reducible exact Rpl.here | with_reducible apply Rpl.there)); done) | (repeat (first | exact Rpl.here | apply Rpl.there))) rfl (fun w' hM j u hj => by rw [add_lit, Nat.zero_add]; exact (hM.blk (b := b10) memA).cell hj) (nd_one rfl) (by omega) (by decide) rfl (fun an2 cn2 _ => ?_))
 rw [hnv]
 refine hwNB ?_
 refine HL.one (H1.lit (cs := ints [y2, (i : Int)]) rfl rfl rfl rfl rfl rfl (fun b11 => ?_))
 refine hwNB ?_
 refine HL.one (H1.callx (vs := [_]) rfl rfl (fun w' hM => numbers24_fn (.slice (some ⟨b11, 0, none⟩) 2 2) [y2, (i : Int)] (by show 2 ≤ _; omega) (fun x hx => by
  simp only [List.mem_cons, List.not_mem_nil, or_false] at hx
  rcases hx with rfl | rfl
  ·exact w2
  ·exact hi3) w' (blk_rd (hM.blk (b := b11) memA) rfl)) ?_)
 refine hwNB ?_
 refine HL.one (H1.callx (vs := [_]) rfl rfl (fun w' hM => refSum_fn (rnsB [y2, (i : Int)]) (by have := rnsB_size [y2, (i : Int)]; simp only [List.length_cons, List.length_nil] at this; omega) w') ?_)
 refine hwNB ?_
 refine HL.one (H1.lit (cs := [.string (sumS (rnsB [y2, (i : Int)]))]) rfl rfl rfl rfl rfl rfl (fun b12 => ?_))
 refine hwNB ?_
 refine HL.one (H1.app1 (u := .string (sumS (rnsB [y2, (i : Int)]))) rfl rfl (fun _ _ => by first | ((repeat (first | with_reducible exact Rpl.here | with_reducible apply Rpl.there)); done) | (repeat (first | exact Rpl.here | apply Rpl.there))) memA rfl rfl (by omega) rfl rfl (fun ad2 cd2 => ?_))
 rw [hdst]
 refine hwNB ?_
 refine HX.conv (H2 := A.all (rowsA (z ++ [(n, az, cz)])) :: [A.grow 31 4 an2 cn2 (i + 1) (ndsV (z ++ [(n, az, cz)])), A.grow 9 1 (some ⟨ad2, 0, none⟩) cd2 (i + 1) (strs (madeD rows (i + 1)))]) (fun w h => by
  rw [rowsA_snoc]
  exact Mm.allAdd (h.sub (Hs.cons (a := A.grow 3 1 az cz n.src.length (ints n.src)) pickA (Hs.cons (a := A.all (rowsA z)) pickA (by repeat (first | exact Hs.nil _ | (refine Hs.cons pickA ?_))))))) ?_
 exact HX.again (i + 1, z ++ [(n, az, cz)], (an2, cn2), some ⟨ad2, 0, none⟩, cd2) ⟨hlt, h20, hzn⟩ (by show 20 - (i + 1) < 20 - i; omega) (by dsimp only; rw [hlast2]; repeat (first | exact trivial | refine ⟨rfl, ?_⟩)) (by repeat (first | exact Hs.nil _ | (refine Hs.cons pickA ?_)))
end Go.Sx
/- Chapter 24: equal nodes, equal texts: the walks. -/
namespace Go.Sx
open Go Go.Proofs Go.RowKit
theorem take_getB {l : List ByteArray} {k : Nat} (h : k < l.length) : l.take (k + 1) = l.take k ++ [getB l k] := by
 rw [List.take_add_one, List.getElem?_eq_getElem h]
 simp [getB, h]
attribute [local irreducible] WC WL WX POp Then Again Fn NX W1 WA WO QL RP RA Yld LoopAt HC HL HX HN H1 HA HO HQ HB HP A.blk A.grow A.rd A.obj A.mp AgainH CutH
attribute [local irreducible] A.mq A.mit A.all sumS
set_option maxHeartbeats 1000000 in
theorem sameNodes_fn {v u : Value} {l m : List Nd} {U V : Nat → Value} (hl : l.length ≤ 400000) (hls : ∀ i, i < l.length → (ndAt l i).src.length ≤ 1000000) (w : World) (hR : RdN w v l U) (hS : RdN w u m V) :
  Fn Tryz.prog 18 #[v, u] w fun u w' => u = .bool (eqNs l m) ∧ Ext w w' := by
 obtain ⟨a, c, rfl, hc, -⟩ := id hR.shape
 obtain ⟨a2, c2, rfl, hc2, -⟩ := id hS.shape
 refine enterH (l := [_, _]) rfl Tryz.ntmps18 rfl ?_
 by_cases hlen : l.length = m.length
 rotate_left
 ·have hlen' : ¬ (l.length : Int) = (m.length : Int) := by omega
  have hno : eqNs l m = false := by rw [← Bool.not_eq_true, eqNs_iff]; intro e; exact hlen (by rw [e])
  refine hwNB ?_
  exact HX.ret1 rfl rfl fun w' hM => ⟨by rw [hno], hM.ext⟩
 have hlen' : (l.length : Int) = (m.length : Int) := by omega
 refine hwNB ?_
 refine HC.loop (α := Nat) (fun k => [(0, .slice a l.length c), (1, .slice a2 m.length c2), (5, zv (k : Int))]) (fun _ => []) (fun k => k ≤ l.length ∧ l.take k = m.take k) (fun k => l.length - k) 0 ⟨Nat.zero_le _, rfl⟩ esA (Hs.refl _) ?_
 rintro k ⟨hk, hI⟩
 by_cases hlt : k < l.length
 rotate_left
 ·have hn : ¬ ((k : Nat) : Int) < (l.length : Int) := by omega
  have he : l = m := by
   rw [List.take_of_length_le (by omega), List.take_of_length_le (by omega)] at hI
   exact hI
  refine hwNB ?_
  exact HX.ret1 rfl rfl fun w' hM => ⟨by rw [eqNs_iff.2 he], hM.ext⟩
 have hn : ((k : Nat) : Int) < (l.length : Int) := by omega
 have hlt2 : k < m.length := by omega
 obtain ⟨b, off, rfl, hb⟩ := hR.cell hlt
 obtain ⟨b2, off2, rfl, hb2⟩ := hS.cell hlt2
 have hx := hb k hlt
 have hy := hb2 k hlt2
 have hsx := hR.src k hlt
 have hsy := hS.src k hlt2
 have hlx := hls k hlt
 have hst := eqNs_take hlt hlt2 hI
 clear hb hb2
 generalize ndAt l k = n1 at hx hsx hlx hst
 generalize ndAt m k = n2 at hy hsy hst
 generalize U k = u1 at hx hsx
 generalize V k = u2 at hy hsy
 have x0 := hx 0 (zv n1.id) rfl
 have x1 := hx 1 (zv n1.kind) rfl
 have x2 := hx 2 (zv n1.pack) rfl
 have x3 := hx 3 u1 rfl
 have y0 := hy 0 (zv n2.id) rfl
 have y1 := hy 1 (zv n2.kind) rfl
 have y2 := hy 2 (zv n2.pack) rfl
 have y3 := hy 3 u2 rfl
 refine hwNB ?_
 refine HC.quietS [(some 18, [0], []), (some 19, [5], []), (some 20, [18, 19], [0, 1]), (some 21, [20], [2]), (some 22, [21], [3]), (some 23, [1], []), (some 24, [5], []), (some 25, [23, 24], [5, 6]), (some 26, [25], [7]), (some 27, [26], [8]), (some 28, [22, 27], [4, 9]), (some 6, [28], [10, 10, 0, 1, 2, 3, 4, 5, 6, 7, 8, 9, 10])] (by kernel_rfl) (by kernel_rfl) (by kernel_rfl) ?_
 refine qwA ?_
 refine HQ.ld rfl (fun w' hM => cell_ext hM.ext x3) rfl ?_
 refine qwA ?_
 refine HQ.ld rfl (fun w' hM => cell_ext hM.ext y3) rfl ?_
 refine qwA ?_
 refine HQ.call (vs := [_, _]) rfl rfl (fun w' hM => SameInts_fn _ _ n1.src n2.src w' (hsx.ext hM.ext) (hsy.ext hM.ext) hlx) ?_
 refine qwA ?_
 refine HQ.nil ?_
 refine hwNB ?_
 refine HC.quietS [(some 29, [0], []), (some 30, [5], []), (some 31, [29, 30], [0, 1]), (some 32, [31], [2]), (some 33, [32], [3]), (some 34, [1], []), (some 35, [5], []), (some 36, [34, 35], [5, 6]), (some 37, [36], [7]), (some 38, [37], [8]), (some 39, [33, 38], [4, 9]), (some 40, [39], [10]), (some 41, [0, 40], [11]), (some 42, [5, 40], [11]), (some 43, [41, 42, 40], [12, 13, 11]), (some 44, [43, 40], [14, 11]), (some 45, [44, 40], [15, 11]), (some 46, [1, 40], [11]), (some 47, [5, 40], [11]), (some 48, [46, 47, 40], [17, 18, 11]), (some 49, [48, 40], [19, 11]), (some 50, [49, 40], [20, 11]), (some 51, [45, 50, 40], [16, 21, 11]), (some 52, [40, 51], [11, 22]), (some 53, [52], [23, 11]), (some 54, [0, 53], [24]), (some 55, [5, 53], [24]), (some 56, [54, 55, 53], [25, 26, 24]), (some 57, [56, 53], [27, 24]), (some 58, [57, 53], [28, 24]), (some 59, [1, 53], [24]), (some 60, [5, 53], [24]), (some 61, [59, 60, 53], [30, 31, 24]), (some 62, [61, 53], [32, 24]), (some 63, [62, 53], [33, 24]), (some 64, [58, 63, 53], [29, 34, 24]), (some 65, [53, 64], [24, 35]), (some 66, [65], [36, 24]), (some 67, [6, 66], [37]), (some 68, [67, 66], [38, 37]), (some 69, [66, 68], [37, 39])] (by kernel_rfl) (by kernel_rfl) (by kernel_rfl) ?_
 refine qwA ?_
 refine HQ.ld rfl (fun w' hM => cell_ext hM.ext x0) rfl ?_
 refine qwA ?_
 refine HQ.ld rfl (fun w' hM => cell_ext hM.ext y0) rfl ?_
 by_cases e0 : n1.id = n2.id
 rotate_left
 ·have e' : (decide ¬ n1.id = n2.id) = true := by simp [e0]
  refine qwA ?_
  refine HQ.nil ?_
  refine hwNB ?_
  exact HX.ret1 rfl rfl fun w' hM => ⟨by rw [hst.2 (by unfold eqNd; simp [e0])], hM.ext⟩
 have f0 : (decide ¬ n1.id = n2.id) = false := by simp [e0]
 refine qwA ?_
 refine HQ.ld rfl (fun w' hM => cell_ext hM.ext x1) rfl ?_
 refine qwA ?_
 refine HQ.ld rfl (fun w' hM => cell_ext hM.ext y1) rfl ?_
 by_cases e1 : n1.kind = n2.kind
 rotate_left
 ·have e' : (decide ¬ n1.kind = n2.kind) = true := by simp [e1]
  refine qwA ?_
  refine HQ.nil ?_
  refine hwNB ?_
  exact HX.ret1 rfl rfl fun w' hM => ⟨by rw [hst.2 (by unfold eqNd; simp [e1])], hM.ext⟩
 have f1 : (decide ¬ n1.kind = n2.kind) = false := by simp [e1]
 refine qwA ?_
 refine HQ.ld rfl (fun w' hM => cell_ext hM.ext x2) rfl ?_
 refine qwA ?_
 refine HQ.ld rfl (fun w' hM => cell_ext hM.ext y2) rfl ?_
 by_cases e2 : n1.pack = n2.pack
 rotate_left
 ·have e' : (decide ¬ n1.pack = n2.pack) = true := by simp [e2]
  refine qwA ?_
  refine HQ.nil ?_
  refine hwNB ?_
  exact HX.ret1 rfl rfl fun w' hM => ⟨by rw [hst.2 (by unfold eqNd; simp [e2])], hM.ext⟩
 have f2 : (decide ¬ n1.pack = n2.pack) = false := by simp [e2]
 by_cases e3 : n1.src = n2.src
 ·rw [decide_eq_true e3]
  refine qwA ?_
  refine HQ.nil ?_
  refine hwNB ?_
  exact HX.again (k + 1) ⟨hlt, hst.1 (by unfold eqNd; simp [e0, e1, e2, e3])⟩ (by show l.length - (k + 1) < l.length - k; omega) esA (Hs.refl _)
 ·rw [decide_eq_false e3]
  refine qwA ?_
  refine HQ.nil ?_
  refine hwNB ?_
  exact HX.ret1 rfl rfl fun w' hM => ⟨by rw [hst.2 (by unfold eqNd; simp [e3])], hM.ext⟩
end Go.Sx
/- Chapter 24: a base with an order: the walk. -/
namespace Go.Sx
open Go Go.Proofs Go.RowKit
def askR (pk fr : Int) : Rc := ⟨8, 5, 1, 0, false, fr, 0, pk, 0, 0, 0, 1, false, 0, ⟨#[]⟩⟩
theorem Mm.slotR24 {w0 w : World} {H : List Atom} {q : Nat → Slot} (h : Mm w0 H w) (hm : bsA q ∈ H) {i : Nat} (hi : i < 8) : RdR w (slot (q i)) (bsL q i) := by
 have hp : ∀ x ∈ slots q, x.p w := h.all _ hm
 exact RdR.of_owns (hp _ (List.mem_map.2 ⟨i, List.mem_range.2 hi, rfl⟩))
theorem RcOk.of_valid24 {r : Rc} (h : ValidR r) : RcOk r := by
 have hg : ∀ i, i < 10 → i64W (r.get i) := fun i hi => by
  by_cases hm : i ∈ (specF r.kind).map Prod.fst
  ·obtain ⟨p, hp, rfl⟩ := List.mem_map.1 hm
   have h1 := h.lim p hp
   have h2 := spec_hi hp
   have h3 := (spec_lo hp).1
   unfold i64W; omega
  ·rw [h.zero i hi hm]; unfold i64W; omega
 have h1 := h.kind
 have h2 := h.ver
 have h3 := h.day
 have h4 := h.text
 exact ⟨by unfold i64W; omega, hg 0 (by decide), by unfold i64W; omega, by unfold i64W; omega, hg 1 (by decide), hg 2 (by decide), hg 3 (by decide), hg 4 (by decide), hg 5 (by decide), hg 6 (by decide), hg 7 (by decide), hg 9 (by decide), by simp only [maxLen]; omega⟩
theorem of_len24 {l : List Rc} {day k : Int} {L : List Rc} (h : IsOf l day k L) : L.length ≤ l.length :=
 nodup_len (h.asc.imp fun h e => by subst e; omega) fun r hr => ((h.mem r).1 hr).1.1.mem
structure AskV (w : World) (v : Value) (B : Nat → List Rc) (r : Rc) : Prop where
 base : BaseV w v B
 ord : B 7 = [r]
 h4 : (B 4).length ≤ 30
 h5 : (B 5).length ≤ 30
attribute [local irreducible] WC WL WX POp Then Again Fn NX W1 WA WO QL RP RA Yld LoopAt HC HL HX HN H1 HA HO HQ HB HP A.blk A.grow A.rd A.obj A.mp AgainH CutH
attribute [local irreducible] A.dfr A.loop bsA
set_option maxHeartbeats 2000000 in
theorem asked24_fn (v : Value) (rows : List (List Int)) (pack fr : Int) (hp : i64W pack) (hf : i64W fr) (hrow : ∀ y ∈ rows, y.length = 6 ∧ ∀ z ∈ y, i64W z) (w : World) (hR : RdA 6 w v rows) :
  Fn Tryz.prog 24 #[v, zv pack, zv fr] w fun u w' => (∃ B, AskV w' u B (askR (1 + pickI21 pack 5) (pickI21 fr 60))) ∧ Ext w w' := by
 have q1 := pickI21_lt pack (n := 5) (by decide)
 have q2 := pickI21_lt fr (n := 60) (by decide)
 refine enterH (l := [_, _, _]) rfl Tryz.ntmps24 rfl ?_
 refine hwNB ?_
 refine HL.one (H1.alloc (cs := row 8 fun _ => .slice none 0 0) rfl rfl (fun b6 => ?_))
 refine hwNB ?_
 refine HL.one (H1.callz (vs := [v]) rfl rfl (fun w' hM => Some_fn v rows hrow w' (hR.ext hM.ext)) ?_)
 rintro ⟨⟨al, cl⟩, l⟩ ⟨hll, hlok⟩
 dsimp only at hll hlok ⊢
 refine hwNB ?_
 refine HL.one (H1.callz1 (α := Nat → Slot) (V := fun q => bsV q) (An := fun q => bsA q) (I := fun q => ∀ i : Nat, i < 8 → IsOf l 100000 ((i : Int) + 1) (bsL q i)) (vs := [.slice al l.length cl, zv 100000]) rfl rfl (fun w' hM => of_fn al cl l (by omega) (fun r hr => RcOk.of_valid24 (hlok r hr).valid) 100000 w' (hM.recs memA)) ?_)
 intro q hq
 refine hwNB ?_
 refine HL.one (H1.alloc (cs := row 8 fun _ => .slice none 0 0) rfl rfl (fun b7 => ?_))
 refine hwNB ?_
 refine HL.one (H1.stAgg (b := b7) (cs := row 8 fun _ => .slice none 0 0) (vs := row 8 fun i => slot (q i)) rfl rfl rfl (by
  intro v hv
  obtain ⟨i, -, rfl⟩ := List.mem_map.1 hv
  rfl) rplA rfl ?_)
 refine hwNB ?_
 refine HL.one (H1.call0 (vs := [zv fr, zv 60]) rfl rfl (fun w' _ => lpick24_fn fr 60 hf.1 hf.2 (by decide) w') ?_)
 refine hwNB ?_
 refine HL.one (H1.call0 (vs := [zv pack, zv 5]) rfl rfl (fun w' _ => lpick24_fn pack 5 hp.1 hp.2 (by decide) w') ?_)
 refine hwNB ?_
 refine HL.build (cs := rcells (askR (1 + pickI21 pack 5) (pickI21 fr 60))) rfl rfl rfl ?_
 refine hwNB ?_
 refine HL.one (H1.lit (cs := rcells (askR (1 + pickI21 pack 5) (pickI21 fr 60))) rfl rfl rfl rfl rfl rfl (fun b8 => ?_))
 refine hwNB ?_
 refine HL.one (H1.st (b := b7) (i := 7) rfl rfl (by intro _ h; cases h) (by intro _ h; cases h) rplA (by show 7 < 8; decide) ?_)
 rw [show (row 8 fun i => slot (q i)).set 7 (.slice (some ⟨b8, 0, none⟩) 1 1) = row 8 fun i => if i = 7 then .slice (some ⟨b8, 0, none⟩) 1 1 else slot (q i) from rfl]
 refine hwNB ?_
 refine HL.one (H1.ldAgg (b := b7) (vs := row 8 fun i => if i = 7 then .slice (some ⟨b8, 0, none⟩) 1 1 else slot (q i)) rfl memA rfl (fun i v h => by rwa [Nat.zero_add]) rfl ?_)
 refine hwNB ?_
 refine HL.one (H1.stAgg (b := b6) (cs := row 8 fun _ => .slice none 0 0) (vs := row 8 fun i => if i = 7 then .slice (some ⟨b8, 0, none⟩) 1 1 else slot (q i)) rfl rfl rfl (by
  intro v hv
  obtain ⟨i, -, rfl⟩ := List.mem_map.1 hv
  by_cases h : i = 7
  ·rw [if_pos h]; rfl
  ·rw [if_neg h]; rfl) rplA rfl ?_)
 refine hwNB ?_
 refine HX.retc1 (b := b6) (cs := row 8 fun i => if i = 7 then .slice (some ⟨b8, 0, none⟩) 1 1 else slot (q i)) rfl rfl memA rfl fun w' hM => ⟨⟨fun i => if i = 7 then [askR (1 + pickI21 pack 5) (pickI21 fr 60)] else bsL q i, ⟨_, rfl, fun i hi => ?_⟩, rfl, ?_, ?_⟩, hM.ext⟩
 ·by_cases h : i = 7
  ·subst h
   exact RdR.of_blk (l := [askR (1 + pickI21 pack 5) (pickI21 fr 60)]) (hM.blk (b := b8) memA)
  ·dsimp only
   rw [if_neg h, if_neg h]
   exact hM.slotR24 memA hi
 ·exact Nat.le_trans (of_len24 (hq 4 (by decide))) hll
 ·exact Nat.le_trans (of_len24 (hq 5 (by decide))) hll
end Go.Sx
/- Chapter 24: a base with an order and nothing else: the walk. -/
namespace Go.Sx
open Go Go.Proofs Go.RowKit
attribute [local irreducible] WC WL WX POp Then Again Fn NX W1 WA WO QL RP RA Yld LoopAt HC HL HX HN H1 HA HO HQ HB HP A.blk A.grow A.rd A.obj A.mp AgainH CutH
attribute [local irreducible] A.dfr A.loop bsA
end Go.Sx
/- Plain, chapter 24: what is left after two orders does not depend on which comes first. -/
namespace Go.Sx
open Go Go.RowKit
def leftN1 (l : List Nd) (g : List Int) : List Nd := l.filter fun n => decide (n.id ∈ g) == false
end Go.Sx
/- Chapter 24: the law LineageOrders: the walk. -/
namespace Go.Sx
open Go Go.Proofs Go.RowKit
structure AnyD where
 x1 : Option Addr × Nat × Nat
 x2 : Option Addr × Nat × Nat
 o : Int
 d : Int
 b : ByteArray
 a : ByteArray
 x3 : Option Addr × Nat × Nat
 x4 : Option Addr × Nat × Nat
 e : Int
def slV (x : Option Addr × Nat × Nat) : Value := .slice x.1 x.2.1 x.2.2
def anyT (z : AnyD) : List Value := [zv z.o, zv z.d, .string z.b, .string z.a, slV z.x3, slV z.x4]
def anyDV (z : AnyD) : Value := .tuple #[slV z.x1, slV z.x2, .agg (anyT z).toArray, zv z.e]
theorem tombV_one (o d : Int) (l : List Nd) (D : List ByteArray) (pk : Int) (z : DelZ) : ∀ v ∈ tombV o d l D pk z, v.oneCell' = true := by
 intro v hv
 simp only [tombV, List.mem_cons, List.not_mem_nil, or_false] at hv
 rcases hv with rfl | rfl | rfl | rfl | rfl | rfl <;> rfl
def ordB (L : List Rc) (i : Nat) : List Rc := if i = 7 then L else []
def ordR (id pk : Int) : Rc := ⟨8, id, 1, 0, false, 0, 0, pk, 0, 0, 0, 1, false, 0, ⟨#[]⟩⟩
theorem ok_sizes {l : List Nd} {D : List ByteArray} (h : okS l D = true) : l.length ≤ 400000 ∧ (∀ i, i < l.length → (ndAt l i).src.length ≤ 1000000) ∧ D.length ≤ 1000000 ∧ ∀ d ∈ D, d.size ≤ 1000 := by
 have hv := okS_valid h
 have hf := okS_facts h
 have := hv.len
 exact ⟨by omega, fun i hi => by have := (hasN_iff.1 (hv.node i hi)).len; omega, by omega, fun d hd => by rw [hf.2.2 d hd]; decide⟩
theorem made_ok (rows : List (List Int)) : okS (madeL rows (madeN rows)) (madeD rows (madeN rows)) = true :=
 okS_of (madeL_ok rows (madeN rows) (by unfold madeN; omega)).valid (by rw [madeL_len, madeD_len]) (madeD_size rows _)
attribute [local irreducible] WC WL WX POp Then Again Fn NX W1 WA WO QL RP RA Yld LoopAt HC HL HX HN H1 HA HO HQ HB HP A.blk A.grow A.rd A.obj A.mp AgainH CutH
attribute [local irreducible] A.mq A.mit A.all sumS rootP
end Go.Sx
/- Chapter 24: the law LineageTombstones: the walk. -/
namespace Go.Sx
open Go Go.Proofs Go.RowKit
theorem RdN.pre {w : World} {a : Option Addr} {c k : Nat} {l : List Nd} {U : Nat → Value} (h : RdN w (.slice a l.length c) l U) (hk : k ≤ l.length) : RdN w (.slice a k c) (l.take k) U := by
 have hkl : (l.take k).length = k := by rw [List.length_take]; omega
 obtain ⟨a', c', h1, h2, h3⟩ := h.shape
 cases h1
 refine ⟨⟨a, c, by rw [hkl], by omega, ?_⟩, fun i hi => ?_⟩
 ·rcases h3 with h3 | ⟨b, off, h4, h5⟩
  ·exact .inl (by rw [h3]; exact List.take_nil)
  ·refine .inr ⟨b, off, h4, fun i hi j u hu => h5 i (by omega) j u ?_⟩
   rwa [ndAt_takeL (by omega)] at hu
 ·rw [ndAt_takeL (by omega)]
  exact h.src i (by omega)
theorem Rd.spre {w : World} {a : Option Addr} {c k : Nat} {l : List ByteArray} (h : Rd w (.slice a l.length c) (strs l)) (hk : k ≤ l.length) : Rd w (.slice a k c) (strs (l.take k)) := by
 obtain ⟨a', c', h1, h2, h3⟩ := h
 have hkl : (strs (l.take k)).length = k := by rw [strs_len, List.length_take]; omega
 rw [strs_len] at h1 h2
 cases h1
 refine ⟨a, c, by rw [hkl], by omega, ?_⟩
 rcases h3 with h3 | ⟨b, off, h4, h5, h6⟩
 ·have : l = [] := by cases l with | nil => rfl | cons => cases h3
  exact .inl (by rw [this, List.take_nil]; rfl)
 ·refine .inr ⟨b, off, h4, h5, fun i u hu => h6 i u ?_⟩
  unfold strs at hu ⊢
  rw [List.getElem?_map] at hu ⊢
  rw [List.getElem?_take] at hu
  split at hu
  ·exact hu
  ·cases hu
def inB24 (s : ByteArray) (l : List ByteArray) : Bool := l.any fun x => decide (x = s)
attribute [local irreducible] WC WL WX POp Then Again Fn NX W1 WA WO QL RP RA Yld LoopAt HC HL HX HN H1 HA HO HQ HB HP A.blk A.grow A.rd A.obj A.mp AgainH CutH
attribute [local irreducible] A.mq A.mit A.all sumS rootP
end Go.Sx
/- Plain, chapter 24: roots and leaves tell what they are made of, or two strings have the same digest. -/
namespace Go.Sx
open Go Go.RowKit
def hashL (l : List ByteArray) : List ByteArray :=
 if _h : 2 ≤ l.length then hashL (l.take (leftN l.length)) ++ hashL (l.drop (leftN l.length)) ++ [mkB 1 ++ mroot (l.take (leftN l.length)) ++ mroot (l.drop (leftN l.length))] else match l with
  | [] => [⟨#[]⟩]
  | x :: _ => [mkB 0 ++ x]
termination_by l.length
decreasing_by
 ·rw [List.length_take]; have := leftN_lt _h; omega
 ·rw [List.length_drop]; have := leftN_pos l.length; omega
def ColP (a b : List ByteArray) : Prop := ∃ x ∈ a, ∃ y ∈ b, x ≠ y ∧ sumS x = sumS y
theorem ba_ext {a b : ByteArray} (h : a.data.toList = b.data.toList) : a = b := by
 cases a with
 | mk a =>
  cases b with
  | mk b => exact congrArg ByteArray.mk (Array.toList_inj.1 h)
theorem ba_appL (a b : ByteArray) : (a ++ b).data.toList = a.data.toList ++ b.data.toList := by rw [ByteArray.data_append, Array.toList_append]
theorem catS_1e (x : ByteArray) : catS [x] = x := ba_ext (by
 show (x.data.toList ++ [] : List UInt8).toArray.toList = _
 rw [List.append_nil])
theorem catS_2e (a b : ByteArray) : catS [a, b] = a ++ b := ba_ext (by
 rw [ba_appL]
 show (a.data.toList ++ (b.data.toList ++ []) : List UInt8).toArray.toList = _
 rw [List.append_nil])
theorem nodeS_eq (a b : ByteArray) : nodeS a b = sumS (mkB 1 ++ a ++ b) := by
 unfold nodeS markS
 rw [catS_2e, ByteArray.append_assoc]
theorem leafS_eq (a : ByteArray) : leafS a = sumS (mkB 0 ++ a) := by unfold leafS markS; rw [catS_1e]
theorem mroot_size (l : List ByteArray) : (mroot l).size = 32 := by
 by_cases h : 2 ≤ l.length
 ·rw [mroot_step h]; exact nodeS_size _ _
 ·match l, h with
  | [], _ => rw [mroot_nil]; exact sumS_size _
  | [x], _ => rw [mroot_one]; exact leafS_size _
  | _ :: _ :: _, h => exact absurd (by simp) h
attribute [local irreducible] sumS
theorem numB_inj {x y : Int} (hx : 0 ≤ x) (hy : 0 ≤ y) {a b : List UInt8} (h : (numB x).data.toList ++ a = (numB y).data.toList ++ b) : x = y ∧ a = b := by
 have h1 : putN x.toNat ++ a = putN y.toNat ++ b := by simpa [numB, strN] using h
 obtain ⟨h2, h3⟩ := putN_inj h1
 exact ⟨by omega, h3⟩
theorem numsB_cons (x : Int) (l : List Int) : (numsB (x :: l)).data.toList = (numB x).data.toList ++ (numsB l).data.toList := by
 have key : ∀ (l : List Int) (s : ByteArray), (l.foldl (fun s x => s ++ numB x) s).data.toList = s.data.toList ++ (l.foldl (fun s x => s ++ numB x) ⟨#[]⟩).data.toList := by
  intro l
  induction l with
  | nil => intro s; show s.data.toList = s.data.toList ++ []; rw [List.append_nil]
  | cons y l ih =>
   intro s
   rw [List.foldl_cons, List.foldl_cons, ih, ih (⟨#[]⟩ ++ numB y), ba_appL, ba_appL]
   simp
 unfold numsB
 rw [List.foldl_cons, key, ba_appL]
 simp
theorem numsB_inj : ∀ {l m : List Int}, l.length = m.length → (∀ x ∈ l, 0 ≤ x) → (∀ x ∈ m, 0 ≤ x) → ∀ {a b : List UInt8}, (numsB l).data.toList ++ a = (numsB m).data.toList ++ b → l = m ∧ a = b
 | [], [], _, _, _, a, b, h => ⟨rfl, by simpa [numsB] using h⟩
 | x :: l, y :: m, hl, hx, hy, a, b, h => by
  rw [numsB_cons, numsB_cons, List.append_assoc, List.append_assoc] at h
  obtain ⟨h1, h2⟩ := numB_inj (hx x (.head _)) (hy y (.head _)) h
  obtain ⟨h3, h4⟩ := numsB_inj (by simpa using hl) (fun z hz => hx z (.tail _ hz)) (fun z hz => hy z (.tail _ hz)) h2
  exact ⟨by rw [h1, h3], h4⟩
 | [], _ :: _, hl, _, _, _, _, _ => by cases hl
 | _ :: _, [], hl, _, _, _, _, _ => by cases hl
theorem numsB_app (l m : List Int) : (numsB (l ++ m)).data.toList = (numsB l).data.toList ++ (numsB m).data.toList := by
 induction l with
 | nil => rfl
 | cons x l ih => rw [List.cons_append, numsB_cons, numsB_cons, ih, List.append_assoc]
theorem leafB_inj {n m : Nd} {d e : ByteArray} (hn : NdOk n) (hm : NdOk m) (h : leafB n d = leafB m e) : n = m ∧ d = e := by
 have h1 : (leafB n d).data.toList = (leafB m e).data.toList := by rw [h]
 unfold leafB leafN at h1
 rw [ba_appL, ba_appL, numsB_app, numsB_app, List.append_assoc, List.append_assoc] at h1
 have p1 : ∀ x ∈ [n.id, n.kind, n.pack, (n.src.length : Int)], 0 ≤ x := fun x hx => (hn.num x (List.mem_append_left _ hx)).1
 have p2 : ∀ x ∈ [m.id, m.kind, m.pack, (m.src.length : Int)], 0 ≤ x := fun x hx => (hm.num x (List.mem_append_left _ hx)).1
 obtain ⟨h2, h3⟩ := numsB_inj (l := [n.id, n.kind, n.pack, (n.src.length : Int)]) (m := [m.id, m.kind, m.pack, (m.src.length : Int)]) rfl p1 p2 h1
 have e1 : n.id = m.id := by injection h2
 have e2 : n.kind = m.kind := by injection h2 with _ h; injection h
 have e3 : n.pack = m.pack := by injection h2 with _ h; injection h with _ h; injection h
 have e4 : (n.src.length : Int) = m.src.length := by injection h2 with _ h; injection h with _ h; injection h with _ h; injection h
 obtain ⟨h5, h6⟩ := numsB_inj (by omega) (fun x hx => (hn.num x (List.mem_append_right _ hx)).1) (fun x hx => (hm.num x (List.mem_append_right _ hx)).1) h3
 obtain ⟨i1, k1, q1, s1⟩ := n
 obtain ⟨i2, k2, q2, s2⟩ := m
 dsimp only at e1 e2 e3 h5
 subst e1 e2 e3 h5
 exact ⟨rfl, ba_ext h6⟩
end Go.Sx
/- Chapter 24: the reference's roots, and the strings that they hash: the walk. -/
namespace Go.Sx
open Go Go.Proofs Go.RowKit
theorem Rd.sdrop {w : World} {b off c k : Nat} {l : List ByteArray} (h : Rd w (.slice (some ⟨b, off, none⟩) l.length c) (strs l)) (hk : k ≤ l.length) : Rd w (.slice (some ⟨b, off + k, none⟩) (l.length - k) (c - k)) (strs (l.drop k)) := by
 obtain ⟨a', c', h1, h2, h3⟩ := h
 rw [strs_len] at h1 h2
 cases h1
 have hl : (strs (l.drop k)).length = l.length - k := by rw [strs_len, List.length_drop]
 refine ⟨some ⟨b, off + k, none⟩, c - k, by rw [hl], by omega, ?_⟩
 rcases h3 with h3 | ⟨b', off', h4, h5, h6⟩
 ·have : l = [] := by cases l with | nil => rfl | cons => cases h3
  exact .inl (by rw [this, List.drop_nil]; rfl)
 ·cases h4
  refine .inr ⟨b, off + k, rfl, h5, fun i u hu => ?_⟩
  unfold strs at hu
  rw [List.getElem?_map, List.getElem?_drop] at hu
  have := h6 (k + i) u (by unfold strs; rw [List.getElem?_map]; exact hu)
  rwa [← Nat.add_assoc] at this
theorem Rd.scap {w : World} {a : Option Addr} {n c : Nat} {l : List ByteArray} (h : Rd w (.slice a n c) (strs l)) : n = l.length ∧ n ≤ c := by
 obtain ⟨a', c', h1, h2, -⟩ := h
 rw [strs_len] at h1 h2
 cases h1
 exact ⟨rfl, h2⟩
attribute [local irreducible] WC WL WX POp Then Again Fn NX W1 WA WO QL RP RA Yld LoopAt HC HL HX HN H1 HA HO HQ HB HP A.blk A.grow A.rd A.obj A.mp AgainH CutH
attribute [local irreducible] A.mq A.mit A.all sumS
theorem left02_fn (n : Nat) (hn : 2 ≤ n) (hb : n ≤ 1000000) (w : World) : Fn Tryz.prog 48 #[zv (n : Int)] w fun u w' => u = zv (leftN n : Int) ∧ Ext w w' := by
 refine enterH (l := [_]) rfl Tryz.ntmps48 rfl ?_
 refine hwNB ?_
 refine HC.loop (α := Nat) (fun p => [(0, zv (n : Int)), (3, zv (p : Int))]) (fun _ => []) (fun p => (∃ j, p = 2 ^ j) ∧ p < n) (fun p => n - p) 1 ⟨⟨0, rfl⟩, by omega⟩ esA (by repeat (first | exact Hs.nil _ | (refine Hs.cons pickA ?_))) ?_
 rintro p ⟨⟨j, hj⟩, hp⟩
 have hp0 : 0 < p := by rw [hj]; exact Nat.two_pow_pos _
 by_cases hlt : 2 * p < n
 ·have h1 : (p : Int) < (n : Int) - (p : Int) := by omega
  refine hwNB ?_
  exact HX.again (2 * p) ⟨⟨j + 1, by rw [hj, Nat.pow_succ, Nat.mul_comm]⟩, hlt⟩ (by show n - 2 * p < n - p; omega) (by rw [show ((2 * p : Nat) : Int) = 2 * (p : Int) by omega]; repeat (first | exact trivial | refine ⟨rfl, ?_⟩)) (by repeat (first | exact Hs.nil _ | (refine Hs.cons pickA ?_)))
 have h1 : ¬ (p : Int) < (n : Int) - (p : Int) := by omega
 have e : leftN n = p := by rw [hj]; exact leftN_eq (by omega) (by omega)
 refine hwNB ?_
 exact HX.ret1 rfl rfl fun w' hM => ⟨by rw [e], hM.ext⟩
theorem leaf02_fn (s : ByteArray) (hs : s.size ≤ 800000) (w : World) : Fn Tryz.prog 90 #[.string s] w fun u w' => u = .string (leafS s) ∧ Ext w w' := by
 refine enterH (l := [_]) rfl Tryz.ntmps90 rfl ?_
 have h0 : (mkB 0 ++ s).size ≤ 900000 := by rw [ByteArray.size_append]; show 1 + _ ≤ _; omega
 rw [leafS_eq]
 refine hwNB ?_
 refine HL.pa ?_ (POp.cat (s := mkB 0) (u := s) rfl rfl (by show 1 + _ ≤ _; omega))
 refine hwNB ?_
 refine HL.one (H1.callx (vs := [_]) rfl rfl (fun w' hM => refSum_fn (mkB 0 ++ s) h0 w') ?_)
 refine hwNB ?_
 exact HX.ret1 rfl rfl fun w' hM => ⟨rfl, hM.ext⟩
theorem node02_fn (a b : ByteArray) (ha : a.size ≤ 1000) (hb : b.size ≤ 1000) (w : World) : Fn Tryz.prog 91 #[.string a, .string b] w fun u w' => u = .string (nodeS a b) ∧ Ext w w' := by
 refine enterH (l := [_, _]) rfl Tryz.ntmps91 rfl ?_
 have h0 : (mkB 1 ++ a ++ b).size ≤ 900000 := by rw [ByteArray.size_append, ByteArray.size_append]; show 1 + _ + _ ≤ _; omega
 rw [nodeS_eq]
 have h1 : (mkB 1 ++ a).size = 1 + a.size := by rw [ByteArray.size_append]; rfl
 refine hwNB ?_
 refine HL.pa ?_ (POp.cat (s := mkB 1) (u := a) rfl rfl (by show 1 + _ ≤ _; omega))
 refine hwNB ?_
 refine HL.one (H1.callx (vs := [_]) rfl rfl (fun w' hM => refSum_fn (mkB 1 ++ a ++ b) h0 w') ?_)
 refine hwNB ?_
 exact HX.ret1 rfl rfl fun w' hM => ⟨rfl, hM.ext⟩
theorem root02_fn : ∀ (n : Nat) (l : List ByteArray) (a : Option Addr) (c : Nat), l.length = n → n ≤ 1000000 → (∀ s ∈ l, s.size ≤ 800000) → ∀ w : World, Rd w (.slice a l.length c) (strs l) →
  Fn Tryz.prog 49 #[.slice a l.length c] w fun u w' => u = .string (mroot l) ∧ Ext w w' := by
 intro n
 induction n using Nat.strongRecOn with
 | ind n ih =>
 intro l a c hln hnb hs w hR
 refine enterH (l := [_]) rfl Tryz.ntmps49 rfl ?_
 by_cases h0 : l.length = 0
 ·have h0' : ((l.length : Nat) : Int) = 0 := by omega
  obtain rfl : l = [] := List.length_eq_zero_iff.1 h0
  refine hwNB ?_
  refine HL.one (H1.callx (vs := [_]) rfl rfl (fun w' hM => refSum_fn ⟨#[]⟩ (by decide) w') ?_)
  refine hwNB ?_
  exact HX.ret1 rfl rfl fun w' hM => ⟨by rw [mroot_nil], hM.ext⟩
 have h0' : ¬ ((l.length : Nat) : Int) = 0 := by omega
 obtain ⟨b, off, rfl⟩ := rd_addr hR (show 0 < l.length by omega)
 by_cases h1 : l.length = 1
 ·have h1' : ((l.length : Nat) : Int) = 1 := by omega
  obtain ⟨x, rfl⟩ := List.length_eq_one_iff.1 h1
  have hc := hR.cell (strs_getB (l := [x]) (i := 0) Nat.zero_lt_one)
  have hsx := hs x (.head _)
  refine hwNB ?_
  refine HL.one (H1.ld0 rfl hc rfl ?_)
  refine hwNB ?_
  refine HL.one (H1.callx (vs := [_]) rfl rfl (fun w' hM => leaf02_fn x hsx w') ?_)
  refine hwNB ?_
  exact HX.ret1 rfl rfl fun w' hM => ⟨by rw [mroot_one], hM.ext⟩
 have h1' : ¬ ((l.length : Nat) : Int) = 1 := by omega
 have h2 : 2 ≤ l.length := by omega
 have hk := leftN_lt h2
 have hk0 := leftN_pos l.length
 obtain ⟨-, hcap⟩ := hR.scap
 have hr := mroot_step h2
 have hRt : ∀ w', Ext w w' → Rd w' (.slice (some ⟨b, off, none⟩) (l.take (leftN l.length)).length c) (strs (l.take (leftN l.length))) := fun w' hx => by
  have := (hR.ext hx).spre (k := leftN l.length) (by omega)
  rw [List.length_take, Nat.min_eq_left (by omega)]; exact this
 have hRd : ∀ w', Ext w w' → Rd w' (.slice (some ⟨b, off + leftN l.length, none⟩) (l.drop (leftN l.length)).length (c - leftN l.length)) (strs (l.drop (leftN l.length))) := fun w' hx => by
  have := (hR.ext hx).sdrop (k := leftN l.length) (by omega)
  rw [List.length_drop]; exact this
 have lt1 : (l.take (leftN l.length)).length = leftN l.length := by rw [List.length_take, Nat.min_eq_left (by omega)]
 have ld1 : (l.drop (leftN l.length)).length = l.length - leftN l.length := by rw [List.length_drop]
 refine hwNB ?_
 refine HL.one (H1.callx (vs := [_]) rfl rfl (fun w' hM => left02_fn l.length h2 (by omega) w') ?_)
 refine hwNB ?_
 have hcl : Value.slice (some ⟨b, off + ((leftN l.length : Nat) : Int).toNat * 1, none⟩) (l.length - ((leftN l.length : Nat) : Int).toNat) (c - ((leftN l.length : Nat) : Int).toNat) = .slice (some ⟨b, off + leftN l.length, none⟩) (l.length - leftN l.length) (c - leftN l.length) := by rw [Int.toNat_natCast, Nat.mul_one]
 refine HC.any rfl ?_
 refine HA.pa 0 rfl ?_
 refine HA.pa 1 rfl ?_
 refine HA.pa 2 rfl ?_
 refine HA.pa 4 rfl ?_
 refine HA.pa 5 rfl ?_
 refine HA.pa 6 rfl ?_ ((POp.cut_l rfl rfl (by omega) (by omega) (by omega)).of hcl)
 refine HA.all [3] (by kernel_rfl) rfl ⟨⟨_, rfl, ?_⟩, trivial⟩
 refine HO.one ?_
 refine H1.callx (vs := [_]) rfl rfl (fun w' hM => by
  have h := ih (l.take (leftN l.length)).length (by omega) (l.take (leftN l.length)) (some ⟨b, off, none⟩) c rfl (by omega) (fun s hsm => hs s (List.mem_of_mem_take hsm)) w' (hRt w' hM.ext)
  rw [lt1] at h; exact h) ?_
 apply HA.fold
 refine HA.all [7] (by kernel_rfl) rfl ⟨⟨_, rfl, ?_⟩, trivial⟩
 refine HO.one ?_
 refine H1.callx (vs := [_]) rfl rfl (fun w' hM => by
  have h := ih (l.drop (leftN l.length)).length (by omega) (l.drop (leftN l.length)) (some ⟨b, off + leftN l.length, none⟩) (c - leftN l.length) rfl (by omega) (fun s hsm => hs s (List.mem_of_mem_drop hsm)) w' (hRd w' hM.ext)
  rw [ld1] at h; exact h) ?_
 apply HA.fold
 refine HA.all [8] (by kernel_rfl) rfl ⟨⟨_, rfl, ?_⟩, trivial⟩
 refine HO.one ?_
 refine H1.callx (vs := [_, _]) rfl rfl (fun w' hM => node02_fn (mroot (l.take (leftN l.length))) (mroot (l.drop (leftN l.length))) (by rw [mroot_size]; decide) (by rw [mroot_size]; decide) w') ?_
 apply HA.fold
 refine HA.pa 9 rfl ?_
 refine HA.done (by kernel_rfl) ?_
 refine hwNB ?_
 exact HX.ret1 rfl rfl fun w' hM => ⟨by rw [hr], hM.ext⟩
end Go.Sx
/- Chapter 24: the reference's Collided, and its leaves: the walk. -/
namespace Go.Sx
open Go Go.Proofs Go.RowKit
def colB (a b : List ByteArray) : Bool := a.any fun x => b.any fun y => !decide (x = y) && decide (sumS x = sumS y)
attribute [local irreducible] WC WL WX POp Then Again Fn NX W1 WA WO QL RP RA Yld LoopAt HC HL HX HN H1 HA HO HQ HB HP A.blk A.grow A.rd A.obj A.mp AgainH CutH
attribute [local irreducible] A.mq A.mit A.all sumS
end Go.Sx
/- Chapter 24: the reference's leaf: the walk. -/
namespace Go.Sx
open Go Go.Proofs Go.RowKit
theorem rn_num {x : Int} (h0 : 0 ≤ x) (h1 : x ≤ 1099511627776) : rnB x = numB x := by
 unfold rnB numB strN putN mkBA zz24
 rw [if_pos ⟨by omega, by omega⟩, if_pos h0]
 rw [show (2 * x).toNat = 2 * x.toNat by omega]
theorem rns_num {l : List Int} (h : ∀ x ∈ l, 0 ≤ x ∧ x ≤ 1099511627776) : rnsB l = numsB l := by
 revert h
 refine snocI (p := fun l => (∀ x ∈ l, 0 ≤ x ∧ x ≤ 1099511627776) → rnsB l = numsB l) (fun _ => rfl) (fun l x ih h => ?_) l
 have hx := h x (List.mem_append_right _ (.head _))
 rw [rnsB_snoc, numsB_snoc, ih fun y hy => h y (List.mem_append_left _ hy), rn_num hx.1 hx.2]
theorem numsB_add (l m : List Int) : numsB (l ++ m) = numsB l ++ numsB m := by
 refine snocI (p := fun m => numsB (l ++ m) = numsB l ++ numsB m) ?_ (fun m x ih => ?_) m
 ·rw [List.append_nil]
  show numsB l = numsB l ++ ⟨#[]⟩
  exact (ByteArray.append_empty).symm
 ·rw [← List.append_assoc, numsB_snoc, ih, numsB_snoc, ByteArray.append_assoc]
theorem leaf_rn {n : Nd} (hn : NdOk n) (d : ByteArray) : rnsB [n.id, n.kind, n.pack, (n.src.length : Int)] ++ rnsB n.src ++ d = leafB n d := by
 unfold leafB leafN
 rw [numsB_add, rns_num fun x hx => hn.num x (List.mem_append_left _ hx), rns_num fun x hx => hn.num x (List.mem_append_right _ hx)]
attribute [local irreducible] WC WL WX POp Then Again Fn NX W1 WA WO QL RP RA Yld LoopAt HC HL HX HN H1 HA HO HQ HB HP A.blk A.grow A.rd A.obj A.mp AgainH CutH
attribute [local irreducible] A.mq A.mit A.all sumS rnsB
set_option maxHeartbeats 2000000 in
theorem leaf24_fn (n : Nd) (v : Value) (d : ByteArray) (hn : NdOk n) (hd : d.size ≤ 1000) (w : World) (hS : Rd w v (ints n.src)) :
  Fn Tryz.prog 47 #[ndV n v, .string d] w fun u w' => u = .string (leafB n d) ∧ Ext w w' := by
 obtain ⟨a, c, rfl, hc⟩ := hS.isInts
 have hl := hn.len
 have hi : ∀ x ∈ leafN n, i64W x := fun x hx => by have := hn.num x hx; unfold i64W; omega
 have z1 := rnsB_size [n.id, n.kind, n.pack, (n.src.length : Int)]
 have z2 := rnsB_size n.src
 rw [show [n.id, n.kind, n.pack, (n.src.length : Int)].length = 4 from rfl] at z1
 have z3 : (rnsB [n.id, n.kind, n.pack, (n.src.length : Int)] ++ rnsB n.src).size ≤ 1000 := by rw [ByteArray.size_append]; omega
 rw [← leaf_rn hn d]
 refine enterH (l := [_, _]) rfl Tryz.ntmps47 rfl ?_
 unfold ndV
 refine hwNB ?_
 refine HL.one (H1.boxAgg (cs := [zv n.id, zv n.kind, zv n.pack, .slice a n.src.length c]) rfl rfl (fun b2 => ?_))
 refine hwNB ?_
 refine HC.anyC ([(⟨b2, 0, none⟩, zv n.id), (⟨b2, 1, none⟩, zv n.kind), (⟨b2, 2, none⟩, zv n.pack), (⟨b2, 3, none⟩, .slice a n.src.length c)]) rfl ?_
 refine HB.pa 0 rfl ?_
 refine HB.ld 1 rfl rfl memD ?_
 refine HB.pa 2 rfl ?_
 refine HB.ld 3 rfl rfl memD ?_
 refine HB.pa 4 rfl ?_
 refine HB.ld 5 rfl rfl memD ?_
 refine HB.pa 6 rfl ?_
 refine HB.ld 7 rfl rfl memD ?_
 refine HB.pa 8 rfl ?_
 refine HB.pa 11 rfl ?_
 refine HB.ld 12 rfl rfl memD ?_
 refine HB.pa 15 rfl ?_
 refine HB.all keepA [9] (by kernel_rfl) rfl ⟨⟨_, rfl, ?_⟩, trivial⟩
 refine HP.one ?_
 refine H1.lit (cs := ints [n.id, n.kind, n.pack, (n.src.length : Int)]) rfl rfl rfl rfl rfl rfl (fun b9 => ?_)
 apply HB.fold
 refine HB.all keepA [10] (by kernel_rfl) rfl ⟨⟨_, rfl, ?_⟩, trivial⟩
 refine HP.one ?_
 refine H1.callx (vs := [_]) rfl rfl (fun w' hM => numbers24_fn (.slice (some ⟨b9, 0, none⟩) 4 4) [n.id, n.kind, n.pack, (n.src.length : Int)] (by show 4 ≤ _; omega) (fun x hx => hi x (List.mem_append_left _ hx)) w' (blk_rd (hM.blk (b := b9) memA) rfl)) ?_
 apply HB.fold
 refine HB.all keepA [13] (by kernel_rfl) rfl ⟨⟨_, rfl, ?_⟩, trivial⟩
 refine HP.one ?_
 refine H1.callx (vs := [_]) rfl rfl (fun w' hM => numbers24_fn (.slice a n.src.length c) n.src (by omega) (fun x hx => hi x (List.mem_append_right _ hx)) w' (hS.ext hM.ext)) ?_
 apply HB.fold
 refine HB.pa 14 rfl ?_ (POp.cat (s := rnsB [n.id, n.kind, n.pack, (n.src.length : Int)]) (u := rnsB n.src) rfl rfl (by omega))
 refine HB.pa 16 rfl ?_ (POp.cat (s := rnsB [n.id, n.kind, n.pack, (n.src.length : Int)] ++ rnsB n.src) (u := d) rfl rfl (by omega))
 refine HB.pa 17 rfl ?_
 refine HB.done keepA (by kernel_rfl) ?_
 refine hwNB ?_
 exact HX.ret1 rfl rfl fun w' hM => ⟨rfl, hM.ext⟩
end Go.Sx
/- Chapter 24: the reference's id and index: the walk. -/
namespace Go.Sx
open Go Go.Proofs Go.RowKit
inductive IxP (l : List Nd) (x k : Int) : Prop
 | no (h : k = -1) (h2 : ∀ i, i < l.length → (ndAt l i).id ≠ x)
 | yes (i : Nat) (h : k = (i : Int)) (hi : i < l.length) (h2 : (ndAt l i).id = x)
attribute [local irreducible] WC WL WX POp Then Again Fn NX W1 WA WO QL RP RA Yld LoopAt HC HL HX HN H1 HA HO HQ HB HP A.blk A.grow A.rd A.obj A.mp AgainH CutH
attribute [local irreducible] A.mq A.mit A.all
theorem id24_fn (x : Int) (w : World) : Fn Tryz.prog 62 #[zv x] w fun u w' => u = .bool (decide (idOk x)) ∧ Ext w w' := by
 refine enterH (l := [_]) rfl Tryz.ntmps62 rfl ?_
 by_cases h1 : x ≥ 1
 ·have h1' : 1 ≤ x := h1
  by_cases h2 : x ≤ 1000000
  ·refine hwNB ?_
   exact HX.ret1 rfl rfl fun w' hM => ⟨by rw [decide_eq_true h2, decide_eq_true (show idOk x from ⟨h1, h2⟩)], hM.ext⟩
  ·refine hwNB ?_
   exact HX.ret1 rfl rfl fun w' hM => ⟨by rw [decide_eq_false h2, decide_eq_false (show ¬ idOk x from fun h => h2 h.2)], hM.ext⟩
 ·have h1' : ¬ 1 ≤ x := h1
  refine hwNB ?_
  exact HX.ret1 rfl rfl fun w' hM => ⟨by rw [decide_eq_false (show ¬ idOk x from fun h => h1 h.1)], hM.ext⟩
theorem index24_fn {v : Value} {l : List Nd} {U : Nat → Value} (x : Int) (hl : l.length ≤ 1000000) (w : World) (hR : RdN w v l U) :
  Fn Tryz.prog 63 #[v, zv x] w fun u w' => ∃ k : Int, IxP l x k ∧ u = zv k ∧ Ext w w' := by
 obtain ⟨a, c, rfl, hc, -⟩ := id hR.shape
 refine enterH (l := [_, _]) rfl Tryz.ntmps63 rfl ?_
 refine hwNB ?_
 refine HC.loop (α := Nat) (fun k => [(0, .slice a l.length c), (1, zv x), (5, zv (k : Int))]) (fun _ => []) (fun k => k ≤ l.length ∧ ∀ i, i < k → (ndAt l i).id ≠ x) (fun k => l.length - k) 0 ⟨Nat.zero_le _, fun i h => absurd h (Nat.not_lt_zero _)⟩ esA (Hs.refl _) ?_
 rintro k ⟨hk, hI⟩
 by_cases hlt : k < l.length
 ·have hn : ((k : Nat) : Int) < (l.length : Int) := by omega
  obtain ⟨b0, off0, rfl, hb⟩ := hR.cell hlt
  have hc0 := hb k hlt 0 (zv (ndAt l k).id) rfl
  clear hb
  have hst : (ndAt l k).id ≠ x → ∀ i, i < k + 1 → (ndAt l i).id ≠ x := fun h i hi => by
   by_cases e : i = k
   ·rw [e]; exact h
   ·exact hI i (by omega)
  have hyes : (ndAt l k).id = x → IxP l x (k : Int) := fun h => .yes k rfl hlt h
  generalize (ndAt l k).id = y at hc0 hst hyes
  refine hwNB ?_
  refine HL.one (H1.ld0 rfl hc0 rfl ?_)
  by_cases hx : y = x
  ·refine hwNB ?_
   exact HX.ret1 rfl rfl fun w' hM => ⟨_, hyes hx, rfl, hM.ext⟩
  ·refine hwNB ?_
   exact HX.again (k + 1) ⟨hlt, hst hx⟩ (by show l.length - (k + 1) < l.length - k; omega) esA (Hs.refl _)
 have hn : ¬ ((k : Nat) : Int) < (l.length : Int) := by omega
 have e : k = l.length := by omega
 rw [e] at hI
 refine hwNB ?_
 exact HX.ret1 rfl rfl fun w' hM => ⟨_, .no rfl hI, rfl, hM.ext⟩
end Go.Sx
