/- Chapter 20's reference: Some: at most 30 valid records. -/
import Derived.Test.YtehehfcmanccjaaGreatDoorQF10
import Derived.Test.YtehehfcmanccjaaGreatDoorRows
import Derived.ProofKit
import Derived.OpenShut
import Derived.LaidMore
import Derived.Lay
import Derived.SevenTiedAt
import Derived.Stop.Joined
import Derived.Deep.Onto
import Derived.Laws.IdiomArrays
import Derived.Carry
import Derived.Test.YtehehfcmanccjaaGreatDoorTie
import Derived.Lib.LaidTab
import Derived.Stop.LaidErr
namespace Go.Sx
open Go Go.Proofs Go.RowKit
theorem hwV4 {G G2 : Prop} (x : G2) (hwq : Hold G2 → G := by
    intro hQq
    repeat' (first | apply HL.fold | apply HA.fold | apply HL.nil | apply HX.n_then | apply HC.seq | apply HC.region | refine HL.pa ?_ | refine HL.ga rfl ?_ | refine HL.na rfl ?_ | refine HL.nu rfl rfl ?_ | apply HC.block | apply HC.skip | apply HC.exit | apply HC.ret | apply HX.e_block | refine HX.e_other rfl ?_ | apply HX.e_then | apply HX.e_again | apply HX.n_block | apply HX.r_then | apply HX.r_block | apply HX.r_again | refine HC.cond_yes rfl ?_ | refine HC.cond_no rfl ?_ | refine HL.one (H1.ldb rfl memA rfl rfl ?_) | refine HC.cond rfl (fun hc => ?_) (fun hc => ?_) | refine HC.cond_b rfl (fun hc => ?_) (fun hc => ?_))
    exact hQq.get) : G := hwq ⟨x⟩
theorem hbV4 {G G2 : Prop} (x : G2) (hwq : Hold G2 → G := by
    intro hQq
    repeat' (first | apply HL.fold | apply HA.fold | apply HL.nil | apply HX.n_then | apply HC.seq | apply HC.region | refine HL.pa ?_ | refine HL.ga rfl ?_ | refine HL.na rfl ?_ | refine HL.nu rfl rfl ?_ | apply HC.skip | apply HC.exit | apply HC.ret | apply HX.e_block | refine HX.e_other rfl ?_ | apply HX.e_then | apply HX.e_again | apply HX.n_block | apply HX.r_then | apply HX.r_block | apply HX.r_again | refine HC.cond_yes rfl ?_ | refine HC.cond_no rfl ?_ | refine HL.one (H1.ldb rfl memA rfl rfl ?_) | refine HC.cond rfl (fun hc => ?_) (fun hc => ?_) | refine HC.cond_b rfl (fun hc => ?_) (fun hc => ?_))
    exact hQq.get) : G := hwq ⟨x⟩
theorem i64W.tdiv {x n : Int} (h : i64W x) (hn : 0 < n) : i64W (x.tdiv n) := tdiv_abs hn h.1 h.2
theorem i64W.shr {x : Int} (h : i64W x) (n : Nat) : i64W (x / 2 ^ n) := shr_abs n h.1 h.2
theorem spec_n {k : Int} {p : Nat × Int × Int} (hp : p ∈ specF k) : (p.1 = 0 → p.2.1 ≤ 1 ∧ 9 ≤ p.2.2) ∧ (p.1 = 1 → p.2.1 ≤ 0 ∧ 39 ≤ p.2.2) ∧ (p.1 = 2 → p.2.1 ≤ 0 ∧ 68 ≤ p.2.2) ∧ (p.1 = 8 → p.2.1 = 0 ∧ p.2.2 = 1) ∧ (p.1 ≠ 8 → p.2.1 + 3 ≤ p.2.2) := by
  unfold specF at hp
  repeat' split at hp
  all_goals (simp only [List.mem_cons, List.not_mem_nil, or_false] at hp)
  all_goals (first | (rcases hp with rfl | rfl | rfl | rfl | rfl | rfl | rfl | rfl <;> decide) | (rcases hp with rfl | rfl | rfl | rfl | rfl | rfl <;> decide) | (rcases hp with rfl | rfl | rfl | rfl | rfl <;> decide) | (rcases hp with rfl | rfl | rfl | rfl <;> decide) | (rcases hp with rfl | rfl <;> decide))
theorem spec_one {k : Int} {j : Nat} {p : Nat × Int × Int} (h : (specF k)[j]? = some p) (h1 : p.1 = 1) : 2 ∉ ((specF k).take j).map Prod.fst := by
  have hc : ∀ j, j < 8 → ((specF k).map Prod.fst)[j]? = some 1 → 2 ∉ ((specF k).map Prod.fst).take j := by
    unfold specF
    repeat' split
    all_goals decide
  have hj := (List.getElem?_eq_some_iff.1 h).1
  have hl := spec_len k
  rw [List.map_take]
  exact hc j (by omega) (by rw [List.getElem?_map, h, ← h1]; rfl)
theorem six {y : List Int} (h : y.length = 6) : ∃ y0 y1 y2 y3 y4 y5, y = [y0, y1, y2, y3, y4, y5] := by
  match y, h with
  | [a, b, c, d, e, f], _ => exact ⟨a, b, c, d, e, f, rfl⟩
theorem getter_no {L : List (Nat × Int × Int)} (hnd : (L.map Prod.fst).Nodup) {k : Nat} {p : Nat × Int × Int} (hp : L[k]? = some p) : p.1 ∉ (L.take k).map Prod.fst := by
  have h1 : (L.map Prod.fst)[k]? = some p.1 := by rw [List.getElem?_map, hp]; rfl
  have hlt := (List.getElem?_eq_some_iff.1 hp).1
  intro hm
  rw [List.map_take] at hm
  obtain ⟨i, hi, e⟩ := List.getElem_of_mem hm
  rw [List.length_take] at hi
  have h2 : (L.map Prod.fst)[i]? = some p.1 := by
    rw [List.getElem?_eq_getElem (by omega)]
    rw [List.getElem_take] at e
    rw [e]
  have := (List.getElem?_inj (by omega) hnd).1 (h2.trans h1.symm)
  omega
attribute [local irreducible] WC WL WX POp Then Again Fn NX W1 WA WO QL RP RA Yld LoopAt HC HL HX HN H1 HA HO HQ HB HP A.blk A.grow A.rd A.obj A.mp AgainH CutH
attribute [local irreducible] specF fldN
set_option maxHeartbeats 8000000 in
theorem Some_fn (v : Value) (rows : List (List Int)) (hrow : ∀ y ∈ rows, y.length = 6 ∧ ∀ z ∈ y, i64W z) (w : World) (hR : RdA 6 w v rows) :
    Fn Tryz.prog 58 #[v] w fun v w' => ∃ z : (Option Addr × Nat) × List Rc, (z.2.length ≤ 30 ∧ ∀ r ∈ z.2, SomeOk r) ∧ v = .slice z.1.1 z.2.length z.1.2 ∧ Mm w [A.grow 46 15 z.1.1 z.1.2 z.2.length (rcl z.2)] w' := by
  obtain ⟨a0, c0, rfl, -⟩ := hR.shape
  refine enterH (l := [_]) rfl Tryz.ntmps58 rfl ?_
  refine hwV4 ?_
  refine HC.grow0 46 15 ?_
  refine HC.loop (α := Nat × List Rc × Option Addr × Nat) (fun z => [(0, .slice a0 rows.length c0), (3, .slice z.2.2.1 z.2.1.length z.2.2.2), (4, zv (z.1 : Int))]) (fun z => [A.grow 46 15 z.2.2.1 z.2.2.2 z.2.1.length (rcl z.2.1)])
    (fun z => z.1 ≤ rows.length ∧ z.1 ≤ 30 ∧ z.2.1.length = z.1 ∧ ∀ r ∈ z.2.1, SomeOk r) (fun z => 30 - z.1) (0, [], none, 0) ⟨Nat.zero_le _, Nat.zero_le _, rfl, fun r h => by cases h⟩ esA (by repeat (first | exact Hs.nil _ | (refine Hs.cons pickA ?_))) ?_
  rintro ⟨i, l, a, c⟩ ⟨hi1, hi2, hll, hok⟩
  dsimp only at hi1 hi2 hll hok ⊢
  by_cases hlt : i < rows.length
  rotate_left
  · have h1 : ¬ (i : Int) < (rows.length : Int) := by omega
    refine hwV4 ?_
    exact HX.ret1 rfl rfl fun w' hM => ⟨((a, c), l), ⟨by show l.length ≤ 30; omega, hok⟩, rfl, hM⟩
  by_cases h30 : i < 30
  rotate_left
  · have h1 : (i : Int) < (rows.length : Int) := by omega
    have h2 : ¬ (i : Int) < 30 := by omega
    refine hwV4 ?_
    exact HX.ret1 rfl rfl fun w' hM => ⟨((a, c), l), ⟨by show l.length ≤ 30; omega, hok⟩, rfl, hM⟩
  have hsnoc : ∀ s, SomeOk s → ∀ r ∈ l ++ [s], SomeOk r := fun s hs r hr => by
    rcases List.mem_append.1 hr with hr | hr
    · exact hok r hr
    · obtain rfl := List.mem_singleton.1 hr; exact hs
  obtain ⟨y, hy⟩ : ∃ y, rows[i]? = some y := ⟨_, List.getElem?_eq_getElem hlt⟩
  have hy6 := hrow y (List.mem_of_getElem? hy)
  obtain ⟨b1, off, rfl, -, hcell⟩ := hR.at (fun e => by rw [e] at hlt; exact absurd hlt (Nat.not_lt_zero _))
  have hcl := hcell i y hy
  clear hcell hR
  obtain ⟨y0, y1, y2, y3, y4, y5, rfl⟩ := six hy6.1
  have w0 := hy6.2 y0 (by simp)
  have w1 := hy6.2 y1 (by simp)
  have w2 := hy6.2 y2 (by simp)
  have w3 := hy6.2 y3 (by simp)
  have w4 := hy6.2 y4 (by simp)
  have w5 := hy6.2 y5 (by simp)
  have h1 : (i : Int) < (rows.length : Int) := by omega
  have h2 : (i : Int) < 30 := by omega
  refine hwV4 ?_
  refine HL.one (H1.ldAggw (vs := ints [y0, y1, y2, y3, y4, y5]) rfl rfl (fun w' hM i v hv => cell_ext hM.ext (hcl i v hv)) rfl ?_)
  clear hcl hy hy6
  refine hwV4 ?_
  refine HL.one (H1.alloc (cs := ints [0, 0, 0, 0, 0, 0]) rfl rfl (fun b5 => ?_))
  refine hwV4 ?_
  refine HL.one (H1.stAgg (cs := ints [0, 0, 0, 0, 0, 0]) (vs := ints [y0, y1, y2, y3, y4, y5]) rfl rfl rfl (ints_one _) rplA rfl ?_)
  refine hwV4 ?_
  have q0 := pickI21_lt y0 (n := 8) (by decide)
  have q1 := pickI21_lt (y0.tdiv 8) (n := 3) (by decide)
  have q2 := pickI21_lt y1 (n := 30) (by decide)
  have u0 := w0.tdiv (n := 8) (by decide)
  have u1 := w1.tdiv (n := 30) (by decide)
  obtain ⟨r0, hr0⟩ : ∃ r0 : Rc, r0 = ⟨1 + pickI21 y0 8, 0, 1 + pickI21 (y0.tdiv 8) 3, pickI21 y1 30, decide (pickI21 (y1.tdiv 30) 7 = 0), 0, 0, 0, 0, 0, 0, 0, false, 0, ByteArray.mk #[]⟩ := ⟨_, rfl⟩
  have hS0 : SomeI [] r0 := by
    subst hr0
    refine ⟨?_, ?_, ?_, rfl, (fun p hp => by cases hp), (fun i hi _ => ?_), ⟨Int.le_refl _, of_decide_eq_true rfl⟩, (fun h => by cases h)⟩
    · show 1 ≤ 1 + pickI21 y0 8 ∧ 1 + pickI21 y0 8 ≤ 8; omega
    · show 1 ≤ 1 + pickI21 (y0.tdiv 8) 3 ∧ 1 + pickI21 (y0.tdiv 8) 3 ≤ 3; omega
    · show 0 ≤ pickI21 y1 30 ∧ pickI21 y1 30 ≤ 29; omega
    · rcases ten hi with rfl | rfl | rfl | rfl | rfl | rfl | rfl | rfl | rfl | rfl <;> rfl
  refine HC.cut (α := Nat) (fun b6 => [(0, .slice (some ⟨b1, off, none⟩) rows.length c0), (3, .slice a l.length c), (4, zv (i : Int)), (5, .pointer (some ⟨b5, 0, none⟩)), (6, .pointer (some ⟨b6, 0, none⟩))])
    (fun b6 => [A.blk b6 (rcells r0) 46, A.blk b5 (ints [y0, y1, y2, y3, y4, y5]) 137, A.grow 46 15 a c l.length (rcl l)]) (fun _ => True) ?_ ?_
  · refine HC.anyC ([(⟨b5, 0, none⟩, zv y0), (⟨b5, 1, none⟩, zv y1)]) rfl ?_
    refine HB.pa 0 rfl ?_
    refine HB.ld 1 rfl rfl memD ?_
    refine HB.pa 4 rfl ?_
    refine HB.ld 5 rfl rfl memD ?_
    refine HB.pa (v := zv (y0.tdiv 8)) 6 rfl ?_ (POp.quoT rfl rfl w0.1 w0.2 (by decide))
    refine HB.pa 9 rfl ?_
    refine HB.ld 10 rfl rfl memD ?_
    refine HB.pa 12 rfl ?_
    refine HB.ld 13 rfl rfl memD ?_
    refine HB.pa (v := zv (y1.tdiv 30)) 14 rfl ?_ (POp.quoT rfl rfl w1.1 w1.2 (by decide))
    refine HB.all (by repeat (first | exact Keep.nil | refine Keep.blk (by (repeat (first | exact List.Mem.head _ | apply List.Mem.tail)); done) rfl ?_ | refine Keep.grow (by (repeat (first | exact List.Mem.head _ | apply List.Mem.tail)); done) (by assumption) ?_ | refine Keep.base (by assumption) ?_)) [2, 18] (by kernel_rfl) rfl ⟨⟨_, rfl, ?_⟩, ⟨_, rfl, ?_⟩, trivial⟩
    · refine HP.one ?_
      refine H1.call0 (vs := [zv y0, zv 8]) rfl rfl (fun w' _ => pick20_fn y0 8 w0.1 w0.2 (by decide) w') ?_
      apply HB.fold
      refine HB.pa 3 rfl ?_
      refine HB.all (by repeat (first | exact Keep.nil | refine Keep.blk (by (repeat (first | exact List.Mem.head _ | apply List.Mem.tail)); done) rfl ?_ | refine Keep.grow (by (repeat (first | exact List.Mem.head _ | apply List.Mem.tail)); done) (by assumption) ?_ | refine Keep.base (by assumption) ?_)) [7, 18] (by kernel_rfl) rfl ⟨⟨_, rfl, ?_⟩, ⟨_, rfl, ?_⟩, trivial⟩
      · refine HP.one ?_
        refine H1.call0 (vs := [zv (y0.tdiv 8), zv 3]) rfl rfl (fun w' _ => pick20_fn (y0.tdiv 8) 3 u0.1 u0.2 (by decide) w') ?_
        apply HB.fold
        refine HB.pa 8 rfl ?_
        refine HB.all (by repeat (first | exact Keep.nil | refine Keep.blk (by (repeat (first | exact List.Mem.head _ | apply List.Mem.tail)); done) rfl ?_ | refine Keep.grow (by (repeat (first | exact List.Mem.head _ | apply List.Mem.tail)); done) (by assumption) ?_ | refine Keep.base (by assumption) ?_)) [11, 18] (by kernel_rfl) rfl ⟨⟨_, rfl, ?_⟩, ⟨_, rfl, ?_⟩, trivial⟩
        · refine HP.one ?_
          refine H1.call0 (vs := [zv y1, zv 30]) rfl rfl (fun w' _ => pick20_fn y1 30 w1.1 w1.2 (by decide) w') ?_
          apply HB.fold
          refine HB.all (by repeat (first | exact Keep.nil | refine Keep.blk (by (repeat (first | exact List.Mem.head _ | apply List.Mem.tail)); done) rfl ?_ | refine Keep.grow (by (repeat (first | exact List.Mem.head _ | apply List.Mem.tail)); done) (by assumption) ?_ | refine Keep.base (by assumption) ?_)) [15, 18] (by kernel_rfl) rfl ⟨⟨_, rfl, ?_⟩, ⟨_, rfl, ?_⟩, trivial⟩
          · refine HP.one ?_
            refine H1.call0 (vs := [zv (y1.tdiv 30), zv 7]) rfl rfl (fun w' _ => pick20_fn (y1.tdiv 30) 7 u1.1 u1.2 (by decide) w') ?_
            apply HB.fold
            refine HB.pa 16 rfl ?_
            refine HB.pa (v := recV r0) 17 rfl ?_ (by rw [hr0]; exact POp.build (cs := rcells ⟨1 + pickI21 y0 8, 0, 1 + pickI21 (y0.tdiv 8) 3, pickI21 y1 30, decide (pickI21 (y1.tdiv 30) 7 = 0), 0, 0, 0, 0, 0, 0, 0, false, 0, ByteArray.mk #[]⟩) rfl rfl)
            refine HB.all (by repeat (first | exact Keep.nil | refine Keep.blk (by (repeat (first | exact List.Mem.head _ | apply List.Mem.tail)); done) rfl ?_ | refine Keep.grow (by (repeat (first | exact List.Mem.head _ | apply List.Mem.tail)); done) (by assumption) ?_ | refine Keep.base (by assumption) ?_)) [18] (by kernel_rfl) rfl ⟨⟨_, rfl, ?_⟩, trivial⟩
            refine HP.one ?_
            refine H1.alloc (cs := rcells rcZ) rfl rfl (fun b6 => ?_)
            apply HB.fold
            refine HB.all (by repeat (first | exact Keep.nil | refine Keep.blk (by (repeat (first | exact List.Mem.head _ | apply List.Mem.tail)); done) rfl ?_ | refine Keep.grow (by (repeat (first | exact List.Mem.head _ | apply List.Mem.tail)); done) (by assumption) ?_ | refine Keep.base (by assumption) ?_)) [19] (by kernel_rfl) rfl ⟨⟨_, rfl, ?_⟩, trivial⟩
            refine HP.one ?_
            refine H1.stAgg (cs := rcells rcZ) (vs := rcells r0) rfl rfl rfl (rcells_one _) rplA rfl ?_
            apply HB.fold
            refine HB.done (by repeat (first | exact Keep.nil | refine Keep.blk (by (repeat (first | exact List.Mem.head _ | apply List.Mem.tail)); done) rfl ?_ | refine Keep.grow (by (repeat (first | exact List.Mem.head _ | apply List.Mem.tail)); done) (by assumption) ?_ | refine Keep.base (by assumption) ?_)) (by kernel_rfl) ?_
            exact HX.cut b6 trivial esA (by repeat (first | exact Hs.nil _ | (refine Hs.cons pickA ?_)))
          · refine HP.one ?_
            refine H1.alloc (cs := rcells rcZ) rfl rfl (fun b6 => ?_)
            apply HB.fold
            refine HB.all (by repeat (first | exact Keep.nil | refine Keep.blk (by (repeat (first | exact List.Mem.head _ | apply List.Mem.tail)); done) rfl ?_ | refine Keep.grow (by (repeat (first | exact List.Mem.head _ | apply List.Mem.tail)); done) (by assumption) ?_ | refine Keep.base (by assumption) ?_)) [15] (by kernel_rfl) rfl ⟨⟨_, rfl, ?_⟩, trivial⟩
            refine HP.one ?_
            refine H1.call0 (vs := [zv (y1.tdiv 30), zv 7]) rfl rfl (fun w' _ => pick20_fn (y1.tdiv 30) 7 u1.1 u1.2 (by decide) w') ?_
            apply HB.fold
            refine HB.pa 16 rfl ?_
            refine HB.pa (v := recV r0) 17 rfl ?_ (by rw [hr0]; exact POp.build (cs := rcells ⟨1 + pickI21 y0 8, 0, 1 + pickI21 (y0.tdiv 8) 3, pickI21 y1 30, decide (pickI21 (y1.tdiv 30) 7 = 0), 0, 0, 0, 0, 0, 0, 0, false, 0, ByteArray.mk #[]⟩) rfl rfl)
            refine HB.all (by repeat (first | exact Keep.nil | refine Keep.blk (by (repeat (first | exact List.Mem.head _ | apply List.Mem.tail)); done) rfl ?_ | refine Keep.grow (by (repeat (first | exact List.Mem.head _ | apply List.Mem.tail)); done) (by assumption) ?_ | refine Keep.base (by assumption) ?_)) [19] (by kernel_rfl) rfl ⟨⟨_, rfl, ?_⟩, trivial⟩
            refine HP.one ?_
            refine H1.stAgg (cs := rcells rcZ) (vs := rcells r0) rfl rfl rfl (rcells_one _) rplA rfl ?_
            apply HB.fold
            refine HB.done (by repeat (first | exact Keep.nil | refine Keep.blk (by (repeat (first | exact List.Mem.head _ | apply List.Mem.tail)); done) rfl ?_ | refine Keep.grow (by (repeat (first | exact List.Mem.head _ | apply List.Mem.tail)); done) (by assumption) ?_ | refine Keep.base (by assumption) ?_)) (by kernel_rfl) ?_
            exact HX.cut b6 trivial esA (by repeat (first | exact Hs.nil _ | (refine Hs.cons pickA ?_)))
        · refine HP.one ?_
          refine H1.alloc (cs := rcells rcZ) rfl rfl (fun b6 => ?_)
          apply HB.fold
          refine HB.all (by repeat (first | exact Keep.nil | refine Keep.blk (by (repeat (first | exact List.Mem.head _ | apply List.Mem.tail)); done) rfl ?_ | refine Keep.grow (by (repeat (first | exact List.Mem.head _ | apply List.Mem.tail)); done) (by assumption) ?_ | refine Keep.base (by assumption) ?_)) [11] (by kernel_rfl) rfl ⟨⟨_, rfl, ?_⟩, trivial⟩
          refine HP.one ?_
          refine H1.call0 (vs := [zv y1, zv 30]) rfl rfl (fun w' _ => pick20_fn y1 30 w1.1 w1.2 (by decide) w') ?_
          apply HB.fold
          refine HB.all (by repeat (first | exact Keep.nil | refine Keep.blk (by (repeat (first | exact List.Mem.head _ | apply List.Mem.tail)); done) rfl ?_ | refine Keep.grow (by (repeat (first | exact List.Mem.head _ | apply List.Mem.tail)); done) (by assumption) ?_ | refine Keep.base (by assumption) ?_)) [15] (by kernel_rfl) rfl ⟨⟨_, rfl, ?_⟩, trivial⟩
          refine HP.one ?_
          refine H1.call0 (vs := [zv (y1.tdiv 30), zv 7]) rfl rfl (fun w' _ => pick20_fn (y1.tdiv 30) 7 u1.1 u1.2 (by decide) w') ?_
          apply HB.fold
          refine HB.pa 16 rfl ?_
          refine HB.pa (v := recV r0) 17 rfl ?_ (by rw [hr0]; exact POp.build (cs := rcells ⟨1 + pickI21 y0 8, 0, 1 + pickI21 (y0.tdiv 8) 3, pickI21 y1 30, decide (pickI21 (y1.tdiv 30) 7 = 0), 0, 0, 0, 0, 0, 0, 0, false, 0, ByteArray.mk #[]⟩) rfl rfl)
          refine HB.all (by repeat (first | exact Keep.nil | refine Keep.blk (by (repeat (first | exact List.Mem.head _ | apply List.Mem.tail)); done) rfl ?_ | refine Keep.grow (by (repeat (first | exact List.Mem.head _ | apply List.Mem.tail)); done) (by assumption) ?_ | refine Keep.base (by assumption) ?_)) [19] (by kernel_rfl) rfl ⟨⟨_, rfl, ?_⟩, trivial⟩
          refine HP.one ?_
          refine H1.stAgg (cs := rcells rcZ) (vs := rcells r0) rfl rfl rfl (rcells_one _) rplA rfl ?_
          apply HB.fold
          refine HB.done (by repeat (first | exact Keep.nil | refine Keep.blk (by (repeat (first | exact List.Mem.head _ | apply List.Mem.tail)); done) rfl ?_ | refine Keep.grow (by (repeat (first | exact List.Mem.head _ | apply List.Mem.tail)); done) (by assumption) ?_ | refine Keep.base (by assumption) ?_)) (by kernel_rfl) ?_
          exact HX.cut b6 trivial esA (by repeat (first | exact Hs.nil _ | (refine Hs.cons pickA ?_)))
      · refine HP.one ?_
        refine H1.alloc (cs := rcells rcZ) rfl rfl (fun b6 => ?_)
        apply HB.fold
        refine HB.all (by repeat (first | exact Keep.nil | refine Keep.blk (by (repeat (first | exact List.Mem.head _ | apply List.Mem.tail)); done) rfl ?_ | refine Keep.grow (by (repeat (first | exact List.Mem.head _ | apply List.Mem.tail)); done) (by assumption) ?_ | refine Keep.base (by assumption) ?_)) [7] (by kernel_rfl) rfl ⟨⟨_, rfl, ?_⟩, trivial⟩
        refine HP.one ?_
        refine H1.call0 (vs := [zv (y0.tdiv 8), zv 3]) rfl rfl (fun w' _ => pick20_fn (y0.tdiv 8) 3 u0.1 u0.2 (by decide) w') ?_
        apply HB.fold
        refine HB.pa 8 rfl ?_
        refine HB.all (by repeat (first | exact Keep.nil | refine Keep.blk (by (repeat (first | exact List.Mem.head _ | apply List.Mem.tail)); done) rfl ?_ | refine Keep.grow (by (repeat (first | exact List.Mem.head _ | apply List.Mem.tail)); done) (by assumption) ?_ | refine Keep.base (by assumption) ?_)) [11] (by kernel_rfl) rfl ⟨⟨_, rfl, ?_⟩, trivial⟩
        refine HP.one ?_
        refine H1.call0 (vs := [zv y1, zv 30]) rfl rfl (fun w' _ => pick20_fn y1 30 w1.1 w1.2 (by decide) w') ?_
        apply HB.fold
        refine HB.all (by repeat (first | exact Keep.nil | refine Keep.blk (by (repeat (first | exact List.Mem.head _ | apply List.Mem.tail)); done) rfl ?_ | refine Keep.grow (by (repeat (first | exact List.Mem.head _ | apply List.Mem.tail)); done) (by assumption) ?_ | refine Keep.base (by assumption) ?_)) [15] (by kernel_rfl) rfl ⟨⟨_, rfl, ?_⟩, trivial⟩
        refine HP.one ?_
        refine H1.call0 (vs := [zv (y1.tdiv 30), zv 7]) rfl rfl (fun w' _ => pick20_fn (y1.tdiv 30) 7 u1.1 u1.2 (by decide) w') ?_
        apply HB.fold
        refine HB.pa 16 rfl ?_
        refine HB.pa (v := recV r0) 17 rfl ?_ (by rw [hr0]; exact POp.build (cs := rcells ⟨1 + pickI21 y0 8, 0, 1 + pickI21 (y0.tdiv 8) 3, pickI21 y1 30, decide (pickI21 (y1.tdiv 30) 7 = 0), 0, 0, 0, 0, 0, 0, 0, false, 0, ByteArray.mk #[]⟩) rfl rfl)
        refine HB.all (by repeat (first | exact Keep.nil | refine Keep.blk (by (repeat (first | exact List.Mem.head _ | apply List.Mem.tail)); done) rfl ?_ | refine Keep.grow (by (repeat (first | exact List.Mem.head _ | apply List.Mem.tail)); done) (by assumption) ?_ | refine Keep.base (by assumption) ?_)) [19] (by kernel_rfl) rfl ⟨⟨_, rfl, ?_⟩, trivial⟩
        refine HP.one ?_
        refine H1.stAgg (cs := rcells rcZ) (vs := rcells r0) rfl rfl rfl (rcells_one _) rplA rfl ?_
        apply HB.fold
        refine HB.done (by repeat (first | exact Keep.nil | refine Keep.blk (by (repeat (first | exact List.Mem.head _ | apply List.Mem.tail)); done) rfl ?_ | refine Keep.grow (by (repeat (first | exact List.Mem.head _ | apply List.Mem.tail)); done) (by assumption) ?_ | refine Keep.base (by assumption) ?_)) (by kernel_rfl) ?_
        exact HX.cut b6 trivial esA (by repeat (first | exact Hs.nil _ | (refine Hs.cons pickA ?_)))
    · refine HP.one ?_
      refine H1.alloc (cs := rcells rcZ) rfl rfl (fun b6 => ?_)
      apply HB.fold
      refine HB.all (by repeat (first | exact Keep.nil | refine Keep.blk (by (repeat (first | exact List.Mem.head _ | apply List.Mem.tail)); done) rfl ?_ | refine Keep.grow (by (repeat (first | exact List.Mem.head _ | apply List.Mem.tail)); done) (by assumption) ?_ | refine Keep.base (by assumption) ?_)) [2] (by kernel_rfl) rfl ⟨⟨_, rfl, ?_⟩, trivial⟩
      refine HP.one ?_
      refine H1.call0 (vs := [zv y0, zv 8]) rfl rfl (fun w' _ => pick20_fn y0 8 w0.1 w0.2 (by decide) w') ?_
      apply HB.fold
      refine HB.pa 3 rfl ?_
      refine HB.all (by repeat (first | exact Keep.nil | refine Keep.blk (by (repeat (first | exact List.Mem.head _ | apply List.Mem.tail)); done) rfl ?_ | refine Keep.grow (by (repeat (first | exact List.Mem.head _ | apply List.Mem.tail)); done) (by assumption) ?_ | refine Keep.base (by assumption) ?_)) [7] (by kernel_rfl) rfl ⟨⟨_, rfl, ?_⟩, trivial⟩
      refine HP.one ?_
      refine H1.call0 (vs := [zv (y0.tdiv 8), zv 3]) rfl rfl (fun w' _ => pick20_fn (y0.tdiv 8) 3 u0.1 u0.2 (by decide) w') ?_
      apply HB.fold
      refine HB.pa 8 rfl ?_
      refine HB.all (by repeat (first | exact Keep.nil | refine Keep.blk (by (repeat (first | exact List.Mem.head _ | apply List.Mem.tail)); done) rfl ?_ | refine Keep.grow (by (repeat (first | exact List.Mem.head _ | apply List.Mem.tail)); done) (by assumption) ?_ | refine Keep.base (by assumption) ?_)) [11] (by kernel_rfl) rfl ⟨⟨_, rfl, ?_⟩, trivial⟩
      refine HP.one ?_
      refine H1.call0 (vs := [zv y1, zv 30]) rfl rfl (fun w' _ => pick20_fn y1 30 w1.1 w1.2 (by decide) w') ?_
      apply HB.fold
      refine HB.all (by repeat (first | exact Keep.nil | refine Keep.blk (by (repeat (first | exact List.Mem.head _ | apply List.Mem.tail)); done) rfl ?_ | refine Keep.grow (by (repeat (first | exact List.Mem.head _ | apply List.Mem.tail)); done) (by assumption) ?_ | refine Keep.base (by assumption) ?_)) [15] (by kernel_rfl) rfl ⟨⟨_, rfl, ?_⟩, trivial⟩
      refine HP.one ?_
      refine H1.call0 (vs := [zv (y1.tdiv 30), zv 7]) rfl rfl (fun w' _ => pick20_fn (y1.tdiv 30) 7 u1.1 u1.2 (by decide) w') ?_
      apply HB.fold
      refine HB.pa 16 rfl ?_
      refine HB.pa (v := recV r0) 17 rfl ?_ (by rw [hr0]; exact POp.build (cs := rcells ⟨1 + pickI21 y0 8, 0, 1 + pickI21 (y0.tdiv 8) 3, pickI21 y1 30, decide (pickI21 (y1.tdiv 30) 7 = 0), 0, 0, 0, 0, 0, 0, 0, false, 0, ByteArray.mk #[]⟩) rfl rfl)
      refine HB.all (by repeat (first | exact Keep.nil | refine Keep.blk (by (repeat (first | exact List.Mem.head _ | apply List.Mem.tail)); done) rfl ?_ | refine Keep.grow (by (repeat (first | exact List.Mem.head _ | apply List.Mem.tail)); done) (by assumption) ?_ | refine Keep.base (by assumption) ?_)) [19] (by kernel_rfl) rfl ⟨⟨_, rfl, ?_⟩, trivial⟩
      refine HP.one ?_
      refine H1.stAgg (cs := rcells rcZ) (vs := rcells r0) rfl rfl rfl (rcells_one _) rplA rfl ?_
      apply HB.fold
      refine HB.done (by repeat (first | exact Keep.nil | refine Keep.blk (by (repeat (first | exact List.Mem.head _ | apply List.Mem.tail)); done) rfl ?_ | refine Keep.grow (by (repeat (first | exact List.Mem.head _ | apply List.Mem.tail)); done) (by assumption) ?_ | refine Keep.base (by assumption) ?_)) (by kernel_rfl) ?_
      exact HX.cut b6 trivial esA (by repeat (first | exact Hs.nil _ | (refine Hs.cons pickA ?_)))
  rintro b6 -
  clear hr0 q0 q1 q2 u0 u1
  refine hwV4 ?_
  refine HL.one (H1.callz1 (α := Nat) (V := fun b => .slice (some ⟨b, 0, none⟩) (specF r0.kind).length (specF r0.kind).length) (An := fun b => A.blk b (ints (fldN r0.kind)) 3) (I := fun _ => True) (vs := [zv r0.kind]) rfl rfl (fun w' _ => Fields_fn r0.kind hS0.kind w') ?_)
  rintro bf -
  have hK := hS0.kind
  obtain ⟨K, hKe⟩ : ∃ K, K = r0.kind := ⟨_, rfl⟩
  rw [← hKe] at hK ⊢
  unfold fldN
  obtain ⟨L, hL⟩ : ∃ L, L = specF K := ⟨_, rfl⟩
  rw [← hL]
  have hnd : (L.map Prod.fst).Nodup := by rw [hL]; exact spec_nodup K
  have hL8 : L.length ≤ 8 := by rw [hL]; exact spec_len K
  refine hwV4 ?_
  refine HC.loop (α := Nat × Rc) (fun z => [(0, .slice (some ⟨b1, off, none⟩) rows.length c0), (3, .slice a l.length c), (4, zv (i : Int)), (5, .pointer (some ⟨b5, 0, none⟩)), (6, .pointer (some ⟨b6, 0, none⟩)), (7, .slice (some ⟨bf, 0, none⟩) L.length L.length), (8, zv (z.1 : Int))])
    (fun z => [A.blk b6 (rcells z.2) 46, A.blk bf (ints (L.map fun p => (p.1 : Int))) 3, A.blk b5 (ints [y0, y1, y2, y3, y4, y5]) 137, A.grow 46 15 a c l.length (rcl l)])
    (fun z => z.1 ≤ L.length ∧ z.2.kind = K ∧ SomeI (L.take z.1) z.2) (fun z => L.length - z.1) (0, r0) ⟨Nat.zero_le _, hKe.symm, by rw [List.take_zero]; exact hS0⟩ esA (by repeat (first | exact Hs.nil _ | (refine Hs.cons pickA ?_))) ?_
  clear hKe hS0 r0
  rintro ⟨k, r⟩ ⟨hk, hrk, hS⟩
  dsimp only at hk hrk hS ⊢
  by_cases hkl : k < L.length
  · obtain ⟨p, hp⟩ : ∃ p, L[k]? = some p := ⟨_, List.getElem?_eq_getElem hkl⟩
    have hpm : p ∈ specF K := hL ▸ List.mem_of_getElem? hp
    have htk : L.take (k + 1) = L.take k ++ [p] := by rw [List.take_add_one, hp]; rfl
    have hno := getter_no hnd hp
    have hone : p.1 = 1 → 2 ∉ (L.take k).map Prod.fst := fun e => by
      have := spec_one (k := K) (j := k) (p := p) (by rw [← hL]; exact hp) e
      rwa [← hL] at this
    have hp10 := (spec_lo hpm).2
    have hsn := spec_n hpm
    have hl10 : ∀ q ∈ L.take k, q.1 < 10 := fun q hq => (spec_lo (hL ▸ List.mem_of_mem_take hq)).2
    have hstep := fun (n : Int) a1 a2 a3 a4 => hS.step (p := p) hp10 hno (n := n) a1 a2 a3 a4 hl10
    rw [← htk] at hstep
    have hlim := fun w' => Limits_fn K hK p hpm w'
    have hget : (ints (L.map fun p => (p.1 : Int)))[k]? = some (zv (p.1 : Int)) := by
      unfold ints
      rw [List.map_map, List.getElem?_map, hp]; rfl
    have hlo := (spec_lo hpm).1
    have hhi := spec_hi hpm
    obtain ⟨q, lo, hi⟩ := p
    dsimp only at hp10 hsn hstep hlim hget hlo hhi hone
    have hst := hS.start
    have hkb : (k : Int) < 8 := by omega
    refine hwV4 ?_
    refine HC.cut (α := Unit) (fun _ => [(0, .slice (some ⟨b1, off, none⟩) rows.length c0), (3, .slice a l.length c), (4, zv (i : Int)), (5, .pointer (some ⟨b5, 0, none⟩)), (6, .pointer (some ⟨b6, 0, none⟩)), (7, .slice (some ⟨bf, 0, none⟩) L.length L.length), (8, zv (k : Int)), (9, zv lo)]) (fun _ => [A.blk b6 (rcells r) 46, A.blk bf (ints (L.map fun p => (p.1 : Int))) 3, A.blk b5 (ints [y0, y1, y2, y3, y4, y5]) 137, A.grow 46 15 a c l.length (rcl l)]) (fun _ => True) ?_ ?_
    · refine HC.any rfl ?_
      refine HA.pa 0 rfl ?_
      refine HA.pa 2 rfl ?_
      refine HA.pa 3 rfl ?_
      refine HA.pa 4 rfl ?_
      refine HA.all [1, 5] (by kernel_rfl) rfl ⟨⟨_, rfl, ?_⟩, ⟨_, rfl, ?_⟩, trivial⟩
      · refine HO.one ?_
        refine H1.ldb (v := zv K) (cs := rcells r) rfl memA (by rw [← hrk]; rfl) rfl ?_
        apply HA.fold
        refine HA.all [5] (by kernel_rfl) rfl ⟨⟨_, rfl, ?_⟩, trivial⟩
        refine HO.one ?_
        refine H1.ldb (v := zv (q : Int)) (cs := ints (L.map fun p => (p.1 : Int))) rfl memA hget rfl ?_
        apply HA.fold
        refine HA.all [6] (by kernel_rfl) rfl ⟨⟨_, rfl, ?_⟩, trivial⟩
        refine HO.one ?_
        refine H1.callx (vs := [zv K, zv (q : Int)]) rfl rfl (fun w' _ => hlim w') ?_
        apply HA.fold
        refine HA.pa 7 rfl ?_
        refine HA.pa 8 rfl ?_
        refine HA.pa 9 rfl ?_
        refine HA.pa 10 rfl ?_
        refine HA.pa 11 rfl ?_
        refine HA.done (by kernel_rfl) ?_
        exact HX.cut () trivial esA (by repeat (first | exact Hs.nil _ | (refine Hs.cons pickA ?_)))
      · refine HO.one ?_
        refine H1.ldb (v := zv (q : Int)) (cs := ints (L.map fun p => (p.1 : Int))) rfl memA hget rfl ?_
        apply HA.fold
        refine HA.all [1] (by kernel_rfl) rfl ⟨⟨_, rfl, ?_⟩, trivial⟩
        refine HO.one ?_
        refine H1.ldb (v := zv K) (cs := rcells r) rfl memA (by rw [← hrk]; rfl) rfl ?_
        apply HA.fold
        refine HA.all [6] (by kernel_rfl) rfl ⟨⟨_, rfl, ?_⟩, trivial⟩
        refine HO.one ?_
        refine H1.callx (vs := [zv K, zv (q : Int)]) rfl rfl (fun w' _ => hlim w') ?_
        apply HA.fold
        refine HA.pa 7 rfl ?_
        refine HA.pa 8 rfl ?_
        refine HA.pa 9 rfl ?_
        refine HA.pa 10 rfl ?_
        refine HA.pa 11 rfl ?_
        refine HA.done (by kernel_rfl) ?_
        exact HX.cut () trivial esA (by repeat (first | exact Hs.nil _ | (refine Hs.cons pickA ?_)))
    rintro - -
    refine hbV4 ?_
    refine HL.pa ?_ (POp.shrI (b := 2 * k) rfl rfl (by push_cast; rfl) (by omega))
    have v2 := w2.shr (2 * k)
    generalize y2 / 2 ^ (2 * k) = s2 at v2 ⊢
    refine hbV4 ?_
    refine HL.one (H1.call0 (vs := [zv s2, zv 4]) rfl rfl (fun w' _ => pick20_fn s2 4 v2.1 v2.2 (by decide) w') ?_)
    have qq := pickI21_lt s2 (n := 4) (by decide)
    generalize pickI21 s2 4 = g at qq ⊢
    refine hbV4 ?_
    refine HL.one (H1.ldb (v := zv (q : Int)) (cs := ints (L.map fun p => (p.1 : Int))) rfl memA hget rfl ?_)
    refine hbV4 ?_
    refine HC.cut (α := Int) (fun n => [(0, .slice (some ⟨b1, off, none⟩) rows.length c0), (3, .slice a l.length c), (4, zv (i : Int)), (5, .pointer (some ⟨b5, 0, none⟩)), (6, .pointer (some ⟨b6, 0, none⟩)), (7, .slice (some ⟨bf, 0, none⟩) L.length L.length), (8, zv (k : Int)), (11, zv n)]) (fun _ => [A.blk b6 (rcells r) 46, A.blk bf (ints (L.map fun p => (p.1 : Int))) 3, A.blk b5 (ints [y0, y1, y2, y3, y4, y5]) 137, A.grow 46 15 a c l.length (rcl l)]) (fun n => (lo ≤ n ∧ n ≤ hi) ∧ (q = 8 → n = 0 ∨ n = 1) ∧ (q = 1 → (0 ≤ n ∧ n ≤ 39) ∧ 2 ∉ (L.take k).map Prod.fst) ∧ (q = 2 → r.start ≤ n)) ?_ ?_
    · by_cases e0 : q = 0
      · have e0' : (q : Int) = 0 := by omega
        refine hwV4 ?_
        refine HL.one (H1.call0 (vs := [zv y3, zv 9]) rfl rfl (fun w' _ => pick20_fn y3 9 w3.1 w3.2 (by decide) w') ?_)
        have qn := pickI21_lt y3 (n := 9) (by decide)
        generalize pickI21 y3 9 = n0 at qn ⊢
        refine hwV4 ?_
        exact HX.cut (1 + n0) ⟨⟨by have := (hsn.1 e0).1; omega, by have := (hsn.1 e0).2; omega⟩, by omega, by omega, by omega⟩ esA (by repeat (first | exact Hs.nil _ | (refine Hs.cons pickA ?_)))
      have e0' : ¬ (q : Int) = 0 := by omega
      by_cases e1 : q = 1
      · have e1' : (q : Int) = 1 := by omega
        refine hwV4 ?_
        refine HL.one (H1.call0 (vs := [zv y4, zv 40]) rfl rfl (fun w' _ => pick20_fn y4 40 w4.1 w4.2 (by decide) w') ?_)
        have qn := pickI21_lt y4 (n := 40) (by decide)
        generalize pickI21 y4 40 = n0 at qn ⊢
        refine hwV4 ?_
        exact HX.cut n0 ⟨⟨by have := (hsn.2.1 e1).1; omega, by have := (hsn.2.1 e1).2; omega⟩, by omega, fun _ => ⟨by omega, hone e1⟩, by omega⟩ esA (by repeat (first | exact Hs.nil _ | (refine Hs.cons pickA ?_)))
      have e1' : ¬ (q : Int) = 1 := by omega
      by_cases e2 : q = 2
      · have e2' : (q : Int) = 2 := by omega
        have qn := pickI21_lt y5 (n := 30) (by decide)
        refine hwV4 ?_
        refine HC.anyC ([(⟨b6, 5, none⟩, zv r.start), (⟨b5, 5, none⟩, zv y5)]) rfl ?_
        refine HB.pa 0 rfl ?_
        refine HB.ld 1 rfl rfl memD ?_
        refine HB.pa 2 rfl ?_
        refine HB.ld 3 rfl rfl memD ?_
        refine HB.all (by repeat (first | exact Keep.nil | refine Keep.blk (by (repeat (first | exact List.Mem.head _ | apply List.Mem.tail)); done) rfl ?_ | refine Keep.grow (by (repeat (first | exact List.Mem.head _ | apply List.Mem.tail)); done) (by assumption) ?_ | refine Keep.base (by assumption) ?_)) [4] (by kernel_rfl) rfl ⟨⟨_, rfl, ?_⟩, trivial⟩
        refine HP.one ?_
        refine H1.call0 (vs := [zv y5, zv 30]) rfl rfl (fun w' _ => pick20_fn y5 30 w5.1 w5.2 (by decide) w') ?_
        apply HB.fold
        refine HB.pa 5 rfl ?_
        refine HB.pa 6 rfl ?_
        refine HB.done (by repeat (first | exact Keep.nil | refine Keep.blk (by (repeat (first | exact List.Mem.head _ | apply List.Mem.tail)); done) rfl ?_ | refine Keep.grow (by (repeat (first | exact List.Mem.head _ | apply List.Mem.tail)); done) (by assumption) ?_ | refine Keep.base (by assumption) ?_)) (by kernel_rfl) ?_
        refine hwV4 ?_
        exact HX.cut (r.start + pickI21 y5 30) ⟨⟨by have := (hsn.2.2.1 e2).1; omega, by have := (hsn.2.2.1 e2).2; omega⟩, by omega, by omega, by omega⟩ esA (by repeat (first | exact Hs.nil _ | (refine Hs.cons pickA ?_)))
      have e2' : ¬ (q : Int) = 2 := by omega
      by_cases e8 : q = 8
      · have e8' : (q : Int) = 8 := by omega
        have u5 := w5.tdiv (n := 30) (by decide)
        refine hwV4 ?_
        refine HL.pa ?_ (POp.quoT rfl rfl w5.1 w5.2 (by decide))
        refine hwV4 ?_
        refine HL.one (H1.call0 (vs := [zv (y5.tdiv 30), zv 2]) rfl rfl (fun w' _ => pick20_fn (y5.tdiv 30) 2 u5.1 u5.2 (by decide) w') ?_)
        have qn := pickI21_lt (y5.tdiv 30) (n := 2) (by decide)
        generalize pickI21 (y5.tdiv 30) 2 = n0 at qn ⊢
        refine hwV4 ?_
        exact HX.cut n0 ⟨⟨by have := (hsn.2.2.2.1 e8).1; omega, by have := (hsn.2.2.2.1 e8).2; omega⟩, by omega, by omega, by omega⟩ esA (by repeat (first | exact Hs.nil _ | (refine Hs.cons pickA ?_)))
      have e8' : ¬ (q : Int) = 8 := by omega
      refine hwV4 ?_
      exact HX.cut (lo + g) ⟨⟨by omega, by have := hsn.2.2.2.2 e8; omega⟩, by omega, by omega, by omega⟩ esA (by repeat (first | exact Hs.nil _ | (refine Hs.cons pickA ?_)))
    rintro n ⟨n1, n2, n3, n4⟩
    have hS' := hstep n n1 n2 n3 n4
    have hk' : (r.setF q n).kind = K := by rw [(setF_same r q n).1]; exact hrk
    refine hwV4 ?_
    refine HC.any rfl ?_
    refine HA.pa 1 rfl ?_
    refine HA.pa 2 rfl ?_
    refine HA.pa 3 rfl ?_
    refine HA.pa 5 rfl ?_
    refine HA.all [0, 4] (by kernel_rfl) rfl ⟨⟨_, rfl, ?_⟩, ⟨_, rfl, ?_⟩, trivial⟩
    · refine HO.one ?_
      refine H1.ldAgg (vs := rcells r) rfl memA rfl (fun i v hv => by simp only [Nat.zero_add]; exact hv) rfl ?_
      apply HA.fold
      refine HA.all [4] (by kernel_rfl) rfl ⟨⟨_, rfl, ?_⟩, trivial⟩
      refine HO.one ?_
      refine H1.ldb (v := zv (q : Int)) (cs := ints (L.map fun p => (p.1 : Int))) rfl memA hget rfl ?_
      apply HA.fold
      refine HA.all [6] (by kernel_rfl) rfl ⟨⟨_, rfl, ?_⟩, trivial⟩
      refine HO.one ?_
      refine H1.callx (vs := [recV r, zv (q : Int), zv n]) rfl rfl (fun w' _ => Set_fn r q hp10 n w') ?_
      apply HA.fold
      refine HA.all [7] (by kernel_rfl) rfl ⟨⟨_, rfl, ?_⟩, trivial⟩
      refine HO.one ?_
      refine H1.stAgg (cs := rcells r) (vs := rcells (r.setF q n)) rfl rfl rfl (rcells_one _) rplA rfl ?_
      apply HA.fold
      refine HA.done (by kernel_rfl) ?_
      refine hwV4 ?_
      exact HX.again (k + 1, r.setF q n) ⟨hkl, hk', hS'⟩ (by show L.length - (k + 1) < L.length - k; omega) esA (by repeat (first | exact Hs.nil _ | (refine Hs.cons pickA ?_)))
    · refine HO.one ?_
      refine H1.ldb (v := zv (q : Int)) (cs := ints (L.map fun p => (p.1 : Int))) rfl memA hget rfl ?_
      apply HA.fold
      refine HA.all [0] (by kernel_rfl) rfl ⟨⟨_, rfl, ?_⟩, trivial⟩
      refine HO.one ?_
      refine H1.ldAgg (vs := rcells r) rfl memA rfl (fun i v hv => by simp only [Nat.zero_add]; exact hv) rfl ?_
      apply HA.fold
      refine HA.all [6] (by kernel_rfl) rfl ⟨⟨_, rfl, ?_⟩, trivial⟩
      refine HO.one ?_
      refine H1.callx (vs := [recV r, zv (q : Int), zv n]) rfl rfl (fun w' _ => Set_fn r q hp10 n w') ?_
      apply HA.fold
      refine HA.all [7] (by kernel_rfl) rfl ⟨⟨_, rfl, ?_⟩, trivial⟩
      refine HO.one ?_
      refine H1.stAgg (cs := rcells r) (vs := rcells (r.setF q n)) rfl rfl rfl (rcells_one _) rplA rfl ?_
      apply HA.fold
      refine HA.done (by kernel_rfl) ?_
      refine hwV4 ?_
      exact HX.again (k + 1, r.setF q n) ⟨hkl, hk', hS'⟩ (by show L.length - (k + 1) < L.length - k; omega) esA (by repeat (first | exact Hs.nil _ | (refine Hs.cons pickA ?_)))
  obtain rfl : k = L.length := by omega
  rw [List.take_length] at hS
  have hS9 : SomeI (specF r.kind) r := by rw [hrk, ← hL]; exact hS
  clear hS hrk hk hkl hnd hL8 hL
  by_cases c2 : r.kind = 2
  · by_cases c3 : r.clause = r.party
    · refine hwV4 ?_
      refine HL.one (H1.st (b := b6) rfl rfl (by intro _ h; cases h) (by intro _ h; cases h) rplA (of_decide_eq_true rfl) ?_)
      refine hwV4 ?_
      refine HL.one (H1.ldAgg (vs := rcells (r.setF 9 0)) rfl memA rfl (fun i v hv => by simp only [Nat.zero_add]; exact hv) rfl ?_)
      refine hwV4 ?_
      refine HL.one (H1.lit (cs := rcells (r.setF 9 0)) rfl rfl rfl rfl rfl rfl (fun b8 => ?_))
      refine hwV4 ?_
      refine HL.one (H1.app (e := 46) (sz := 15) (m := 1) (n := l.length) (a := a) (c := c) (xs := rcl l) (news := rcells (r.setF 9 0)) rfl (by decide) rfl rfl (fun a' c' => by first | ((repeat (first | with_reducible exact Rpl.here | with_reducible apply Rpl.there)); done) | (repeat (first | exact Rpl.here | apply Rpl.there))) rfl (fun w hM j u hu => by rw [add_lit, Nat.zero_add]; exact (hM.blk memA).cell hu) (rcells_one _) (by omega) (by decide) rfl (fun a' c' _ => ?_))
      refine hwV4 ?_
      exact HX.again (i + 1, l ++ [(r.setF 9 0)], a', c') ⟨by show i + 1 ≤ rows.length; omega, by show i + 1 ≤ 30; omega, by show (l ++ [(r.setF 9 0)]).length = i + 1; rw [List.length_append, hll]; rfl, hsnoc (r.setF 9 0) (hS9.done2 c2)⟩ (by show 30 - (i + 1) < 30 - i; omega) (by show Env.sub _ [(0, .slice (some ⟨b1, off, none⟩) rows.length c0), (3, .slice a' (l ++ [(r.setF 9 0)]).length c'), (4, zv ((i + 1 : Nat) : Int))]; rw [List.length_append]; repeat (first | exact trivial | refine ⟨rfl, ?_⟩)) (by show Hs _ [A.grow 46 15 a' c' (l ++ [(r.setF 9 0)]).length (rcl (l ++ [(r.setF 9 0)]))]; rw [List.length_append, rcl_app, show rcl [(r.setF 9 0)] = rcells (r.setF 9 0) from List.append_nil _]; repeat (first | exact Hs.nil _ | (refine Hs.cons pickA ?_)))
    · refine hwV4 ?_
      refine HL.one (H1.ldAgg (vs := rcells r) rfl memA rfl (fun i v hv => by simp only [Nat.zero_add]; exact hv) rfl ?_)
      refine hwV4 ?_
      refine HL.one (H1.lit (cs := rcells r) rfl rfl rfl rfl rfl rfl (fun b8 => ?_))
      refine hwV4 ?_
      refine HL.one (H1.app (e := 46) (sz := 15) (m := 1) (n := l.length) (a := a) (c := c) (xs := rcl l) (news := rcells r) rfl (by decide) rfl rfl (fun a' c' => by first | ((repeat (first | with_reducible exact Rpl.here | with_reducible apply Rpl.there)); done) | (repeat (first | exact Rpl.here | apply Rpl.there))) rfl (fun w hM j u hu => by rw [add_lit, Nat.zero_add]; exact (hM.blk memA).cell hu) (rcells_one _) (by omega) (by decide) rfl (fun a' c' _ => ?_))
      refine hwV4 ?_
      exact HX.again (i + 1, l ++ [r], a', c') ⟨by show i + 1 ≤ rows.length; omega, by show i + 1 ≤ 30; omega, by show (l ++ [r]).length = i + 1; rw [List.length_append, hll]; rfl, hsnoc r (hS9.done fun _ => c3)⟩ (by show 30 - (i + 1) < 30 - i; omega) (by show Env.sub _ [(0, .slice (some ⟨b1, off, none⟩) rows.length c0), (3, .slice a' (l ++ [r]).length c'), (4, zv ((i + 1 : Nat) : Int))]; rw [List.length_append]; repeat (first | exact trivial | refine ⟨rfl, ?_⟩)) (by show Hs _ [A.grow 46 15 a' c' (l ++ [r]).length (rcl (l ++ [r]))]; rw [List.length_append, rcl_app, show rcl [r] = rcells r from List.append_nil _]; repeat (first | exact Hs.nil _ | (refine Hs.cons pickA ?_)))
  · refine hwV4 ?_
    refine HL.one (H1.ldAgg (vs := rcells r) rfl memA rfl (fun i v hv => by simp only [Nat.zero_add]; exact hv) rfl ?_)
    refine hwV4 ?_
    refine HL.one (H1.lit (cs := rcells r) rfl rfl rfl rfl rfl rfl (fun b8 => ?_))
    refine hwV4 ?_
    refine HL.one (H1.app (e := 46) (sz := 15) (m := 1) (n := l.length) (a := a) (c := c) (xs := rcl l) (news := rcells r) rfl (by decide) rfl rfl (fun a' c' => by first | ((repeat (first | with_reducible exact Rpl.here | with_reducible apply Rpl.there)); done) | (repeat (first | exact Rpl.here | apply Rpl.there))) rfl (fun w hM j u hu => by rw [add_lit, Nat.zero_add]; exact (hM.blk memA).cell hu) (rcells_one _) (by omega) (by decide) rfl (fun a' c' _ => ?_))
    refine hwV4 ?_
    exact HX.again (i + 1, l ++ [r], a', c') ⟨by show i + 1 ≤ rows.length; omega, by show i + 1 ≤ 30; omega, by show (l ++ [r]).length = i + 1; rw [List.length_append, hll]; rfl, hsnoc r (hS9.done fun h => absurd h c2)⟩ (by show 30 - (i + 1) < 30 - i; omega) (by show Env.sub _ [(0, .slice (some ⟨b1, off, none⟩) rows.length c0), (3, .slice a' (l ++ [r]).length c'), (4, zv ((i + 1 : Nat) : Int))]; rw [List.length_append]; repeat (first | exact trivial | refine ⟨rfl, ?_⟩)) (by show Hs _ [A.grow 46 15 a' c' (l ++ [r]).length (rcl (l ++ [r]))]; rw [List.length_append, rcl_app, show rcl [r] = rcells r from List.append_nil _]; repeat (first | exact Hs.nil _ | (refine Hs.cons pickA ?_)))
end Go.Sx
/- Chapter 24: the nodes that integers determine: the walk. -/
namespace Go.Sx
open Go Go.Proofs Go.RowKit
theorem hwOC {G G2 : Prop} (x : G2) (hwq : Hold G2 → G := by
    intro hQq
    repeat' (first | refine HL.pa ?_ (POp.nilCheck rfl) | apply HL.fold | apply HA.fold | apply HL.nil | apply HX.n_then | apply HC.seq | apply HC.region | refine HL.pa ?_ | refine HL.ga rfl ?_ | refine HL.na rfl ?_ | refine HL.nu rfl rfl ?_ | apply HC.block | apply HC.skip | apply HC.exit | apply HC.ret | apply HX.e_block | refine HX.e_other rfl ?_ | apply HX.e_then | apply HX.e_again | apply HX.n_block | apply HX.r_then | apply HX.r_block | apply HX.r_again | refine HC.cond_yes rfl ?_ | refine HC.cond_no rfl ?_ | refine HL.one (H1.ldb rfl memA rfl rfl ?_) | refine HC.cond rfl (fun hc => ?_) (fun hc => ?_) | refine HC.cond_b rfl (fun hc => ?_) (fun hc => ?_))
    exact hQq.get) : G := hwq ⟨x⟩
def madeD (rows : List (List Int)) : Nat → List ByteArray
  | 0 => []
  | i + 1 => madeD rows i ++ [sumS (rnsB [yI (rows.getD i []) 2, (i : Int)])]
theorem madeD_len (rows : List (List Int)) : ∀ i, (madeD rows i).length = i
  | 0 => rfl
  | i + 1 => by show (_ ++ [_]).length = _; rw [List.length_append, madeD_len rows i]; rfl
theorem madeD_size (rows : List (List Int)) : ∀ i, ∀ d ∈ madeD rows i, d.size = 32
  | 0, _, h => by cases h
  | i + 1, d, h => by
    rcases List.mem_append.1 h with h | h
    · exact madeD_size rows i d h
    · rw [List.mem_singleton] at h; subst h; exact sumS_size _
theorem four {y : List Int} (h : y.length = 4) : ∃ y0 y1 y2 y3, y = [y0, y1, y2, y3] := by
  match y, h with
  | [a, b, c, d], _ => exact ⟨a, b, c, d, rfl⟩
def madeN (rows : List (List Int)) : Nat := min rows.length 20
theorem lastId_le {l : List Nd} (h : MadeP l) (hl : l.length ≤ 20) : 0 ≤ lastId l ∧ lastId l ≤ 60 := by have := h.last; omega
theorem zGet {z : List NdZ} {N : List Nd} (h : ndsZ z = N) {i : Nat} (hi : i < N.length) : (ndsV z)[i * 4]? = some (zv (ndAt N i).id) ∧ (ndsV z)[i * 4 + 2]? = some (zv (ndAt N i).pack) := by
  subst h
  rw [ndsZ_len] at hi
  have e : z[i]? = some (z.getD i default) := by simp [hi]
  have e2 : ndAt (ndsZ z) i = (z.getD i default).1 := by unfold ndAt ndsZ; simp [hi]
  rw [e2]
  exact ⟨ndsV_get e (j := 0) (by decide), ndsV_get e (j := 2) (by decide)⟩
theorem HL.conv24 {P : Program} {r : Option Nat} {N : Nat} {ds : List Deferred} {ol l : List Oper} {Q : Post} {E : Env} {w0 : World} {H H2 : List Atom} (hh : ∀ w, Mm w0 H w → Mm w0 H2 w) (h : HL P r N ds ol l Q E w0 H2) : HL P r N ds ol l Q E w0 H := fun w hM => h w (hh w hM)
attribute [local irreducible] WC WL WX POp Then Again Fn NX W1 WA WO QL RP RA Yld LoopAt HC HL HX HN H1 HA HO HQ HB HP A.blk A.grow A.rd A.obj A.mp AgainH CutH
attribute [local irreducible] A.mq A.mit A.all sumS HU HV
set_option maxHeartbeats 8000000 in
theorem made24_fn (v : Value) (rows : List (List Int)) (hrow : ∀ y ∈ rows, y.length = 4 ∧ ∀ z ∈ y, i64W z) (w : World) (hR : RdA 4 w v rows) :
    Fn Tryz.prog 11 #[v] w fun u w' => (∃ v g U, u = .tuple #[v, g] ∧ RdN w' v (madeL rows (madeN rows)) U ∧ Rd w' g (strs (madeD rows (madeN rows)))) ∧ Ext w w' := by
  obtain ⟨a0, c0, rfl, -⟩ := hR.shape
  refine enterH (l := [_]) rfl Tryz.ntmps11 rfl ?_
  refine HC.grow0 31 4 ?_
  refine HC.grow0 9 1 ?_
  refine HC.conv (H2 := A.all (rowsA []) :: [A.grow 9 1 none 0 0 [], A.grow 31 4 none 0 0 []]) (fun w h => h.allNil) ?_
  refine hwOC ?_
  refine HC.loop (α := Nat × List NdZ × (Option Addr × Nat) × (Option Addr × Nat)) (fun q => [(0, .slice a0 rows.length c0), (4, .slice q.2.2.1.1 q.1 q.2.2.1.2), (5, .slice q.2.2.2.1 q.1 q.2.2.2.2), (6, zv (lastId (madeL rows q.1))), (7, zv (q.1 : Int))])
    (fun q => [A.grow 31 4 q.2.2.1.1 q.2.2.1.2 q.1 (ndsV q.2.1), A.grow 9 1 q.2.2.2.1 q.2.2.2.2 q.1 (strs (madeD rows q.1)), A.all (rowsA q.2.1)]) (fun q => q.1 ≤ rows.length ∧ q.1 ≤ 20 ∧ ndsZ q.2.1 = madeL rows q.1) (fun q => 20 - q.1) (0, [], (none, 0), (none, 0)) ⟨Nat.zero_le _, Nat.zero_le _, rfl⟩ esA (by repeat (first | exact Hs.nil _ | (refine Hs.cons pickA ?_))) ?_
  rintro ⟨i, z, ⟨an, cn⟩, ad, cd⟩ ⟨hi1, hi2, hz⟩
  dsimp only at hi1 hi2 hz ⊢
  have hzl : z.length = i := by rw [← ndsZ_len, hz, madeL_len]
  have hend : i = madeN rows → ∀ w', Mm w [A.grow 31 4 an cn i (ndsV z), A.grow 9 1 ad cd i (strs (madeD rows i)), A.all (rowsA z)] w' → (∃ v g U, Value.tuple #[.slice an i cn, .slice ad i cd] = .tuple #[v, g] ∧ RdN w' v (madeL rows (madeN rows)) U ∧ Rd w' g (strs (madeD rows (madeN rows)))) ∧ Ext w w' := by
    intro e w' hM
    refine ⟨⟨_, _, adrZ z, rfl, ?_, ?_⟩, hM.ext⟩
    · have h := hM.rdN (a := an) (c := cn) (z := z) (by rw [hzl]; first | ((repeat (first | with_reducible exact mem_hd | with_reducible apply mem_tl)); done) | (repeat (first | exact List.Mem.head _ | apply List.Mem.tail))) memA
      rw [hz, hzl] at h
      rw [← e]; exact h
    · have h := hM.gr (e := 9) (a := ad) (c := cd) (n := i) memA
      rw [← e]; exact h
  by_cases hlt : i < rows.length
  rotate_left
  · have h1 : ¬ (i : Int) < (rows.length : Int) := by omega
    refine hwOC ?_
    exact HX.ret2 rfl rfl rfl fun w' hM => hend (by unfold madeN; omega) w' hM
  have h1 : (i : Int) < (rows.length : Int) := by omega
  by_cases h20 : i < 20
  rotate_left
  · have h2 : ¬ (i : Int) < 20 := by omega
    refine hwOC ?_
    exact HX.ret2 rfl rfl rfl fun w' hM => hend (by unfold madeN; omega) w' hM
  have h2 : (i : Int) < 20 := by omega
  obtain ⟨y, hy⟩ : ∃ y, rows[i]? = some y := ⟨_, List.getElem?_eq_getElem hlt⟩
  have hy4 := hrow y (List.mem_of_getElem? hy)
  have hgy : rows.getD i [] = y := by rw [List.getD_eq_getElem?_getD, hy]; rfl
  obtain ⟨bx, off, rfl, -, hcell⟩ := hR.at (fun e => by rw [e] at hlt; exact absurd hlt (Nat.not_lt_zero _))
  have hcl := hcell i y hy
  clear hcell hend
  obtain ⟨y0, y1, y2, y3, rfl⟩ := four hy4.1
  have w0 := hy4.2 y0 (by simp)
  have w1 := hy4.2 y1 (by simp)
  have w2 := hy4.2 y2 (by simp)
  have w3 := hy4.2 y3 (by simp)
  have hok := madeL_ok rows i (by omega)
  have hll := madeL_len rows i
  have hlast := lastId_le hok (by omega)
  have hstep : madeL rows (i + 1) = madeL rows i ++ [mkNd (madeL rows i) [y0, y1, y2, y3]] := by
    show madeL rows i ++ [mkNd (madeL rows i) (rows.getD i [])] = _; rw [hgy]
  have hdst : strs (madeD rows i) ++ [.string (sumS (rnsB [y2, (i : Int)]))] = strs (madeD rows (i + 1)) := by
    rw [strs_snoc]
    show _ = strs (madeD rows i ++ [sumS (rnsB [yI (rows.getD i []) 2, (i : Int)])])
    rw [hgy]; rfl
  have hlast2 : lastId (madeL rows (i + 1)) = (mkNd (madeL rows i) [y0, y1, y2, y3]).id := by rw [hstep, lastId_snoc]
  have hmk : ∀ n, mkNd (madeL rows i) [y0, y1, y2, y3] = n → mkNd (madeL rows i) [y0, y1, y2, y3] = n := fun _ h => h
  have hid : (mkNd (madeL rows i) [y0, y1, y2, y3]).id = lastId (madeL rows i) + 1 + pickI21 y0 3 := mkNd_id _ _
  have q0 := pickI21_lt y0 (n := 3) (by decide)
  have q1 := pickI21_lt y1 (n := 4) (by decide)
  generalize hN : madeL rows i = N at hz hok hll hlast hstep hmk hid hlast2 ⊢
  refine hwOC ?_
  refine HL.one (H1.ldAggw (vs := ints [y0, y1, y2, y3]) rfl rfl (fun w' hM i v hv => cell_ext hM.ext (hcl i v hv)) rfl ?_)
  clear hcl hy hy4
  refine hwOC ?_
  refine HL.one (H1.alloc (cs := ints [0, 0, 0, 0]) rfl rfl (fun b8 => ?_))
  refine hwOC ?_
  refine HL.one (H1.stAgg (b := b8) (cs := ints [0, 0, 0, 0]) (vs := ints [y0, y1, y2, y3]) rfl rfl rfl (ints_one _) rplA rfl ?_)
  refine hwOC ?_
  refine HC.cut (α := Nat) (fun b9 => [(0, .slice (some ⟨bx, off, none⟩) rows.length c0), (4, .slice an i cn), (5, .slice ad i cd), (7, zv (i : Int)), (8, .pointer (some ⟨b8, 0, none⟩)), (9, .pointer (some ⟨b9, 0, none⟩))]) (fun b9 => [A.blk b9 (ndC ⟨lastId N + 1 + pickI21 y0 3, 1, 1 + pickI21 y1 4, []⟩ (.slice none 0 0)) 31, A.blk b8 (ints [y0, y1, y2, y3]) 70, A.grow 31 4 an cn i (ndsV z), A.grow 9 1 ad cd i (strs (madeD rows i)), A.all (rowsA z)]) (fun _ => True) ?_ ?_
  · refine HC.anyC ([(⟨b8, 0, none⟩, zv y0), (⟨b8, 1, none⟩, zv y1)]) rfl ?_
    refine HB.pa 0 rfl ?_
    refine HB.pa 1 rfl ?_
    refine HB.pa 2 rfl ?_
    refine HB.ld 3 rfl rfl memD ?_
    refine HB.pa 6 rfl ?_
    refine HB.ld 7 rfl rfl memD ?_
    refine HB.all (by repeat (first | exact Keep.nil | refine Keep.blk (by (repeat (first | exact List.Mem.head _ | apply List.Mem.tail)); done) rfl ?_ | refine Keep.grow (by (repeat (first | exact List.Mem.head _ | apply List.Mem.tail)); done) (by assumption) ?_ | refine Keep.base (by assumption) ?_)) [4, 11] (by kernel_rfl) rfl ⟨⟨_, rfl, ?_⟩, ⟨_, rfl, ?_⟩, trivial⟩
    · refine HP.one ?_
      refine H1.call0 (vs := [zv y0, zv 3]) rfl rfl (fun w' _ => rpick24_fn y0 3 w0.1 w0.2 (by decide) w') ?_
      apply HB.fold
      refine HB.pa 5 rfl ?_
      refine HB.all (by repeat (first | exact Keep.nil | refine Keep.blk (by (repeat (first | exact List.Mem.head _ | apply List.Mem.tail)); done) rfl ?_ | refine Keep.grow (by (repeat (first | exact List.Mem.head _ | apply List.Mem.tail)); done) (by assumption) ?_ | refine Keep.base (by assumption) ?_)) [8, 11] (by kernel_rfl) rfl ⟨⟨_, rfl, ?_⟩, ⟨_, rfl, ?_⟩, trivial⟩
      · refine HP.one ?_
        refine H1.call0 (vs := [zv y1, zv 4]) rfl rfl (fun w' _ => rpick24_fn y1 4 w1.1 w1.2 (by decide) w') ?_
        apply HB.fold
        refine HB.pa 9 rfl ?_
        refine HB.pa 10 rfl ?_ (POp.build (cs := ndC ⟨lastId N + 1 + pickI21 y0 3, 1, 1 + pickI21 y1 4, []⟩ (.slice none 0 0)) rfl rfl)
        refine HB.all (by repeat (first | exact Keep.nil | refine Keep.blk (by (repeat (first | exact List.Mem.head _ | apply List.Mem.tail)); done) rfl ?_ | refine Keep.grow (by (repeat (first | exact List.Mem.head _ | apply List.Mem.tail)); done) (by assumption) ?_ | refine Keep.base (by assumption) ?_)) [11] (by kernel_rfl) rfl ⟨⟨_, rfl, ?_⟩, trivial⟩
        refine HP.one ?_
        refine H1.alloc (cs := ndC ⟨0, 0, 0, []⟩ (.slice none 0 0)) rfl rfl (fun b9 => ?_)
        apply HB.fold
        refine HB.all (by repeat (first | exact Keep.nil | refine Keep.blk (by (repeat (first | exact List.Mem.head _ | apply List.Mem.tail)); done) rfl ?_ | refine Keep.grow (by (repeat (first | exact List.Mem.head _ | apply List.Mem.tail)); done) (by assumption) ?_ | refine Keep.base (by assumption) ?_)) [12] (by kernel_rfl) rfl ⟨⟨_, rfl, ?_⟩, trivial⟩
        refine HP.one ?_
        refine H1.stAgg (b := b9) (cs := ndC ⟨0, 0, 0, []⟩ (.slice none 0 0)) (vs := ndC ⟨lastId N + 1 + pickI21 y0 3, 1, 1 + pickI21 y1 4, []⟩ (.slice none 0 0)) rfl rfl rfl (nd_one rfl) rplA rfl ?_
        apply HB.fold
        refine HB.done (by repeat (first | exact Keep.nil | refine Keep.blk (by (repeat (first | exact List.Mem.head _ | apply List.Mem.tail)); done) rfl ?_ | refine Keep.grow (by (repeat (first | exact List.Mem.head _ | apply List.Mem.tail)); done) (by assumption) ?_ | refine Keep.base (by assumption) ?_)) (by kernel_rfl) ?_
        exact HX.cut b9 trivial esA (by repeat (first | exact Hs.nil _ | (refine Hs.cons pickA ?_)))
      · refine HP.one ?_
        refine H1.alloc (cs := ndC ⟨0, 0, 0, []⟩ (.slice none 0 0)) rfl rfl (fun b9 => ?_)
        apply HB.fold
        refine HB.all (by repeat (first | exact Keep.nil | refine Keep.blk (by (repeat (first | exact List.Mem.head _ | apply List.Mem.tail)); done) rfl ?_ | refine Keep.grow (by (repeat (first | exact List.Mem.head _ | apply List.Mem.tail)); done) (by assumption) ?_ | refine Keep.base (by assumption) ?_)) [8] (by kernel_rfl) rfl ⟨⟨_, rfl, ?_⟩, trivial⟩
        refine HP.one ?_
        refine H1.call0 (vs := [zv y1, zv 4]) rfl rfl (fun w' _ => rpick24_fn y1 4 w1.1 w1.2 (by decide) w') ?_
        apply HB.fold
        refine HB.pa 9 rfl ?_
        refine HB.pa 10 rfl ?_ (POp.build (cs := ndC ⟨lastId N + 1 + pickI21 y0 3, 1, 1 + pickI21 y1 4, []⟩ (.slice none 0 0)) rfl rfl)
        refine HB.all (by repeat (first | exact Keep.nil | refine Keep.blk (by (repeat (first | exact List.Mem.head _ | apply List.Mem.tail)); done) rfl ?_ | refine Keep.grow (by (repeat (first | exact List.Mem.head _ | apply List.Mem.tail)); done) (by assumption) ?_ | refine Keep.base (by assumption) ?_)) [12] (by kernel_rfl) rfl ⟨⟨_, rfl, ?_⟩, trivial⟩
        refine HP.one ?_
        refine H1.stAgg (b := b9) (cs := ndC ⟨0, 0, 0, []⟩ (.slice none 0 0)) (vs := ndC ⟨lastId N + 1 + pickI21 y0 3, 1, 1 + pickI21 y1 4, []⟩ (.slice none 0 0)) rfl rfl rfl (nd_one rfl) rplA rfl ?_
        apply HB.fold
        refine HB.done (by repeat (first | exact Keep.nil | refine Keep.blk (by (repeat (first | exact List.Mem.head _ | apply List.Mem.tail)); done) rfl ?_ | refine Keep.grow (by (repeat (first | exact List.Mem.head _ | apply List.Mem.tail)); done) (by assumption) ?_ | refine Keep.base (by assumption) ?_)) (by kernel_rfl) ?_
        exact HX.cut b9 trivial esA (by repeat (first | exact Hs.nil _ | (refine Hs.cons pickA ?_)))
    · refine HP.one ?_
      refine H1.alloc (cs := ndC ⟨0, 0, 0, []⟩ (.slice none 0 0)) rfl rfl (fun b9 => ?_)
      apply HB.fold
      refine HB.all (by repeat (first | exact Keep.nil | refine Keep.blk (by (repeat (first | exact List.Mem.head _ | apply List.Mem.tail)); done) rfl ?_ | refine Keep.grow (by (repeat (first | exact List.Mem.head _ | apply List.Mem.tail)); done) (by assumption) ?_ | refine Keep.base (by assumption) ?_)) [4] (by kernel_rfl) rfl ⟨⟨_, rfl, ?_⟩, trivial⟩
      refine HP.one ?_
      refine H1.call0 (vs := [zv y0, zv 3]) rfl rfl (fun w' _ => rpick24_fn y0 3 w0.1 w0.2 (by decide) w') ?_
      apply HB.fold
      refine HB.pa 5 rfl ?_
      refine HB.all (by repeat (first | exact Keep.nil | refine Keep.blk (by (repeat (first | exact List.Mem.head _ | apply List.Mem.tail)); done) rfl ?_ | refine Keep.grow (by (repeat (first | exact List.Mem.head _ | apply List.Mem.tail)); done) (by assumption) ?_ | refine Keep.base (by assumption) ?_)) [8] (by kernel_rfl) rfl ⟨⟨_, rfl, ?_⟩, trivial⟩
      refine HP.one ?_
      refine H1.call0 (vs := [zv y1, zv 4]) rfl rfl (fun w' _ => rpick24_fn y1 4 w1.1 w1.2 (by decide) w') ?_
      apply HB.fold
      refine HB.pa 9 rfl ?_
      refine HB.pa 10 rfl ?_ (POp.build (cs := ndC ⟨lastId N + 1 + pickI21 y0 3, 1, 1 + pickI21 y1 4, []⟩ (.slice none 0 0)) rfl rfl)
      refine HB.all (by repeat (first | exact Keep.nil | refine Keep.blk (by (repeat (first | exact List.Mem.head _ | apply List.Mem.tail)); done) rfl ?_ | refine Keep.grow (by (repeat (first | exact List.Mem.head _ | apply List.Mem.tail)); done) (by assumption) ?_ | refine Keep.base (by assumption) ?_)) [12] (by kernel_rfl) rfl ⟨⟨_, rfl, ?_⟩, trivial⟩
      refine HP.one ?_
      refine H1.stAgg (b := b9) (cs := ndC ⟨0, 0, 0, []⟩ (.slice none 0 0)) (vs := ndC ⟨lastId N + 1 + pickI21 y0 3, 1, 1 + pickI21 y1 4, []⟩ (.slice none 0 0)) rfl rfl rfl (nd_one rfl) rplA rfl ?_
      apply HB.fold
      refine HB.done (by repeat (first | exact Keep.nil | refine Keep.blk (by (repeat (first | exact List.Mem.head _ | apply List.Mem.tail)); done) rfl ?_ | refine Keep.grow (by (repeat (first | exact List.Mem.head _ | apply List.Mem.tail)); done) (by assumption) ?_ | refine Keep.base (by assumption) ?_)) (by kernel_rfl) ?_
      exact HX.cut b9 trivial esA (by repeat (first | exact Hs.nil _ | (refine Hs.cons pickA ?_)))
  rintro b9 -
  refine HC.seq ?_
  refine HC.cut (α := Option Addr × Nat) (fun _ => [(0, .slice (some ⟨bx, off, none⟩) rows.length c0), (4, .slice an i cn), (5, .slice ad i cd), (7, zv (i : Int)), (8, .pointer (some ⟨b8, 0, none⟩)), (9, .pointer (some ⟨b9, 0, none⟩))])
    (fun q => [A.grow 3 1 q.1 q.2 (mkNd N [y0, y1, y2, y3]).src.length (ints (mkNd N [y0, y1, y2, y3]).src), A.blk b9 (ndC (mkNd N [y0, y1, y2, y3]) (.slice q.1 (mkNd N [y0, y1, y2, y3]).src.length q.2)) 31, A.blk b8 (ints [y0, y1, y2, y3]) 70, A.grow 31 4 an cn i (ndsV z), A.grow 9 1 ad cd i (strs (madeD rows i)), A.all (rowsA z)]) (fun _ => True) ?_ ?_
  · by_cases h0 : 0 < i
    rotate_left
    · have h0' : ¬ (0 : Int) < (i : Int) := by omega
      have hm : mkNd N [y0, y1, y2, y3] = ⟨lastId N + 1 + pickI21 y0 3, 1, 1 + pickI21 y1 4, []⟩ := by
        unfold mkNd
        rw [if_neg fun h => by have := h.1; omega]
        rfl
      rw [hm]
      refine HC.grow0 3 1 ?_
      refine hwOC ?_
      exact HX.cut (none, 0) trivial esA (by repeat (first | exact Hs.nil _ | (refine Hs.cons pickA ?_)))
    have h0' : (0 : Int) < (i : Int) := by omega
    have q2 := pickI21_lt (y0.tdiv 3) (n := 3) (by decide)
    have u0 := w0.tdiv (n := 3) (by decide)
    have u1 := w1.tdiv (n := 4) (by decide)
    refine hwOC ?_
    refine HL.pa ?_ (POp.quoT rfl rfl w0.1 w0.2 (by decide))
    refine hwOC ?_
    refine HL.one (H1.call0 (vs := [_, zv 3]) rfl rfl (fun w' _ => rpick24_fn (y0.tdiv 3) 3 u0.1 u0.2 (by decide) w') ?_)
    by_cases hp : 0 < pickI21 (y0.tdiv 3) 3
    rotate_left
    · have hm : mkNd N [y0, y1, y2, y3] = ⟨lastId N + 1 + pickI21 y0 3, 1, 1 + pickI21 y1 4, []⟩ := by
        unfold mkNd
        rw [if_neg fun h => hp h.2]
        rfl
      rw [hm]
      refine HL.fold ?_
      refine HL.grow0 3 1 ?_
      refine hwOC ?_
      exact HX.cut (none, 0) trivial esA (by repeat (first | exact Hs.nil _ | (refine Hs.cons pickA ?_)))
    have hsrc : isSrc N [y0, y1, y2, y3] := ⟨by omega, hp⟩
    obtain ⟨a, hae, ha⟩ : ∃ a : Nat, pickI21 y2 (i : Int) = (a : Int) ∧ a < i := by
      have := pickI21_lt y2 (n := (i : Int)) (by omega)
      exact ⟨(pickI21 y2 (i : Int)).toNat, by omega, by omega⟩
    obtain ⟨b, hbe, hb⟩ : ∃ b : Nat, pickI21 y3 (i : Int) = (b : Int) ∧ b < i := by
      have := pickI21_lt y3 (n := (i : Int)) (by omega)
      exact ⟨(pickI21 y3 (i : Int)).toNat, by omega, by omega⟩
    have hm : mkNd N [y0, y1, y2, y3] = ⟨lastId N + 1 + pickI21 y0 3, 2 + pickI21 (y1.tdiv 4) 4, (ndAt N a).pack, (ndAt N (min a b)).id :: if a = b then [] else [(ndAt N (max a b)).id]⟩ := by
      have h1 : srcA N [y0, y1, y2, y3] = a := by
        show (pickI21 y2 (N.length : Int)).toNat = a
        rw [hll, hae]; rfl
      have h2 : srcB N [y0, y1, y2, y3] = b := by
        show (pickI21 y3 (N.length : Int)).toNat = b
        rw [hll, hbe]; rfl
      unfold mkNd
      rw [if_pos hsrc, h1, h2]
      rfl
    have q3 := pickI21_lt (y1.tdiv 4) (n := 4) (by decide)
    have gpa := (zGet hz (i := a) (by omega)).2
    have gmin := (zGet hz (i := min a b) (by omega)).1
    have gmax := (zGet hz (i := max a b) (by omega)).1
    have hmin : (min (a : Int) (b : Int)).toNat = min a b := by omega
    have hmax : (max (a : Int) (b : Int)).toNat = max a b := by omega
    rw [hm]
    generalize (ndAt N a).pack = pk at gpa hm ⊢
    generalize (ndAt N (min a b)).id = idn at gmin hm ⊢
    generalize (ndAt N (max a b)).id = idx at gmax hm ⊢
    refine HL.fold ?_
    refine HL.openg (e := 31) (sz := 4) (a := an) (c := cn) (n := i) (xs := ndsV z) memA (by omega) ?_
    rintro bn rfl
    refine hwOC ?_
    refine HL.pa ?_ (POp.quoT rfl rfl w1.1 w1.2 (by decide))
    refine hwOC ?_
    refine HL.one (H1.call0 (vs := [_, zv 4]) rfl rfl (fun w' _ => rpick24_fn (y1.tdiv 4) 4 u1.1 u1.2 (by decide) w') ?_)
    refine hwOC ?_
    refine HL.one (H1.st (b := b9) (i := 1) rfl rfl (by intro _ h; cases h) (by intro _ h; cases h) rplA (by show 1 < 4; decide) ?_)
    refine hwOC ?_
    refine HL.one (H1.call0 (vs := [zv y2, zv (i : Int)]) rfl rfl (fun w' _ => rpick24_fn y2 (i : Int) w2.1 w2.2 (by omega) w') ?_)
    rw [hae]
    refine hwOC ?_
    refine HL.one (H1.call0 (vs := [zv y3, zv (i : Int)]) rfl rfl (fun w' _ => rpick24_fn y3 (i : Int) w3.1 w3.2 (by omega) w') ?_)
    rw [hbe]
    refine hwOC ?_
    refine HL.one (H1.ldg (c := cn) (n := i) (sz := 4) (e := 31) (vs := ndsV z) (i := a * 4 + 2) rfl memA gpa rfl ?_)
    refine hwOC ?_
    refine HL.one (H1.st (b := b9) (i := 2) rfl rfl (by intro _ h; cases h) (by intro _ h; cases h) rplA (by show 2 < 4; decide) ?_)
    refine hwOC ?_
    refine HL.one (H1.ldg (c := cn) (n := i) (sz := 4) (e := 31) (vs := ndsV z) (i := min a b * 4) (by show some (Value.pointer (some ⟨bn, (min (a : Int) (b : Int)).toNat * 4 + 0, none⟩)) = _; rw [hmin]; rfl) memA gmin rfl ?_)
    refine hwOC ?_
    refine HL.one (H1.lit (cs := [zv idn]) rfl rfl rfl rfl rfl rfl (fun b10 => ?_))
    refine hwOC ?_
    refine HL.one (H1.st (b := b9) (i := 3) rfl rfl (by intro _ h; cases h) (by intro _ h; cases h) rplA (by show 3 < 4; decide) ?_)
    refine HL.fold ?_
    refine HL.conv24 (H2 := [A.blk b10 [zv idn] 3, A.blk b9 [zv (lastId N + 1 + pickI21 y0 3), zv (2 + pickI21 (y1.tdiv 4) 4), zv pk, .slice (some ⟨b10, 0, none⟩) 1 1] 31, A.blk b8 (ints [y0, y1, y2, y3]) 70, A.grow 31 4 (some ⟨bn, 0, none⟩) cn i (ndsV z), A.grow 9 1 ad cd i (strs (madeD rows i)), A.all (rowsA z)]) (fun w h => h) ?_
    by_cases hab : a = b
    · have hab' : ((a : Nat) : Int) = (b : Int) := by omega
      rw [if_pos hab]
      refine hwOC ?_
      refine HX.conv (fun w h => Mm.blkGrow (n := 1) (sz := 1) h rfl (by decide)) ?_
      exact HX.cut (some ⟨b10, 0, none⟩, 1) trivial esA (by repeat (first | exact Hs.nil _ | (refine Hs.cons pickA ?_)))
    have hab' : ¬ ((a : Nat) : Int) = (b : Int) := by omega
    rw [if_neg hab]
    refine hwOC ?_
    refine HC.anyU ([(12, ⟨b9, 3, none⟩, .slice (some ⟨b10, 0, none⟩) 1 1), (12, ⟨bn, max a b * 4, none⟩, zv idx)]) rfl ?_
    refine HU.pa 0 rfl ?_
    refine HU.ld (s := 12) 1 rfl rfl (.head _) ?_
    refine HU.pa 2 rfl ?_
    refine HU.pa 3 rfl ?_
    refine HU.pa 4 rfl ?_
    refine HU.pa 5 rfl ?_
    refine HU.pa 6 rfl ?_
    refine HU.pa 7 rfl ?_
    refine HU.ld (s := 12) (ad := ⟨bn, max a b * 4, none⟩) (v := zv idx) 8 rfl (by show some (Value.pointer (some ⟨bn, (max (a : Int) (b : Int)).toNat * 4 + 0, none⟩)) = _; rw [hmax]; rfl) (.tail _ (.head _)) ?_
    refine HU.all (by (first | refine KeepU.blk (by (repeat (first | exact List.Mem.head _ | apply List.Mem.tail)); done) rfl ?_ | refine KeepU.grow (by (repeat (first | exact List.Mem.head _ | apply List.Mem.tail)); done) (by assumption) ?_ | refine KeepU.base (by assumption) ?_); (first | refine KeepU.blk (by (repeat (first | exact List.Mem.head _ | apply List.Mem.tail)); done) rfl ?_ | refine KeepU.grow (by (repeat (first | exact List.Mem.head _ | apply List.Mem.tail)); done) (by assumption) ?_ | refine KeepU.base (by assumption) ?_); exact KeepU.nil) [9] (by kernel_rfl) rfl ⟨⟨_, rfl, ?_⟩, trivial⟩
    refine HV.one ?_
    refine H1.lit (cs := [zv idx]) rfl rfl rfl rfl rfl rfl (fun b11 => ?_)
    apply HU.fold
    refine HU.all (by (first | refine KeepU.blk (by (repeat (first | exact List.Mem.head _ | apply List.Mem.tail)); done) rfl ?_ | refine KeepU.grow (by (repeat (first | exact List.Mem.head _ | apply List.Mem.tail)); done) (by assumption) ?_ | refine KeepU.base (by assumption) ?_); (first | refine KeepU.blk (by (repeat (first | exact List.Mem.head _ | apply List.Mem.tail)); done) rfl ?_ | refine KeepU.grow (by (repeat (first | exact List.Mem.head _ | apply List.Mem.tail)); done) (by assumption) ?_ | refine KeepU.base (by assumption) ?_); exact KeepU.nil) [10] (by kernel_rfl) rfl ⟨⟨_, rfl, ?_⟩, trivial⟩
    refine HV.one ?_
    refine H1.conv2 (H2 := A.grow 3 1 (some ⟨b10, 0, none⟩) 1 1 [zv idn] :: [A.blk b11 [zv idx] 3, A.blk b9 [zv (lastId N + 1 + pickI21 y0 3), zv (2 + pickI21 (y1.tdiv 4) 4), zv pk, .slice (some ⟨b10, 0, none⟩) 1 1] 31, A.blk b8 (ints [y0, y1, y2, y3]) 70, A.grow 31 4 (some ⟨bn, 0, none⟩) cn i (ndsV z), A.grow 9 1 ad cd i (strs (madeD rows i)), A.all (rowsA z)]) (fun w h => Mm.blkGrow (n := 1) (sz := 1) (h.sub (by repeat (first | exact Hs.nil _ | (refine Hs.cons pickA ?_)))) rfl (by decide)) ?_
    refine H1.app1 (u := zv idx) rfl rfl (fun _ _ => by first | ((repeat (first | with_reducible exact Rpl.here | with_reducible apply Rpl.there)); done) | (repeat (first | exact Rpl.here | apply Rpl.there))) memA rfl rfl (by omega) rfl rfl (fun a' c' => ?_)
    apply HU.fold
    refine HU.pa 11 rfl ?_
    refine HU.all (by (first | refine KeepU.blk (by (repeat (first | exact List.Mem.head _ | apply List.Mem.tail)); done) rfl ?_ | refine KeepU.grow (by (repeat (first | exact List.Mem.head _ | apply List.Mem.tail)); done) (by assumption) ?_ | refine KeepU.base (by assumption) ?_); (first | refine KeepU.blk (by (repeat (first | exact List.Mem.head _ | apply List.Mem.tail)); done) rfl ?_ | refine KeepU.grow (by (repeat (first | exact List.Mem.head _ | apply List.Mem.tail)); done) (by assumption) ?_ | refine KeepU.base (by assumption) ?_); exact KeepU.nil) [12] (by kernel_rfl) rfl ⟨⟨_, rfl, ?_⟩, trivial⟩
    refine HV.one ?_
    refine H1.st (b := b9) (i := 3) rfl rfl (by intro _ h; cases h) (by intro _ h; cases h) rplA (by show 3 < 4; decide) ?_
    apply HU.fold
    refine HU.done (by refine KeepU.skip (by kernel_rfl) ?_; refine KeepU.skip (by kernel_rfl) ?_; exact KeepU.nil) (by kernel_rfl) ?_
    refine hwOC ?_
    exact HX.cut (some ⟨a', 0, none⟩, c') trivial esA (by repeat (first | exact Hs.nil _ | (refine Hs.cons pickA ?_)))
  rintro ⟨az, cz⟩ -
  dsimp only
  generalize hM0 : mkNd N [y0, y1, y2, y3] = n at hstep hid hlast2 ⊢
  have hzn : ndsZ (z ++ [(n, az, cz)]) = madeL rows (i + 1) := by
    rw [hstep]
    unfold ndsZ at hz ⊢
    rw [List.map_append, hz]; rfl
  have hnv : ndsV z ++ ndC n (.slice az n.src.length cz) = ndsV (z ++ [(n, az, cz)]) := (ndsV_snoc z (n, az, cz)).symm
  have hi3 : i64W (i : Int) := by unfold i64W; omega
  refine hwOC ?_
  refine HL.one (H1.ldAgg (b := b9) (vs := ndC n (.slice az n.src.length cz)) rfl memA rfl (fun i v hv => by rw [Nat.zero_add]; exact hv) rfl ?_)
  refine hwOC ?_
  refine HL.one (H1.lit (cs := ndC n (.slice az n.src.length cz)) rfl rfl rfl rfl rfl rfl (fun b10 => ?_))
  refine hwOC ?_
  refine HL.one (H1.app (sz := 4) (m := 1) (news := ndC n (.slice az n.src.length cz)) rfl (by decide) rfl rfl (fun _ _ => by first | ((repeat (first | with_reducible exact Rpl.here | with_reducible apply Rpl.there)); done) | (repeat (first | exact Rpl.here | apply Rpl.there))) rfl (fun w' hM j u hj => by rw [add_lit, Nat.zero_add]; exact (hM.blk (b := b10) memA).cell hj) (nd_one rfl) (by omega) (by decide) rfl (fun an2 cn2 _ => ?_))
  rw [hnv]
  refine hwOC ?_
  refine HL.one (H1.lit (cs := ints [y2, (i : Int)]) rfl rfl rfl rfl rfl rfl (fun b11 => ?_))
  refine hwOC ?_
  refine HL.one (H1.callx (vs := [_]) rfl rfl (fun w' hM => numbers24_fn (.slice (some ⟨b11, 0, none⟩) 2 2) [y2, (i : Int)] (by show 2 ≤ _; omega) (fun x hx => by
    simp only [List.mem_cons, List.not_mem_nil, or_false] at hx
    rcases hx with rfl | rfl
    · exact w2
    · exact hi3) w' (blk_rd (hM.blk (b := b11) memA) rfl)) ?_)
  refine hwOC ?_
  refine HL.one (H1.callx (vs := [_]) rfl rfl (fun w' hM => refSum_fn (rnsB [y2, (i : Int)]) (by have := rnsB_size [y2, (i : Int)]; simp only [List.length_cons, List.length_nil] at this; omega) w') ?_)
  refine hwOC ?_
  refine HL.one (H1.lit (cs := [.string (sumS (rnsB [y2, (i : Int)]))]) rfl rfl rfl rfl rfl rfl (fun b12 => ?_))
  refine hwOC ?_
  refine HL.one (H1.app1 (u := .string (sumS (rnsB [y2, (i : Int)]))) rfl rfl (fun _ _ => by first | ((repeat (first | with_reducible exact Rpl.here | with_reducible apply Rpl.there)); done) | (repeat (first | exact Rpl.here | apply Rpl.there))) memA rfl rfl (by omega) rfl rfl (fun ad2 cd2 => ?_))
  rw [hdst]
  refine hwOC ?_
  refine HX.conv (H2 := A.all (rowsA (z ++ [(n, az, cz)])) :: [A.grow 31 4 an2 cn2 (i + 1) (ndsV (z ++ [(n, az, cz)])), A.grow 9 1 (some ⟨ad2, 0, none⟩) cd2 (i + 1) (strs (madeD rows (i + 1)))]) (fun w h => by
    rw [rowsA_snoc]
    exact Mm.allAdd (h.sub (Hs.cons (a := A.grow 3 1 az cz n.src.length (ints n.src)) pickA (Hs.cons (a := A.all (rowsA z)) pickA (by repeat (first | exact Hs.nil _ | (refine Hs.cons pickA ?_))))))) ?_
  exact HX.again (i + 1, z ++ [(n, az, cz)], (an2, cn2), some ⟨ad2, 0, none⟩, cd2) ⟨hlt, h20, hzn⟩ (by show 20 - (i + 1) < 20 - i; omega) (by dsimp only; rw [hlast2]; repeat (first | exact trivial | refine ⟨rfl, ?_⟩)) (by repeat (first | exact Hs.nil _ | (refine Hs.cons pickA ?_)))
end Go.Sx
/- Chapter 24: equal nodes, equal texts: the walks. -/
namespace Go.Sx
open Go Go.Proofs Go.RowKit
attribute [local irreducible] WC WL WX POp Then Again Fn NX W1 WA WO QL RP RA Yld LoopAt HC HL HX HN H1 HA HO HQ HB HP A.blk A.grow A.rd A.obj A.mp AgainH CutH
attribute [local irreducible] A.mq A.mit A.all sumS
end Go.Sx
/- Chapter 24: a base with an order: the walk. -/
namespace Go.Sx
open Go Go.Proofs Go.RowKit
theorem hwOJ {G G2 : Prop} (x : G2) (hwq : Hold G2 → G := by
    intro hQq
    repeat' (first | refine HL.pa ?_ (POp.nilCheck rfl) | apply HL.fold | apply HA.fold | apply HL.nil | apply HX.n_then | apply HC.seq | apply HC.region | refine HL.pa ?_ | refine HL.ga rfl ?_ | refine HL.na rfl ?_ | refine HL.nu rfl rfl ?_ | apply HC.block | apply HC.skip | apply HC.exit | apply HC.ret | apply HX.e_block | refine HX.e_other rfl ?_ | apply HX.e_then | apply HX.e_again | apply HX.n_block | apply HX.r_then | apply HX.r_block | apply HX.r_again | refine HC.cond_yes rfl ?_ | refine HC.cond_no rfl ?_ | refine HL.one (H1.ldb rfl memA rfl rfl ?_) | refine HC.cond rfl (fun hc => ?_) (fun hc => ?_) | refine HC.cond_b rfl (fun hc => ?_) (fun hc => ?_))
    exact hQq.get) : G := hwq ⟨x⟩
def askR (pk fr : Int) : Rc := ⟨8, 5, 1, 0, false, fr, 0, pk, 0, 0, 0, 1, false, 0, ⟨#[]⟩⟩
theorem Mm.slotR24 {w0 w : World} {H : List Atom} {q : Nat → Slot} (h : Mm w0 H w) (hm : bsA q ∈ H) {i : Nat} (hi : i < 8) : RdR w (slot (q i)) (bsL q i) := by
  have hp : ∀ x ∈ slots q, x.p w := h.all _ hm
  exact RdR.of_owns (hp _ (List.mem_map.2 ⟨i, List.mem_range.2 hi, rfl⟩))
theorem RcOk.of_valid24 {r : Rc} (h : ValidR r) : RcOk r := by
  have hg : ∀ i, i < 10 → i64W (r.get i) := fun i hi => by
    by_cases hm : i ∈ (specF r.kind).map Prod.fst
    · obtain ⟨p, hp, rfl⟩ := List.mem_map.1 hm
      have h1 := h.lim p hp
      have h2 := spec_hi hp
      have h3 := (spec_lo hp).1
      unfold i64W; omega
    · rw [h.zero i hi hm]; unfold i64W; omega
  have h1 := h.kind
  have h2 := h.ver
  have h3 := h.day
  have h4 := h.text
  exact ⟨by unfold i64W; omega, hg 0 (by decide), by unfold i64W; omega, by unfold i64W; omega, hg 1 (by decide), hg 2 (by decide), hg 3 (by decide), hg 4 (by decide), hg 5 (by decide), hg 6 (by decide), hg 7 (by decide), hg 9 (by decide), by simp only [maxLen]; omega⟩
theorem of_len24 {l : List Rc} {day k : Int} {L : List Rc} (h : IsOf l day k L) : L.length ≤ l.length :=
  nodup_len (h.asc.imp fun h e => by subst e; omega) fun r hr => ((h.mem r).1 hr).1.1.mem
/-- A base with one order. -/
structure AskV (w : World) (v : Value) (B : Nat → List Rc) (r : Rc) : Prop where
  base : BaseV w v B
  ord : B 7 = [r]
  h4 : (B 4).length ≤ 30
  h5 : (B 5).length ≤ 30
attribute [local irreducible] WC WL WX POp Then Again Fn NX W1 WA WO QL RP RA Yld LoopAt HC HL HX HN H1 HA HO HQ HB HP A.blk A.grow A.rd A.obj A.mp AgainH CutH
attribute [local irreducible] A.dfr A.loop bsA
set_option maxHeartbeats 2000000 in
theorem asked24_fn (v : Value) (rows : List (List Int)) (pack fr : Int) (hp : i64W pack) (hf : i64W fr) (hrow : ∀ y ∈ rows, y.length = 6 ∧ ∀ z ∈ y, i64W z) (w : World) (hR : RdA 6 w v rows) :
    Fn Tryz.prog 24 #[v, zv pack, zv fr] w fun u w' => (∃ B, AskV w' u B (askR (1 + pickI21 pack 5) (pickI21 fr 60))) ∧ Ext w w' := by
  have q1 := pickI21_lt pack (n := 5) (by decide)
  have q2 := pickI21_lt fr (n := 60) (by decide)
  refine enterH (l := [_, _, _]) rfl Tryz.ntmps24 rfl ?_
  refine hwOJ ?_
  refine HL.one (H1.alloc (cs := row 8 fun _ => .slice none 0 0) rfl rfl (fun b6 => ?_))
  refine hwOJ ?_
  refine HL.one (H1.callz (vs := [v]) rfl rfl (fun w' hM => Some_fn v rows hrow w' (hR.ext hM.ext)) ?_)
  rintro ⟨⟨al, cl⟩, l⟩ ⟨hll, hlok⟩
  dsimp only at hll hlok ⊢
  refine hwOJ ?_
  refine HL.one (H1.callz1 (α := Nat → Slot) (V := fun q => bsV q) (An := fun q => bsA q) (I := fun q => ∀ i : Nat, i < 8 → IsOf l 100000 ((i : Int) + 1) (bsL q i)) (vs := [.slice al l.length cl, zv 100000]) rfl rfl (fun w' hM => of_fn al cl l (by omega) (fun r hr => RcOk.of_valid24 (hlok r hr).valid) 100000 w' (hM.recs memA)) ?_)
  intro q hq
  refine hwOJ ?_
  refine HL.one (H1.alloc (cs := row 8 fun _ => .slice none 0 0) rfl rfl (fun b7 => ?_))
  refine hwOJ ?_
  refine HL.one (H1.stAgg (b := b7) (cs := row 8 fun _ => .slice none 0 0) (vs := row 8 fun i => slot (q i)) rfl rfl rfl (by
    intro v hv
    obtain ⟨i, -, rfl⟩ := List.mem_map.1 hv
    rfl) rplA rfl ?_)
  refine hwOJ ?_
  refine HL.one (H1.call0 (vs := [zv fr, zv 60]) rfl rfl (fun w' _ => lpick24_fn fr 60 hf.1 hf.2 (by decide) w') ?_)
  refine hwOJ ?_
  refine HL.one (H1.call0 (vs := [zv pack, zv 5]) rfl rfl (fun w' _ => lpick24_fn pack 5 hp.1 hp.2 (by decide) w') ?_)
  refine hwOJ ?_
  refine HL.build (cs := rcells (askR (1 + pickI21 pack 5) (pickI21 fr 60))) rfl rfl rfl ?_
  refine hwOJ ?_
  refine HL.one (H1.lit (cs := rcells (askR (1 + pickI21 pack 5) (pickI21 fr 60))) rfl rfl rfl rfl rfl rfl (fun b8 => ?_))
  refine hwOJ ?_
  refine HL.one (H1.st (b := b7) (i := 7) rfl rfl (by intro _ h; cases h) (by intro _ h; cases h) rplA (by show 7 < 8; decide) ?_)
  rw [show (row 8 fun i => slot (q i)).set 7 (.slice (some ⟨b8, 0, none⟩) 1 1) = row 8 fun i => if i = 7 then .slice (some ⟨b8, 0, none⟩) 1 1 else slot (q i) from rfl]
  refine hwOJ ?_
  refine HL.one (H1.ldAgg (b := b7) (vs := row 8 fun i => if i = 7 then .slice (some ⟨b8, 0, none⟩) 1 1 else slot (q i)) rfl memA rfl (fun i v h => by rwa [Nat.zero_add]) rfl ?_)
  refine hwOJ ?_
  refine HL.one (H1.stAgg (b := b6) (cs := row 8 fun _ => .slice none 0 0) (vs := row 8 fun i => if i = 7 then .slice (some ⟨b8, 0, none⟩) 1 1 else slot (q i)) rfl rfl rfl (by
    intro v hv
    obtain ⟨i, -, rfl⟩ := List.mem_map.1 hv
    by_cases h : i = 7
    · rw [if_pos h]; rfl
    · rw [if_neg h]; rfl) rplA rfl ?_)
  refine hwOJ ?_
  refine HX.retc1 (b := b6) (cs := row 8 fun i => if i = 7 then .slice (some ⟨b8, 0, none⟩) 1 1 else slot (q i)) rfl rfl memA rfl fun w' hM => ⟨⟨fun i => if i = 7 then [askR (1 + pickI21 pack 5) (pickI21 fr 60)] else bsL q i, ⟨_, rfl, fun i hi => ?_⟩, rfl, ?_, ?_⟩, hM.ext⟩
  · by_cases h : i = 7
    · subst h
      exact RdR.of_blk (l := [askR (1 + pickI21 pack 5) (pickI21 fr 60)]) (hM.blk (b := b8) memA)
    · dsimp only
      rw [if_neg h, if_neg h]
      exact hM.slotR24 memA hi
  · exact Nat.le_trans (of_len24 (hq 4 (by decide))) hll
  · exact Nat.le_trans (of_len24 (hq 5 (by decide))) hll
end Go.Sx
/- Plain, chapter 24: what is left after two orders does not depend on which comes first. -/
namespace Go.Sx
open Go Go.RowKit
def leftN1 (l : List Nd) (g : List Int) : List Nd := l.filter fun n => decide (n.id ∈ g) == false
end Go.Sx
/- Chapter 24: the law LineageOrders: the walk. -/
namespace Go.Sx
open Go Go.Proofs Go.RowKit
/-- What Delete returns, whatever it is. -/
structure AnyD where
  x1 : Option Addr × Nat × Nat
  x2 : Option Addr × Nat × Nat
  o : Int
  d : Int
  b : ByteArray
  a : ByteArray
  x3 : Option Addr × Nat × Nat
  x4 : Option Addr × Nat × Nat
  e : Int
def slV (x : Option Addr × Nat × Nat) : Value := .slice x.1 x.2.1 x.2.2
def anyT (z : AnyD) : List Value := [zv z.o, zv z.d, .string z.b, .string z.a, slV z.x3, slV z.x4]
def anyDV (z : AnyD) : Value := .tuple #[slV z.x1, slV z.x2, .agg (anyT z).toArray, zv z.e]
/-- A base with orders alone. -/
def ordB (L : List Rc) (i : Nat) : List Rc := if i = 7 then L else []
def ordR (id pk : Int) : Rc := ⟨8, id, 1, 0, false, 0, 0, pk, 0, 0, 0, 1, false, 0, ⟨#[]⟩⟩
theorem ok_sizes {l : List Nd} {D : List ByteArray} (h : okS l D = true) : l.length ≤ 400000 ∧ (∀ i, i < l.length → (ndAt l i).src.length ≤ 1000000) ∧ D.length ≤ 1000000 ∧ ∀ d ∈ D, d.size ≤ 1000 := by
  have hv := okS_valid h
  have hf := okS_facts h
  have := hv.len
  exact ⟨by omega, fun i hi => by have := (hasN_iff.1 (hv.node i hi)).len; omega, by omega, fun d hd => by rw [hf.2.2 d hd]; decide⟩
theorem made_ok (rows : List (List Int)) : okS (madeL rows (madeN rows)) (madeD rows (madeN rows)) = true :=
  okS_of (madeL_ok rows (madeN rows) (by unfold madeN; omega)).valid (by rw [madeL_len, madeD_len]) (madeD_size rows _)
attribute [local irreducible] WC WL WX POp Then Again Fn NX W1 WA WO QL RP RA Yld LoopAt HC HL HX HN H1 HA HO HQ HB HP A.blk A.grow A.rd A.obj A.mp AgainH CutH
attribute [local irreducible] A.mq A.mit A.all sumS rootP
end Go.Sx
/- Chapter 24: the law LineageClosed: the walk. -/
namespace Go.Sx
open Go Go.Proofs Go.RowKit
/-- The numbers of the nodes that are chosen. -/
def selL (l : List Nd) (f : Nat → Bool) : Nat → List Int
  | 0 => []
  | k + 1 => if f k = true then selL l f k ++ [(ndAt l k).id] else selL l f k
theorem selL_len (l : List Nd) (f : Nat → Bool) : ∀ k, (selL l f k).length ≤ k
  | 0 => Nat.le_refl _
  | k + 1 => by
    have := selL_len l f k
    show (if _ then _ else _ : List Int).length ≤ _
    split
    · rw [List.length_append, List.length_singleton]; omega
    · omega
theorem selL_yes {l : List Nd} {f : Nat → Bool} {k : Nat} (h : f k = true) : selL l f (k + 1) = selL l f k ++ [(ndAt l k).id] := if_pos h
theorem selL_no {l : List Nd} {f : Nat → Bool} {k : Nat} (h : f k = false) : selL l f (k + 1) = selL l f k := if_neg (by rw [h]; decide)
/-- The bit of a number. -/
def bitB (p : Int) (i : Nat) : Bool := decide (p / 2 ^ i % 2 = 1)
theorem any_take {s : List Int} {k : Nat} (hk : k < s.length) (p : Int → Bool) : (s.take (k + 1)).any p = ((s.take k).any p || p (getI s k)) := by
  rw [getI_take hk, List.any_append]; simp
attribute [local irreducible] WC WL WX POp Then Again Fn NX W1 WA WO QL RP RA Yld LoopAt HC HL HX HN H1 HA HO HQ HB HP A.blk A.grow A.rd A.obj A.mp AgainH CutH
attribute [local irreducible] A.mq A.mit A.all sumS
end Go.Sx
/- Chapter 24: the law LineageHeld: the walk. -/
namespace Go.Sx
open Go Go.Proofs Go.RowKit
theorem hwON {G G2 : Prop} (x : G2) (hwq : Hold G2 → G := by
    intro hQq
    repeat' (first | refine HL.pa ?_ (POp.nilCheck rfl) | apply HL.fold | apply HA.fold | apply HL.nil | apply HX.n_then | apply HC.seq | apply HC.region | refine HL.pa ?_ | refine HL.ga rfl ?_ | refine HL.na rfl ?_ | refine HL.nu rfl rfl ?_ | apply HC.block | apply HC.skip | apply HC.exit | apply HC.ret | apply HX.e_block | refine HX.e_other rfl ?_ | apply HX.e_then | apply HX.e_again | apply HX.n_block | apply HX.r_then | apply HX.r_block | apply HX.r_again | refine HC.cond_yes rfl ?_ | refine HC.cond_no rfl ?_ | refine HL.one (H1.ldb rfl memA rfl rfl ?_) | refine HC.cond rfl (fun hc => ?_) (fun hc => ?_) | refine HC.cond_b rfl (fun hc => ?_) (fun hc => ?_))
    exact hQq.get) : G := hwq ⟨x⟩
theorem selL_mem {l : List Nd} {f : Nat → Bool} {x : Int} : ∀ {k : Nat}, x ∈ selL l f k ↔ ∃ i, i < k ∧ f i = true ∧ x = (ndAt l i).id
  | 0 => ⟨fun h => (List.not_mem_nil h).elim, fun ⟨i, h, _⟩ => absurd h (Nat.not_lt_zero _)⟩
  | k + 1 => by
    by_cases hf : f k = true
    · rw [selL_yes hf, List.mem_append, selL_mem, List.mem_singleton]
      constructor
      · rintro (⟨i, h1, h2, h3⟩ | h)
        · exact ⟨i, by omega, h2, h3⟩
        · exact ⟨k, by omega, hf, h⟩
      · rintro ⟨i, h1, h2, h3⟩
        by_cases e : i = k
        · exact .inr (e ▸ h3)
        · exact .inl ⟨i, by omega, h2, h3⟩
    · rw [selL_no (by simpa using hf), selL_mem]
      constructor
      · rintro ⟨i, h1, h2, h3⟩
        exact ⟨i, by omega, h2, h3⟩
      · rintro ⟨i, h1, h2, h3⟩
        by_cases e : i = k
        · exact absurd (e ▸ h2) hf
        · exact ⟨i, by omega, h2, h3⟩
/-- The numbers of a package's nodes. -/
def ownL (l : List Nd) (pk : Int) : List Int := selL l (fun i => decide ((ndAt l i).pack = pk)) l.length
theorem gone_own {l : List Nd} (hv : ValidP l) (pk : Int) : derA l (ownL l pk) = srtI (goneL l pk) := by
  rw [derA_eq hv]
  unfold goneL
  rw [derL_congr (fun i hi => ?_) (Nat.le_refl _)]
  rw [decide_eq_decide]
  unfold ownL
  rw [selL_mem]
  constructor
  · rintro ⟨j, h1, h2, h3⟩
    have := hv.inj hi h1 h3
    subst this
    exact of_decide_eq_true h2
  · intro h
    exact ⟨i, hi, decide_eq_true h, rfl⟩
theorem nodes_any {l : List Nd} {G : List Int} {p : Nd → Bool} : (l.any fun n => G.any fun x => decide (n.id = x) && p n) = (l.filter fun n => decide (n.id ∈ G) == true).any p := by
  rw [List.any_filter]
  congr 1
  funext n
  rw [Bool.eq_iff_iff, List.any_eq_true]
  constructor
  · rintro ⟨x, hx, h⟩
    rw [Bool.and_eq_true, decide_eq_true_eq] at h
    rw [Bool.and_eq_true]
    exact ⟨by rw [decide_eq_true (h.1 ▸ hx)]; rfl, h.2⟩
  · intro h
    rw [Bool.and_eq_true] at h
    have h1 : n.id ∈ G := by simpa using h.1
    exact ⟨n.id, h1, by rw [decide_eq_true rfl, h.2]; rfl⟩
/-- Whether the law takes a deletion as stopped. -/
def stopB (B : Nat → List Rc) (l : List Nd) (G : List Int) (fr d : Int) : Bool := (decide (d < fr) || decide ((G.length : Int) = 0)) || l.any fun n => G.any fun x => decide (n.id = x) && heldN B d n
theorem stop_iff {B : Nat → List Rc} {l : List Nd} {D : List ByteArray} {pk fr d : Int} (hok : okS l D = true) (h7 : B 7 = [askR pk fr]) (h0 : 0 ≤ d) (h1 : d ≤ 100000) : delQ B l D 5 d = if stopB B l (derA l (ownL l pk)) fr d = true then none else some pk := by
  have hf : ordF (B 7) 5 = some (askR pk fr) := by rw [h7]; rfl
  rw [gone_own (okS_valid hok)]
  have hG : ((srtI (goneL l pk)).length : Int) = 0 ↔ goneL l pk = [] := by rw [srtI_len, ← List.length_eq_zero_iff]; omega
  have hany : (l.any fun n => (srtI (goneL l pk)).any fun x => decide (n.id = x) && heldN B d n) = (ndsP (prN l D (goneL l pk) true)).any (heldN B d) := by
    rw [nodes_any, ← prN_congr (l := l) (D := D) (b := true) (g := srtI (goneL l pk)) fun x => mem_srtI, prN_nds (okS_facts hok).2.1]
  unfold stopB
  rw [hany]
  by_cases hd : d < fr
  · rw [if_pos (by rw [decide_eq_true hd]; rfl)]
    refine delQ_no ?_
    rintro ⟨-, r, hr, hs, -⟩
    rw [hf] at hr
    cases hr
    exact absurd hs (Int.not_le.2 hd)
  · have hq : delQ B l D 5 d = if goneL l pk ≠ [] ∧ ¬ (ndsP (prN l D (goneL l pk) true)).any (heldN B d) = true then some pk else none := delQ_in (r := askR pk fr) hok hf (Int.not_lt.1 hd) h0 h1
    rw [hq]
    by_cases hg : goneL l pk = []
    · rw [if_neg fun h => h.1 hg, if_pos (by rw [decide_eq_true (hG.2 hg)]; simp)]
    · rw [decide_eq_false hd, decide_eq_false (fun h => hg (hG.1 h))]
      by_cases ha : (ndsP (prN l D (goneL l pk) true)).any (heldN B d) = true
      · rw [if_neg fun h => h.2 ha, if_pos (by rw [ha]; rfl)]
      · rw [if_pos ⟨hg, ha⟩, if_neg (by simpa using ha)]
theorem BaseV.slices24 {w : World} {vb : Value} {B : Nat → List Rc} (h : BaseV w vb B) : ∃ t : Nat → Option Addr × Nat × Nat, vb = .agg (row 8 fun i => .slice (t i).1 (t i).2.1 (t i).2.2).toArray ∧ ∀ i, i < 8 → RdR w (.slice (t i).1 (t i).2.1 (t i).2.2) (B i) := by
  obtain ⟨s, rfl, hs⟩ := h
  have h1 : ∀ i, ∃ t : Option Addr × Nat × Nat, i < 8 → s i = .slice t.1 t.2.1 t.2.2 := fun i => by
    by_cases hi : i < 8
    · obtain ⟨a, c, e, -⟩ := (hs i hi).shape
      exact ⟨(a, (B i).length, c), fun _ => e⟩
    · exact ⟨(none, 0, 0), fun h => absurd h hi⟩
  obtain ⟨t, ht⟩ := Classical.axiomOfChoice h1
  exact ⟨t, by rw [row_congr ht], fun i hi => by rw [← ht i hi]; exact hs i hi⟩
theorem AskV.cells {w : World} {vb : Value} {B : Nat → List Rc} {r : Rc} (h : AskV w vb B r) : ∃ (t : Nat → Option Addr × Nat × Nat) (bo oo c7 : Nat), vb = .agg #[.slice (t 0).1 (t 0).2.1 (t 0).2.2, .slice (t 1).1 (t 1).2.1 (t 1).2.2, .slice (t 2).1 (t 2).2.1 (t 2).2.2, .slice (t 3).1 (t 3).2.1 (t 3).2.2, .slice (t 4).1 (t 4).2.1 (t 4).2.2, .slice (t 5).1 (t 5).2.1 (t 5).2.2, .slice (t 6).1 (t 6).2.1 (t 6).2.2, .slice (some ⟨bo, oo, none⟩) 1 c7] ∧ ∀ i u, (rcells r)[i]? = some u → w.cell? ⟨bo, oo + i, none⟩ = some u := by
  obtain ⟨t, rfl, ht⟩ := h.base.slices24
  have h7 := ht 7 (by decide)
  rw [h.ord] at h7
  obtain ⟨a, c, e, -⟩ := id h7.shape
  rw [e] at h7
  obtain ⟨b, off, rfl, -, hc⟩ := h7.at (by simp)
  refine ⟨t, b, off, c, ?_, fun i u hu => ?_⟩
  · have e2 : Value.slice (t 7).1 (t 7).2.1 (t 7).2.2 = .slice (some ⟨b, off, none⟩) 1 c := e
    rw [← e2]; rfl
  · have := hc 0 r rfl i u hu
    rwa [Nat.zero_mul, Nat.add_zero] at this
attribute [local irreducible] WC WL WX POp Then Again Fn NX W1 WA WO QL RP RA Yld LoopAt HC HL HX HN H1 HA HO HQ HB HP A.blk A.grow A.rd A.obj A.mp AgainH CutH
attribute [local irreducible] A.mq A.mit A.all sumS rootP
set_option maxHeartbeats 16000000 in
theorem lineageHeld_fn (v vy : Value) (rows recs : List (List Int)) (pack fr day : Int) (h1 : i64W pack) (h2 : i64W fr) (h3 : i64W day) (hrow : ∀ y ∈ rows, y.length = 4 ∧ ∀ z ∈ y, i64W z) (hrec : ∀ y ∈ recs, y.length = 6 ∧ ∀ z ∈ y, i64W z) (w : World) (hG : RoundG w) (hX : RdA 4 w v rows) (hY : RdA 6 w vy recs) :
    Fn Tryz.prog 8 #[v, vy, zv pack, zv fr, zv day] w fun u w' => u = .bool true ∧ Ext w w' := by
  refine enterH (l := [_, _, _, _, _]) rfl Tryz.ntmps8 rfl ?_
  refine hwON ?_
  refine HL.one (H1.callx (vs := []) rfl rfl (fun w' hM => sane24_fn w' (hG.ext hM.ext)) ?_)
  refine hwON ?_
  refine HL.one (H1.callr (vs := [v]) rfl rfl (fun w' hM => made24_fn v rows hrow w' (hX.ext hM.ext)) ?_)
  rintro wa u w1 hMa ⟨⟨vl, vg, U, rfl, hN1, hD1⟩, hxa⟩
  have hx1 : Ext w w1 := hMa.ext.trans hxa
  have hok := made_ok rows
  generalize madeL rows (madeN rows) = l at hN1 hok
  generalize madeD rows (madeN rows) = D at hD1 hok
  obtain ⟨hl, hls, hDl, hDs⟩ := ok_sizes hok
  have hv := okS_valid hok
  have hll : l.length ≤ 400 := hv.len
  refine hwON ?_
  refine HL.one (H1.callr (vs := [vy, zv pack, zv fr]) rfl rfl (fun w' hM => asked24_fn vy recs pack fr h1 h2 hrec w' (hY.ext (hx1.trans hM.ext))) ?_)
  rintro wb vb w2 hMb ⟨⟨B, hB⟩, hxb⟩
  have hx2 : Ext w1 w2 := hMb.ext.trans hxb
  have hN := hN1.ext hx2
  have hD := hD1.ext hx2
  have hxw : Ext w w2 := hx1.trans hx2
  have hG2 := hG.ext hxw
  clear hN1 hD1 hMa hMb hxa hxb hx1 hx2
  have e7 := hB.ord
  have l4 : (B 4).length ≤ 1000000 := by have := hB.h4; omega
  have l5 : (B 5).length ≤ 1000000 := by have := hB.h5; omega
  have l7 : (B 7).length ≤ 1000000 := by rw [e7]; show 1 ≤ _; omega
  have hdq := pickI21_lt day (n := 80) (by decide)
  obtain ⟨d, hd⟩ : ∃ d, d = pickI21 day 80 := ⟨_, rfl⟩
  rw [← hd] at hdq
  generalize 1 + pickI21 pack 5 = pk at hB e7
  generalize pickI21 fr 60 = f0 at hB e7
  have hst := stop_iff (d := d) hok e7 hdq.1 (by omega)
  obtain ⟨t, bo, oo, c7, rfl, hcell⟩ := hB.cells
  have hpk := hcell 7 (zv pk) rfl
  have hfr := hcell 5 (zv f0) rfl
  have hbase := hB.base
  obtain ⟨al, cl, rfl, -⟩ := hN.shape
  obtain ⟨C, hC⟩ : ∃ C : List Value, C = [.slice (t 0).1 (t 0).2.1 (t 0).2.2, .slice (t 1).1 (t 1).2.1 (t 1).2.2, .slice (t 2).1 (t 2).2.1 (t 2).2.2, .slice (t 3).1 (t 3).2.1 (t 3).2.2, .slice (t 4).1 (t 4).2.1 (t 4).2.2, .slice (t 5).1 (t 5).2.1 (t 5).2.2, .slice (t 6).1 (t 6).2.1 (t 6).2.2, .slice (some ⟨bo, oo, none⟩) 1 c7] := ⟨_, rfl⟩
  refine hwON ?_
  refine HL.one (H1.alloc (cs := row 8 fun _ => .slice none 0 0) rfl rfl (fun b14 => ?_))
  refine hwON ?_
  refine HL.one (H1.stAgg (b := b14) (cs := row 8 fun _ => .slice none 0 0) (vs := C) rfl (by rw [hC]; rfl) (by rw [hC]; rfl) (by
    rw [hC]; intro v hv
    simp only [List.mem_cons, List.not_mem_nil, or_false] at hv
    rcases hv with rfl | rfl | rfl | rfl | rfl | rfl | rfl | rfl <;> rfl) rplA (by rw [hC]; rfl) ?_)
  have hC7 : C[7]? = some (.slice (some ⟨bo, oo, none⟩) 1 c7) := by rw [hC]; rfl
  have hCl : C.length = 8 := by rw [hC]; rfl
  have hCv : Value.agg C.toArray = .agg #[.slice (t 0).1 (t 0).2.1 (t 0).2.2, .slice (t 1).1 (t 1).2.1 (t 1).2.2, .slice (t 2).1 (t 2).2.1 (t 2).2.2, .slice (t 3).1 (t 3).2.1 (t 3).2.2, .slice (t 4).1 (t 4).2.1 (t 4).2.2, .slice (t 5).1 (t 5).2.1 (t 5).2.2, .slice (t 6).1 (t 6).2.1 (t 6).2.2, .slice (some ⟨bo, oo, none⟩) 1 c7] := by rw [hC]
  rw [← hCv] at hbase
  clear hC hCv
  refine hwON ?_
  refine HL.one (H1.call0 (vs := [zv day, zv 80]) rfl rfl (fun w' _ => lpick24_fn day 80 h3.1 h3.2 (by decide) w') ?_)
  rw [← hd]
  refine hwON ?_
  refine HC.grow0 3 1 ?_
  refine HC.loop (α := Nat × Option Addr × Nat) (fun q => [(4, zv d), (11, .bool true), (12, .slice al l.length cl), (13, vg), (14, .pointer (some ⟨b14, 0, none⟩)), (15, .slice q.2.1 (selL l (fun i => decide ((ndAt l i).pack = pk)) q.1).length q.2.2), (16, zv (q.1 : Int))])
    (fun q => [A.blk b14 C 49, A.grow 3 1 q.2.1 q.2.2 (selL l (fun i => decide ((ndAt l i).pack = pk)) q.1).length (ints (selL l (fun i => decide ((ndAt l i).pack = pk)) q.1))]) (fun q => q.1 ≤ l.length) (fun q => l.length - q.1) (0, none, 0) (Nat.zero_le _) esA (by repeat (first | exact Hs.nil _ | (refine Hs.cons pickA ?_))) ?_
  rintro ⟨k, aw, cw⟩ hk
  dsimp only at hk ⊢
  by_cases hlt : k < l.length
  · have hn : ((k : Nat) : Int) < (l.length : Int) := by omega
    have hsl := selL_len l (fun i => decide ((ndAt l i).pack = pk)) k
    obtain ⟨b0, off0, rfl, hb⟩ := hN.cell hlt
    have hc0 := hb k hlt 0 (zv (ndAt l k).id) rfl
    have hc2 := hb k hlt 2 (zv (ndAt l k).pack) rfl
    clear hb
    have hya := selL_yes (l := l) (f := fun i => decide ((ndAt l i).pack = pk)) (k := k)
    have hna := selL_no (l := l) (f := fun i => decide ((ndAt l i).pack = pk)) (k := k)
    generalize (ndAt l k).id = x at hc0 hya
    generalize (ndAt l k).pack = y at hc2 hya hna
    refine hwON ?_
    repeat refine HC.seq ?_
    refine HC.quietS [(some 43, [12], []), (some 44, [16], []), (some 45, [43, 44], [0, 1]), (some 46, [45], [2]), (some 47, [46], [3]), (some 48, [14], []), (some 49, [48], [5]), (some 50, [49], [6]), (some 51, [50], [7]), (some 52, [51], [8]), (some 53, [47, 52], [4, 9])] (by kernel_rfl) (by kernel_rfl) (by kernel_rfl) ?_
    repeat' (first | refine HQ.pa ?_ | refine HQ.ga rfl ?_ | refine HQ.na rfl ?_ | refine HQ.nu rfl ?_ | refine HQ.ldb rfl memA rfl rfl ?_)
    refine HQ.ld (a := ⟨b0, off0 + k * 4 + 2, none⟩) rfl (fun w' hM => cell_ext hM.ext hc2) rfl ?_
    repeat' (first | refine HQ.pa ?_ | refine HQ.ga rfl ?_ | refine HQ.na rfl ?_ | refine HQ.nu rfl ?_ | refine HQ.ldb rfl memA rfl rfl ?_)
    refine HQ.ldb rfl memA hC7 rfl ?_
    repeat' (first | refine HQ.pa ?_ | refine HQ.ga rfl ?_ | refine HQ.na rfl ?_ | refine HQ.nu rfl ?_ | refine HQ.ldb rfl memA rfl rfl ?_)
    refine HQ.ld (a := ⟨bo, oo + 7, none⟩) rfl (fun w' hM => cell_ext hM.ext hpk) rfl ?_
    repeat' (first | refine HQ.pa ?_ | refine HQ.ga rfl ?_ | refine HQ.na rfl ?_ | refine HQ.nu rfl ?_ | refine HQ.ldb rfl memA rfl rfl ?_)
    refine HQ.nil ?_
    by_cases hy : y = pk
    · have ea := hya (decide_eq_true hy)
      have la := congrArg List.length ea
      rw [List.length_append, List.length_singleton] at la
      refine hwON ?_
      refine HL.one (H1.ld0 rfl hc0 rfl ?_)
      refine hwON ?_
      refine HL.one (H1.lit (cs := [zv x]) rfl rfl rfl rfl rfl rfl (fun b8 => ?_))
      refine hwON ?_
      refine HL.one (H1.app1 (u := zv x) rfl rfl (fun _ _ => by first | ((repeat (first | with_reducible exact Rpl.here | with_reducible apply Rpl.there)); done) | (repeat (first | exact Rpl.here | apply Rpl.there))) memA rfl rfl (by omega) rfl rfl (fun a2 c2 => ?_))
      rw [ints_snocL, ← ea, ← la]
      refine hwON ?_
      exact HX.again (k + 1, some ⟨a2, 0, none⟩, c2) hlt (by show l.length - (k + 1) < l.length - k; omega) esA (by repeat (first | exact Hs.nil _ | (refine Hs.cons pickA ?_)))
    · have ea := hna (decide_eq_false hy)
      rw [← ea]
      refine hwON ?_
      exact HX.again (k + 1, aw, cw) hlt (by show l.length - (k + 1) < l.length - k; omega) esA (by repeat (first | exact Hs.nil _ | (refine Hs.cons pickA ?_)))
  have hn : ¬ ((k : Nat) : Int) < (l.length : Int) := by omega
  obtain rfl : k = l.length := by omega
  have hol := selL_len l (fun i => decide ((ndAt l i).pack = pk)) l.length
  unfold ownL at hst
  generalize selL l (fun i => decide ((ndAt l i).pack = pk)) l.length = O at hol hst
  have hGl := derA_len l O
  refine hwON ?_
  refine HL.one (H1.callz (vs := [_, _]) rfl rfl (fun w' hM => derivedA_fn (f := O) (by omega) hls (by omega) w' (hN.ext hM.ext) (hM.gr (a := aw) (c := cw) memA)) ?_)
  rintro ⟨ag, cg⟩ -
  dsimp only
  generalize derA l O = G at hst hGl
  obtain ⟨s0, hs0⟩ : ∃ s0 : Bool, s0 = (decide (d < f0) || decide ((G.length : Int) = 0)) := ⟨_, rfl⟩
  obtain ⟨P, hP⟩ : ∃ P : Nd → Bool, P = fun n => G.any fun x => decide (n.id = x) && heldN B d n := ⟨_, rfl⟩
  have hstop : stopB B l G f0 d = (s0 || l.any P) := by rw [hs0, hP]; rfl
  rw [hstop] at hst
  refine hwON ?_
  refine HL.cut (α := Unit) (fun _ => [(4, zv d), (11, .bool true), (12, .slice al l.length cl), (13, vg), (14, .pointer (some ⟨b14, 0, none⟩)), (17, .slice ag G.length cg), (18, .bool s0)]) (fun _ => [A.blk b14 C 49, A.grow 3 1 ag cg G.length (ints G)]) (fun _ => True) ?_ ?_
  · refine HL.one (H1.ldb rfl memA hC7 rfl ?_)
    refine hwON ?_
    refine HL.one (H1.ld0 (a := ⟨bo, oo + 5, none⟩) rfl hfr rfl ?_)
    by_cases hdf : d < f0
    · rw [decide_eq_true hdf, Bool.true_or] at hs0
      subst hs0
      refine hwON ?_
      exact HX.cut () trivial esA (by repeat (first | exact Hs.nil _ | (refine Hs.cons pickA ?_)))
    · rw [decide_eq_false hdf, Bool.false_or] at hs0
      subst hs0
      refine hwON ?_
      exact HX.cut () trivial esA (by repeat (first | exact Hs.nil _ | (refine Hs.cons pickA ?_)))
  rintro - -
  clear hs0 hstop
  refine hwON ?_
  refine HC.loop (α := Nat) (fun i => [(4, zv d), (11, .bool true), (12, .slice al l.length cl), (13, vg), (14, .pointer (some ⟨b14, 0, none⟩)), (17, .slice ag G.length cg), (18, .bool (s0 || (l.take i).any P)), (19, zv (i : Int))]) (fun _ => [A.blk b14 C 49, A.grow 3 1 ag cg G.length (ints G)]) (fun i => i ≤ l.length) (fun i => l.length - i) 0 (Nat.zero_le _) (by rw [show (s0 || (l.take 0).any P) = s0 by simp]; repeat (first | exact trivial | refine ⟨rfl, ?_⟩)) (by repeat (first | exact Hs.nil _ | (refine Hs.cons pickA ?_))) ?_
  intro i hi
  by_cases hlt : i < l.length
  · have hn : ((i : Nat) : Int) < (l.length : Int) := by omega
    obtain ⟨b0, off0, rfl, hb⟩ := hN.cell hlt
    have hc0 := hb i hlt 0 (zv (ndAt l i).id) rfl
    have hc2 := hb i hlt 2 (zv (ndAt l i).pack) rfl
    clear hb
    have htk : (l.take (i + 1)).any P = ((l.take i).any P || P (ndAt l i)) := by rw [ndAt_take hlt, List.any_append]; simp
    have hPn : P (ndAt l i) = G.any fun x => decide ((ndAt l i).id = x) && decide (0 < (heldL (B 4) (B 5) (ndAt l i).pack d).length) := by rw [hP]; rfl
    rw [hPn] at htk
    generalize (ndAt l i).id = idv at hc0 htk
    generalize (ndAt l i).pack = pkv at hc2 htk
    obtain ⟨sv, hsv⟩ : ∃ sv : Bool, sv = (s0 || (l.take i).any P) := ⟨_, rfl⟩
    have hend : (s0 || (l.take (i + 1)).any P) = (sv || G.any fun x => decide (idv = x) && decide (0 < (heldL (B 4) (B 5) pkv d).length)) := by rw [htk, hsv, Bool.or_assoc]
    obtain ⟨Q, hQ⟩ : ∃ Q : Int → Bool, Q = fun x => decide (idv = x) && decide (0 < (heldL (B 4) (B 5) pkv d).length) := ⟨_, rfl⟩
    have hQx : ∀ x, Q x = (decide (idv = x) && decide (0 < (heldL (B 4) (B 5) pkv d).length)) := fun x => by rw [hQ]
    rw [← hQ] at hend
    rw [← hsv]
    clear hPn htk
    refine hwON ?_
    refine HC.loop (α := Nat) (fun k => [(4, zv d), (11, .bool true), (12, .slice (some ⟨b0, off0, none⟩) l.length cl), (13, vg), (14, .pointer (some ⟨b14, 0, none⟩)), (17, .slice ag G.length cg), (18, .bool (sv || (G.take k).any Q)), (19, zv (i : Int)), (20, zv (k : Int))]) (fun _ => [A.blk b14 C 49, A.grow 3 1 ag cg G.length (ints G)]) (fun k => k ≤ G.length) (fun k => G.length - k) 0 (Nat.zero_le _) (by rw [show (sv || (G.take 0).any Q) = sv by simp]; repeat (first | exact trivial | refine ⟨rfl, ?_⟩)) (by repeat (first | exact Hs.nil _ | (refine Hs.cons pickA ?_))) ?_
    intro k hk
    by_cases hkl : k < G.length
    · have hkn : ((k : Nat) : Int) < (G.length : Int) := by omega
      have e1 : (sv || (G.take (k + 1)).any Q) = ((sv || (G.take k).any Q) || (decide (idv = getI G k) && decide (0 < (heldL (B 4) (B 5) pkv d).length))) := by rw [any_take hkl, hQx, Bool.or_assoc]
      have hgk := ints_getI hkl
      refine HC.openg (e := 3) (sz := 1) (a := ag) (c := cg) (n := G.length) (xs := ints G) memA (by omega) ?_
      rintro bg rfl
      generalize (sv || (G.take k).any Q) = sk at e1 ⊢
      generalize getI G k = x at e1 hgk
      refine hwON ?_
      by_cases hx : idv = x
      · rw [decide_eq_true hx, Bool.true_and] at e1
        subst hx
        by_cases hh : 0 < (heldL (B 4) (B 5) pkv d).length
        · have hh' : (0 : Int) < ((heldL (B 4) (B 5) pkv d).length : Int) := by omega
          rw [decide_eq_true hh, Bool.or_true] at e1
          refine HC.anyC ([(⟨b0, off0 + i * 4 + 0, none⟩, zv idv), (⟨bg, k, none⟩, zv idv), (⟨b0, off0 + i * 4 + 2, none⟩, zv pkv)]) rfl ?_
          refine HB.pa 0 rfl ?_
          refine HB.pa 1 rfl ?_
          refine HB.pa 2 rfl ?_
          refine HB.pa 3 rfl ?_
          refine HB.ld 4 rfl rfl memD ?_
          refine HB.pa 5 rfl ?_
          refine HB.pa 6 rfl ?_
          refine HB.pa 7 rfl ?_
          refine HB.ld 8 rfl rfl memD ?_
          refine HB.pa 9 rfl ?_
          refine HB.pa 10 rfl ?_
          first | refine HB.ga 12 rfl rfl ?_ | refine HB.na 12 rfl rfl ?_ | refine HB.nu 12 rfl rfl ?_
          first | refine HB.ga 13 rfl rfl ?_ | refine HB.na 13 rfl rfl ?_ | refine HB.nu 13 rfl rfl ?_
          first | refine HB.ga 14 rfl rfl ?_ | refine HB.na 14 rfl rfl ?_ | refine HB.nu 14 rfl rfl ?_
          first | refine HB.ga 15 rfl rfl ?_ | refine HB.na 15 rfl rfl ?_ | refine HB.nu 15 rfl rfl ?_
          refine HB.ldg 16 rfl rfl rfl memD ?_
          first | refine HB.ga 17 rfl rfl ?_ | refine HB.na 17 rfl rfl ?_ | refine HB.nu 17 rfl rfl ?_
          refine HB.all (by repeat (first | exact Keep.nil | refine Keep.blk (by (repeat (first | exact List.Mem.head _ | apply List.Mem.tail)); done) rfl ?_ | refine Keep.grow (by (repeat (first | exact List.Mem.head _ | apply List.Mem.tail)); done) (by assumption) ?_ | refine Keep.base (by assumption) ?_)) [11] (by kernel_rfl) rfl ⟨⟨_, rfl, ?_⟩, trivial⟩
          refine HP.one_a rfl ?_
          refine H1.ldAgg (b := b14) (vs := C) rfl memA hCl (fun i v h => by rwa [Nat.zero_add]) rfl ?_
          apply HB.fold
          refine HB.all (by repeat (first | exact Keep.nil | refine Keep.blk (by (repeat (first | exact List.Mem.head _ | apply List.Mem.tail)); done) rfl ?_ | refine Keep.grow (by (repeat (first | exact List.Mem.head _ | apply List.Mem.tail)); done) (by assumption) ?_ | refine Keep.base (by assumption) ?_)) [18] (by kernel_rfl) rfl ⟨⟨_, rfl, ?_⟩, trivial⟩
          refine HP.one_a rfl ?_
          refine H1.callz (α := Option Addr × Nat) (V := fun z => .slice z.1 (heldL (B 4) (B 5) pkv d).length z.2) (Hn := fun z => [A.grow 3 1 z.1 z.2 (heldL (B 4) (B 5) pkv d).length (ints (heldL (B 4) (B 5) pkv d))]) (I := fun _ => True) (vs := [_, _, _]) rfl rfl (fun w' hM => Held_fn pkv d w' (hbase.ext hM.ext) l4 l5) ?_
          rintro ⟨az, cz⟩ -
          apply HB.fold
          first | refine HB.ga 19 rfl rfl ?_ | refine HB.na 19 rfl rfl ?_ | refine HB.nu 19 rfl rfl ?_
          first | refine HB.ga 20 rfl rfl ?_ | refine HB.na 20 rfl rfl ?_ | refine HB.nu 20 rfl rfl ?_
          refine HB.pa 21 rfl ?_
          refine HB.done (by repeat (first | exact Keep.nil | refine Keep.blk (by (repeat (first | exact List.Mem.head _ | apply List.Mem.tail)); done) rfl ?_ | refine Keep.grow (by (repeat (first | exact List.Mem.head _ | apply List.Mem.tail)); done) (by assumption) ?_ | refine Keep.base (by assumption) ?_)) (by kernel_rfl) ?_
          refine hwON ?_
          exact HX.again (k + 1) hkl (by show G.length - (k + 1) < G.length - k; omega) (by rw [e1]; repeat (first | exact trivial | refine ⟨rfl, ?_⟩)) (by repeat (first | exact Hs.nil _ | (refine Hs.cons pickA ?_)))
        · have hh' : ¬ (0 : Int) < ((heldL (B 4) (B 5) pkv d).length : Int) := by omega
          rw [decide_eq_false hh, Bool.or_false] at e1
          refine HC.anyC ([(⟨b0, off0 + i * 4 + 0, none⟩, zv idv), (⟨bg, k, none⟩, zv idv), (⟨b0, off0 + i * 4 + 2, none⟩, zv pkv)]) rfl ?_
          refine HB.pa 0 rfl ?_
          refine HB.pa 1 rfl ?_
          refine HB.pa 2 rfl ?_
          refine HB.pa 3 rfl ?_
          refine HB.ld 4 rfl rfl memD ?_
          refine HB.pa 5 rfl ?_
          refine HB.pa 6 rfl ?_
          refine HB.pa 7 rfl ?_
          refine HB.ld 8 rfl rfl memD ?_
          refine HB.pa 9 rfl ?_
          refine HB.pa 10 rfl ?_
          first | refine HB.ga 12 rfl rfl ?_ | refine HB.na 12 rfl rfl ?_ | refine HB.nu 12 rfl rfl ?_
          first | refine HB.ga 13 rfl rfl ?_ | refine HB.na 13 rfl rfl ?_ | refine HB.nu 13 rfl rfl ?_
          first | refine HB.ga 14 rfl rfl ?_ | refine HB.na 14 rfl rfl ?_ | refine HB.nu 14 rfl rfl ?_
          first | refine HB.ga 15 rfl rfl ?_ | refine HB.na 15 rfl rfl ?_ | refine HB.nu 15 rfl rfl ?_
          refine HB.ldg 16 rfl rfl rfl memD ?_
          first | refine HB.ga 17 rfl rfl ?_ | refine HB.na 17 rfl rfl ?_ | refine HB.nu 17 rfl rfl ?_
          refine HB.all (by repeat (first | exact Keep.nil | refine Keep.blk (by (repeat (first | exact List.Mem.head _ | apply List.Mem.tail)); done) rfl ?_ | refine Keep.grow (by (repeat (first | exact List.Mem.head _ | apply List.Mem.tail)); done) (by assumption) ?_ | refine Keep.base (by assumption) ?_)) [11] (by kernel_rfl) rfl ⟨⟨_, rfl, ?_⟩, trivial⟩
          refine HP.one_a rfl ?_
          refine H1.ldAgg (b := b14) (vs := C) rfl memA hCl (fun i v h => by rwa [Nat.zero_add]) rfl ?_
          apply HB.fold
          refine HB.all (by repeat (first | exact Keep.nil | refine Keep.blk (by (repeat (first | exact List.Mem.head _ | apply List.Mem.tail)); done) rfl ?_ | refine Keep.grow (by (repeat (first | exact List.Mem.head _ | apply List.Mem.tail)); done) (by assumption) ?_ | refine Keep.base (by assumption) ?_)) [18] (by kernel_rfl) rfl ⟨⟨_, rfl, ?_⟩, trivial⟩
          refine HP.one_a rfl ?_
          refine H1.callz (α := Option Addr × Nat) (V := fun z => .slice z.1 (heldL (B 4) (B 5) pkv d).length z.2) (Hn := fun z => [A.grow 3 1 z.1 z.2 (heldL (B 4) (B 5) pkv d).length (ints (heldL (B 4) (B 5) pkv d))]) (I := fun _ => True) (vs := [_, _, _]) rfl rfl (fun w' hM => Held_fn pkv d w' (hbase.ext hM.ext) l4 l5) ?_
          rintro ⟨az, cz⟩ -
          apply HB.fold
          first | refine HB.ga 19 rfl rfl ?_ | refine HB.na 19 rfl rfl ?_ | refine HB.nu 19 rfl rfl ?_
          first | refine HB.ga 20 rfl rfl ?_ | refine HB.na 20 rfl rfl ?_ | refine HB.nu 20 rfl rfl ?_
          refine HB.pa 21 rfl ?_
          refine HB.done (by repeat (first | exact Keep.nil | refine Keep.blk (by (repeat (first | exact List.Mem.head _ | apply List.Mem.tail)); done) rfl ?_ | refine Keep.grow (by (repeat (first | exact List.Mem.head _ | apply List.Mem.tail)); done) (by assumption) ?_ | refine Keep.base (by assumption) ?_)) (by kernel_rfl) ?_
          refine hwON ?_
          exact HX.again (k + 1) hkl (by show G.length - (k + 1) < G.length - k; omega) (by rw [e1]; repeat (first | exact trivial | refine ⟨rfl, ?_⟩)) (by repeat (first | exact Hs.nil _ | (refine Hs.cons pickA ?_)))
      · rw [decide_eq_false hx, Bool.false_and, Bool.or_false] at e1
        refine HC.anyC ([(⟨b0, off0 + i * 4 + 0, none⟩, zv idv), (⟨bg, k, none⟩, zv x)]) rfl ?_
        refine HB.pa 0 rfl ?_
        refine HB.pa 1 rfl ?_
        refine HB.pa 2 rfl ?_
        refine HB.pa 3 rfl ?_
        refine HB.ld 4 rfl rfl memD ?_
        refine HB.pa 5 rfl ?_
        refine HB.pa 6 rfl ?_
        refine HB.pa 7 rfl ?_
        refine HB.ld 8 rfl rfl memD ?_
        refine HB.pa 9 rfl ?_
        refine HB.pa 10 rfl ?_
        first | refine HB.ga 12 rfl rfl ?_ | refine HB.na 12 rfl rfl ?_ | refine HB.nu 12 rfl rfl ?_
        first | refine HB.ga 13 rfl rfl ?_ | refine HB.na 13 rfl rfl ?_ | refine HB.nu 13 rfl rfl ?_
        first | refine HB.ga 14 rfl rfl ?_ | refine HB.na 14 rfl rfl ?_ | refine HB.nu 14 rfl rfl ?_
        first | refine HB.ga 15 rfl rfl ?_ | refine HB.na 15 rfl rfl ?_ | refine HB.nu 15 rfl rfl ?_
        first | refine HB.ga 16 rfl rfl ?_ | refine HB.na 16 rfl rfl ?_ | refine HB.nu 16 rfl rfl ?_
        first | refine HB.ga 17 rfl rfl ?_ | refine HB.na 17 rfl rfl ?_ | refine HB.nu 17 rfl rfl ?_
        refine HB.all (by repeat (first | exact Keep.nil | refine Keep.blk (by (repeat (first | exact List.Mem.head _ | apply List.Mem.tail)); done) rfl ?_ | refine Keep.grow (by (repeat (first | exact List.Mem.head _ | apply List.Mem.tail)); done) (by assumption) ?_ | refine Keep.base (by assumption) ?_)) [11] (by kernel_rfl) rfl ⟨⟨_, rfl, ?_⟩, trivial⟩
        refine HP.drop_a rfl ?_
        refine HB.all (by repeat (first | exact Keep.nil | refine Keep.blk (by (repeat (first | exact List.Mem.head _ | apply List.Mem.tail)); done) rfl ?_ | refine Keep.grow (by (repeat (first | exact List.Mem.head _ | apply List.Mem.tail)); done) (by assumption) ?_ | refine Keep.base (by assumption) ?_)) [18] (by kernel_rfl) rfl ⟨⟨_, rfl, ?_⟩, trivial⟩
        refine HP.drop_a rfl ?_
        first | refine HB.ga 19 rfl rfl ?_ | refine HB.na 19 rfl rfl ?_ | refine HB.nu 19 rfl rfl ?_
        first | refine HB.ga 20 rfl rfl ?_ | refine HB.na 20 rfl rfl ?_ | refine HB.nu 20 rfl rfl ?_
        refine HB.pa 21 rfl ?_
        refine HB.done (by repeat (first | exact Keep.nil | refine Keep.blk (by (repeat (first | exact List.Mem.head _ | apply List.Mem.tail)); done) rfl ?_ | refine Keep.grow (by (repeat (first | exact List.Mem.head _ | apply List.Mem.tail)); done) (by assumption) ?_ | refine Keep.base (by assumption) ?_)) (by kernel_rfl) ?_
        refine hwON ?_
        exact HX.again (k + 1) hkl (by show G.length - (k + 1) < G.length - k; omega) (by rw [e1]; repeat (first | exact trivial | refine ⟨rfl, ?_⟩)) (by repeat (first | exact Hs.nil _ | (refine Hs.cons pickA ?_)))
    have hkn : ¬ ((k : Nat) : Int) < (G.length : Int) := by omega
    obtain rfl : k = G.length := by omega
    rw [List.take_length, ← hend]
    refine hwON ?_
    exact HX.again (i + 1) hlt (by show l.length - (i + 1) < l.length - i; omega) esA (by repeat (first | exact Hs.nil _ | (refine Hs.cons pickA ?_)))
  have hn : ¬ ((i : Nat) : Int) < (l.length : Int) := by omega
  obtain rfl : i = l.length := by omega
  rw [List.take_length]
  generalize (s0 || l.any P) = st at hst ⊢
  refine hwON ?_
  refine HL.one (H1.ldAgg (b := b14) (vs := C) rfl memA hCl (fun i v h => by rwa [Nat.zero_add]) rfl ?_)
  cases st with
  | true =>
    rw [if_pos rfl] at hst
    refine hwON ?_
    refine HL.one (H1.callx (vs := [_, _, _, zv 5, zv d]) rfl rfl (fun w' hM => delete_no hst hl hls hDl hDs l7 l4 l5 w' (hG2.ext hM.ext) (hbase.ext hM.ext) (hN.ext hM.ext) (hD.ext hM.ext)) ?_)
    unfold delNo
    refine hwON ?_
    refine HL.one (H1.alloc (cs := tomb0) rfl rfl (fun b23 => ?_))
    refine hwON ?_
    refine HL.one (H1.stAgg (b := b23) (cs := tomb0) (vs := tomb0) rfl rfl rfl (by intro v hv; simp only [tomb0, List.mem_cons, List.not_mem_nil, or_false] at hv; rcases hv with rfl | rfl | rfl | rfl | rfl | rfl <;> rfl) rplA rfl ?_)
    refine hwON ?_
    rw [show (decide ((240 : Int) = 0) == !true) = true by decide]
    refine hwON ?_
    exact HX.ret1 rfl rfl fun w' hM => ⟨rfl, hxw.trans hM.ext⟩
  | false =>
    rw [if_neg (by decide)] at hst
    refine hwON ?_
    refine HL.one (H1.callz (vs := [_, _, _, zv 5, zv d]) rfl rfl (fun w' hM => delete_yes hst hl hls hDl hDs l7 l4 l5 w' (hG2.ext hM.ext) (hbase.ext hM.ext) (hN.ext hM.ext) (hD.ext hM.ext)) ?_)
    rintro ⟨left, a1, c1, a2, c2, ai, ci, ad, cd⟩ hz
    unfold delH delYes tombV
    dsimp only at hz ⊢
    refine hwON ?_
    refine HL.one (H1.alloc (cs := tomb0) rfl rfl (fun b23 => ?_))
    refine hwON ?_
    refine HL.one (H1.stAgg (b := b23) (cs := tomb0) (vs := [zv 5, zv d, .string (rootP (l.zip D)), .string (rootP (prN l D (goneL l pk) false)), .slice ai (goneL l pk).length ci, .slice ad (goneL l pk).length cd]) rfl rfl rfl (by intro v hv; simp only [List.mem_cons, List.not_mem_nil, or_false] at hv; rcases hv with rfl | rfl | rfl | rfl | rfl | rfl <;> rfl) rplA rfl ?_)
    refine hwON ?_
    rw [show (decide ((0 : Int) = 0) == !false) = true by decide]
    refine hwON ?_
    exact HX.ret1 rfl rfl fun w' hM => ⟨by rw [decide_eq_true rfl], hxw.trans hM.ext⟩
end Go.Sx
/- From a function's contract to a row's statement: arguments that are numbers, arrays of numbers, slices of arrays of numbers, records. -/
namespace Go.Sx
open Go Go.ChangeShapes Go.WideShapes Go.ChangeAt Go.RowKit
section
variable {H : Type} {enc : TypeId × Value → H} {P : Program} {w : World} {b : Nat} {sp : Nat → Bool} {hd : Bool}
theorem args_cons {t : TypeId} {ts : List TypeId} {vs : List Value} {ds : List (DataW H)} {ps : List MemPlace} (h : DataW.TrodAll enc P w b sp hd (t :: ts) vs ds ps) :
    ∃ v vs' d ds' p q, vs = v :: vs' ∧ ds = d :: ds' ∧ ps = p ++ q ∧ DataW.Trod enc P w b sp hd t v d p ∧ DataW.TrodAll enc P w b sp hd ts vs' ds' q := by
  cases vs with
  | nil => exact h.elim
  | cons v vs =>
    cases ds with
    | nil => exact h.elim
    | cons d ds =>
      obtain ⟨p, q, h1, h2, h3⟩ := h
      exact ⟨v, vs, d, ds, p, q, rfl, rfl, h3, h1, h2⟩
theorem args_nil {vs : List Value} {ds : List (DataW H)} {ps : List MemPlace} (h : DataW.TrodAll enc P w b sp hd [] vs ds ps) : vs = [] ∧ ds = [] ∧ ps = [] := by
  cases vs with
  | cons v vs => exact h.elim
  | nil => cases ds with
    | cons d ds => exact h.elim
    | nil => exact ⟨rfl, rfl, h⟩
theorem trodAll_ext (hl : laidOutB P = true) {W W' : World} (hx : Below W.heap.size W W') : ∀ {ts : List TypeId} {vs : List Value} {ds : List (DataW H)} {ps : List MemPlace}, (ts.all fun t => P.readableRec t && decide (t < P.types.size)) = true →
    DataW.TrodAll enc P W 0 (fun _ => true) true ts vs ds ps → (∀ p ∈ ps, p.block < W.heap.size) → ∀ sp : Nat → Bool, (∀ p ∈ ps, sp p.block = true) → DataW.TrodAll enc P W' 0 sp true ts vs ds ps
  | [], [], [], _, _, h, _, _, _ => h
  | [], [], _ :: _, _, _, h, _, _, _ => h.elim
  | [], _ :: _, _, _, _, h, _, _, _ => h.elim
  | _ :: _, [], _, _, _, h, _, _, _ => h.elim
  | _ :: _, _ :: _, [], _, _, h, _, _, _ => h.elim
  | t :: ts, v :: vs, d :: ds, ps, ht, h, hlt, sp, hsp => by
    obtain ⟨p, q, h1, h2, rfl⟩ := h
    simp only [List.all_cons, Bool.and_eq_true, decide_eq_true_eq] at ht
    refine ⟨p, q, ?_, trodAll_ext hl hx ht.2 h2 (fun x hx => hlt x (by simp [hx])) sp (fun x hx => hsp x (by simp [hx])), rfl⟩
    exact WideElems.Trod_stays hl ht.1.1 ht.1.2 h1 (fun x hx' => hx.same (hlt x (by simp [hx']))) (fun x hx' => hsp x (by simp [hx']))
end
end Go.Sx
namespace Go.Sx
open Go Go.Proofs Go.ChangeShapes Go.WideShapes Go.ChangeAt Go.RowKit
theorem ints_rowK (f : Nat → Int) (n : Nat) : ints ((List.range n).map f) = row n fun q => zv (f q) := by
  unfold ints row
  rw [List.map_map]; rfl
/-- The call has laid new blocks, and turned no old one. -/
theorem post_ext {H : Type} {enc : TypeId × Value → H} {P : Program} {f : Func} {s : ChangeSpec} {apart fresh handsOn again : Bool} {W W' : World} {args : Array Value} {v : Value} {ds gs : List (DataW H)} {before pa pv : List MemPlace} (hx : Ext W W')
    (hW : DataW.Whole enc P f.params.toList s.vars apart W args.toList ds gs before)
    (hres : ∀ (b : Nat) (sp : Nat → Bool) (hd : Bool), DataW.TrodAll enc P W' b sp hd f.resultTypes.toList (v.resultList f.resultTypes.size) (s.fn H (ds ++ gs)).results [])
    (hargs : ∀ sp : Nat → Bool, (∀ p ∈ before, sp p.block = true) → DataW.TrodAll enc P W' 0 sp true f.params.toList args.toList (s.fn H (ds ++ gs)).args pa)
    (hvars : ∀ sp : Nat → Bool, (∀ p ∈ before, sp p.block = true) → DataW.TrodVars enc P W' sp s.vars (s.fn H (ds ++ gs)).vars pv)
    (hps : before = pa ++ pv)
    (hok : ∀ (j : Nat) (t : TypeId) (r : Value), f.resultTypes[j]? = some t → (v.resultList f.resultTypes.size)[j]? = some r → Value.okWide P W' .any 0 t r) :
    s.post enc P f apart fresh handsOn again W args v W' := by
  have hlt : ∀ p ∈ before, p.block < W.heap.size := fun p hp => hW.lt p hp
  have hold : ∀ p ∈ before, (fun b => decide (b < W.heap.size)) p.block = true := fun p hp => by simpa using hW.lt p hp
  refine ⟨ds, gs, before, [], pa, pv, hW, hres _ _ _, hargs _ hold, hvars _ hold, (World.keptBut_refl W _).congr hx.os hx.output hx.block, fun _ => ?_⟩
  obtain ⟨_, _, _, _, _, hz, hn⟩ := hW
  refine ⟨hok, _, _, ([] ++ pa) ++ pv, ⟨[] ++ pa, pv, trodAll_append (hargs _ (fun _ _ => rfl)) (hres _ _ _), hvars _ (fun _ _ => rfl), rfl, ?_, ?_⟩, ?_⟩
  · intro b off hp
    have hp' : MemPlace.cell b off ∈ before := by rw [hps]; simpa using hp
    rw [World.frozen?_of_block (hx.block b (hlt _ hp'))]
    exact hz b off hp'
  · intro ha
    have := hn ha
    rw [hps] at this
    simpa using this
  · intro p hp _
    rw [hps]
    simpa using hp
theorem i64_of {x : Int} (h : (Lit.int .i64 x).wf = true) : i64W x := by
  simp only [Lit.wf, Bool.and_eq_true, decide_eq_true_eq] at h
  have e1 : IntKind.i64.min = -9223372036854775808 := rfl
  have e2 : IntKind.i64.max = 9223372036854775807 := rfl
  rw [e1, e2] at h
  exact h
theorem ownK : ownKnob Tryz.prog.godebug = none := by kernel_rfl
section
variable {H : Type} {enc : TypeId × Value → H} {P : Program} {W : World} {r : Reach} {b0 b : Nat} {sp : Nat → Bool} {hd : Bool} {v : Value} {d : DataW H} {p : List MemPlace}
theorem spot_none {W : World} {a : Addr} {v : Value} (h : W.cell? a = some v) : a = ⟨a.block, a.off, none⟩ ∧ a.block < W.heap.size := by
  unfold World.cell? at h
  split at h
  · rename_i c e f hc
    split at h
    · cases h
    · rename_i hs
      refine ⟨?_, (Array.getElem?_eq_some_iff.1 hc).1⟩
      cases a with
      | mk b o s => cases s <;> simp_all
  · cases h
def cellInt (W : World) (a : Addr) : Int := match W.cell? a with | some (.int _ z) => z | _ => 0

/-- All cells of a type are numbers. -/
def intCellsB (P : Program) : Nat → TypeId → Bool
  | 0, _ => false
  | n + 1, t => match P.underlying t with
    | some (.int .i64) => Nat.beq (P.cellsOf t) 1
    | some (.array k e) => intCellsB P n e && Nat.beq (P.cellsOf t) (k * P.cellsOf e) && Nat.ble 1 (P.cellsOf e)
    | some (.struct fs) => (fs.toList.all fun f => intCellsB P n f.type) && (List.range (P.cellsOf t)).all fun j => (List.range fs.size).any fun i => match fs[i]? with | some f => Nat.ble f.offset j && Nat.blt j (f.offset + P.cellsOf f.type) | none => false
    | _ => false
theorem intCells : ∀ (n : Nat) (t : TypeId) (cs : List Value) (fuel : Nat) (x : DataW H × List MemPlace), intCellsB P n t = true → DataW.trod enc P W b sp hd fuel t cs = some x → cs.length = P.cellsOf t ∧ ∀ j, j < cs.length → ∃ z, cs[j]? = some (zv z) ∧ i64W z := by
  intro n
  induction n with
  | zero => intro t cs fuel x h; cases h
  | succ n ih =>
    intro t cs fuel x h hf
    simp only [intCellsB] at h
    split at h
    · rename_i ht
      have h1 : P.cellsOf t = 1 := Nat.eq_of_beq_eq_true h
      obtain ⟨z, e, -, hw⟩ := DataW.trod_int ht hf
      subst e
      refine ⟨by rw [h1]; rfl, fun j hj => ?_⟩
      have : j = 0 := by simpa using hj
      subst this
      exact ⟨z, rfl, i64_of hw⟩
    · rename_i k e ht
      rw [Bool.and_eq_true, Bool.and_eq_true] at h
      obtain ⟨⟨h1, h2⟩, h3⟩ := h
      have h2' : P.cellsOf t = k * P.cellsOf e := Nat.eq_of_beq_eq_true h2
      have h3' : 1 ≤ P.cellsOf e := Nat.le_of_ble_eq_true h3
      obtain ⟨xs, m, -, -, hl, hxl, hel⟩ := DataW.trod_array ht hf
      refine ⟨hl, fun j hj => ?_⟩
      rw [h2'] at hl
      have hi : j / P.cellsOf e < k := by
        rw [Nat.div_lt_iff_lt_mul h3']; omega
      have h4 := hel (j / P.cellsOf e) hi
      rw [List.getElem?_eq_getElem (by omega)] at h4
      obtain ⟨hlen, hz⟩ := ih e _ _ _ h1 h4
      have hm := Nat.mod_lt j h3'
      obtain ⟨z, hz, hw⟩ := hz (j % P.cellsOf e) (by rw [hlen]; exact hm)
      refine ⟨z, ?_, hw⟩
      rw [List.getElem?_take, if_pos hm, List.getElem?_drop] at hz
      rw [← hz]
      congr 1
      have := Nat.div_add_mod j (P.cellsOf e)
      rw [Nat.mul_comm] at this
      omega
    · rename_i fs ht
      rw [Bool.and_eq_true, List.all_eq_true, List.all_eq_true] at h
      obtain ⟨h1, h2⟩ := h
      obtain ⟨xs, m, -, -, hl, hxl, hel⟩ := DataW.trod_struct ht hf
      refine ⟨hl, fun j hj => ?_⟩
      have h3 := h2 j (List.mem_range.2 (by omega))
      rw [List.any_eq_true] at h3
      obtain ⟨i, hi, h4⟩ := h3
      have hi' := List.mem_range.1 hi
      cases hfi : fs[i]? with
      | none => rw [hfi] at h4; cases h4
      | some f =>
        rw [hfi] at h4
        simp only [Bool.and_eq_true] at h4
        have h5 : f.offset ≤ j := Nat.le_of_ble_eq_true h4.1
        have h6 : j < f.offset + P.cellsOf f.type := by simpa [Nat.blt_eq] using h4.2
        have h7 := hel i f hfi
        rw [List.getElem?_eq_getElem (by omega)] at h7
        have hmem : f ∈ fs.toList := by
          rw [← Array.getElem?_toList] at hfi
          exact List.mem_of_getElem? hfi
        obtain ⟨hlen, hz⟩ := ih f.type _ _ _ (h1 f hmem) h7
        obtain ⟨z, hz, hw⟩ := hz (j - f.offset) (by rw [hlen]; omega)
        refine ⟨z, ?_, hw⟩
        rw [List.getElem?_take, if_pos (by omega), List.getElem?_drop, show f.offset + (j - f.offset) = j by omega] at hz
        exact hz
    · cases h
/-- A row of numbers. -/
theorem intRow {n : Nat} {t : TypeId} {cs : List Value} {fuel : Nat} {x : DataW H × List MemPlace} (h : intCellsB P n t = true) (hf : DataW.trod enc P W b sp hd fuel t cs = some x) : ∃ zs : List Int, cs = ints zs ∧ zs.length = P.cellsOf t ∧ ∀ z ∈ zs, i64W z := by
  obtain ⟨hl, hz⟩ := intCells n t cs fuel x h hf
  have hch : ∃ g : Nat → Int, ∀ j, j < cs.length → cs[j]? = some (zv (g j)) ∧ i64W (g j) := by
    refine ⟨fun j => if h : j < cs.length then Classical.choose (hz j h) else 0, fun j hj => ?_⟩
    simp only [dif_pos hj]
    exact Classical.choose_spec (hz j hj)
  obtain ⟨g, hg⟩ := hch
  refine ⟨(List.range cs.length).map g, ?_, by simpa using hl, fun z hz => ?_⟩
  · rw [ints_rowK]
    apply List.ext_getElem?
    intro j
    by_cases hj : j < cs.length
    · rw [(hg j hj).1, row_get _ hj]
    · rw [List.getElem?_eq_none (by omega), List.getElem?_eq_none (by rw [row_len]; omega)]
  · obtain ⟨j, hj, rfl⟩ := List.mem_map.1 hz
    exact (hg j (List.mem_range.1 hj)).2
/-- A slice of structs (or arrays) of numbers, read in place: one cell. -/
theorem sl_rows {t e n fuel sz : Nat} {x : DataW H × List MemPlace} (ht : P.underlying t = some (.slice e)) (he : intCellsB P n e = true) (hce : P.cellsOf e = sz) (hsz : 0 < sz) (hf : DataW.trod enc P W b sp hd fuel t [v] = some x) :
    ∃ rows : List (List Int), (∃ (a : Option Addr) (c : Nat), v = .slice a rows.length c ∧ rows.length ≤ c ∧ (rows = [] ∨ ∃ b off, a = some ⟨b, off, none⟩ ∧ b < W.heap.size ∧ ∀ i rw j u, (rows.map ints)[i]? = some rw → rw[j]? = some u → W.cell? ⟨b, off + i * sz + j, none⟩ = some u)) ∧ (∀ r ∈ rows, r.length = sz ∧ ∀ z ∈ r, i64W z) ∧ rows.length ≤ maxLen := by
  rcases DataW.trod_slice ht hf with ⟨h0, -⟩ | ⟨a', n', c, elems, rest, m, -, hcs, -, hb, hlc, hm, hlen, hel, -, -⟩
  · cases h0
    exact ⟨[], ⟨_, _, rfl, Nat.le_refl _, .inl rfl⟩, by simp, Nat.zero_le _⟩
  · cases hcs
    have key : ∀ q, q < n' → ∃ zs : List Int, zs.length = sz ∧ (∀ z ∈ zs, i64W z) ∧ ∀ j u, (ints zs)[j]? = some u → W.cell? ((a'.add (q * sz)).add j) = some u := fun q hq => by
      have h1 := hel q hq
      rw [hce, List.getElem?_eq_getElem (by omega)] at h1
      cases hcl : W.cells? b (a'.add (q * sz)) sz with
      | none => rw [hcl] at h1; cases h1
      | some cs =>
        rw [hcl] at h1
        simp only [Option.bind_some] at h1
        obtain ⟨-, h5, h6⟩ := World.cells?_some hcl
        obtain ⟨zs, rfl, hl, hz⟩ := intRow he h1
        refine ⟨zs, by rw [hl, hce], hz, fun j u hu => ?_⟩
        have hj : j < sz := by
          have := (List.getElem?_eq_some_iff.1 hu).1
          rw [ints_len, hl, hce] at this; exact this
        rw [h6 j hj]; exact hu
    by_cases hn0 : n' = 0
    · subst hn0
      exact ⟨[], ⟨_, _, rfl, Nat.zero_le _, .inl rfl⟩, by simp, Nat.zero_le _⟩
    · have hch : ∃ Z : Nat → List Int, ∀ q, q < n' → (Z q).length = sz ∧ (∀ z ∈ Z q, i64W z) ∧ ∀ j u, (ints (Z q))[j]? = some u → W.cell? ((a'.add (q * sz)).add j) = some u := by
        refine ⟨fun q => if h : q < n' then Classical.choose (key q h) else [], fun q hq => ?_⟩
        simp only [dif_pos hq]
        exact Classical.choose_spec (key q hq)
      obtain ⟨Z, hZ⟩ := hch
      have h0 := hZ 0 (by omega)
      have hz0 := h0.2.2 0 _ (ints_get (by rw [h0.1]; exact hsz))
      rw [Nat.zero_mul, show (a'.add 0).add 0 = a' by simp [Addr.add]] at hz0
      obtain ⟨ha, hblk⟩ := spot_none hz0
      have hadd : ∀ q j, (a'.add (q * sz)).add j = ⟨a'.block, a'.off + q * sz + j, none⟩ := fun q j => by rw [ha, add_lit, add_lit]
      refine ⟨(List.range n').map Z, ⟨some a', c, by simp, by simpa using hlc, .inr ⟨a'.block, a'.off, congrArg some ha, hblk, fun i rw' j u hi hu => ?_⟩⟩, fun r hr => ?_, by simpa using (by omega : n' ≤ maxLen)⟩
      · rw [List.getElem?_map, List.getElem?_map] at hi
        have hin : i < n' := by
          refine Classical.byContradiction fun hn => ?_
          rw [List.getElem?_eq_none (by rw [List.length_range]; omega)] at hi
          cases hi
        rw [List.getElem?_range hin] at hi
        simp only [Option.map_some, Option.some.injEq] at hi
        subst hi
        have := (hZ i hin).2.2 j u hu
        rwa [hadd] at this
      · obtain ⟨q, hq, rfl⟩ := List.mem_map.1 hr
        have := hZ q (List.mem_range.1 hq)
        exact ⟨this.1, this.2.1⟩
end
end Go.Sx
namespace Go.Sx
open Go Go.Proofs Go.ChangeShapes Go.WideShapes Go.ChangeAt Go.RowKit
section
variable {H : Type} {enc : TypeId × Value → H} {W : World} {r : Reach} {b0 b : Nat} {sp : Nat → Bool} {hd : Bool} {v : Value} {d : DataW H} {p : List MemPlace}
theorem open_intK {t : TypeId} {P : Program} (ht : P.underlying t = some (.int .i64)) (hv : Value.okWide P W r b0 t v) (h : DataW.Trod enc P W b sp hd t v d p) : ∃ x : Int, v = zv x ∧ i64W x := by
  obtain ⟨z, rfl⟩ := okWide_int ht hv
  obtain ⟨fuel, hf⟩ := h
  have hf' : DataW.trod enc P W b sp hd fuel t [.int .i64 z] = some (d, p) := hf
  obtain ⟨z', e, -, hw⟩ := DataW.trod_int ht hf'
  cases e
  exact ⟨z, rfl, i64_of hw⟩
set_option maxRecDepth 100000 in
theorem open_rowsK {t e sz : TypeId} (ht : Tryz.prog.underlying t = some (.slice e)) (hi : intCellsB Tryz.prog 3 e = true) (hc : Tryz.prog.cellsOf e = sz) (hsz : 0 < sz) (hv : Value.okWide Tryz.prog W r b0 t v) (h : DataW.Trod enc Tryz.prog W b sp hd t v d p) :
    ∃ rows : List (List Int), RdA sz W v rows ∧ (∀ r ∈ rows, r.length = sz ∧ ∀ z ∈ r, i64W z) ∧ rows.length ≤ maxLen := by
  obtain ⟨fuel, hf⟩ := h
  obtain ⟨a, n, c, rfl⟩ := okWide_slice ht hv
  have hcells : (Value.slice a n c).cells.toList = [Value.slice a n c] := rfl
  rw [hcells] at hf
  exact sl_rows ht hi hc hsz hf
end
end Go.Sx
/- Chapter 24: the laid variables. -/
namespace Go.Sx
open Go Go.Proofs Go.ChangeShapes Go.WideShapes Go.ChangeAt Go.RowKit
def kZ : List Int := kL.map fun x => ((x.toNat : Nat) : Int)
theorem kZ_data : (YtehehfcmanccjaaGreatDoor.Rows.laid_evergreen_digest_round : DataW Unit) = Lib.tabData .u32 kZ := by kernel_rfl
def laid1 : List (String × DataW Unit) := [("evergreen/digest.round", YtehehfcmanccjaaGreatDoor.Rows.laid_evergreen_digest_round)]
theorem laid1_plain {W : World} (h : laidMetH Tryz.prog laid1 W) : laidMet Tryz.prog laid1 W := by
  rwa [MakeChecks.laidMetH_plain _ _ _ (by kernel_rfl)] at h
theorem round_of_laid1 {W : World} (h : laidMetH Tryz.prog laid1 W) : RoundG W := by
  have h1 := laid1_plain h
  have h2 : laidMet Tryz.prog (("evergreen/digest.round", Lib.tabData .u32 kZ) :: []) W := by
    rw [← kZ_data]; exact h1
  have hT := Lib.tabIs_of_head (g := 0) (by kernel_rfl) (by kernel_rfl) Tryz.underlying222 Tryz.underlying114 (by kernel_rfl) (by kernel_rfl) h2
  intro i v hv
  have hlen : kZ.length = 64 := by kernel_rfl
  have hi : i < 64 := by
    have := (List.getElem?_eq_some_iff.1 hv).1
    unfold ws at this
    rw [List.length_map] at this
    exact this
  have hc := hT.cell (g := 0) (by kernel_rfl) i (by rw [hlen]; exact hi)
  rw [hc]
  unfold ws at hv
  rw [List.getElem?_map, List.getElem?_eq_getElem (by exact hi)] at hv
  rw [← hv]
  have hk : i < kL.length := hi
  have : kZ.getD i 0 = ((kL[i].toNat : Nat) : Int) := by unfold kZ; simp [hk]
  rw [this]; rfl
end Go.Sx
