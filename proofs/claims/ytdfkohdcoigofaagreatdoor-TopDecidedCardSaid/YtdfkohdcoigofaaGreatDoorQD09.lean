/- Chapter 20's reference: Some: at most 30 valid records. -/
import Derived.Test.YtdfkohdcoigofaaGreatDoorQD08
import Derived.Test.YtdfkohdcoigofaaGreatDoorRows
import Derived.ProofKit
import Derived.OpenShut
import Derived.LaidMore
import Derived.Lay
import Derived.SevenTiedAt
import Derived.Stop.Joined
import Derived.Deep.Onto
import Derived.Laws.IdiomArrays
import Derived.Carry
namespace Go.Sx
open Go Go.Proofs Go.RowKit
theorem hwV4 {G G2 : Prop} (x : G2) (hwq : Hold G2 → G := by
    intro hQq
    repeat' (first | apply HL.fold | apply HA.fold | apply HL.nil | apply HX.n_then | apply HC.seq | apply HC.region | refine HL.pa ?_ | refine HL.ga rfl ?_ | refine HL.na rfl ?_ | refine HL.nu rfl rfl ?_ | apply HC.block | apply HC.skip | apply HC.exit | apply HC.ret | apply HX.e_block | refine HX.e_other rfl ?_ | apply HX.e_then | apply HX.e_again | apply HX.n_block | apply HX.r_then | apply HX.r_block | apply HX.r_again | refine HC.cond_yes rfl ?_ | refine HC.cond_no rfl ?_ | refine HL.one (H1.ldb rfl memA rfl rfl ?_) | refine HC.cond rfl (fun hc => ?_) (fun hc => ?_) | refine HC.cond_b rfl (fun hc => ?_) (fun hc => ?_))
    exact hQq.get) : G := hwq ⟨x⟩
theorem hbV4 {G G2 : Prop} (x : G2) (hwq : Hold G2 → G := by
    intro hQq
    repeat' (first | apply HL.fold | apply HA.fold | apply HL.nil | apply HX.n_then | apply HC.seq | apply HC.region | refine HL.pa ?_ | refine HL.ga rfl ?_ | refine HL.na rfl ?_ | refine HL.nu rfl rfl ?_ | apply HC.skip | apply HC.exit | apply HC.ret | apply HX.e_block | refine HX.e_other rfl ?_ | apply HX.e_then | apply HX.e_again | apply HX.n_block | apply HX.r_then | apply HX.r_block | apply HX.r_again | refine HC.cond_yes rfl ?_ | refine HC.cond_no rfl ?_ | refine HL.one (H1.ldb rfl memA rfl rfl ?_) | refine HC.cond rfl (fun hc => ?_) (fun hc => ?_) | refine HC.cond_b rfl (fun hc => ?_) (fun hc => ?_))
    exact hQq.get) : G := hwq ⟨x⟩
theorem i64W.tdiv {x n : Int} (h : i64W x) (hn : 0 < n) : i64W (x.tdiv n) := tdiv_abs hn h.1 h.2
theorem i64W.shr {x : Int} (h : i64W x) (n : Nat) : i64W (x / 2 ^ n) := shr_abs n h.1 h.2
theorem spec_n {k : Int} {p : Nat × Int × Int} (hp : p ∈ specF k) : (p.1 = 0 → p.2.1 ≤ 1 ∧ 9 ≤ p.2.2) ∧ (p.1 = 1 → p.2.1 ≤ 0 ∧ 39 ≤ p.2.2) ∧ (p.1 = 2 → p.2.1 ≤ 0 ∧ 68 ≤ p.2.2) ∧ (p.1 = 8 → p.2.1 = 0 ∧ p.2.2 = 1) ∧ (p.1 ≠ 8 → p.2.1 + 3 ≤ p.2.2) := by
  unfold specF at hp
  repeat' split at hp
  all_goals (simp only [List.mem_cons, List.not_mem_nil, or_false] at hp)
  all_goals (first | (rcases hp with rfl | rfl | rfl | rfl | rfl | rfl | rfl | rfl <;> decide) | (rcases hp with rfl | rfl | rfl | rfl | rfl | rfl <;> decide) | (rcases hp with rfl | rfl | rfl | rfl | rfl <;> decide) | (rcases hp with rfl | rfl | rfl | rfl <;> decide) | (rcases hp with rfl | rfl <;> decide))
theorem spec_one {k : Int} {j : Nat} {p : Nat × Int × Int} (h : (specF k)[j]? = some p) (h1 : p.1 = 1) : 2 ∉ ((specF k).take j).map Prod.fst := by
  have hc : ∀ j, j < 8 → ((specF k).map Prod.fst)[j]? = some 1 → 2 ∉ ((specF k).map Prod.fst).take j := by
    unfold specF
    repeat' split
    all_goals decide
  have hj := (List.getElem?_eq_some_iff.1 h).1
  have hl := spec_len k
  rw [List.map_take]
  exact hc j (by omega) (by rw [List.getElem?_map, h, ← h1]; rfl)
theorem six {y : List Int} (h : y.length = 6) : ∃ y0 y1 y2 y3 y4 y5, y = [y0, y1, y2, y3, y4, y5] := by
  match y, h with
  | [a, b, c, d, e, f], _ => exact ⟨a, b, c, d, e, f, rfl⟩
theorem getter_no {L : List (Nat × Int × Int)} (hnd : (L.map Prod.fst).Nodup) {k : Nat} {p : Nat × Int × Int} (hp : L[k]? = some p) : p.1 ∉ (L.take k).map Prod.fst := by
  have h1 : (L.map Prod.fst)[k]? = some p.1 := by rw [List.getElem?_map, hp]; rfl
  have hlt := (List.getElem?_eq_some_iff.1 hp).1
  intro hm
  rw [List.map_take] at hm
  obtain ⟨i, hi, e⟩ := List.getElem_of_mem hm
  rw [List.length_take] at hi
  have h2 : (L.map Prod.fst)[i]? = some p.1 := by
    rw [List.getElem?_eq_getElem (by omega)]
    rw [List.getElem_take] at e
    rw [e]
  have := (List.getElem?_inj (by omega) hnd).1 (h2.trans h1.symm)
  omega
attribute [local irreducible] WC WL WX POp Then Again Fn NX W1 WA WO QL RP RA Yld LoopAt HC HL HX HN H1 HA HO HQ HB HP A.blk A.grow A.rd A.obj A.mp AgainH CutH
attribute [local irreducible] specF fldN
set_option maxHeartbeats 8000000 in
theorem Some_fn (v : Value) (rows : List (List Int)) (hrow : ∀ y ∈ rows, y.length = 6 ∧ ∀ z ∈ y, i64W z) (w : World) (hR : RdA 6 w v rows) :
    Fn Tryz.prog 10 #[v] w fun v w' => ∃ z : (Option Addr × Nat) × List Rc, (z.2.length ≤ 30 ∧ ∀ r ∈ z.2, SomeOk r) ∧ v = .slice z.1.1 z.2.length z.1.2 ∧ Mm w [A.grow 36 15 z.1.1 z.1.2 z.2.length (rcl z.2)] w' := by
  obtain ⟨a0, c0, rfl, -⟩ := hR.shape
  refine enterH (l := [_]) rfl Tryz.ntmps10 rfl ?_
  refine hwV4 ?_
  refine HC.grow0 36 15 ?_
  refine HC.loop (α := Nat × List Rc × Option Addr × Nat) (fun z => [(0, .slice a0 rows.length c0), (3, .slice z.2.2.1 z.2.1.length z.2.2.2), (4, zv (z.1 : Int))]) (fun z => [A.grow 36 15 z.2.2.1 z.2.2.2 z.2.1.length (rcl z.2.1)])
    (fun z => z.1 ≤ rows.length ∧ z.1 ≤ 30 ∧ z.2.1.length = z.1 ∧ ∀ r ∈ z.2.1, SomeOk r) (fun z => 30 - z.1) (0, [], none, 0) ⟨Nat.zero_le _, Nat.zero_le _, rfl, fun r h => by cases h⟩ esA (by repeat (first | exact Hs.nil _ | (refine Hs.cons pickA ?_))) ?_
  rintro ⟨i, l, a, c⟩ ⟨hi1, hi2, hll, hok⟩
  dsimp only at hi1 hi2 hll hok ⊢
  by_cases hlt : i < rows.length
  rotate_left
  · have h1 : ¬ (i : Int) < (rows.length : Int) := by omega
    refine hwV4 ?_
    exact HX.ret1 rfl rfl fun w' hM => ⟨((a, c), l), ⟨by show l.length ≤ 30; omega, hok⟩, rfl, hM⟩
  by_cases h30 : i < 30
  rotate_left
  · have h1 : (i : Int) < (rows.length : Int) := by omega
    have h2 : ¬ (i : Int) < 30 := by omega
    refine hwV4 ?_
    exact HX.ret1 rfl rfl fun w' hM => ⟨((a, c), l), ⟨by show l.length ≤ 30; omega, hok⟩, rfl, hM⟩
  have hsnoc : ∀ s, SomeOk s → ∀ r ∈ l ++ [s], SomeOk r := fun s hs r hr => by
    rcases List.mem_append.1 hr with hr | hr
    · exact hok r hr
    · obtain rfl := List.mem_singleton.1 hr; exact hs
  obtain ⟨y, hy⟩ : ∃ y, rows[i]? = some y := ⟨_, List.getElem?_eq_getElem hlt⟩
  have hy6 := hrow y (List.mem_of_getElem? hy)
  obtain ⟨b1, off, rfl, -, hcell⟩ := hR.at (fun e => by rw [e] at hlt; exact absurd hlt (Nat.not_lt_zero _))
  have hcl := hcell i y hy
  clear hcell hR
  obtain ⟨y0, y1, y2, y3, y4, y5, rfl⟩ := six hy6.1
  have w0 := hy6.2 y0 (by simp)
  have w1 := hy6.2 y1 (by simp)
  have w2 := hy6.2 y2 (by simp)
  have w3 := hy6.2 y3 (by simp)
  have w4 := hy6.2 y4 (by simp)
  have w5 := hy6.2 y5 (by simp)
  have h1 : (i : Int) < (rows.length : Int) := by omega
  have h2 : (i : Int) < 30 := by omega
  refine hwV4 ?_
  refine HL.one (H1.ldAggw (vs := ints [y0, y1, y2, y3, y4, y5]) rfl rfl (fun w' hM i v hv => cell_ext hM.ext (hcl i v hv)) rfl ?_)
  clear hcl hy hy6
  refine hwV4 ?_
  refine HL.one (H1.alloc (cs := ints [0, 0, 0, 0, 0, 0]) rfl rfl (fun b5 => ?_))
  refine hwV4 ?_
  refine HL.one (H1.stAgg (cs := ints [0, 0, 0, 0, 0, 0]) (vs := ints [y0, y1, y2, y3, y4, y5]) rfl rfl rfl (ints_one _) rplA rfl ?_)
  refine hwV4 ?_
  have q0 := pickI21_lt y0 (n := 8) (by decide)
  have q1 := pickI21_lt (y0.tdiv 8) (n := 3) (by decide)
  have q2 := pickI21_lt y1 (n := 30) (by decide)
  have u0 := w0.tdiv (n := 8) (by decide)
  have u1 := w1.tdiv (n := 30) (by decide)
  obtain ⟨r0, hr0⟩ : ∃ r0 : Rc, r0 = ⟨1 + pickI21 y0 8, 0, 1 + pickI21 (y0.tdiv 8) 3, pickI21 y1 30, decide (pickI21 (y1.tdiv 30) 7 = 0), 0, 0, 0, 0, 0, 0, 0, false, 0, ByteArray.mk #[]⟩ := ⟨_, rfl⟩
  have hS0 : SomeI [] r0 := by
    subst hr0
    refine ⟨?_, ?_, ?_, rfl, (fun p hp => by cases hp), (fun i hi _ => ?_), ⟨Int.le_refl _, of_decide_eq_true rfl⟩, (fun h => by cases h)⟩
    · show 1 ≤ 1 + pickI21 y0 8 ∧ 1 + pickI21 y0 8 ≤ 8; omega
    · show 1 ≤ 1 + pickI21 (y0.tdiv 8) 3 ∧ 1 + pickI21 (y0.tdiv 8) 3 ≤ 3; omega
    · show 0 ≤ pickI21 y1 30 ∧ pickI21 y1 30 ≤ 29; omega
    · rcases ten hi with rfl | rfl | rfl | rfl | rfl | rfl | rfl | rfl | rfl | rfl <;> rfl
  refine HC.cut (α := Nat) (fun b6 => [(0, .slice (some ⟨b1, off, none⟩) rows.length c0), (3, .slice a l.length c), (4, zv (i : Int)), (5, .pointer (some ⟨b5, 0, none⟩)), (6, .pointer (some ⟨b6, 0, none⟩))])
    (fun b6 => [A.blk b6 (rcells r0) 36, A.blk b5 (ints [y0, y1, y2, y3, y4, y5]) 82, A.grow 36 15 a c l.length (rcl l)]) (fun _ => True) ?_ ?_
  · refine HC.anyC ([(⟨b5, 0, none⟩, zv y0), (⟨b5, 1, none⟩, zv y1)]) rfl ?_
    refine HB.pa 0 rfl ?_
    refine HB.ld 1 rfl rfl memD ?_
    refine HB.pa 4 rfl ?_
    refine HB.ld 5 rfl rfl memD ?_
    refine HB.pa (v := zv (y0.tdiv 8)) 6 rfl ?_ (POp.quoT rfl rfl w0.1 w0.2 (by decide))
    refine HB.pa 9 rfl ?_
    refine HB.ld 10 rfl rfl memD ?_
    refine HB.pa 12 rfl ?_
    refine HB.ld 13 rfl rfl memD ?_
    refine HB.pa (v := zv (y1.tdiv 30)) 14 rfl ?_ (POp.quoT rfl rfl w1.1 w1.2 (by decide))
    refine HB.all (by repeat (first | exact Keep.nil | refine Keep.blk (by (repeat (first | exact List.Mem.head _ | apply List.Mem.tail)); done) rfl ?_ | refine Keep.grow (by (repeat (first | exact List.Mem.head _ | apply List.Mem.tail)); done) (by assumption) ?_ | refine Keep.base (by assumption) ?_)) [2, 18] (by kernel_rfl) rfl ⟨⟨_, rfl, ?_⟩, ⟨_, rfl, ?_⟩, trivial⟩
    · refine HP.one ?_
      refine H1.call0 (vs := [zv y0, zv 8]) rfl rfl (fun w' _ => pick20_fn y0 8 w0.1 w0.2 (by decide) w') ?_
      apply HB.fold
      refine HB.pa 3 rfl ?_
      refine HB.all (by repeat (first | exact Keep.nil | refine Keep.blk (by (repeat (first | exact List.Mem.head _ | apply List.Mem.tail)); done) rfl ?_ | refine Keep.grow (by (repeat (first | exact List.Mem.head _ | apply List.Mem.tail)); done) (by assumption) ?_ | refine Keep.base (by assumption) ?_)) [7, 18] (by kernel_rfl) rfl ⟨⟨_, rfl, ?_⟩, ⟨_, rfl, ?_⟩, trivial⟩
      · refine HP.one ?_
        refine H1.call0 (vs := [zv (y0.tdiv 8), zv 3]) rfl rfl (fun w' _ => pick20_fn (y0.tdiv 8) 3 u0.1 u0.2 (by decide) w') ?_
        apply HB.fold
        refine HB.pa 8 rfl ?_
        refine HB.all (by repeat (first | exact Keep.nil | refine Keep.blk (by (repeat (first | exact List.Mem.head _ | apply List.Mem.tail)); done) rfl ?_ | refine Keep.grow (by (repeat (first | exact List.Mem.head _ | apply List.Mem.tail)); done) (by assumption) ?_ | refine Keep.base (by assumption) ?_)) [11, 18] (by kernel_rfl) rfl ⟨⟨_, rfl, ?_⟩, ⟨_, rfl, ?_⟩, trivial⟩
        · refine HP.one ?_
          refine H1.call0 (vs := [zv y1, zv 30]) rfl rfl (fun w' _ => pick20_fn y1 30 w1.1 w1.2 (by decide) w') ?_
          apply HB.fold
          refine HB.all (by repeat (first | exact Keep.nil | refine Keep.blk (by (repeat (first | exact List.Mem.head _ | apply List.Mem.tail)); done) rfl ?_ | refine Keep.grow (by (repeat (first | exact List.Mem.head _ | apply List.Mem.tail)); done) (by assumption) ?_ | refine Keep.base (by assumption) ?_)) [15, 18] (by kernel_rfl) rfl ⟨⟨_, rfl, ?_⟩, ⟨_, rfl, ?_⟩, trivial⟩
          · refine HP.one ?_
            refine H1.call0 (vs := [zv (y1.tdiv 30), zv 7]) rfl rfl (fun w' _ => pick20_fn (y1.tdiv 30) 7 u1.1 u1.2 (by decide) w') ?_
            apply HB.fold
            refine HB.pa 16 rfl ?_
            refine HB.pa (v := recV r0) 17 rfl ?_ (by rw [hr0]; exact POp.build (cs := rcells ⟨1 + pickI21 y0 8, 0, 1 + pickI21 (y0.tdiv 8) 3, pickI21 y1 30, decide (pickI21 (y1.tdiv 30) 7 = 0), 0, 0, 0, 0, 0, 0, 0, false, 0, ByteArray.mk #[]⟩) rfl rfl)
            refine HB.all (by repeat (first | exact Keep.nil | refine Keep.blk (by (repeat (first | exact List.Mem.head _ | apply List.Mem.tail)); done) rfl ?_ | refine Keep.grow (by (repeat (first | exact List.Mem.head _ | apply List.Mem.tail)); done) (by assumption) ?_ | refine Keep.base (by assumption) ?_)) [18] (by kernel_rfl) rfl ⟨⟨_, rfl, ?_⟩, trivial⟩
            refine HP.one ?_
            refine H1.alloc (cs := rcells rcZ) rfl rfl (fun b6 => ?_)
            apply HB.fold
            refine HB.all (by repeat (first | exact Keep.nil | refine Keep.blk (by (repeat (first | exact List.Mem.head _ | apply List.Mem.tail)); done) rfl ?_ | refine Keep.grow (by (repeat (first | exact List.Mem.head _ | apply List.Mem.tail)); done) (by assumption) ?_ | refine Keep.base (by assumption) ?_)) [19] (by kernel_rfl) rfl ⟨⟨_, rfl, ?_⟩, trivial⟩
            refine HP.one ?_
            refine H1.stAgg (cs := rcells rcZ) (vs := rcells r0) rfl rfl rfl (rcells_one _) rplA rfl ?_
            apply HB.fold
            refine HB.done (by repeat (first | exact Keep.nil | refine Keep.blk (by (repeat (first | exact List.Mem.head _ | apply List.Mem.tail)); done) rfl ?_ | refine Keep.grow (by (repeat (first | exact List.Mem.head _ | apply List.Mem.tail)); done) (by assumption) ?_ | refine Keep.base (by assumption) ?_)) (by kernel_rfl) ?_
            exact HX.cut b6 trivial esA (by repeat (first | exact Hs.nil _ | (refine Hs.cons pickA ?_)))
          · refine HP.one ?_
            refine H1.alloc (cs := rcells rcZ) rfl rfl (fun b6 => ?_)
            apply HB.fold
            refine HB.all (by repeat (first | exact Keep.nil | refine Keep.blk (by (repeat (first | exact List.Mem.head _ | apply List.Mem.tail)); done) rfl ?_ | refine Keep.grow (by (repeat (first | exact List.Mem.head _ | apply List.Mem.tail)); done) (by assumption) ?_ | refine Keep.base (by assumption) ?_)) [15] (by kernel_rfl) rfl ⟨⟨_, rfl, ?_⟩, trivial⟩
            refine HP.one ?_
            refine H1.call0 (vs := [zv (y1.tdiv 30), zv 7]) rfl rfl (fun w' _ => pick20_fn (y1.tdiv 30) 7 u1.1 u1.2 (by decide) w') ?_
            apply HB.fold
            refine HB.pa 16 rfl ?_
            refine HB.pa (v := recV r0) 17 rfl ?_ (by rw [hr0]; exact POp.build (cs := rcells ⟨1 + pickI21 y0 8, 0, 1 + pickI21 (y0.tdiv 8) 3, pickI21 y1 30, decide (pickI21 (y1.tdiv 30) 7 = 0), 0, 0, 0, 0, 0, 0, 0, false, 0, ByteArray.mk #[]⟩) rfl rfl)
            refine HB.all (by repeat (first | exact Keep.nil | refine Keep.blk (by (repeat (first | exact List.Mem.head _ | apply List.Mem.tail)); done) rfl ?_ | refine Keep.grow (by (repeat (first | exact List.Mem.head _ | apply List.Mem.tail)); done) (by assumption) ?_ | refine Keep.base (by assumption) ?_)) [19] (by kernel_rfl) rfl ⟨⟨_, rfl, ?_⟩, trivial⟩
            refine HP.one ?_
            refine H1.stAgg (cs := rcells rcZ) (vs := rcells r0) rfl rfl rfl (rcells_one _) rplA rfl ?_
            apply HB.fold
            refine HB.done (by repeat (first | exact Keep.nil | refine Keep.blk (by (repeat (first | exact List.Mem.head _ | apply List.Mem.tail)); done) rfl ?_ | refine Keep.grow (by (repeat (first | exact List.Mem.head _ | apply List.Mem.tail)); done) (by assumption) ?_ | refine Keep.base (by assumption) ?_)) (by kernel_rfl) ?_
            exact HX.cut b6 trivial esA (by repeat (first | exact Hs.nil _ | (refine Hs.cons pickA ?_)))
        · refine HP.one ?_
          refine H1.alloc (cs := rcells rcZ) rfl rfl (fun b6 => ?_)
          apply HB.fold
          refine HB.all (by repeat (first | exact Keep.nil | refine Keep.blk (by (repeat (first | exact List.Mem.head _ | apply List.Mem.tail)); done) rfl ?_ | refine Keep.grow (by (repeat (first | exact List.Mem.head _ | apply List.Mem.tail)); done) (by assumption) ?_ | refine Keep.base (by assumption) ?_)) [11] (by kernel_rfl) rfl ⟨⟨_, rfl, ?_⟩, trivial⟩
          refine HP.one ?_
          refine H1.call0 (vs := [zv y1, zv 30]) rfl rfl (fun w' _ => pick20_fn y1 30 w1.1 w1.2 (by decide) w') ?_
          apply HB.fold
          refine HB.all (by repeat (first | exact Keep.nil | refine Keep.blk (by (repeat (first | exact List.Mem.head _ | apply List.Mem.tail)); done) rfl ?_ | refine Keep.grow (by (repeat (first | exact List.Mem.head _ | apply List.Mem.tail)); done) (by assumption) ?_ | refine Keep.base (by assumption) ?_)) [15] (by kernel_rfl) rfl ⟨⟨_, rfl, ?_⟩, trivial⟩
          refine HP.one ?_
          refine H1.call0 (vs := [zv (y1.tdiv 30), zv 7]) rfl rfl (fun w' _ => pick20_fn (y1.tdiv 30) 7 u1.1 u1.2 (by decide) w') ?_
          apply HB.fold
          refine HB.pa 16 rfl ?_
          refine HB.pa (v := recV r0) 17 rfl ?_ (by rw [hr0]; exact POp.build (cs := rcells ⟨1 + pickI21 y0 8, 0, 1 + pickI21 (y0.tdiv 8) 3, pickI21 y1 30, decide (pickI21 (y1.tdiv 30) 7 = 0), 0, 0, 0, 0, 0, 0, 0, false, 0, ByteArray.mk #[]⟩) rfl rfl)
          refine HB.all (by repeat (first | exact Keep.nil | refine Keep.blk (by (repeat (first | exact List.Mem.head _ | apply List.Mem.tail)); done) rfl ?_ | refine Keep.grow (by (repeat (first | exact List.Mem.head _ | apply List.Mem.tail)); done) (by assumption) ?_ | refine Keep.base (by assumption) ?_)) [19] (by kernel_rfl) rfl ⟨⟨_, rfl, ?_⟩, trivial⟩
          refine HP.one ?_
          refine H1.stAgg (cs := rcells rcZ) (vs := rcells r0) rfl rfl rfl (rcells_one _) rplA rfl ?_
          apply HB.fold
          refine HB.done (by repeat (first | exact Keep.nil | refine Keep.blk (by (repeat (first | exact List.Mem.head _ | apply List.Mem.tail)); done) rfl ?_ | refine Keep.grow (by (repeat (first | exact List.Mem.head _ | apply List.Mem.tail)); done) (by assumption) ?_ | refine Keep.base (by assumption) ?_)) (by kernel_rfl) ?_
          exact HX.cut b6 trivial esA (by repeat (first | exact Hs.nil _ | (refine Hs.cons pickA ?_)))
      · refine HP.one ?_
        refine H1.alloc (cs := rcells rcZ) rfl rfl (fun b6 => ?_)
        apply HB.fold
        refine HB.all (by repeat (first | exact Keep.nil | refine Keep.blk (by (repeat (first | exact List.Mem.head _ | apply List.Mem.tail)); done) rfl ?_ | refine Keep.grow (by (repeat (first | exact List.Mem.head _ | apply List.Mem.tail)); done) (by assumption) ?_ | refine Keep.base (by assumption) ?_)) [7] (by kernel_rfl) rfl ⟨⟨_, rfl, ?_⟩, trivial⟩
        refine HP.one ?_
        refine H1.call0 (vs := [zv (y0.tdiv 8), zv 3]) rfl rfl (fun w' _ => pick20_fn (y0.tdiv 8) 3 u0.1 u0.2 (by decide) w') ?_
        apply HB.fold
        refine HB.pa 8 rfl ?_
        refine HB.all (by repeat (first | exact Keep.nil | refine Keep.blk (by (repeat (first | exact List.Mem.head _ | apply List.Mem.tail)); done) rfl ?_ | refine Keep.grow (by (repeat (first | exact List.Mem.head _ | apply List.Mem.tail)); done) (by assumption) ?_ | refine Keep.base (by assumption) ?_)) [11] (by kernel_rfl) rfl ⟨⟨_, rfl, ?_⟩, trivial⟩
        refine HP.one ?_
        refine H1.call0 (vs := [zv y1, zv 30]) rfl rfl (fun w' _ => pick20_fn y1 30 w1.1 w1.2 (by decide) w') ?_
        apply HB.fold
        refine HB.all (by repeat (first | exact Keep.nil | refine Keep.blk (by (repeat (first | exact List.Mem.head _ | apply List.Mem.tail)); done) rfl ?_ | refine Keep.grow (by (repeat (first | exact List.Mem.head _ | apply List.Mem.tail)); done) (by assumption) ?_ | refine Keep.base (by assumption) ?_)) [15] (by kernel_rfl) rfl ⟨⟨_, rfl, ?_⟩, trivial⟩
        refine HP.one ?_
        refine H1.call0 (vs := [zv (y1.tdiv 30), zv 7]) rfl rfl (fun w' _ => pick20_fn (y1.tdiv 30) 7 u1.1 u1.2 (by decide) w') ?_
        apply HB.fold
        refine HB.pa 16 rfl ?_
        refine HB.pa (v := recV r0) 17 rfl ?_ (by rw [hr0]; exact POp.build (cs := rcells ⟨1 + pickI21 y0 8, 0, 1 + pickI21 (y0.tdiv 8) 3, pickI21 y1 30, decide (pickI21 (y1.tdiv 30) 7 = 0), 0, 0, 0, 0, 0, 0, 0, false, 0, ByteArray.mk #[]⟩) rfl rfl)
        refine HB.all (by repeat (first | exact Keep.nil | refine Keep.blk (by (repeat (first | exact List.Mem.head _ | apply List.Mem.tail)); done) rfl ?_ | refine Keep.grow (by (repeat (first | exact List.Mem.head _ | apply List.Mem.tail)); done) (by assumption) ?_ | refine Keep.base (by assumption) ?_)) [19] (by kernel_rfl) rfl ⟨⟨_, rfl, ?_⟩, trivial⟩
        refine HP.one ?_
        refine H1.stAgg (cs := rcells rcZ) (vs := rcells r0) rfl rfl rfl (rcells_one _) rplA rfl ?_
        apply HB.fold
        refine HB.done (by repeat (first | exact Keep.nil | refine Keep.blk (by (repeat (first | exact List.Mem.head _ | apply List.Mem.tail)); done) rfl ?_ | refine Keep.grow (by (repeat (first | exact List.Mem.head _ | apply List.Mem.tail)); done) (by assumption) ?_ | refine Keep.base (by assumption) ?_)) (by kernel_rfl) ?_
        exact HX.cut b6 trivial esA (by repeat (first | exact Hs.nil _ | (refine Hs.cons pickA ?_)))
    · refine HP.one ?_
      refine H1.alloc (cs := rcells rcZ) rfl rfl (fun b6 => ?_)
      apply HB.fold
      refine HB.all (by repeat (first | exact Keep.nil | refine Keep.blk (by (repeat (first | exact List.Mem.head _ | apply List.Mem.tail)); done) rfl ?_ | refine Keep.grow (by (repeat (first | exact List.Mem.head _ | apply List.Mem.tail)); done) (by assumption) ?_ | refine Keep.base (by assumption) ?_)) [2] (by kernel_rfl) rfl ⟨⟨_, rfl, ?_⟩, trivial⟩
      refine HP.one ?_
      refine H1.call0 (vs := [zv y0, zv 8]) rfl rfl (fun w' _ => pick20_fn y0 8 w0.1 w0.2 (by decide) w') ?_
      apply HB.fold
      refine HB.pa 3 rfl ?_
      refine HB.all (by repeat (first | exact Keep.nil | refine Keep.blk (by (repeat (first | exact List.Mem.head _ | apply List.Mem.tail)); done) rfl ?_ | refine Keep.grow (by (repeat (first | exact List.Mem.head _ | apply List.Mem.tail)); done) (by assumption) ?_ | refine Keep.base (by assumption) ?_)) [7] (by kernel_rfl) rfl ⟨⟨_, rfl, ?_⟩, trivial⟩
      refine HP.one ?_
      refine H1.call0 (vs := [zv (y0.tdiv 8), zv 3]) rfl rfl (fun w' _ => pick20_fn (y0.tdiv 8) 3 u0.1 u0.2 (by decide) w') ?_
      apply HB.fold
      refine HB.pa 8 rfl ?_
      refine HB.all (by repeat (first | exact Keep.nil | refine Keep.blk (by (repeat (first | exact List.Mem.head _ | apply List.Mem.tail)); done) rfl ?_ | refine Keep.grow (by (repeat (first | exact List.Mem.head _ | apply List.Mem.tail)); done) (by assumption) ?_ | refine Keep.base (by assumption) ?_)) [11] (by kernel_rfl) rfl ⟨⟨_, rfl, ?_⟩, trivial⟩
      refine HP.one ?_
      refine H1.call0 (vs := [zv y1, zv 30]) rfl rfl (fun w' _ => pick20_fn y1 30 w1.1 w1.2 (by decide) w') ?_
      apply HB.fold
      refine HB.all (by repeat (first | exact Keep.nil | refine Keep.blk (by (repeat (first | exact List.Mem.head _ | apply List.Mem.tail)); done) rfl ?_ | refine Keep.grow (by (repeat (first | exact List.Mem.head _ | apply List.Mem.tail)); done) (by assumption) ?_ | refine Keep.base (by assumption) ?_)) [15] (by kernel_rfl) rfl ⟨⟨_, rfl, ?_⟩, trivial⟩
      refine HP.one ?_
      refine H1.call0 (vs := [zv (y1.tdiv 30), zv 7]) rfl rfl (fun w' _ => pick20_fn (y1.tdiv 30) 7 u1.1 u1.2 (by decide) w') ?_
      apply HB.fold
      refine HB.pa 16 rfl ?_
      refine HB.pa (v := recV r0) 17 rfl ?_ (by rw [hr0]; exact POp.build (cs := rcells ⟨1 + pickI21 y0 8, 0, 1 + pickI21 (y0.tdiv 8) 3, pickI21 y1 30, decide (pickI21 (y1.tdiv 30) 7 = 0), 0, 0, 0, 0, 0, 0, 0, false, 0, ByteArray.mk #[]⟩) rfl rfl)
      refine HB.all (by repeat (first | exact Keep.nil | refine Keep.blk (by (repeat (first | exact List.Mem.head _ | apply List.Mem.tail)); done) rfl ?_ | refine Keep.grow (by (repeat (first | exact List.Mem.head _ | apply List.Mem.tail)); done) (by assumption) ?_ | refine Keep.base (by assumption) ?_)) [19] (by kernel_rfl) rfl ⟨⟨_, rfl, ?_⟩, trivial⟩
      refine HP.one ?_
      refine H1.stAgg (cs := rcells rcZ) (vs := rcells r0) rfl rfl rfl (rcells_one _) rplA rfl ?_
      apply HB.fold
      refine HB.done (by repeat (first | exact Keep.nil | refine Keep.blk (by (repeat (first | exact List.Mem.head _ | apply List.Mem.tail)); done) rfl ?_ | refine Keep.grow (by (repeat (first | exact List.Mem.head _ | apply List.Mem.tail)); done) (by assumption) ?_ | refine Keep.base (by assumption) ?_)) (by kernel_rfl) ?_
      exact HX.cut b6 trivial esA (by repeat (first | exact Hs.nil _ | (refine Hs.cons pickA ?_)))
  rintro b6 -
  clear hr0 q0 q1 q2 u0 u1
  refine hwV4 ?_
  refine HL.one (H1.callz1 (α := Nat) (V := fun b => .slice (some ⟨b, 0, none⟩) (specF r0.kind).length (specF r0.kind).length) (An := fun b => A.blk b (ints (fldN r0.kind)) 3) (I := fun _ => True) (vs := [zv r0.kind]) rfl rfl (fun w' _ => Fields_fn r0.kind hS0.kind w') ?_)
  rintro bf -
  have hK := hS0.kind
  obtain ⟨K, hKe⟩ : ∃ K, K = r0.kind := ⟨_, rfl⟩
  rw [← hKe] at hK ⊢
  unfold fldN
  obtain ⟨L, hL⟩ : ∃ L, L = specF K := ⟨_, rfl⟩
  rw [← hL]
  have hnd : (L.map Prod.fst).Nodup := by rw [hL]; exact spec_nodup K
  have hL8 : L.length ≤ 8 := by rw [hL]; exact spec_len K
  refine hwV4 ?_
  refine HC.loop (α := Nat × Rc) (fun z => [(0, .slice (some ⟨b1, off, none⟩) rows.length c0), (3, .slice a l.length c), (4, zv (i : Int)), (5, .pointer (some ⟨b5, 0, none⟩)), (6, .pointer (some ⟨b6, 0, none⟩)), (7, .slice (some ⟨bf, 0, none⟩) L.length L.length), (8, zv (z.1 : Int))])
    (fun z => [A.blk b6 (rcells z.2) 36, A.blk bf (ints (L.map fun p => (p.1 : Int))) 3, A.blk b5 (ints [y0, y1, y2, y3, y4, y5]) 82, A.grow 36 15 a c l.length (rcl l)])
    (fun z => z.1 ≤ L.length ∧ z.2.kind = K ∧ SomeI (L.take z.1) z.2) (fun z => L.length - z.1) (0, r0) ⟨Nat.zero_le _, hKe.symm, by rw [List.take_zero]; exact hS0⟩ esA (by repeat (first | exact Hs.nil _ | (refine Hs.cons pickA ?_))) ?_
  clear hKe hS0 r0
  rintro ⟨k, r⟩ ⟨hk, hrk, hS⟩
  dsimp only at hk hrk hS ⊢
  by_cases hkl : k < L.length
  · obtain ⟨p, hp⟩ : ∃ p, L[k]? = some p := ⟨_, List.getElem?_eq_getElem hkl⟩
    have hpm : p ∈ specF K := hL ▸ List.mem_of_getElem? hp
    have htk : L.take (k + 1) = L.take k ++ [p] := by rw [List.take_add_one, hp]; rfl
    have hno := getter_no hnd hp
    have hone : p.1 = 1 → 2 ∉ (L.take k).map Prod.fst := fun e => by
      have := spec_one (k := K) (j := k) (p := p) (by rw [← hL]; exact hp) e
      rwa [← hL] at this
    have hp10 := (spec_lo hpm).2
    have hsn := spec_n hpm
    have hl10 : ∀ q ∈ L.take k, q.1 < 10 := fun q hq => (spec_lo (hL ▸ List.mem_of_mem_take hq)).2
    have hstep := fun (n : Int) a1 a2 a3 a4 => hS.step (p := p) hp10 hno (n := n) a1 a2 a3 a4 hl10
    rw [← htk] at hstep
    have hlim := fun w' => Limits_fn K hK p hpm w'
    have hget : (ints (L.map fun p => (p.1 : Int)))[k]? = some (zv (p.1 : Int)) := by
      unfold ints
      rw [List.map_map, List.getElem?_map, hp]; rfl
    have hlo := (spec_lo hpm).1
    have hhi := spec_hi hpm
    obtain ⟨q, lo, hi⟩ := p
    dsimp only at hp10 hsn hstep hlim hget hlo hhi hone
    have hst := hS.start
    have hkb : (k : Int) < 8 := by omega
    refine hwV4 ?_
    refine HC.cut (α := Unit) (fun _ => [(0, .slice (some ⟨b1, off, none⟩) rows.length c0), (3, .slice a l.length c), (4, zv (i : Int)), (5, .pointer (some ⟨b5, 0, none⟩)), (6, .pointer (some ⟨b6, 0, none⟩)), (7, .slice (some ⟨bf, 0, none⟩) L.length L.length), (8, zv (k : Int)), (9, zv lo)]) (fun _ => [A.blk b6 (rcells r) 36, A.blk bf (ints (L.map fun p => (p.1 : Int))) 3, A.blk b5 (ints [y0, y1, y2, y3, y4, y5]) 82, A.grow 36 15 a c l.length (rcl l)]) (fun _ => True) ?_ ?_
    · refine HC.any rfl ?_
      refine HA.pa 0 rfl ?_
      refine HA.pa 2 rfl ?_
      refine HA.pa 3 rfl ?_
      refine HA.pa 4 rfl ?_
      refine HA.all [1, 5] (by kernel_rfl) rfl ⟨⟨_, rfl, ?_⟩, ⟨_, rfl, ?_⟩, trivial⟩
      · refine HO.one ?_
        refine H1.ldb (v := zv K) (cs := rcells r) rfl memA (by rw [← hrk]; rfl) rfl ?_
        apply HA.fold
        refine HA.all [5] (by kernel_rfl) rfl ⟨⟨_, rfl, ?_⟩, trivial⟩
        refine HO.one ?_
        refine H1.ldb (v := zv (q : Int)) (cs := ints (L.map fun p => (p.1 : Int))) rfl memA hget rfl ?_
        apply HA.fold
        refine HA.all [6] (by kernel_rfl) rfl ⟨⟨_, rfl, ?_⟩, trivial⟩
        refine HO.one ?_
        refine H1.callx (vs := [zv K, zv (q : Int)]) rfl rfl (fun w' _ => hlim w') ?_
        apply HA.fold
        refine HA.pa 7 rfl ?_
        refine HA.pa 8 rfl ?_
        refine HA.pa 9 rfl ?_
        refine HA.pa 10 rfl ?_
        refine HA.pa 11 rfl ?_
        refine HA.done (by kernel_rfl) ?_
        exact HX.cut () trivial esA (by repeat (first | exact Hs.nil _ | (refine Hs.cons pickA ?_)))
      · refine HO.one ?_
        refine H1.ldb (v := zv (q : Int)) (cs := ints (L.map fun p => (p.1 : Int))) rfl memA hget rfl ?_
        apply HA.fold
        refine HA.all [1] (by kernel_rfl) rfl ⟨⟨_, rfl, ?_⟩, trivial⟩
        refine HO.one ?_
        refine H1.ldb (v := zv K) (cs := rcells r) rfl memA (by rw [← hrk]; rfl) rfl ?_
        apply HA.fold
        refine HA.all [6] (by kernel_rfl) rfl ⟨⟨_, rfl, ?_⟩, trivial⟩
        refine HO.one ?_
        refine H1.callx (vs := [zv K, zv (q : Int)]) rfl rfl (fun w' _ => hlim w') ?_
        apply HA.fold
        refine HA.pa 7 rfl ?_
        refine HA.pa 8 rfl ?_
        refine HA.pa 9 rfl ?_
        refine HA.pa 10 rfl ?_
        refine HA.pa 11 rfl ?_
        refine HA.done (by kernel_rfl) ?_
        exact HX.cut () trivial esA (by repeat (first | exact Hs.nil _ | (refine Hs.cons pickA ?_)))
    rintro - -
    refine hbV4 ?_
    refine HL.pa ?_ (POp.shrI (b := 2 * k) rfl rfl (by push_cast; rfl) (by omega))
    have v2 := w2.shr (2 * k)
    generalize y2 / 2 ^ (2 * k) = s2 at v2 ⊢
    refine hbV4 ?_
    refine HL.one (H1.call0 (vs := [zv s2, zv 4]) rfl rfl (fun w' _ => pick20_fn s2 4 v2.1 v2.2 (by decide) w') ?_)
    have qq := pickI21_lt s2 (n := 4) (by decide)
    generalize pickI21 s2 4 = g at qq ⊢
    refine hbV4 ?_
    refine HL.one (H1.ldb (v := zv (q : Int)) (cs := ints (L.map fun p => (p.1 : Int))) rfl memA hget rfl ?_)
    refine hbV4 ?_
    refine HC.cut (α := Int) (fun n => [(0, .slice (some ⟨b1, off, none⟩) rows.length c0), (3, .slice a l.length c), (4, zv (i : Int)), (5, .pointer (some ⟨b5, 0, none⟩)), (6, .pointer (some ⟨b6, 0, none⟩)), (7, .slice (some ⟨bf, 0, none⟩) L.length L.length), (8, zv (k : Int)), (11, zv n)]) (fun _ => [A.blk b6 (rcells r) 36, A.blk bf (ints (L.map fun p => (p.1 : Int))) 3, A.blk b5 (ints [y0, y1, y2, y3, y4, y5]) 82, A.grow 36 15 a c l.length (rcl l)]) (fun n => (lo ≤ n ∧ n ≤ hi) ∧ (q = 8 → n = 0 ∨ n = 1) ∧ (q = 1 → (0 ≤ n ∧ n ≤ 39) ∧ 2 ∉ (L.take k).map Prod.fst) ∧ (q = 2 → r.start ≤ n)) ?_ ?_
    · by_cases e0 : q = 0
      · have e0' : (q : Int) = 0 := by omega
        refine hwV4 ?_
        refine HL.one (H1.call0 (vs := [zv y3, zv 9]) rfl rfl (fun w' _ => pick20_fn y3 9 w3.1 w3.2 (by decide) w') ?_)
        have qn := pickI21_lt y3 (n := 9) (by decide)
        generalize pickI21 y3 9 = n0 at qn ⊢
        refine hwV4 ?_
        exact HX.cut (1 + n0) ⟨⟨by have := (hsn.1 e0).1; omega, by have := (hsn.1 e0).2; omega⟩, by omega, by omega, by omega⟩ esA (by repeat (first | exact Hs.nil _ | (refine Hs.cons pickA ?_)))
      have e0' : ¬ (q : Int) = 0 := by omega
      by_cases e1 : q = 1
      · have e1' : (q : Int) = 1 := by omega
        refine hwV4 ?_
        refine HL.one (H1.call0 (vs := [zv y4, zv 40]) rfl rfl (fun w' _ => pick20_fn y4 40 w4.1 w4.2 (by decide) w') ?_)
        have qn := pickI21_lt y4 (n := 40) (by decide)
        generalize pickI21 y4 40 = n0 at qn ⊢
        refine hwV4 ?_
        exact HX.cut n0 ⟨⟨by have := (hsn.2.1 e1).1; omega, by have := (hsn.2.1 e1).2; omega⟩, by omega, fun _ => ⟨by omega, hone e1⟩, by omega⟩ esA (by repeat (first | exact Hs.nil _ | (refine Hs.cons pickA ?_)))
      have e1' : ¬ (q : Int) = 1 := by omega
      by_cases e2 : q = 2
      · have e2' : (q : Int) = 2 := by omega
        have qn := pickI21_lt y5 (n := 30) (by decide)
        refine hwV4 ?_
        refine HC.anyC ([(⟨b6, 5, none⟩, zv r.start), (⟨b5, 5, none⟩, zv y5)]) rfl ?_
        refine HB.pa 0 rfl ?_
        refine HB.ld 1 rfl rfl memD ?_
        refine HB.pa 2 rfl ?_
        refine HB.ld 3 rfl rfl memD ?_
        refine HB.all (by repeat (first | exact Keep.nil | refine Keep.blk (by (repeat (first | exact List.Mem.head _ | apply List.Mem.tail)); done) rfl ?_ | refine Keep.grow (by (repeat (first | exact List.Mem.head _ | apply List.Mem.tail)); done) (by assumption) ?_ | refine Keep.base (by assumption) ?_)) [4] (by kernel_rfl) rfl ⟨⟨_, rfl, ?_⟩, trivial⟩
        refine HP.one ?_
        refine H1.call0 (vs := [zv y5, zv 30]) rfl rfl (fun w' _ => pick20_fn y5 30 w5.1 w5.2 (by decide) w') ?_
        apply HB.fold
        refine HB.pa 5 rfl ?_
        refine HB.pa 6 rfl ?_
        refine HB.done (by repeat (first | exact Keep.nil | refine Keep.blk (by (repeat (first | exact List.Mem.head _ | apply List.Mem.tail)); done) rfl ?_ | refine Keep.grow (by (repeat (first | exact List.Mem.head _ | apply List.Mem.tail)); done) (by assumption) ?_ | refine Keep.base (by assumption) ?_)) (by kernel_rfl) ?_
        refine hwV4 ?_
        exact HX.cut (r.start + pickI21 y5 30) ⟨⟨by have := (hsn.2.2.1 e2).1; omega, by have := (hsn.2.2.1 e2).2; omega⟩, by omega, by omega, by omega⟩ esA (by repeat (first | exact Hs.nil _ | (refine Hs.cons pickA ?_)))
      have e2' : ¬ (q : Int) = 2 := by omega
      by_cases e8 : q = 8
      · have e8' : (q : Int) = 8 := by omega
        have u5 := w5.tdiv (n := 30) (by decide)
        refine hwV4 ?_
        refine HL.pa ?_ (POp.quoT rfl rfl w5.1 w5.2 (by decide))
        refine hwV4 ?_
        refine HL.one (H1.call0 (vs := [zv (y5.tdiv 30), zv 2]) rfl rfl (fun w' _ => pick20_fn (y5.tdiv 30) 2 u5.1 u5.2 (by decide) w') ?_)
        have qn := pickI21_lt (y5.tdiv 30) (n := 2) (by decide)
        generalize pickI21 (y5.tdiv 30) 2 = n0 at qn ⊢
        refine hwV4 ?_
        exact HX.cut n0 ⟨⟨by have := (hsn.2.2.2.1 e8).1; omega, by have := (hsn.2.2.2.1 e8).2; omega⟩, by omega, by omega, by omega⟩ esA (by repeat (first | exact Hs.nil _ | (refine Hs.cons pickA ?_)))
      have e8' : ¬ (q : Int) = 8 := by omega
      refine hwV4 ?_
      exact HX.cut (lo + g) ⟨⟨by omega, by have := hsn.2.2.2.2 e8; omega⟩, by omega, by omega, by omega⟩ esA (by repeat (first | exact Hs.nil _ | (refine Hs.cons pickA ?_)))
    rintro n ⟨n1, n2, n3, n4⟩
    have hS' := hstep n n1 n2 n3 n4
    have hk' : (r.setF q n).kind = K := by rw [(setF_same r q n).1]; exact hrk
    refine hwV4 ?_
    refine HC.any rfl ?_
    refine HA.pa 1 rfl ?_
    refine HA.pa 2 rfl ?_
    refine HA.pa 3 rfl ?_
    refine HA.pa 5 rfl ?_
    refine HA.all [0, 4] (by kernel_rfl) rfl ⟨⟨_, rfl, ?_⟩, ⟨_, rfl, ?_⟩, trivial⟩
    · refine HO.one ?_
      refine H1.ldAgg (vs := rcells r) rfl memA rfl (fun i v hv => by simp only [Nat.zero_add]; exact hv) rfl ?_
      apply HA.fold
      refine HA.all [4] (by kernel_rfl) rfl ⟨⟨_, rfl, ?_⟩, trivial⟩
      refine HO.one ?_
      refine H1.ldb (v := zv (q : Int)) (cs := ints (L.map fun p => (p.1 : Int))) rfl memA hget rfl ?_
      apply HA.fold
      refine HA.all [6] (by kernel_rfl) rfl ⟨⟨_, rfl, ?_⟩, trivial⟩
      refine HO.one ?_
      refine H1.callx (vs := [recV r, zv (q : Int), zv n]) rfl rfl (fun w' _ => Set_fn r q hp10 n w') ?_
      apply HA.fold
      refine HA.all [7] (by kernel_rfl) rfl ⟨⟨_, rfl, ?_⟩, trivial⟩
      refine HO.one ?_
      refine H1.stAgg (cs := rcells r) (vs := rcells (r.setF q n)) rfl rfl rfl (rcells_one _) rplA rfl ?_
      apply HA.fold
      refine HA.done (by kernel_rfl) ?_
      refine hwV4 ?_
      exact HX.again (k + 1, r.setF q n) ⟨hkl, hk', hS'⟩ (by show L.length - (k + 1) < L.length - k; omega) esA (by repeat (first | exact Hs.nil _ | (refine Hs.cons pickA ?_)))
    · refine HO.one ?_
      refine H1.ldb (v := zv (q : Int)) (cs := ints (L.map fun p => (p.1 : Int))) rfl memA hget rfl ?_
      apply HA.fold
      refine HA.all [0] (by kernel_rfl) rfl ⟨⟨_, rfl, ?_⟩, trivial⟩
      refine HO.one ?_
      refine H1.ldAgg (vs := rcells r) rfl memA rfl (fun i v hv => by simp only [Nat.zero_add]; exact hv) rfl ?_
      apply HA.fold
      refine HA.all [6] (by kernel_rfl) rfl ⟨⟨_, rfl, ?_⟩, trivial⟩
      refine HO.one ?_
      refine H1.callx (vs := [recV r, zv (q : Int), zv n]) rfl rfl (fun w' _ => Set_fn r q hp10 n w') ?_
      apply HA.fold
      refine HA.all [7] (by kernel_rfl) rfl ⟨⟨_, rfl, ?_⟩, trivial⟩
      refine HO.one ?_
      refine H1.stAgg (cs := rcells r) (vs := rcells (r.setF q n)) rfl rfl rfl (rcells_one _) rplA rfl ?_
      apply HA.fold
      refine HA.done (by kernel_rfl) ?_
      refine hwV4 ?_
      exact HX.again (k + 1, r.setF q n) ⟨hkl, hk', hS'⟩ (by show L.length - (k + 1) < L.length - k; omega) esA (by repeat (first | exact Hs.nil _ | (refine Hs.cons pickA ?_)))
  obtain rfl : k = L.length := by omega
  rw [List.take_length] at hS
  have hS9 : SomeI (specF r.kind) r := by rw [hrk, ← hL]; exact hS
  clear hS hrk hk hkl hnd hL8 hL
  by_cases c2 : r.kind = 2
  · by_cases c3 : r.clause = r.party
    · refine hwV4 ?_
      refine HL.one (H1.st (b := b6) rfl rfl (by intro _ h; cases h) (by intro _ h; cases h) rplA (of_decide_eq_true rfl) ?_)
      refine hwV4 ?_
      refine HL.one (H1.ldAgg (vs := rcells (r.setF 9 0)) rfl memA rfl (fun i v hv => by simp only [Nat.zero_add]; exact hv) rfl ?_)
      refine hwV4 ?_
      refine HL.one (H1.lit (cs := rcells (r.setF 9 0)) rfl rfl rfl rfl rfl rfl (fun b8 => ?_))
      refine hwV4 ?_
      refine HL.one (H1.app (e := 36) (sz := 15) (m := 1) (n := l.length) (a := a) (c := c) (xs := rcl l) (news := rcells (r.setF 9 0)) rfl (by decide) rfl rfl (fun a' c' => by first | ((repeat (first | with_reducible exact Rpl.here | with_reducible apply Rpl.there)); done) | (repeat (first | exact Rpl.here | apply Rpl.there))) rfl (fun w hM j u hu => by rw [add_lit, Nat.zero_add]; exact (hM.blk memA).cell hu) (rcells_one _) (by omega) (by decide) rfl (fun a' c' _ => ?_))
      refine hwV4 ?_
      exact HX.again (i + 1, l ++ [(r.setF 9 0)], a', c') ⟨by show i + 1 ≤ rows.length; omega, by show i + 1 ≤ 30; omega, by show (l ++ [(r.setF 9 0)]).length = i + 1; rw [List.length_append, hll]; rfl, hsnoc (r.setF 9 0) (hS9.done2 c2)⟩ (by show 30 - (i + 1) < 30 - i; omega) (by show Env.sub _ [(0, .slice (some ⟨b1, off, none⟩) rows.length c0), (3, .slice a' (l ++ [(r.setF 9 0)]).length c'), (4, zv ((i + 1 : Nat) : Int))]; rw [List.length_append]; repeat (first | exact trivial | refine ⟨rfl, ?_⟩)) (by show Hs _ [A.grow 36 15 a' c' (l ++ [(r.setF 9 0)]).length (rcl (l ++ [(r.setF 9 0)]))]; rw [List.length_append, rcl_app, show rcl [(r.setF 9 0)] = rcells (r.setF 9 0) from List.append_nil _]; repeat (first | exact Hs.nil _ | (refine Hs.cons pickA ?_)))
    · refine hwV4 ?_
      refine HL.one (H1.ldAgg (vs := rcells r) rfl memA rfl (fun i v hv => by simp only [Nat.zero_add]; exact hv) rfl ?_)
      refine hwV4 ?_
      refine HL.one (H1.lit (cs := rcells r) rfl rfl rfl rfl rfl rfl (fun b8 => ?_))
      refine hwV4 ?_
      refine HL.one (H1.app (e := 36) (sz := 15) (m := 1) (n := l.length) (a := a) (c := c) (xs := rcl l) (news := rcells r) rfl (by decide) rfl rfl (fun a' c' => by first | ((repeat (first | with_reducible exact Rpl.here | with_reducible apply Rpl.there)); done) | (repeat (first | exact Rpl.here | apply Rpl.there))) rfl (fun w hM j u hu => by rw [add_lit, Nat.zero_add]; exact (hM.blk memA).cell hu) (rcells_one _) (by omega) (by decide) rfl (fun a' c' _ => ?_))
      refine hwV4 ?_
      exact HX.again (i + 1, l ++ [r], a', c') ⟨by show i + 1 ≤ rows.length; omega, by show i + 1 ≤ 30; omega, by show (l ++ [r]).length = i + 1; rw [List.length_append, hll]; rfl, hsnoc r (hS9.done fun _ => c3)⟩ (by show 30 - (i + 1) < 30 - i; omega) (by show Env.sub _ [(0, .slice (some ⟨b1, off, none⟩) rows.length c0), (3, .slice a' (l ++ [r]).length c'), (4, zv ((i + 1 : Nat) : Int))]; rw [List.length_append]; repeat (first | exact trivial | refine ⟨rfl, ?_⟩)) (by show Hs _ [A.grow 36 15 a' c' (l ++ [r]).length (rcl (l ++ [r]))]; rw [List.length_append, rcl_app, show rcl [r] = rcells r from List.append_nil _]; repeat (first | exact Hs.nil _ | (refine Hs.cons pickA ?_)))
  · refine hwV4 ?_
    refine HL.one (H1.ldAgg (vs := rcells r) rfl memA rfl (fun i v hv => by simp only [Nat.zero_add]; exact hv) rfl ?_)
    refine hwV4 ?_
    refine HL.one (H1.lit (cs := rcells r) rfl rfl rfl rfl rfl rfl (fun b8 => ?_))
    refine hwV4 ?_
    refine HL.one (H1.app (e := 36) (sz := 15) (m := 1) (n := l.length) (a := a) (c := c) (xs := rcl l) (news := rcells r) rfl (by decide) rfl rfl (fun a' c' => by first | ((repeat (first | with_reducible exact Rpl.here | with_reducible apply Rpl.there)); done) | (repeat (first | exact Rpl.here | apply Rpl.there))) rfl (fun w hM j u hu => by rw [add_lit, Nat.zero_add]; exact (hM.blk memA).cell hu) (rcells_one _) (by omega) (by decide) rfl (fun a' c' _ => ?_))
    refine hwV4 ?_
    exact HX.again (i + 1, l ++ [r], a', c') ⟨by show i + 1 ≤ rows.length; omega, by show i + 1 ≤ 30; omega, by show (l ++ [r]).length = i + 1; rw [List.length_append, hll]; rfl, hsnoc r (hS9.done fun h => absurd h c2)⟩ (by show 30 - (i + 1) < 30 - i; omega) (by show Env.sub _ [(0, .slice (some ⟨b1, off, none⟩) rows.length c0), (3, .slice a' (l ++ [r]).length c'), (4, zv ((i + 1 : Nat) : Int))]; rw [List.length_append]; repeat (first | exact trivial | refine ⟨rfl, ?_⟩)) (by show Hs _ [A.grow 36 15 a' c' (l ++ [r]).length (rcl (l ++ [r]))]; rw [List.length_append, rcl_app, show rcl [r] = rcells r from List.append_nil _]; repeat (first | exact Hs.nil _ | (refine Hs.cons pickA ?_)))
end Go.Sx
/- The top laws: what their walks need beside the functions. -/
namespace Go.Sx
open Go Go.Proofs Go.RowKit
theorem RcOk.of_validT {r : Rc} (h : ValidR r) : RcOk r := by
  have hg : ∀ i, i < 10 → i64W (r.get i) := fun i hi => by
    by_cases hm : i ∈ (specF r.kind).map Prod.fst
    · obtain ⟨p, hp, rfl⟩ := List.mem_map.1 hm
      have h1 := h.lim p hp
      have h2 := spec_hi hp
      have h3 := (spec_lo hp).1
      unfold i64W; omega
    · rw [h.zero i hi hm]; unfold i64W; omega
  have h1 := h.kind
  have h2 := h.ver
  have h3 := h.day
  have h4 := h.text
  exact ⟨by unfold i64W; omega, hg 0 (by decide), by unfold i64W; omega, by unfold i64W; omega, hg 1 (by decide), hg 2 (by decide), hg 3 (by decide), hg 4 (by decide), hg 5 (by decide), hg 6 (by decide), hg 7 (by decide), hg 9 (by decide), by simp only [maxLen]; omega⟩
theorem of_lenT {l : List Rc} {day k : Int} {L : List Rc} (h : IsOf l day k L) : L.length ≤ l.length :=
  nodup_len (h.asc.imp fun h e => by subst e; omega) fun r hr => ((h.mem r).1 hr).1.1.mem
theorem POp.beqT4 {P : Program} {N : Nat} {ds : List Deferred} {E : Env} {t t' ty : TypeId} {x y : Operand} {b c : Bool} [UTy P t .bool] (hx : Env.ev E x = some (.bool b)) (hy : Env.ev E y = some (.bool c)) (h : b = c) : POp P N ds E (.binOp .eql t x y t') ty (.bool true) := by
  subst h
  have e : (b == b) = true := by cases b <;> rfl
  rw [← e]; exact POp.beql hx hy
theorem POp.bneF4 {P : Program} {N : Nat} {ds : List Deferred} {E : Env} {t t' ty : TypeId} {x y : Operand} {b c : Bool} [h : UTy P t .bool] (hx : Env.ev E x = some (.bool b)) (hy : Env.ev E y = some (.bool c)) (e : b = c) :
    POp P N ds E (.binOp .neq t x y t') ty (.bool false) := (POp.bneq hx hy).of (by subst e; cases b <;> rfl)
theorem POp.geqN {P : Program} {N : Nat} {ds : List Deferred} {E : Env} {t t' ty : TypeId} {x y : Operand} {k : IntKind} {m n : Int} (hx : Env.ev E x = some (.int k m)) (hy : Env.ev E y = some (.int k n)) (h : ¬ n ≤ m) : POp P N ds E (.binOp .geq t x y t') ty (.bool false) := by
  rw [← decide_eq_false h]; exact POp.geq hx hy
theorem rowSlot_one {q : Nat → Slot} : ∀ v ∈ row 8 fun i => slot (q i), v.oneCell' = true := by
  intro v hv
  unfold row at hv
  obtain ⟨i, -, rfl⟩ := List.mem_map.1 hv
  rfl
/- the two layers -/
section
variable {P : Program} {r : Option Nat} {N : Nat} {ds : List Deferred} {Q : Post} {E : Env} {w0 : World} {H : List Atom} {c : Code} {e : Exit}
end
attribute [local irreducible] WC WL WX POp Then Again Fn NX W1 WA WO QL RP RA Yld LoopAt HC HL HX HN H1 HA HO HQ HB HP A.blk A.grow A.rd A.obj A.mp AgainH CutH
theorem tpick_fn (c n : Int) (h1 : -9223372036854775808 ≤ c) (h2 : c ≤ 9223372036854775807) (hn : 0 < n) (w : World) : Fn Tryz.prog 8 #[.int .i64 c, .int .i64 n] w fun v w' => v = .int .i64 (pickI21 c n) ∧ w = w' := by
  refine enter (l := [_, _]) rfl Tryz.ntmps8 rfl ?_
  by_cases h : c < 0
  · repeat' (first | apply WL.fold | apply WA.fold | apply WL.nil | apply WX.n_then | apply WC.seq | apply WC.region | refine WL.pa ?_ | refine WL.ga rfl ?_ | refine WL.na rfl ?_ | refine WL.nu rfl rfl ?_ | apply WC.block | apply WC.skip | apply WC.exit | apply WC.ret | apply WX.e_block | refine WX.e_other rfl ?_ | apply WX.e_then | apply WX.e_again | apply WX.n_block | apply WX.r_then | apply WX.r_block | apply WX.r_again | refine WC.cond_yes rfl ?_ | refine WC.cond_no rfl ?_ | refine WC.cond rfl (fun hc => ?_) (fun hc => ?_) | refine WC.cond_b rfl (fun hc => ?_) (fun hc => ?_))
    exact WX.ret1 rfl rfl ⟨by rw [pickI21, if_pos h], rfl⟩
  · repeat' (first | apply WL.fold | apply WA.fold | apply WL.nil | apply WX.n_then | apply WC.seq | apply WC.region | refine WL.pa ?_ | refine WL.ga rfl ?_ | refine WL.na rfl ?_ | refine WL.nu rfl rfl ?_ | apply WC.block | apply WC.skip | apply WC.exit | apply WC.ret | apply WX.e_block | refine WX.e_other rfl ?_ | apply WX.e_then | apply WX.e_again | apply WX.n_block | apply WX.r_then | apply WX.r_block | apply WX.r_again | refine WC.cond_yes rfl ?_ | refine WC.cond_no rfl ?_ | refine WC.cond rfl (fun hc => ?_) (fun hc => ?_) | refine WC.cond_b rfl (fun hc => ?_) (fun hc => ?_))
    exact WX.ret1 rfl rfl ⟨by rw [pickI21, if_neg h], rfl⟩
end Go.Sx
/- TopDecided: the reference's records and question: the walks. -/
namespace Go.Sx
open Go Go.Proofs Go.RowKit
theorem hwBH {G G2 : Prop} (x : G2) (hwq : Hold G2 → G := by
    intro hQq
    repeat' (first | refine HL.pa ?_ (POp.nilCheck rfl) | apply HL.fold | apply HA.fold | apply HL.nil | apply HX.n_then | apply HC.seq | apply HC.region | refine HL.pa ?_ | refine HL.ga rfl ?_ | refine HL.na rfl ?_ | refine HL.nu rfl rfl ?_ | apply HC.block | apply HC.skip | apply HC.exit | apply HC.ret | apply HX.e_block | refine HX.e_other rfl ?_ | apply HX.e_then | apply HX.e_again | apply HX.n_block | apply HX.r_then | apply HX.r_block | apply HX.r_again | refine HC.cond_yes rfl ?_ | refine HC.cond_no rfl ?_ | refine HL.one (H1.ldb rfl memA rfl rfl ?_) | refine HC.cond rfl (fun hc => ?_) (fun hc => ?_) | refine HC.cond_b rfl (fun hc => ?_) (fun hc => ?_))
    exact hQq.get) : G := hwq ⟨x⟩
theorem H1.appRecB {P : Program} {r : Option Nat} {N : Nat} {ds : List Deferred} {Q : Post} {E : Env} {w0 : World} {H : List Atom} {next : Act → World → Prop} {g : Option (Nat × Bool)}
    {d : Nat} {t ty : TypeId} {pos : String} {af : Array Edge} {x y : Operand}
    {e : TypeId} {z : Value} {bb c c2 : Nat} {a ao : Option Addr} {l m : List Rc} {H' : Option Addr → Nat → List Atom} [h : UTy P t (.slice e)] [hi : ITy P e z 15 bb] (hzs : z.cells.size = 15)
    (hx : Env.ev E x = some (.slice a l.length c)) (hy : Env.ev E y = some (.slice ao m.length c2)) (hr : ∀ a' c', Rpl (A.grow e 15 a c l.length (rcl l)) (A.grow e 15 a' c' (l ++ m).length (rcl (l ++ m))) H (H' a' c'))
    (hR : ∀ w, Mm w0 H w → RdR w (.slice ao m.length c2) m) (hnm : l.length + m.length ≤ 1000000) (hb : bb ≤ 1000) (hd : Nat.blt d N = true)
    (hn : ∀ a' c', HN N ds next ((d, .slice a' (l ++ m).length c') :: E) w0 (H' a' c')) :
    H1 P r N ds next ⟨some d, .call ⟨.builtin .append, #[x, y], #[t, t]⟩, ty, pos, af, g⟩ Q E w0 H := by
  have hr' : ∀ a' c', Rpl (A.grow e 15 a c l.length (rcl l)) (A.grow e 15 a' c' (l.length + m.length) (rcl l ++ rcl m)) H (H' a' c') := fun a' c' => by
    have := hr a' c'
    rwa [List.length_append, rcl_app] at this
  have hn' : ∀ a' c', HN N ds next ((d, .slice a' (l.length + m.length) c') :: E) w0 (H' a' c') := fun a' c' => by
    have := hn a' c'
    rwa [List.length_append] at this
  cases ao with
  | some ad =>
    refine H1.app hzs (by decide) hx hy hr' (rcl_len m) (fun w hM => ?_) (rcl_one m) hnm hb hd (fun a' c' _ => hn' a' c')
    intro j u hu
    obtain ⟨a', c', h2, h3, h4⟩ := hR w hM
    cases h2
    rcases h4 with rfl | ⟨b, off, h5, h6, h7⟩
    · simp [rcl] at hu
    · cases h5
      rw [add_lit]
      have hj : j < m.length * 15 := by have := (List.getElem?_eq_some_iff.1 hu).1; rwa [rcl_len] at this
      have hq : j / 15 < m.length := by omega
      have hm15 : j % 15 < 15 := Nat.mod_lt _ (by decide)
      have h8 : (rcells m[j / 15])[j % 15]? = some (rcells m[j / 15])[j % 15] := List.getElem?_eq_getElem (by rw [rcells_len]; exact hm15)
      have h9 := rcl_get (List.getElem?_eq_getElem hq) (j % 15) _ h8
      rw [show j / 15 * 15 + j % 15 = j by omega, hu] at h9
      have h10 := h7 (j / 15) _ (List.getElem?_eq_getElem hq) (j % 15) _ h8
      rw [show off + j / 15 * 15 + j % 15 = off + j by omega] at h10
      rw [h10, ← Option.some.inj h9]
  | none =>
    intro w hM
    obtain ⟨a', c', h2, h3, h4⟩ := hR w hM
    cases h2
    have e0 : m = [] := by
      rcases h4 with h4 | ⟨b, off, h5, -⟩
      · exact h4
      · cases h5
    subst e0
    obtain ⟨i, hi1, hi2, hi3, hi4⟩ := hi.parts
    have hsame : H = H' a c := Rpl.same (x := A.grow e 15 a c l.length (rcl l)) (by have := hr a c; simpa using this)
    have hown := hM.own (hr a c).mem
    refine W1.run (v := .slice a l.length c) (w' := w) (fun ac ha => ?_) rfl hd (by have := hn a c w (hsame ▸ hM); rwa [List.append_nil] at this)
    have hrun := run_append_none (P := P) 0 t ty e i 15 h.is hi1 (.slice a l.length c) l.length c2 (rcl l) hown
    simp only [List.length_nil] at hy
    simp only [execOp, resolve, invoke, Go.builtin, Sem.run_bind, Sem.run_pure, Result.andThen, List.map_toArray, List.map_cons, List.map_nil, ha.ev hx, ha.ev hy, hrun]
theorem lit3B (r0 r1 r2 : Rc) : litC (fun i => some (i * 15, 15)) (zeroRow (3 * 15) (rcells rcZ)) [(0, recV r0), (1, recV r1), (2, recV r2)] = some (rcl [r0, r1, r2]) := by kernel_rfl
theorem fourB {y : List Int} (h : y.length = 4) : ∃ y0 y1 y2 y3, y = [y0, y1, y2, y3] := by
  match y, h with
  | [a, b, c, d], _ => exact ⟨a, b, c, d, rfl⟩
/-- The records that are always there. -/
def fixL : List Rc := [⟨1, 101, 1, 0, false, 0, 60, 0, 1, 1, 0, 0, false, 0, ByteArray.mk #[]⟩, ⟨1, 102, 1, 0, false, 0, 60, 0, 2, 2, 0, 0, false, 0, ByteArray.mk #[]⟩, ⟨3, 103, 1, 0, false, 0, 60, 7, 0, 0, 0, 0, false, 5, ByteArray.mk #[]⟩]
/-- A clause as it is made. -/
def cl22 (i : Nat) (ad : Bool) (p : Int) (st sp pk ro pu : Int) : Rc := ⟨2, 0, 1, 0, false, st, sp, pk, 0, ro, pu, 1 + (i : Int), ad, p, ByteArray.mk #[]⟩
theorem cl22_ok {i : Nat} {ad : Bool} {p st sp pk ro pu : Int} (hi : i ≤ 1000) (hp : 0 ≤ p ∧ p ≤ 100) (h1 : 0 ≤ st ∧ st ≤ 100) (h2 : 0 ≤ sp ∧ sp ≤ 100) (h3 : 0 ≤ pk ∧ pk ≤ 100) (h4 : 0 ≤ ro ∧ ro ≤ 100) (h5 : 0 ≤ pu ∧ pu ≤ 100) : RcOk (cl22 i ad p st sp pk ro pu) := by
  have k : ∀ x : Int, 0 ≤ x ∧ x ≤ 2000 → i64W x := fun x h => by unfold i64W; omega
  exact ⟨k 2 (by decide), k 0 (by decide), k 1 (by decide), k 0 (by decide), k st (by omega), k sp (by omega), k pk (by omega), k 0 (by decide), k ro (by omega), k pu (by omega), k (1 + (i : Int)) (by omega), k p (by omega), Nat.zero_le _⟩
theorem fix_ok : ∀ r ∈ fixL, RcOk r := by
  have k : ∀ x : Int, 0 ≤ x ∧ x ≤ 2000 → i64W x := fun x h => by unfold i64W; omega
  intro r hr
  simp only [fixL, List.mem_cons, List.not_mem_nil, or_false] at hr
  rcases hr with rfl | rfl | rfl <;> exact ⟨k _ (by decide), k _ (by decide), k _ (by decide), k _ (by decide), k _ (by decide), k _ (by decide), k _ (by decide), k _ (by decide), k _ (by decide), k _ (by decide), k _ (by decide), k _ (by decide), by decide⟩
attribute [local irreducible] WC WL WX POp Then Again Fn NX W1 WA WO QL RP RA Yld LoopAt HC HL HX HN H1 HA HO HQ HB HP A.blk A.grow A.rd A.obj A.mp AgainH CutH
attribute [local irreducible] fixL
theorem pick22_fn (c n : Int) (h1 : -9223372036854775808 ≤ c) (h2 : c ≤ 9223372036854775807) (hn : 0 < n) (w : World) : Fn Tryz.prog 26 #[zv c, zv n] w fun v w' => v = zv (pickI21 c n) ∧ w = w' := by
  refine enter (l := [_, _]) rfl Tryz.ntmps26 rfl ?_
  by_cases h : c < 0
  · repeat' (first | apply WL.fold | apply WA.fold | apply WL.nil | apply WX.n_then | apply WC.seq | apply WC.region | refine WL.pa ?_ | refine WL.ga rfl ?_ | refine WL.na rfl ?_ | refine WL.nu rfl rfl ?_ | apply WC.block | apply WC.skip | apply WC.exit | apply WC.ret | apply WX.e_block | refine WX.e_other rfl ?_ | apply WX.e_then | apply WX.e_again | apply WX.n_block | apply WX.r_then | apply WX.r_block | apply WX.r_again | refine WC.cond_yes rfl ?_ | refine WC.cond_no rfl ?_ | refine WC.cond rfl (fun hc => ?_) (fun hc => ?_) | refine WC.cond_b rfl (fun hc => ?_) (fun hc => ?_))
    exact WX.ret1 rfl rfl ⟨by rw [pickI21, if_pos h], rfl⟩
  · repeat' (first | apply WL.fold | apply WA.fold | apply WL.nil | apply WX.n_then | apply WC.seq | apply WC.region | refine WL.pa ?_ | refine WL.ga rfl ?_ | refine WL.na rfl ?_ | refine WL.nu rfl rfl ?_ | apply WC.block | apply WC.skip | apply WC.exit | apply WC.ret | apply WX.e_block | refine WX.e_other rfl ?_ | apply WX.e_then | apply WX.e_again | apply WX.n_block | apply WX.r_then | apply WX.r_block | apply WX.r_again | refine WC.cond_yes rfl ?_ | refine WC.cond_no rfl ?_ | refine WC.cond rfl (fun hc => ?_) (fun hc => ?_) | refine WC.cond_b rfl (fun hc => ?_) (fun hc => ?_))
    exact WX.ret1 rfl rfl ⟨by rw [pickI21, if_neg h], rfl⟩
theorem Fixed_fn (w : World) : Fn Tryz.prog 6 #[] w fun v w' => ∃ b : Nat, True ∧ v = .slice (some ⟨b, 0, none⟩) fixL.length 3 ∧ Mm w [A.grow 36 15 (some ⟨b, 0, none⟩) 3 fixL.length (rcl fixL)] w' := by
  refine enterH (l := []) rfl Tryz.ntmps6 rfl ?_
  unfold fixL
  refine hwBH ?_
  refine HL.build (cs := rcells ⟨1, 101, 1, 0, false, 0, 60, 0, 1, 1, 0, 0, false, 0, ByteArray.mk #[]⟩) rfl rfl rfl ?_
  refine hwBH ?_
  refine HL.build (cs := rcells ⟨1, 102, 1, 0, false, 0, 60, 0, 2, 2, 0, 0, false, 0, ByteArray.mk #[]⟩) rfl rfl rfl ?_
  refine hwBH ?_
  refine HL.build (cs := rcells ⟨3, 103, 1, 0, false, 0, 60, 7, 0, 0, 0, 0, false, 5, ByteArray.mk #[]⟩) rfl rfl rfl ?_
  refine hwBH ?_
  refine HL.one (H1.lit (zs := rcells rcZ) (pv := [(0, recV ⟨1, 101, 1, 0, false, 0, 60, 0, 1, 1, 0, 0, false, 0, ByteArray.mk #[]⟩), (1, recV ⟨1, 102, 1, 0, false, 0, 60, 0, 2, 2, 0, 0, false, 0, ByteArray.mk #[]⟩), (2, recV ⟨3, 103, 1, 0, false, 0, 60, 7, 0, 0, 0, 0, false, 5, ByteArray.mk #[]⟩)]) (cs := rcl [⟨1, 101, 1, 0, false, 0, 60, 0, 1, 1, 0, 0, false, 0, ByteArray.mk #[]⟩, ⟨1, 102, 1, 0, false, 0, 60, 0, 2, 2, 0, 0, false, 0, ByteArray.mk #[]⟩, ⟨3, 103, 1, 0, false, 0, 60, 7, 0, 0, 0, 0, false, 5, ByteArray.mk #[]⟩]) rfl rfl (lit3B _ _ _) rfl rfl rfl (fun b => ?_))
  apply HL.fold
  refine HL.blkGrow (n := 3) (sz := 15) rfl (by decide) ?_
  refine hwBH ?_
  exact HX.ret1 rfl rfl fun w' hM => ⟨b, trivial, rfl, hM⟩
def askQ (q0 q1 q2 : Int) : Ask := ⟨1 + pickI21 q0 2, 1 + pickI21 q1 2, 7, pickI21 q2 25⟩
theorem Question_fn (q0 q1 q2 : Int) (h0 : i64W q0) (h1 : i64W q1) (h2 : i64W q2) (w : World) : Fn Tryz.prog 9 #[.agg #[zv q0, zv q1, zv q2]] w fun u w' => u = .agg (askC (askQ q0 q1 q2)).toArray ∧ Ext w w' := by
  have p0 := pickI21_lt q0 (n := 2) (by decide)
  have p1 := pickI21_lt q1 (n := 2) (by decide)
  have p2 := pickI21_lt q2 (n := 25) (by decide)
  obtain ⟨A, hA⟩ : ∃ A, A = askC (askQ q0 q1 q2) := ⟨_, rfl⟩
  have hA1 : ∀ v ∈ A, v.oneCell' = true := by
    rw [hA]; intro v hv
    simp only [askC, List.mem_cons, List.not_mem_nil, or_false] at hv
    rcases hv with rfl | rfl | rfl | rfl <;> rfl
  have hAl : A.length = 4 := by rw [hA]; rfl
  refine enterH (l := [_]) rfl Tryz.ntmps9 rfl ?_
  rw [← hA]
  refine hwBH ?_
  refine HL.one (H1.boxAgg (cs := ints [q0, q1, q2]) rfl rfl (fun b1 => ?_))
  refine hwBH ?_
  refine HL.one (H1.alloc (cs := ints [0, 0, 0, 0]) rfl rfl (fun b2 => ?_))
  refine hwBH ?_
  refine HC.anyC ([(⟨b1, 0, none⟩, zv q0), (⟨b1, 1, none⟩, zv q1), (⟨b1, 2, none⟩, zv q2)]) rfl ?_
  refine HB.pa 0 rfl ?_
  refine HB.ld 1 rfl rfl memD ?_
  refine HB.pa 4 rfl ?_
  refine HB.ld 5 rfl rfl memD ?_
  refine HB.pa 8 rfl ?_
  refine HB.ld 9 rfl rfl memD ?_
  refine HB.all (by repeat (first | exact Keep.nil | refine Keep.blk (by (repeat (first | exact List.Mem.head _ | apply List.Mem.tail)); done) rfl ?_ | refine Keep.grow (by (repeat (first | exact List.Mem.head _ | apply List.Mem.tail)); done) (by assumption) ?_ | refine Keep.base (by assumption) ?_)) [2] (by kernel_rfl) rfl ⟨⟨_, rfl, ?_⟩, trivial⟩
  refine HP.one ?_
  refine H1.call0 (vs := [zv q0, zv 2]) rfl rfl (fun w' _ => pick22_fn q0 2 h0.1 h0.2 (by decide) w') ?_
  apply HB.fold
  refine HB.pa 3 rfl ?_
  refine HB.all (by repeat (first | exact Keep.nil | refine Keep.blk (by (repeat (first | exact List.Mem.head _ | apply List.Mem.tail)); done) rfl ?_ | refine Keep.grow (by (repeat (first | exact List.Mem.head _ | apply List.Mem.tail)); done) (by assumption) ?_ | refine Keep.base (by assumption) ?_)) [6] (by kernel_rfl) rfl ⟨⟨_, rfl, ?_⟩, trivial⟩
  refine HP.one ?_
  refine H1.call0 (vs := [zv q1, zv 2]) rfl rfl (fun w' _ => pick22_fn q1 2 h1.1 h1.2 (by decide) w') ?_
  apply HB.fold
  refine HB.pa 7 rfl ?_
  refine HB.all (by repeat (first | exact Keep.nil | refine Keep.blk (by (repeat (first | exact List.Mem.head _ | apply List.Mem.tail)); done) rfl ?_ | refine Keep.grow (by (repeat (first | exact List.Mem.head _ | apply List.Mem.tail)); done) (by assumption) ?_ | refine Keep.base (by assumption) ?_)) [10] (by kernel_rfl) rfl ⟨⟨_, rfl, ?_⟩, trivial⟩
  refine HP.one ?_
  refine H1.call0 (vs := [zv q2, zv 25]) rfl rfl (fun w' _ => pick22_fn q2 25 h2.1 h2.2 (by decide) w') ?_
  apply HB.fold
  refine HB.pa (v := .agg A.toArray) 11 rfl ?_ (by rw [hA]; exact POp.build (cs := askC (askQ q0 q1 q2)) rfl rfl)
  refine HB.all (by repeat (first | exact Keep.nil | refine Keep.blk (by (repeat (first | exact List.Mem.head _ | apply List.Mem.tail)); done) rfl ?_ | refine Keep.grow (by (repeat (first | exact List.Mem.head _ | apply List.Mem.tail)); done) (by assumption) ?_ | refine Keep.base (by assumption) ?_)) [12] (by kernel_rfl) rfl ⟨⟨_, rfl, ?_⟩, trivial⟩
  refine HP.one ?_
  refine H1.stAgg (cs := ints [0, 0, 0, 0]) (vs := A) rfl rfl hAl hA1 rplA hAl ?_
  apply HB.fold
  refine HB.done (by repeat (first | exact Keep.nil | refine Keep.blk (by (repeat (first | exact List.Mem.head _ | apply List.Mem.tail)); done) rfl ?_ | refine Keep.grow (by (repeat (first | exact List.Mem.head _ | apply List.Mem.tail)); done) (by assumption) ?_ | refine Keep.base (by assumption) ?_)) (by kernel_rfl) ?_
  refine hwBH ?_
  exact HX.retc1 (b := b2) (cs := A) rfl rfl memA hAl fun w' hM => ⟨rfl, hM.ext⟩
set_option maxHeartbeats 8000000 in
theorem Some22_fn (v : Value) (rows : List (List Int)) (hrow : ∀ y ∈ rows, y.length = 4 ∧ ∀ z ∈ y, i64W z) (w : World) (hR : RdA 4 w v rows) :
    Fn Tryz.prog 7 #[v] w fun v w' => ∃ z : (Option Addr × Nat) × List Rc, (z.2.length ≤ 9 ∧ ∀ r ∈ z.2, RcOk r) ∧ v = .slice z.1.1 z.2.length z.1.2 ∧ Mm w [A.grow 36 15 z.1.1 z.1.2 z.2.length (rcl z.2)] w' := by
  obtain ⟨a0, c0, rfl, -⟩ := hR.shape
  refine enterH (l := [_]) rfl Tryz.ntmps7 rfl ?_
  refine hwBH ?_
  refine HC.grow0 36 15 ?_
  refine HC.loop (α := Nat × List Rc × Option Addr × Nat) (fun z => [(0, .slice a0 rows.length c0), (3, .slice z.2.2.1 z.2.1.length z.2.2.2), (4, zv (z.1 : Int))]) (fun z => [A.grow 36 15 z.2.2.1 z.2.2.2 z.2.1.length (rcl z.2.1)])
    (fun z => z.1 ≤ rows.length ∧ z.1 ≤ 9 ∧ z.2.1.length = z.1 ∧ ∀ r ∈ z.2.1, RcOk r) (fun z => 9 - z.1) (0, [], none, 0) ⟨Nat.zero_le _, Nat.zero_le _, rfl, fun r h => by cases h⟩ esA (by repeat (first | exact Hs.nil _ | (refine Hs.cons pickA ?_))) ?_
  rintro ⟨i, l, a, c⟩ ⟨hi1, hi2, hll, hok⟩
  dsimp only at hi1 hi2 hll hok ⊢
  by_cases hlt : i < rows.length
  rotate_left
  · have h1 : ¬ (i : Int) < (rows.length : Int) := by omega
    refine hwBH ?_
    exact HX.ret1 rfl rfl fun w' hM => ⟨((a, c), l), ⟨by show l.length ≤ 9; omega, hok⟩, rfl, hM⟩
  by_cases h30 : i < 9
  rotate_left
  · have h1 : (i : Int) < (rows.length : Int) := by omega
    have h2 : ¬ (i : Int) < 9 := by omega
    refine hwBH ?_
    exact HX.ret1 rfl rfl fun w' hM => ⟨((a, c), l), ⟨by show l.length ≤ 9; omega, hok⟩, rfl, hM⟩
  obtain ⟨y, hy⟩ : ∃ y, rows[i]? = some y := ⟨_, List.getElem?_eq_getElem hlt⟩
  have hy6 := hrow y (List.mem_of_getElem? hy)
  obtain ⟨b1, off, rfl, -, hcell⟩ := hR.at (fun e => by rw [e] at hlt; exact absurd hlt (Nat.not_lt_zero _))
  have hcl := hcell i y hy
  clear hcell hR
  obtain ⟨y0, y1, y2, y3, rfl⟩ := fourB hy6.1
  have w0 := hy6.2 y0 (by simp)
  have w1 := hy6.2 y1 (by simp)
  have w2 := hy6.2 y2 (by simp)
  have w3 := hy6.2 y3 (by simp)
  have u3 := w3.tdiv (n := 25) (by decide)
  have h1 : (i : Int) < (rows.length : Int) := by omega
  have h2 : (i : Int) < 9 := by omega
  have hb1 : -9223372036854775808 ≤ 1 + (i : Int) ∧ 1 + (i : Int) ≤ 9223372036854775807 := by omega
  refine hwBH ?_
  refine HL.one (H1.ldAggw (vs := ints [y0, y1, y2, y3]) rfl rfl (fun w' hM i v hv => cell_ext hM.ext (hcl i v hv)) rfl ?_)
  clear hcl hy hy6
  refine hwBH ?_
  refine HL.one (H1.alloc (cs := ints [0, 0, 0, 0]) rfl rfl (fun b5 => ?_))
  refine hwBH ?_
  refine HL.one (H1.stAgg (cs := ints [0, 0, 0, 0]) (vs := ints [y0, y1, y2, y3]) rfl rfl rfl (ints_one _) rplA rfl ?_)
  refine hwBH ?_
  refine HL.one (H1.call0 (vs := [zv y0, zv 2]) rfl rfl (fun w' _ => pick22_fn y0 2 w0.1 w0.2 (by decide) w') ?_)
  have q0 := pickI21_lt y0 (n := 2) (by decide)
  generalize pickI21 y0 2 = P0 at q0 ⊢
  refine hwBH ?_
  refine HL.build (cs := rcells (cl22 i (decide (P0 = 0)) 0 0 60 0 0 0)) rfl rfl rfl ?_
  generalize decide (P0 = 0) = ad
  refine hwBH ?_
  refine HL.one (H1.alloc (cs := rcells rcZ) rfl rfl (fun b6 => ?_))
  refine hwBH ?_
  refine HL.one (H1.stAgg (b := b6) (cs := rcells rcZ) (vs := rcells (cl22 i ad 0 0 60 0 0 0)) rfl rfl rfl (rcells_one _) rplA rfl ?_)
  refine hwBH ?_
  refine HL.one (H1.call0 (vs := [zv y1, zv 10]) rfl rfl (fun w' _ => pick22_fn y1 10 w1.1 w1.2 (by decide) w') ?_)
  have q1 := pickI21_lt y1 (n := 10) (by decide)
  generalize pickI21 y1 10 = P1 at q1 ⊢
  refine hwBH ?_
  refine HL.cut (α := Unit) (fun _ => [(0, .slice (some ⟨b1, off, none⟩) rows.length c0), (3, .slice a l.length c), (4, zv (i : Int)), (5, .pointer (some ⟨b5, 0, none⟩)), (6, .pointer (some ⟨b6, 0, none⟩))])
    (fun _ => [A.blk b6 (rcells (cl22 i ad P1 0 60 0 0 0)) 36, A.blk b5 (ints [y0, y1, y2, y3]) 81, A.grow 36 15 a c l.length (rcl l)]) (fun _ => True) ?_ ?_
  · refine HL.one (H1.st rfl rfl (by intro _ h; cases h) (by intro _ h; cases h) rplA (by rw [rcells_len]; decide) ?_)
    refine hwBH ?_
    exact HX.cut () trivial esA (by repeat (first | exact Hs.nil _ | (refine Hs.cons pickA ?_)))
  rintro - -
  refine HC.seq ?_
  refine HC.cut (α := Int) (fun _ => [(0, .slice (some ⟨b1, off, none⟩) rows.length c0), (3, .slice a l.length c), (4, zv (i : Int)), (5, .pointer (some ⟨b5, 0, none⟩)), (6, .pointer (some ⟨b6, 0, none⟩))])
    (fun p => [A.blk b6 (rcells (cl22 i ad p 0 60 0 0 0)) 36, A.blk b5 (ints [y0, y1, y2, y3]) 81, A.grow 36 15 a c l.length (rcl l)]) (fun p => 0 ≤ p ∧ p ≤ 100) ?_ ?_
  · by_cases e1 : P1 = 1 + (i : Int)
    · refine hwBH ?_
      refine HL.one (H1.st rfl rfl (by intro _ h; cases h) (by intro _ h; cases h) rplA (by rw [rcells_len]; decide) ?_)
      refine hwBH ?_
      exact HX.cut 0 (by decide) esA (by repeat (first | exact Hs.nil _ | (refine Hs.cons pickA ?_)))
    by_cases e2 : (i : Int) = 0
    · refine hwBH ?_
      refine HL.one (H1.st rfl rfl (by intro _ h; cases h) (by intro _ h; cases h) rplA (by rw [rcells_len]; decide) ?_)
      refine hwBH ?_
      exact HX.cut 0 (by decide) esA (by repeat (first | exact Hs.nil _ | (refine Hs.cons pickA ?_)))
    · refine hwBH ?_
      exact HX.cut P1 (by omega) esA (by repeat (first | exact Hs.nil _ | (refine Hs.cons pickA ?_)))
  clear q0 q1 P1
  rintro p hp
  refine HC.seq ?_
  refine HC.cut (α := Rc) (fun _ => [(0, .slice (some ⟨b1, off, none⟩) rows.length c0), (3, .slice a l.length c), (4, zv (i : Int)), (6, .pointer (some ⟨b6, 0, none⟩))])
    (fun r => [A.blk b6 (rcells r) 36, A.grow 36 15 a c l.length (rcl l)]) RcOk ?_ ?_
  · refine hwBH ?_
    refine HL.one (H1.call0 (vs := [zv y2, zv 8]) rfl rfl (fun w' _ => pick22_fn y2 8 w2.1 w2.2 (by decide) w') ?_)
    have q2 := pickI21_lt y2 (n := 8) (by decide)
    generalize pickI21 y2 8 = P2 at q2 ⊢
    have r1 := pickI21_lt y3 (n := 2) (by decide)
    have r2 := pickI21_lt y3 (n := 25) (by decide)
    have r3 := pickI21_lt (y3.tdiv 25) (n := 25) (by decide)
    by_cases e0 : P2 = 0
    · refine hwBH ?_
      refine HL.one (H1.call0 (vs := [zv y3, zv 2]) rfl rfl (fun w' _ => pick22_fn y3 2 w3.1 w3.2 (by decide) w') ?_)
      generalize pickI21 y3 2 = P3 at r1 ⊢
      refine hwBH ?_
      refine HL.one (H1.st rfl rfl (by intro _ h; cases h) (by intro _ h; cases h) rplA (by rw [rcells_len]; decide) ?_)
      refine hwBH ?_
      exact HX.cut (cl22 i ad p 0 60 0 (1 + P3) 0) (cl22_ok (by omega) hp (by decide) (by decide) (by decide) (by omega) (by decide)) esA (by repeat (first | exact Hs.nil _ | (refine Hs.cons pickA ?_)))
    by_cases e1 : P2 = 1
    · refine hwBH ?_
      refine HL.one (H1.call0 (vs := [zv y3, zv 2]) rfl rfl (fun w' _ => pick22_fn y3 2 w3.1 w3.2 (by decide) w') ?_)
      generalize pickI21 y3 2 = P3 at r1 ⊢
      refine hwBH ?_
      refine HL.one (H1.st rfl rfl (by intro _ h; cases h) (by intro _ h; cases h) rplA (by rw [rcells_len]; decide) ?_)
      refine hwBH ?_
      exact HX.cut (cl22 i ad p 0 60 (6 + P3) 0 0) (cl22_ok (by omega) hp (by decide) (by decide) (by omega) (by decide) (by decide)) esA (by repeat (first | exact Hs.nil _ | (refine Hs.cons pickA ?_)))
    by_cases e2 : P2 = 2
    · refine hwBH ?_
      refine HL.one (H1.call0 (vs := [zv y3, zv 2]) rfl rfl (fun w' _ => pick22_fn y3 2 w3.1 w3.2 (by decide) w') ?_)
      generalize pickI21 y3 2 = P3 at r1 ⊢
      refine hwBH ?_
      refine HL.one (H1.st rfl rfl (by intro _ h; cases h) (by intro _ h; cases h) rplA (by rw [rcells_len]; decide) ?_)
      refine hwBH ?_
      exact HX.cut (cl22 i ad p 0 60 0 0 (1 + P3)) (cl22_ok (by omega) hp (by decide) (by decide) (by decide) (by decide) (by omega)) esA (by repeat (first | exact Hs.nil _ | (refine Hs.cons pickA ?_)))
    by_cases e3 : P2 = 3
    · refine hwBH ?_
      refine HL.one (H1.call0 (vs := [zv y3, zv 25]) rfl rfl (fun w' _ => pick22_fn y3 25 w3.1 w3.2 (by decide) w') ?_)
      generalize pickI21 y3 25 = P3 at r2 ⊢
      refine hwBH ?_
      refine HL.cut (α := Unit) (fun _ => [(0, .slice (some ⟨b1, off, none⟩) rows.length c0), (3, .slice a l.length c), (4, zv (i : Int)), (5, .pointer (some ⟨b5, 0, none⟩)), (6, .pointer (some ⟨b6, 0, none⟩))])
        (fun _ => [A.blk b6 (rcells (cl22 i ad p P3 60 0 0 0)) 36, A.blk b5 (ints [y0, y1, y2, y3]) 81, A.grow 36 15 a c l.length (rcl l)]) (fun _ => True) ?_ ?_
      · refine HL.one (H1.st rfl rfl (by intro _ h; cases h) (by intro _ h; cases h) rplA (by rw [rcells_len]; decide) ?_)
        refine hwBH ?_
        exact HX.cut () trivial esA (by repeat (first | exact Hs.nil _ | (refine Hs.cons pickA ?_)))
      rintro - -
      have hb3 : -9223372036854775808 ≤ P3 + pickI21 (y3.tdiv 25) 25 ∧ P3 + pickI21 (y3.tdiv 25) 25 ≤ 9223372036854775807 := by omega
      refine HC.anyC ([(⟨b6, 5, none⟩, zv P3), (⟨b5, 3, none⟩, zv y3)]) rfl ?_
      refine HB.pa 0 rfl ?_
      refine HB.ld 1 rfl rfl memD ?_
      refine HB.pa 2 rfl ?_
      refine HB.ld 3 rfl rfl memD ?_
      refine HB.pa (v := zv (y3.tdiv 25)) 4 rfl ?_ (POp.quoT rfl rfl w3.1 w3.2 (by decide))
      refine HB.all (by repeat (first | exact Keep.nil | refine Keep.blk (by (repeat (first | exact List.Mem.head _ | apply List.Mem.tail)); done) rfl ?_ | refine Keep.grow (by (repeat (first | exact List.Mem.head _ | apply List.Mem.tail)); done) (by assumption) ?_ | refine Keep.base (by assumption) ?_)) [5] (by kernel_rfl) rfl ⟨⟨_, rfl, ?_⟩, trivial⟩
      refine HP.one ?_
      refine H1.call0 (vs := [zv (y3.tdiv 25), zv 25]) rfl rfl (fun w' _ => pick22_fn (y3.tdiv 25) 25 u3.1 u3.2 (by decide) w') ?_
      apply HB.fold
      refine HB.pa 6 rfl ?_
      refine HB.pa 7 rfl ?_
      refine HB.all (by repeat (first | exact Keep.nil | refine Keep.blk (by (repeat (first | exact List.Mem.head _ | apply List.Mem.tail)); done) rfl ?_ | refine Keep.grow (by (repeat (first | exact List.Mem.head _ | apply List.Mem.tail)); done) (by assumption) ?_ | refine Keep.base (by assumption) ?_)) [8] (by kernel_rfl) rfl ⟨⟨_, rfl, ?_⟩, trivial⟩
      refine HP.one ?_
      refine H1.st (b := b6) (i := 6) (cs := rcells (cl22 i ad p P3 60 0 0 0)) rfl rfl (by intro _ h; cases h) (by intro _ h; cases h) rplA (by rw [rcells_len]; decide) ?_
      apply HB.fold
      refine HB.done (by repeat (first | exact Keep.nil | refine Keep.blk (by (repeat (first | exact List.Mem.head _ | apply List.Mem.tail)); done) rfl ?_ | refine Keep.grow (by (repeat (first | exact List.Mem.head _ | apply List.Mem.tail)); done) (by assumption) ?_ | refine Keep.base (by assumption) ?_)) (by kernel_rfl) ?_
      refine hwBH ?_
      exact HX.cut (cl22 i ad p P3 (P3 + pickI21 (y3.tdiv 25) 25) 0 0 0) (cl22_ok (by omega) hp (by omega) (by omega) (by decide) (by decide) (by decide)) esA (by repeat (first | exact Hs.nil _ | (refine Hs.cons pickA ?_)))
    · refine hwBH ?_
      exact HX.cut (cl22 i ad p 0 60 0 0 0) (cl22_ok (by omega) hp (by decide) (by decide) (by decide) (by decide) (by decide)) esA (by repeat (first | exact Hs.nil _ | (refine Hs.cons pickA ?_)))
  rintro r hr
  have hsnoc : ∀ s ∈ l ++ [r], RcOk s := fun s hs => by
    rcases List.mem_append.1 hs with hs | hs
    · exact hok s hs
    · obtain rfl := List.mem_singleton.1 hs; exact hr
  refine hwBH ?_
  refine HL.one (H1.ldAgg (b := b6) (vs := rcells r) rfl memA rfl (fun i v hv => by rw [Nat.zero_add]; exact hv) rfl ?_)
  refine hwBH ?_
  refine HL.one (H1.lit (cs := rcells r) rfl rfl rfl rfl rfl rfl (fun bs => ?_))
  refine hwBH ?_
  refine HL.one (H1.appRecB (e := 36) (l := l) (m := [r]) (a := a) (c := c) rfl rfl rfl (fun a' c' => by first | ((repeat (first | with_reducible exact Rpl.here | with_reducible apply Rpl.there)); done) | (repeat (first | exact Rpl.here | apply Rpl.there))) (fun w hM => by have hb := hM.blk (b := bs) (cs := rcells r) (e := 36) memA; exact RdR.of_blk (l := [r]) (by rw [show rcl [r] = rcells r from List.append_nil _]; exact hb)) (by simp only [List.length_singleton]; omega) (by decide) rfl (fun a1 c1 => ?_))
  refine hwBH ?_
  exact HX.again (i + 1, l ++ [r], a1, c1) ⟨hlt, h30, (by show (l ++ [r]).length = i + 1; rw [List.length_append, hll]; rfl), hsnoc⟩ (by show 9 - (i + 1) < 9 - i; omega) esA (by repeat (first | exact Hs.nil _ | (refine Hs.cons pickA ?_)))
end Go.Sx
/- TopDecided: the decision, its reason, and whether it explains: the walks. -/
namespace Go.Sx
open Go Go.Proofs Go.RowKit
theorem hwBI {G G2 : Prop} (x : G2) (hwq : Hold G2 → G := by
    intro hQq
    repeat' (first | refine HL.pa ?_ (POp.geqN rfl rfl (by assumption)) | refine HL.pa ?_ (POp.bneF4 rfl rfl rfl) | refine HL.pa ?_ (POp.beqT4 rfl rfl rfl) | refine HL.pa ?_ (POp.nilCheck rfl) | apply HL.fold | apply HA.fold | apply HL.nil | apply HX.n_then | apply HC.seq | apply HC.region | refine HL.pa ?_ | refine HL.ga rfl ?_ | refine HL.na rfl ?_ | refine HL.nu rfl rfl ?_ | apply HC.block | apply HC.skip | apply HC.exit | apply HC.ret | apply HX.e_block | refine HX.e_other rfl ?_ | apply HX.e_then | apply HX.e_again | apply HX.n_block | apply HX.r_then | apply HX.r_block | apply HX.r_again | refine HC.cond_yes rfl ?_ | refine HC.cond_no rfl ?_ | refine HL.one (H1.ldb rfl memA rfl rfl ?_) | refine HC.cond rfl (fun hc => ?_) (fun hc => ?_) | refine HC.cond_b rfl (fun hc => ?_) (fun hc => ?_))
    exact hQq.get) : G := hwq ⟨x⟩
/-- What a base must hold to. -/
structure BOk (B : Nat → List Rc) : Prop where
  asc : ascC (B 1)
  pos : ∀ r ∈ B 1, 1 ≤ r.clause
  len : ∀ i, i < 8 → (B i).length ≤ 1000
theorem BOk.k {B : Nat → List Rc} (h : BOk B) (a : Ask) : KOk (B 1) (kOf B a) where
  uni _ hr _ hs e := ascC_inj h.asc hr hs e
  pos := h.pos
  sub p := ⟨fun x hx => ⟨(kOf_mem.1 hx).2.2, (kOf_mem.1 hx).1⟩, ascC_nd (List.Pairwise.filter _ h.asc)⟩
  len := h.len 1 (by decide)
theorem BOk.klen {B : Nat → List Rc} (h : BOk B) (a : Ask) (p : Int) : (kOf B a p).length ≤ 1000 := (h.k a).klen p
theorem BOk.mil {B : Nat → List Rc} (h : BOk B) (i : Nat) (hi : i < 8) : (B i).length ≤ 1000000 := Nat.le_trans (h.len i hi) (by decide)
def lastB (B : Nat → List Rc) (a : Ask) : Rc := lastF (kOf B a) 8 0 rcZ
def whyB (B : Nat → List Rc) (a : Ask) : List Int := (leastF (kOf B a) (lastB B a).adm 8 rcZ).getD []
/-- The decision. -/
def decF (B : Nat → List Rc) (a : Ask) : Bool × Int × List Int := if openB B a = true then ((lastB B a).adm, (lastB B a).clause, whyB B a) else (false, 0, [])
theorem whyB_some (B : Nat → List Rc) (a : Ask) : leastF (kOf B a) (lastB B a).adm 8 rcZ = some (whyB B a) := by
  have h := least_some (K := kOf B a) (n := 8) (c := rcZ)
  unfold whyB
  cases h2 : leastF (kOf B a) (lastB B a).adm 8 rcZ with
  | none => exact absurd h2 h
  | some s => rfl
theorem whyB_ok {B : Nat → List Rc} (h : BOk B) (a : Ask) : WhyOk (B 1) 0 (whyB B a) :=
  least_why (fun _ hr _ hs e => ascC_inj h.asc hr hs e) h.pos (h.k a).sub (i := 0) (c := rcZ) rfl (whyB_some B a)
theorem whyB_suf (B : Nat → List Rc) (a : Ask) : sufF (kOf B a) (whyB B a) (lastB B a).adm 8 rcZ = true := suf_least (whyB_some B a) fun _ h => h
theorem whyB_len {B : Nat → List Rc} (h : BOk B) (a : Ask) : (whyB B a).length ≤ 1000 := Nat.le_trans (whyB_ok h a).len (h.len 1 (by decide))
theorem clsM_has : ∀ (l : List Rc) (n : Int), n ∈ l.map Rc.clause → ∃ r, mget (clsM l) n = some (recV r)
  | [], n, h => absurd h List.not_mem_nil
  | r :: l, n, h => by
    show ∃ r', (if n = r.clause then some (recV r) else mget (clsM l) n) = some (recV r')
    by_cases e : n = r.clause
    · exact ⟨r, if_pos e⟩
    · obtain ⟨r', h'⟩ := clsM_has l n ((List.mem_cons.1 h).resolve_left e)
      exact ⟨r', by rw [if_neg e]; exact h'⟩
theorem decF_len {B : Nat → List Rc} (h : BOk B) (a : Ask) : (decF B a).2.2.length ≤ 1000 := by
  unfold decF
  by_cases e : openB B a = true
  · rw [if_pos e]; exact whyB_len h a
  · rw [if_neg e]; exact Nat.zero_le _
abbrev decCells (D : Bool × Int × List Int) (va : Option Addr) (c : Nat) : List Value := [.bool D.1, zv D.2.1, .slice va D.2.2.length c]
theorem decCells_one (D : Bool × Int × List Int) (va : Option Addr) (c : Nat) : ∀ v ∈ decCells D va c, v.oneCell' = true := by
  intro v hv
  simp only [decCells, List.mem_cons, List.not_mem_nil, or_false] at hv
  rcases hv with rfl | rfl | rfl <;> rfl
attribute [local irreducible] WC WL WX POp Then Again Fn NX W1 WA WO QL RP RA Yld LoopAt HC HL HX HN H1 HA HO HQ HB HP A.blk A.grow A.rd A.obj A.mp AgainH CutH
attribute [local irreducible] A.mq A.mx A.mit GroZ.atom decF lastB whyB openB embL
set_option maxHeartbeats 4000000 in
theorem Decide_fn {B : Nat → List Rc} {vb : Value} (hok : BOk B) (a : Ask) (w : World) (hB : BaseV w vb B) :
    Fn Tryz.prog 12 #[vb, .agg (askC a).toArray] w fun u w' => ∃ z : Option Addr × Nat, True ∧ u = .agg (decCells (decF B a) z.1 z.2).toArray ∧ Mm w [A.grow 3 1 z.1 z.2 (decF B a).2.2.length (ints (decF B a).2.2)] w' := by
  obtain ⟨s, rfl, hs⟩ := id hB
  have hwl := whyB_len hok a
  have hws := whyB_some B a
  have hdf : decF B a = if openB B a = true then ((lastB B a).adm, (lastB B a).clause, whyB B a) else (false, 0, []) := by unfold decF; rfl
  have hlast : lastB B a = lastF (kOf B a) 8 0 rcZ := by unfold lastB; rfl
  refine enterH (l := [_, _]) rfl Tryz.ntmps12 rfl ?_
  refine hwBI ?_
  refine HL.one (H1.boxAgg (cs := row 8 s) rfl rfl (fun b2 => ?_))
  refine hwBI ?_
  refine HL.one (H1.boxAgg (cs := askC a) rfl rfl (fun b3 => ?_))
  refine hwBI ?_
  refine HL.one (H1.alloc (cs := [.bool false, zv 0, .slice none 0 0]) rfl rfl (fun b4 => ?_))
  refine hwBI ?_
  refine HL.one (H1.ldAgg (b := b2) (vs := row 8 s) rfl memA (row_len 8 _) (fun i v hv => by rw [Nat.zero_add]; exact hv) rfl ?_)
  refine hwBI ?_
  refine HL.one (H1.ldAgg (b := b3) (vs := askC a) rfl memA rfl (fun i v hv => by rw [Nat.zero_add]; exact hv) rfl ?_)
  refine hwBI ?_
  refine HL.one (H1.callx (vs := [.agg (row 8 s).toArray, .agg (askC a).toArray]) rfl rfl (fun w' hM => open_fn a w' (hB.ext hM.ext) hok.mil) ?_)
  cases hop : openB B a
  · rw [hop, if_neg (by decide)] at hdf
    rw [hdf]
    refine hwBI ?_
    refine HL.build (cs := [.bool false, zv 0, .slice none 0 0]) rfl rfl rfl ?_
    refine hwBI ?_
    refine HL.one (H1.stAgg (b := b4) (cs := [.bool false, zv 0, .slice none 0 0]) (vs := [.bool false, zv 0, .slice none 0 0]) rfl rfl rfl (decCells_one (false, 0, []) none 0) rplA rfl ?_)
    refine hwBI ?_
    refine HX.retc1 (b := b4) (cs := [.bool false, zv 0, .slice none 0 0]) rfl rfl memA rfl fun w' hM => ⟨(none, 0), trivial, rfl, (Mm.nil hM.ext).grow0 _ _⟩
  rw [hop, if_pos rfl] at hdf
  rw [hdf]
  dsimp only
  refine hwBI ?_
  refine HL.one (H1.ldAgg (b := b2) (vs := row 8 s) rfl memA (row_len 8 _) (fun i v hv => by rw [Nat.zero_add]; exact hv) rfl ?_)
  refine hwBI ?_
  refine HL.one (H1.ldAgg (b := b3) (vs := askC a) rfl memA rfl (fun i v hv => by rw [Nat.zero_add]; exact hv) rfl ?_)
  refine hwBI ?_
  refine HL.one (H1.callz1 (α := GroZ) (V := fun z => .map (some z.b)) (An := GroZ.atom) (I := fun z => z.Ok (kOf B a)) (vs := [.agg (row 8 s).toArray, .agg (askC a).toArray]) rfl rfl (fun w' hM => grow_fn a w' (hB.ext hM.ext) hok.mil hok.pos hok.asc) ?_)
  intro z hz
  refine hwBI ?_
  refine HL.one (H1.callx (u := recV (lastB B a)) (vs := [.map (some z.b)]) rfl rfl (fun w' hM => by rw [hlast]; exact last_fn (hok.klen a) z.b w' (hM.forW memA hz)) ?_)
  generalize lastB B a = L at hws ⊢
  refine hwBI ?_
  refine HL.one (H1.alloc (cs := rcells rcZ) rfl rfl (fun b6 => ?_))
  refine hwBI ?_
  refine HL.one (H1.stAgg (b := b6) (cs := rcells rcZ) (vs := rcells L) rfl rfl rfl (rcells_one L) rplA rfl ?_)
  refine hwBI ?_
  refine HC.anyC ([(⟨b6, 12, none⟩, .bool L.adm), (⟨b6, 11, none⟩, zv L.clause)]) rfl ?_
  refine HB.pa 0 rfl ?_
  refine HB.ld 1 rfl rfl memD ?_
  refine HB.pa 2 rfl ?_
  refine HB.ld 3 rfl rfl memD ?_
  refine HB.pa 4 rfl ?_
  refine HB.pa 5 rfl ?_
  refine HB.ld 6 rfl rfl memD ?_
  refine HB.all (by repeat (first | exact Keep.nil | refine Keep.blk (by (repeat (first | exact List.Mem.head _ | apply List.Mem.tail)); done) rfl ?_ | refine Keep.grow (by (repeat (first | exact List.Mem.head _ | apply List.Mem.tail)); done) (by assumption) ?_ | refine Keep.base (by assumption) ?_)) [7] (by kernel_rfl) rfl ⟨⟨_, rfl, ?_⟩, trivial⟩
  refine HP.one ?_
  refine H1.callz1 (α := Option Addr × Nat) (V := fun q => .slice q.1 (whyB B a).length q.2) (An := fun q => A.grow 3 1 q.1 q.2 (whyB B a).length (ints (whyB B a))) (I := fun _ => True) (vs := [.map (some z.b), .bool L.adm]) rfl rfl (fun w' hM => (least_fn (hok.k a) L.adm z.b w' (hM.forW memA hz)).mono fun u w'' h => by unfold LeaR at h; rw [hws] at h; obtain ⟨q, -, h1, h2⟩ := h; exact ⟨q, trivial, h1, h2⟩) ?_
  rintro ⟨aw, cw⟩ -
  dsimp only
  apply HB.fold
  refine HB.pa (v := .agg (decCells (L.adm, L.clause, whyB B a) aw cw).toArray) 8 rfl ?_ (POp.build (cs := decCells (L.adm, L.clause, whyB B a) aw cw) rfl rfl)
  refine HB.all (by repeat (first | exact Keep.nil | refine Keep.blk (by (repeat (first | exact List.Mem.head _ | apply List.Mem.tail)); done) rfl ?_ | refine Keep.grow (by (repeat (first | exact List.Mem.head _ | apply List.Mem.tail)); done) (by assumption) ?_ | refine Keep.base (by assumption) ?_)) [9] (by kernel_rfl) rfl ⟨⟨_, rfl, ?_⟩, trivial⟩
  refine HP.one ?_
  refine H1.stAgg (b := b4) (cs := [.bool false, zv 0, .slice none 0 0]) (vs := decCells (L.adm, L.clause, whyB B a) aw cw) rfl rfl rfl (decCells_one (L.adm, L.clause, whyB B a) aw cw) rplA rfl ?_
  apply HB.fold
  refine HB.done (by repeat (first | exact Keep.nil | refine Keep.blk (by (repeat (first | exact List.Mem.head _ | apply List.Mem.tail)); done) rfl ?_ | refine Keep.grow (by (repeat (first | exact List.Mem.head _ | apply List.Mem.tail)); done) (by assumption) ?_ | refine Keep.base (by assumption) ?_)) (by kernel_rfl) ?_
  refine hwBI ?_
  exact HX.retc1 (b := b4) (cs := decCells (L.adm, L.clause, whyB B a) aw cw) rfl rfl memA rfl fun w' hM => ⟨(aw, cw), trivial, rfl, hM.sub (by repeat (first | exact Hs.nil _ | (refine Hs.cons pickA ?_)))⟩
set_option maxHeartbeats 4000000 in
theorem Same_fn (x : Bool) (c : Int) (l : List Int) (hl : l.length ≤ 1000000) (a1 a2 : Option Addr) (c1 c2 : Nat) (w : World) (h1 : Rd w (.slice a1 l.length c1) (ints l)) (h2 : Rd w (.slice a2 l.length c2) (ints l)) :
    Fn Tryz.prog 13 #[.agg #[.bool x, zv c, .slice a1 l.length c1], .agg #[.bool x, zv c, .slice a2 l.length c2]] w fun u w' => u = .bool true ∧ Ext w w' := by
  refine enterH (l := [_, _]) rfl Tryz.ntmps13 rfl ?_
  refine hwBI ?_
  refine HL.one (H1.boxAgg (cs := [.bool x, zv c, .slice a1 l.length c1]) rfl rfl (fun b2 => ?_))
  refine hwBI ?_
  refine HL.one (H1.boxAgg (cs := [.bool x, zv c, .slice a2 l.length c2]) rfl rfl (fun b3 => ?_))
  refine hwBI ?_
  refine HC.loop (α := Nat) (fun j => [(2, .pointer (some ⟨b2, 0, none⟩)), (3, .pointer (some ⟨b3, 0, none⟩)), (5, zv (j : Int))]) (fun _ => [A.blk b2 [.bool x, zv c, .slice a1 l.length c1] 41, A.blk b3 [.bool x, zv c, .slice a2 l.length c2] 41]) (fun j => j ≤ l.length) (fun j => l.length - j) 0 (Nat.zero_le _) esA (by repeat (first | exact Hs.nil _ | (refine Hs.cons pickA ?_))) ?_
  intro j hj
  by_cases hlt : j < l.length
  rotate_left
  · have hn : ¬ ((j : Nat) : Int) < (l.length : Int) := by omega
    refine hwBI ?_
    exact HX.ret1 rfl rfl fun w' hM => ⟨rfl, hM.ext⟩
  have hn : ((j : Nat) : Int) < (l.length : Int) := by omega
  have hne : l ≠ [] := fun e => by rw [e] at hlt; exact absurd hlt (Nat.not_lt_zero _)
  obtain ⟨d1, o1, rfl, -⟩ := h1.iat hne
  obtain ⟨d2, o2, rfl, -⟩ := h2.iat hne
  have k1 := h1.cell (ints_get hlt)
  have k2 := h2.cell (ints_get hlt)
  refine hwBI ?_
  refine HC.cut (α := Unit) (fun _ => [(2, .pointer (some ⟨b2, 0, none⟩)), (3, .pointer (some ⟨b3, 0, none⟩)), (5, zv (j : Int)), (44, .bool false)]) (fun _ => [A.blk b2 [.bool x, zv c, .slice (some ⟨d1, o1, none⟩) l.length c1] 41, A.blk b3 [.bool x, zv c, .slice (some ⟨d2, o2, none⟩) l.length c2] 41]) (fun _ => True) ?_ ?_
  · refine HC.anyC ([(⟨b2, 2, none⟩, .slice (some ⟨d1, o1, none⟩) l.length c1), (⟨b3, 2, none⟩, .slice (some ⟨d2, o2, none⟩) l.length c2), (⟨d1, o1 + j, none⟩, zv (at' l j)), (⟨d2, o2 + j, none⟩, zv (at' l j))]) rfl ?_
    refine HB.pa 0 rfl ?_
    refine HB.ld 1 rfl rfl memD ?_
    refine HB.pa 2 rfl ?_
    refine HB.pa 3 rfl ?_
    refine HB.ld 4 rfl rfl memD ?_
    refine HB.pa 5 rfl ?_
    refine HB.ld 6 rfl rfl memD ?_
    refine HB.pa 7 rfl ?_
    refine HB.pa 8 rfl ?_
    refine HB.ld 9 rfl rfl memD ?_
    refine HB.pa 10 rfl ?_
    refine HB.done (by repeat (first | exact Keep.nil | refine Keep.blk (by (repeat (first | exact List.Mem.head _ | apply List.Mem.tail)); done) rfl ?_ | refine Keep.grow (by (repeat (first | exact List.Mem.head _ | apply List.Mem.tail)); done) (by assumption) ?_ | refine Keep.base (by assumption) ?_)) (by kernel_rfl) ?_
    have e : (decide ¬ at' l j = at' l j) = false := by simp
    rw [e]
    refine hwBI ?_
    exact HX.cut () trivial esA (by repeat (first | exact Hs.nil _ | (refine Hs.cons pickA ?_)))
  rintro - -
  refine hwBI ?_
  exact HX.again (j + 1) hlt (by show l.length - (j + 1) < l.length - j; omega) esA (by repeat (first | exact Hs.nil _ | (refine Hs.cons pickA ?_)))
set_option maxHeartbeats 4000000 in
theorem Explains_fn {B : Nat → List Rc} {vb : Value} (hok : BOk B) (a : Ask) (aw : Option Addr) (cw : Nat) (w : World) (hB : BaseV w vb B) (hRw : Rd w (.slice aw (decF B a).2.2.length cw) (ints (decF B a).2.2)) :
    Fn Tryz.prog 14 #[vb, .agg (askC a).toArray, .agg (decCells (decF B a) aw cw).toArray, .slice aw (decF B a).2.2.length cw] w fun u w' => u = .bool true ∧ Ext w w' := by
  obtain ⟨s, rfl, hs⟩ := id hB
  have hwo := whyB_ok hok a
  have hsu := whyB_suf B a
  have hwl := whyB_len hok a
  have hdf : decF B a = if openB B a = true then ((lastB B a).adm, (lastB B a).clause, whyB B a) else (false, 0, []) := by unfold decF; rfl
  have hlast : lastB B a = lastF (kOf B a) 8 0 rcZ := by unfold lastB; rfl
  generalize decF B a = D at hdf hRw ⊢
  refine enterH (l := [_, _, _, _]) rfl Tryz.ntmps14 rfl ?_
  refine hwBI ?_
  refine HL.one (H1.boxAgg (cs := row 8 s) rfl rfl (fun b4 => ?_))
  refine hwBI ?_
  refine HL.one (H1.boxAgg (cs := askC a) rfl rfl (fun b5 => ?_))
  refine hwBI ?_
  refine HL.one (H1.boxAgg (cs := decCells D aw cw) rfl rfl (fun b6 => ?_))
  refine hwBI ?_
  refine HL.one (H1.ldAgg (b := b4) (vs := row 8 s) rfl memA (row_len 8 _) (fun i v hv => by rw [Nat.zero_add]; exact hv) rfl ?_)
  refine hwBI ?_
  refine HL.one (H1.ldAgg (b := b5) (vs := askC a) rfl memA rfl (fun i v hv => by rw [Nat.zero_add]; exact hv) rfl ?_)
  refine hwBI ?_
  refine HL.one (H1.callz1 (α := GroZ) (V := fun z => .map (some z.b)) (An := GroZ.atom) (I := fun z => z.Ok (kOf B a)) (vs := [.agg (row 8 s).toArray, .agg (askC a).toArray]) rfl rfl (fun w' hM => grow_fn a w' (hB.ext hM.ext) hok.mil hok.pos hok.asc) ?_)
  intro z hz
  refine hwBI ?_
  refine HL.one (H1.callx (u := recV (lastB B a)) (vs := [.map (some z.b)]) rfl rfl (fun w' hM => by rw [hlast]; exact last_fn (hok.klen a) z.b w' (hM.forW memA hz)) ?_)
  generalize lastB B a = L at hdf hsu ⊢
  refine hwBI ?_
  refine HL.one (H1.ldAgg (b := b4) (vs := row 8 s) rfl memA (row_len 8 _) (fun i v hv => by rw [Nat.zero_add]; exact hv) rfl ?_)
  refine hwBI ?_
  refine HL.one (H1.ldAgg (b := b5) (vs := askC a) rfl memA rfl (fun i v hv => by rw [Nat.zero_add]; exact hv) rfl ?_)
  refine hwBI ?_
  refine HL.one (H1.callx (vs := [.agg (row 8 s).toArray, .agg (askC a).toArray]) rfl rfl (fun w' hM => open_fn a w' (hB.ext hM.ext) hok.mil) ?_)
  cases hop : openB B a
  · rw [hop, if_neg (by decide)] at hdf
    subst hdf
    dsimp only [decCells, List.length_nil]
    refine hwBI ?_
    exact HX.ret1 rfl rfl fun w' hM => ⟨rfl, hM.ext⟩
  rw [hop, if_pos rfl] at hdf
  subst hdf
  dsimp only [decCells] at hRw ⊢
  generalize whyB B a = W at hwo hsu hwl hRw ⊢
  refine hwBI ?_
  refine HL.one (H1.ldAgg (b := b4) (vs := row 8 s) rfl memA (row_len 8 _) (fun i v hv => by rw [Nat.zero_add]; exact hv) rfl ?_)
  refine hwBI ?_
  refine HL.one (H1.callz1 (α := Nat) (V := fun b => .map (some b)) (An := fun b => A.mq b .i64 (clsM (B 1))) (I := fun _ => True) (vs := [.agg (row 8 s).toArray]) rfl rfl (fun w' hM => clauses_fn w' (hB.ext hM.ext) (hok.mil 1 (by decide)) hok.pos (ascC_nd hok.asc)) ?_)
  rintro bm -
  refine hwBI ?_
  refine HC.loop (α := Nat) (fun j => [(3, .slice aw W.length cw), (9, .map (some z.b)), (10, .bool L.adm), (12, .map (some bm)), (51, .slice aw W.length cw), (52, zv (W.length : Int)), (53, zv (j : Int))]) (fun _ => [z.atom, A.mq bm .i64 (clsM (B 1))]) (fun j => j ≤ W.length) (fun j => W.length - j) 0 (Nat.zero_le _) esA (by repeat (first | exact Hs.nil _ | (refine Hs.cons pickA ?_))) ?_
  intro j hj
  by_cases hlt : j < W.length
  rotate_left
  · have hn : ¬ ((j : Nat) : Int) < (W.length : Int) := by omega
    refine hwBI ?_
    refine HL.one (H1.callx (u := .bool true) (vs := [.map (some z.b), .slice aw W.length cw, .bool L.adm]) rfl rfl (fun w' hM => by rw [← hsu]; exact suffices_fn (hok.k a) L.adm rfl (by omega) z.b w' (hM.forW memA hz) (hRw.ext hM.ext)) ?_)
    refine hwBI ?_
    exact HX.ret1 rfl rfl fun w' hM => ⟨rfl, hM.ext⟩
  have hn : ((j : Nat) : Int) < (W.length : Int) := by omega
  have hne : W ≠ [] := fun e => by rw [e] at hlt; exact absurd hlt (Nat.not_lt_zero _)
  obtain ⟨d1, o1, rfl, -⟩ := hRw.iat hne
  have k1 := hRw.cell (ints_get hlt)
  obtain ⟨k, hk⟩ := hwo.up _ (at_mem hlt)
  obtain ⟨r0, hr0⟩ := clsM_has (B 1) (at' W j) hk.num
  refine hwBI ?_
  refine HL.one (H1.ld0 rfl k1 rfl ?_)
  refine hwBI ?_
  refine HL.one (H1.mqget2 rfl rfl memA rfl ?_)
  rw [hr0]
  dsimp only [Option.getD, Option.isSome]
  refine hwBI ?_
  refine HL.one (H1.alloc (cs := rcells rcZ) rfl rfl (fun b15 => ?_))
  refine hwBI ?_
  refine HL.one (H1.stAgg (b := b15) (cs := rcells rcZ) (vs := rcells r0) rfl rfl rfl (rcells_one r0) rplA rfl ?_)
  cases j with
  | zero =>
    refine hwBI ?_
    exact HX.again 1 hlt (by show W.length - 1 < W.length - 0; omega) esA (by repeat (first | exact Hs.nil _ | (refine Hs.cons pickA ?_)))
  | succ i =>
    have hp : (0 : Int) < ((i + 1 : Nat) : Int) := by omega
    have hlt0 : i < W.length := by omega
    have k0 := hRw.cell (ints_get hlt0)
    have hsb : ((i + 1 : Nat) : Int) - 1 = (i : Int) := by omega
    have hasc : ¬ at' W (i + 1) ≤ at' W i := by
      have h1 := List.pairwise_iff_getElem.1 hwo.asc i (i + 1) hlt0 hlt (by omega)
      have e1 : at' W i = W[i] := by simp [at', hlt0]
      have e2 : at' W (i + 1) = W[i + 1] := by simp [at', hlt]
      omega
    have had : o1 + (((i + 1 : Nat) : Int) - 1).toNat = o1 + i := by omega
    refine hwBI ?_
    rw [had]
    refine HL.one (H1.ld0 rfl k0 rfl ?_)
    refine hwBI ?_
    exact HX.again (i + 1 + 1) hlt (by show W.length - (i + 1 + 1) < W.length - (i + 1); omega) esA (by repeat (first | exact Hs.nil _ | (refine Hs.cons pickA ?_)))
end Go.Sx
/- TopDecided: the law. -/
namespace Go.Sx
open Go Go.Proofs Go.RowKit
theorem hwBJ {G G2 : Prop} (x : G2) (hwq : Hold G2 → G := by
    intro hQq
    repeat' (first | refine HL.pa ?_ (POp.bneF4 rfl rfl rfl) | refine HL.pa ?_ (POp.beqT4 rfl rfl rfl) | refine HL.pa ?_ (POp.nilCheck rfl) | apply HL.fold | apply HA.fold | apply HL.nil | apply HX.n_then | apply HC.seq | apply HC.region | refine HL.pa ?_ | refine HL.ga rfl ?_ | refine HL.na rfl ?_ | refine HL.nu rfl rfl ?_ | apply HC.block | apply HC.skip | apply HC.exit | apply HC.ret | apply HX.e_block | refine HX.e_other rfl ?_ | apply HX.e_then | apply HX.e_again | apply HX.n_block | apply HX.r_then | apply HX.r_block | apply HX.r_again | refine HC.cond_yes rfl ?_ | refine HC.cond_no rfl ?_ | refine HL.one (H1.ldb rfl memA rfl rfl ?_) | refine HC.cond rfl (fun hc => ?_) (fun hc => ?_) | refine HC.cond_b rfl (fun hc => ?_) (fun hc => ?_))
    exact hQq.get) : G := hwq ⟨x⟩
theorem hbBJ {G G2 : Prop} (x : G2) (hwq : Hold G2 → G := by
    intro hQq
    repeat' (first | refine HL.pa ?_ (POp.bneF4 rfl rfl rfl) | refine HL.pa ?_ (POp.beqT4 rfl rfl rfl) | refine HL.pa ?_ (POp.nilCheck rfl) | apply HL.fold | apply HA.fold | apply HL.nil | apply HX.n_then | apply HC.seq | apply HC.region | refine HL.pa ?_ | refine HL.ga rfl ?_ | refine HL.na rfl ?_ | refine HL.nu rfl rfl ?_ | apply HC.skip | apply HC.exit | apply HC.ret | apply HX.e_block | refine HX.e_other rfl ?_ | apply HX.e_then | apply HX.e_again | apply HX.n_block | apply HX.r_then | apply HX.r_block | apply HX.r_again | refine HC.cond_yes rfl ?_ | refine HC.cond_no rfl ?_ | refine HL.one (H1.ldb rfl memA rfl rfl ?_) | refine HC.cond rfl (fun hc => ?_) (fun hc => ?_) | refine HC.cond_b rfl (fun hc => ?_) (fun hc => ?_))
    exact hQq.get) : G := hwq ⟨x⟩
theorem rcl_set : ∀ (l : List Rc) (i : Nat) (r : Rc), i < l.length → (rcl l).take (i * 15) ++ rcells r ++ (rcl l).drop (i * 15 + 15) = rcl (l.set i r)
  | [], _, _, h => absurd h (Nat.not_lt_zero _)
  | x :: l, 0, r, _ => by
    have e : rcl (x :: l) = rcells x ++ rcl l := by unfold rcl; exact List.flatMap_cons ..
    have e2 : rcl (r :: l) = rcells r ++ rcl l := by unfold rcl; exact List.flatMap_cons ..
    rw [List.set_cons_zero, e, e2, Nat.zero_mul, List.take_zero, List.nil_append, Nat.zero_add]
    rfl
  | x :: l, i + 1, r, h => by
    have e : rcl (x :: l) = rcells x ++ rcl l := by unfold rcl; exact List.flatMap_cons ..
    have e2 : rcl (x :: l.set i r) = rcells x ++ rcl (l.set i r) := by unfold rcl; exact List.flatMap_cons ..
    have hlen := rcells_len x
    have k1 : (i + 1) * 15 = (rcells x).length + i * 15 := by rw [hlen]; omega
    have k2 : (i + 1) * 15 + 15 = (rcells x).length + (i * 15 + 15) := by rw [hlen]; omega
    rw [List.set_cons_succ, e, e2, k2, k1, List.take_length_add_append, List.drop_length_add_append, List.append_assoc, List.append_assoc, ← rcl_set l i r (by rw [List.length_cons] at h; omega)]
    rw [List.append_assoc]
theorem swap_mem {l : List Rc} {i j : Nat} {x y : Rc} (hi : l[i]? = some x) (hj : l[j]? = some y) (r : Rc) : r ∈ (l.set i y).set j x ↔ r ∈ l := by
  have hil := (List.getElem?_eq_some_iff.1 hi).1
  have hjl := (List.getElem?_eq_some_iff.1 hj).1
  have hx : x ∈ (l.set i y).set j x := List.mem_of_getElem? (i := j) (by rw [List.getElem?_set_self (by rw [List.length_set]; exact hjl)])
  constructor
  · intro h
    rcases List.mem_or_eq_of_mem_set h with h | h
    · rcases List.mem_or_eq_of_mem_set h with h | h
      · exact h
      · rw [h]; exact List.mem_of_getElem? hj
    · rw [h]; exact List.mem_of_getElem? hi
  · intro h
    obtain ⟨k, hk⟩ := List.mem_iff_getElem?.1 h
    by_cases e2 : k = i
    · subst e2
      rw [hi] at hk
      cases hk; exact hx
    by_cases e1 : k = j
    · subst e1
      rw [hj] at hk
      cases hk
      exact List.mem_of_getElem? (i := i) (by rw [List.getElem?_set_ne (fun e => e2 e), List.getElem?_set_self hil])
    · exact List.mem_of_getElem? (i := k) (by rw [List.getElem?_set_ne (fun e => e1 e.symm), List.getElem?_set_ne (fun e => e2 e.symm), hk])
/-- A record that becomes known later. -/
def lateR (D : Int) (r : Rc) : Rc := { r with day := D + 1 + r.day }
theorem late_ok {D : Int} {r : Rc} (hD : 0 ≤ D ∧ D ≤ 100) (h : ValidR r) : RcOk (lateR D r) := by
  have h1 := RcOk.of_validT h
  have h2 := h.day
  exact ⟨h1.kind, h1.id, h1.version, (by show i64W (D + 1 + r.day); unfold i64W; omega), h1.start, h1.stop, h1.pack, h1.person, h1.role, h1.purpose, h1.clause, h1.party, h1.text⟩
/-- The records that are known later, up to some. -/
def lateL (D : Int) (L : List Rc) (i : Nat) : List Rc := (L.take i).map (lateR D)
theorem lateL_succ {D : Int} {L : List Rc} {i : Nat} {r : Rc} (h : L[i]? = some r) (M : List Rc) : M ++ lateL D L i ++ [lateR D r] = M ++ lateL D L (i + 1) := by
  unfold lateL
  rw [List.take_add_one, h, List.append_assoc, Option.toList, List.map_append]; rfl
theorem lateL_all (D : Int) (L : List Rc) : lateL D L L.length = L.map (lateR D) := by unfold lateL; rw [List.take_length]
theorem lateL_len (D : Int) (L : List Rc) (i : Nat) : (lateL D L i).length ≤ L.length := by unfold lateL; rw [List.length_map, List.length_take]; omega
theorem late_same {M L X : List Rc} {D : Int} (hv : ∀ r ∈ L, ValidR r) (hX : ∀ r, r ∈ X ↔ r ∈ M ++ L.map (lateR D)) (r : Rc) (hr : r.day ≤ D) : r ∈ M ↔ r ∈ X := by
  rw [hX, List.mem_append]
  refine ⟨.inl, fun h => h.elim id fun h => ?_⟩
  obtain ⟨s, hs, rfl⟩ := List.mem_map.1 h
  have h1 := (hv s hs).day
  have h2 : D + 1 + s.day ≤ D := hr
  omega
theorem asK_asc {L : List Rc} (h : asK L) (hk : ∀ r ∈ L, r.kind = 2) : ascC L := by
  have h1 : L.Pairwise fun x y => x ∈ L ∧ y ∈ L ∧ numR x < numR y := List.Pairwise.and_mem.1 h
  have hn : ∀ r ∈ L, numR r = r.clause := fun r hr => by unfold numR; rw [hk r hr]; rfl
  exact h1.imp fun {x y} ⟨hx, hy, h⟩ => by rw [hn x hx, hn y hy] at h; exact h
theorem bok_of {M : List Rc} {D : Int} {B : Nat → List Rc} (hM : M.length ≤ 1000) (h : ∀ i : Nat, i < 8 → IsOf M D ((i : Int) + 1) (B i)) : BOk B := by
  have hk : ∀ r ∈ B 1, r.kind = 2 := fun r hr => (((h 1 (by decide)).mem r).1 hr).2
  refine ⟨asK_asc (h 1 (by decide)).asc hk, fun r hr => ?_, fun i hi => Nat.le_trans (of_lenT (h i hi)) hM⟩
  have hv := (((h 1 (by decide)).mem r).1 hr).1.1.now.1
  have := hv.lim (7, 1, 1000000) (by rw [hk r hr]; decide)
  exact this.1
theorem base_same {M X : List Rc} {D : Int} {B B2 : Nat → List Rc} (h : ∀ i : Nat, i < 8 → IsOf M D ((i : Int) + 1) (B i)) (h2 : ∀ i : Nat, i < 8 → IsOf X D ((i : Int) + 1) (B2 i)) (hs : ∀ r : Rc, r.day ≤ D → (r ∈ M ↔ r ∈ X)) : ∀ i, i < 8 → B2 i = B i := fun i hi =>
  ((h i hi).uniq (h2 i hi) fun r _ _ => top_same hs r).symm
theorem kOf_same {B B2 : Nat → List Rc} (h : ∀ i, i < 8 → B2 i = B i) (a : Ask) : kOf B2 a = kOf B a := by
  funext p; unfold kOf; rw [h 0 (by decide), h 1 (by decide)]
theorem decF_same {B B2 : Nat → List Rc} (h : ∀ i, i < 8 → B2 i = B i) (a : Ask) : decF B2 a = decF B a := by
  unfold decF openB whyB lastB
  rw [kOf_same h, h 2 (by decide), h 3 (by decide)]
attribute [local irreducible] WC WL WX POp Then Again Fn NX W1 WA WO QL RP RA Yld LoopAt HC HL HX HN H1 HA HO HQ HB HP A.blk A.grow A.rd A.obj A.mp AgainH CutH
attribute [local irreducible] A.mq A.mit A.all fixL bsA decF
theorem Decide_fnD {B : Nat → List Rc} {vb : Value} (hok : BOk B) (a : Ask) {D : Bool × Int × List Int} (hD : decF B a = D) (w : World) (hB : BaseV w vb B) :
    Fn Tryz.prog 12 #[vb, .agg (askC a).toArray] w fun u w' => ∃ z : Option Addr × Nat, True ∧ u = .agg (decCells D z.1 z.2).toArray ∧ Mm w [A.grow 3 1 z.1 z.2 D.2.2.length (ints D.2.2)] w' := by
  subst hD; exact Decide_fn hok a w hB
theorem Explains_fnD {B : Nat → List Rc} {vb : Value} (hok : BOk B) (a : Ask) {D : Bool × Int × List Int} (hD : decF B a = D) (aw : Option Addr) (cw : Nat) (w : World) (hB : BaseV w vb B) (hRw : Rd w (.slice aw D.2.2.length cw) (ints D.2.2)) :
    Fn Tryz.prog 14 #[vb, .agg (askC a).toArray, .agg (decCells D aw cw).toArray, .slice aw D.2.2.length cw] w fun u w' => u = .bool true ∧ Ext w w' := by
  subst hD; exact Explains_fn hok a aw cw w hB hRw
set_option maxHeartbeats 16000000 in
theorem topDecided_fn (v vl vs : Value) (rows recs : List (List Int)) (dy q0 q1 q2 : Int) (S : List Int) (h1 : i64W dy) (k0 : i64W q0) (k1 : i64W q1) (k2 : i64W q2) (hrow : ∀ y ∈ rows, y.length = 4 ∧ ∀ z ∈ y, i64W z) (hrec : ∀ y ∈ recs, y.length = 6 ∧ ∀ z ∈ y, i64W z) (hS : ∀ x ∈ S, i64W x) (w : World) (hX : RdA 4 w v rows) (hY : RdA 6 w vl recs) (hZ : Rd w vs (ints S)) :
    Fn Tryz.prog 3 #[v, vl, zv dy, .agg #[zv q0, zv q1, zv q2], vs] w fun u w' => u = .bool true ∧ Ext w w' := by
  obtain ⟨sa, sc, rfl, hsc⟩ := hZ.isInts
  refine enterH (l := [_, _, _, _, _]) rfl Tryz.ntmps3 rfl ?_
  refine hwBJ ?_
  refine HL.one (H1.boxAgg (cs := ints [q0, q1, q2]) rfl rfl (fun b8 => ?_))
  refine hwBJ ?_
  refine HL.one (H1.callx (u := .bool true) (vs := []) rfl rfl (fun w' _ => awake_fn w') ?_)
  refine hwBJ ?_
  refine HL.one (H1.callz1 (α := Nat) (V := fun b => .slice (some ⟨b, 0, none⟩) fixL.length 3) (An := fun b => A.grow 36 15 (some ⟨b, 0, none⟩) 3 fixL.length (rcl fixL)) (I := fun _ => True) (vs := []) rfl rfl (fun w' _ => Fixed_fn w') ?_)
  rintro bf -
  refine hwBJ ?_
  refine HL.one (H1.callz1 (α := (Option Addr × Nat) × List Rc) (V := fun z => .slice z.1.1 z.2.length z.1.2) (An := fun z => A.grow 36 15 z.1.1 z.1.2 z.2.length (rcl z.2)) (I := fun z => z.2.length ≤ 9 ∧ ∀ r ∈ z.2, RcOk r) (vs := [v]) rfl rfl (fun w' hM => Some22_fn v rows hrow w' (hX.ext hM.ext)) ?_)
  rintro ⟨⟨a1, c1⟩, L1⟩ ⟨hL1, hok1⟩
  dsimp only at hL1 hok1 ⊢
  have hfl : fixL.length = 3 := by unfold fixL; rfl
  have hM0 : (fixL ++ L1).length ≤ 12 ∧ 3 ≤ (fixL ++ L1).length := by rw [List.length_append]; omega
  have hMok : ∀ r ∈ fixL ++ L1, RcOk r := fun r hr => (List.mem_append.1 hr).elim (fix_ok r) (hok1 r)
  refine hwBJ ?_
  refine HL.one (H1.appRecB (e := 36) (l := fixL) (m := L1) (a := some ⟨bf, 0, none⟩) (c := 3) rfl rfl rfl (fun a' c' => by first | ((repeat (first | with_reducible exact Rpl.here | with_reducible apply Rpl.there)); done) | (repeat (first | exact Rpl.here | apply Rpl.there))) (fun w hM => hM.recs (l := L1) memA) (by omega) (by decide) rfl (fun a2 c2 => ?_))
  generalize fixL ++ L1 = M0 at hM0 hMok ⊢
  clear hok1 hL1 hfl
  refine hwBJ ?_
  refine HL.one (H1.call0 (vs := [zv dy, zv 100]) rfl rfl (fun w' _ => tpick_fn dy 100 h1.1 h1.2 (by decide) w') ?_)
  have p1 := pickI21_lt dy (n := 100) (by decide)
  generalize pickI21 dy 100 = D at p1 ⊢
  refine hwBJ ?_
  refine HL.one (H1.ldAgg (b := b8) (vs := ints [q0, q1, q2]) rfl memA rfl (fun i v hv => by rw [Nat.zero_add]; exact hv) rfl ?_)
  refine hwBJ ?_
  refine HL.one (H1.callx (vs := [.agg #[zv q0, zv q1, zv q2]]) rfl rfl (fun w' _ => Question_fn q0 q1 q2 k0 k1 k2 w') ?_)
  generalize askQ q0 q1 q2 = aq
  have haq : ∀ v ∈ askC aq, v.oneCell' = true := by
    intro v hv
    simp only [askC, List.mem_cons, List.not_mem_nil, or_false] at hv
    rcases hv with rfl | rfl | rfl | rfl <;> rfl
  refine hwBJ ?_
  refine HL.one (H1.alloc (cs := ints [0, 0, 0, 0]) rfl rfl (fun b13 => ?_))
  refine hwBJ ?_
  refine HL.one (H1.stAgg (b := b13) (cs := ints [0, 0, 0, 0]) (vs := askC aq) rfl rfl rfl haq rplA rfl ?_)
  refine hwBJ ?_
  refine HL.one (H1.lit0 rfl (fun bz => ?_))
  refine hwBJ ?_
  refine HL.one (H1.appRecB (e := 36) (l := []) (m := M0) (a := some ⟨bz, 0, none⟩) (c := 0) rfl rfl rfl (fun a' c' => by first | ((repeat (first | with_reducible exact Rpl.here | with_reducible apply Rpl.there)); done) | (repeat (first | exact Rpl.here | apply Rpl.there))) (fun w hM => hM.recs (l := M0) memA) (by simp only [List.length_nil]; omega) (by decide) rfl (fun a3 c3 => ?_))
  rw [List.nil_append]
  refine hwBJ ?_
  refine HL.one (H1.callz1 (α := (Option Addr × Nat) × List Rc) (V := fun z => .slice z.1.1 z.2.length z.1.2) (An := fun z => A.grow 36 15 z.1.1 z.1.2 z.2.length (rcl z.2)) (I := fun z => z.2.length ≤ 30 ∧ ∀ r ∈ z.2, SomeOk r) (vs := [vl]) rfl rfl (fun w' hM => Some_fn vl recs hrec w' (hY.ext hM.ext)) ?_)
  rintro ⟨⟨ar, cr⟩, L⟩ ⟨hL30, hLok⟩
  dsimp only at hL30 hLok ⊢
  have hvL : ∀ r ∈ L, ValidR r := fun r hr => (hLok r hr).valid
  clear hLok
  have e0 : M0 ++ lateL D L 0 = M0 := by unfold lateL; rw [List.take_zero, List.map_nil, List.append_nil]
  obtain ⟨X0, hX0⟩ : ∃ X0, X0 = M0 ++ L.map (lateR D) := ⟨_, rfl⟩
  refine hbBJ ?_
  refine HC.cut (α := Option Addr × Nat) (fun z => [(2, zv D), (4, .slice sa S.length sc), (11, .bool true), (12, .slice a2 M0.length c2), (13, .pointer (some ⟨b13, 0, none⟩)), (14, .slice z.1 X0.length z.2)])
    (fun z => [A.grow 36 15 z.1 z.2 X0.length (rcl X0), A.grow 36 15 a2 c2 M0.length (rcl M0), A.blk b13 (askC aq) 32]) (fun _ => True) ?_ ?_
  · refine hwBJ ?_
    refine HC.loop (α := Nat × Option Addr × Nat) (fun z => [(2, zv D), (4, .slice sa S.length sc), (11, .bool true), (12, .slice a2 M0.length c2), (13, .pointer (some ⟨b13, 0, none⟩)), (14, .slice z.2.1 (M0 ++ lateL D L z.1).length z.2.2), (15, .slice ar L.length cr), (16, zv (z.1 : Int))])
      (fun z => [A.grow 36 15 z.2.1 z.2.2 (M0 ++ lateL D L z.1).length (rcl (M0 ++ lateL D L z.1)), A.grow 36 15 ar cr L.length (rcl L), A.grow 36 15 a2 c2 M0.length (rcl M0), A.blk b13 (askC aq) 32]) (fun z => z.1 ≤ L.length) (fun z => L.length - z.1) (0, a3, c3) (Nat.zero_le _) (by dsimp only; rw [e0]; repeat (first | exact trivial | refine ⟨rfl, ?_⟩)) (by dsimp only; rw [e0]; repeat (first | exact Hs.nil _ | (refine Hs.cons pickA ?_))) ?_
    rintro ⟨i, ao, co⟩ hi
    dsimp only at hi ⊢
    by_cases hlt : i < L.length
    rotate_left
    · obtain rfl : i = L.length := by omega
      rw [lateL_all, ← hX0]
      refine hwBJ ?_
      exact HX.cut (ao, co) trivial esA (by repeat (first | exact Hs.nil _ | (refine Hs.cons pickA ?_)))
    have hli : (i : Int) < (L.length : Int) := by omega
    have hll := lateL_len D L i
    obtain ⟨r, hr⟩ : ∃ r, L[i]? = some r := ⟨_, List.getElem?_eq_getElem hlt⟩
    have hrd := (hvL r (List.mem_of_getElem? hr)).day
    have hb1 : -9223372036854775808 ≤ D + 1 + r.day ∧ D + 1 + r.day ≤ 9223372036854775807 := by omega
    have hne : L ≠ [] := fun e => by rw [e] at hlt; cases hlt
    have hsu := lateL_succ (D := D) hr M0
    refine HC.openg (e := 36) (a := ar) (xs := rcl L) memA (by omega) ?_
    rintro bl rfl
    refine hwBJ ?_
    refine HL.one (H1.ldAggw (vs := rcells r) rfl rfl (fun w' hM i v hv => by obtain ⟨b', o', e1, -, hc⟩ := (hM.recs (l := L) memA).at hne; cases e1; have h := hc _ r hr i v hv; rw [Nat.zero_add] at h; exact h) rfl ?_)
    refine hwBJ ?_
    refine HL.one (H1.alloc (cs := rcells rcZ) rfl rfl (fun b17 => ?_))
    refine hwBJ ?_
    refine HL.one (H1.stAgg (b := b17) (cs := rcells rcZ) (vs := rcells r) rfl rfl rfl (rcells_one r) rplA rfl ?_)
    refine hwBJ ?_
    refine HL.one (H1.st rfl rfl (by intro _ h; cases h) (by intro _ h; cases h) rplA (by rw [rcells_len]; decide) ?_)
    refine hwBJ ?_
    have e5 : (rcells r).set 3 (zv (D + 1 + r.day)) = rcells (lateR D r) := rfl
    rw [e5]
    refine HL.one (H1.ldAgg (b := b17) (vs := rcells (lateR D r)) rfl memA rfl (fun i v hv => by rw [Nat.zero_add]; exact hv) rfl ?_)
    refine hwBJ ?_
    refine HL.one (H1.lit (cs := rcells (lateR D r)) rfl rfl rfl rfl rfl rfl (fun bs => ?_))
    refine hwBJ ?_
    refine HL.one (H1.appRecB (e := 36) (l := M0 ++ lateL D L i) (m := [lateR D r]) (a := ao) (c := co) rfl rfl rfl (fun a' c' => by first | ((repeat (first | with_reducible exact Rpl.here | with_reducible apply Rpl.there)); done) | (repeat (first | exact Rpl.here | apply Rpl.there))) (fun w hM => by have hb := hM.blk (b := bs) (cs := rcells (lateR D r)) (e := 36) memA; exact RdR.of_blk (l := [lateR D r]) (by rw [show rcl [lateR D r] = rcells (lateR D r) from List.append_nil _]; exact hb)) (by rw [List.length_append]; simp only [List.length_singleton]; omega) (by decide) rfl (fun a1 c1 => ?_))
    rw [hsu]
    refine hwBJ ?_
    exact HX.again (i + 1, a1, c1) hlt (by show L.length - (i + 1) < L.length - i; omega) esA (by repeat (first | exact Hs.nil _ | (refine Hs.cons pickA ?_)))
  rintro ⟨a4, c4⟩ -
  dsimp only
  have hX0l : X0.length ≤ 42 ∧ 3 ≤ X0.length := by rw [hX0, List.length_append, List.length_map]; omega
  refine hbBJ ?_
  refine HC.cut (α := List Rc) (fun X => [(2, zv D), (11, .bool true), (12, .slice a2 M0.length c2), (13, .pointer (some ⟨b13, 0, none⟩)), (14, .slice a4 X.length c4)])
    (fun X => [A.grow 36 15 a4 c4 X.length (rcl X), A.grow 36 15 a2 c2 M0.length (rcl M0), A.blk b13 (askC aq) 32]) (fun X => X.length = X0.length ∧ ∀ r, r ∈ X ↔ r ∈ X0) ?_ ?_
  · refine hwBJ ?_
    refine HC.loop (α := Nat × List Rc) (fun z => [(2, zv D), (4, .slice sa S.length sc), (11, .bool true), (12, .slice a2 M0.length c2), (13, .pointer (some ⟨b13, 0, none⟩)), (14, .slice a4 z.2.length c4), (18, zv (z.1 : Int))])
      (fun z => [A.grow 36 15 a4 c4 z.2.length (rcl z.2), A.grow 36 15 a2 c2 M0.length (rcl M0), A.blk b13 (askC aq) 32]) (fun z => z.1 ≤ S.length ∧ z.2.length = X0.length ∧ ∀ r, r ∈ z.2 ↔ r ∈ X0) (fun z => S.length - z.1) (0, X0) ⟨Nat.zero_le _, rfl, fun _ => Iff.rfl⟩ esA (by repeat (first | exact Hs.nil _ | (refine Hs.cons pickA ?_))) ?_
    rintro ⟨k, X⟩ ⟨hk, hXl, hXm⟩
    dsimp only at hk hXl hXm ⊢
    by_cases hlt : k < S.length
    rotate_left
    · have hn : ¬ ((k : Nat) : Int) < (S.length : Int) := by omega
      refine hwBJ ?_
      exact HX.cut X ⟨hXl, hXm⟩ esA (by repeat (first | exact Hs.nil _ | (refine Hs.cons pickA ?_)))
    have hn : ((k : Nat) : Int) < (S.length : Int) := by omega
    by_cases h60 : k < 60
    rotate_left
    · have hn2 : ¬ ((k : Nat) : Int) < 60 := by omega
      refine hwBJ ?_
      exact HX.cut X ⟨hXl, hXm⟩ esA (by repeat (first | exact Hs.nil _ | (refine Hs.cons pickA ?_)))
    have hn2 : ((k : Nat) : Int) < 60 := by omega
    have hn3 : (0 : Int) < (X.length : Int) := by omega
    have hsne : S ≠ [] := fun e => by rw [e] at hlt; exact absurd hlt (Nat.not_lt_zero _)
    obtain ⟨d1, o1, rfl, -⟩ := hZ.iat hsne
    have ks := hZ.cell (ints_get hlt)
    have hsk := hS _ (at_mem hlt)
    have hsq := hsk.tdiv (n := 7) (by decide)
    refine HC.openg (e := 36) (a := a4) (xs := rcl X) memA (by omega) ?_
    rintro bm rfl
    have p3 := pickI21_lt (at' S k) hn3
    have p4 := pickI21_lt ((at' S k).tdiv 7) hn3
    obtain ⟨i, hi, hil⟩ : ∃ i : Nat, pickI21 (at' S k) (X.length : Int) = (i : Int) ∧ i < X.length := ⟨(pickI21 (at' S k) (X.length : Int)).toNat, by omega, by omega⟩
    obtain ⟨j, hj, hjl⟩ : ∃ j : Nat, pickI21 ((at' S k).tdiv 7) (X.length : Int) = (j : Int) ∧ j < X.length := ⟨(pickI21 ((at' S k).tdiv 7) (X.length : Int)).toNat, by omega, by omega⟩
    clear p3 p4
    refine hwBJ ?_
    refine HL.one (H1.ld0 rfl ks rfl ?_)
    refine hwBJ ?_
    refine HL.one (H1.call0 (u := zv (i : Int)) (vs := [zv (at' S k), zv (X.length : Int)]) rfl rfl (fun w' _ => by rw [← hi]; exact tpick_fn (at' S k) X.length hsk.1 hsk.2 hn3 w') ?_)
    refine hwBJ ?_
    refine HL.one (H1.ld0 rfl ks rfl ?_)
    apply HL.fold
    refine HL.pa ?_ (POp.quoT rfl rfl hsk.1 hsk.2 (by decide))
    refine hwBJ ?_
    refine HL.one (H1.call0 (u := zv (j : Int)) (vs := [zv ((at' S k).tdiv 7), zv (X.length : Int)]) rfl rfl (fun w' _ => by rw [← hj]; exact tpick_fn ((at' S k).tdiv 7) X.length hsq.1 hsq.2 hn3 w') ?_)
    refine hwBJ ?_
    obtain ⟨x, hx⟩ : ∃ x, X[i]? = some x := ⟨_, List.getElem?_eq_getElem hil⟩
    obtain ⟨y, hy⟩ : ∃ y, X[j]? = some y := ⟨_, List.getElem?_eq_getElem hjl⟩
    have hXne : X ≠ [] := fun e => by rw [e] at hil; cases hil
    have hsw := swap_mem hx hy
    have hr1 := rcl_set X i y hil
    have hr2 := rcl_set (X.set i y) j x (by rw [List.length_set]; exact hjl)
    have hl2 : ((X.set i y).set j x).length = X.length := by rw [List.length_set, List.length_set]
    have hq1 : i * 15 + 15 ≤ (rcl X).length := by rw [rcl_len]; omega
    have hq2 : j * 15 + 15 ≤ (rcl (X.set i y)).length := by rw [rcl_len, List.length_set]; omega
    refine HC.sub [(2, zv D), (4, .slice (some ⟨d1, o1, none⟩) S.length sc), (11, .bool true), (12, .slice a2 M0.length c2), (13, .pointer (some ⟨b13, 0, none⟩)), (14, .slice (some ⟨bm, 0, none⟩) X.length c4), (18, zv (k : Int)), (19, zv (i : Int)), (20, zv (j : Int))] [A.grow 36 15 (some ⟨bm, 0, none⟩) c4 X.length (rcl X), A.grow 36 15 a2 c2 M0.length (rcl M0), A.blk b13 (askC aq) 32] ?_ esA (by repeat (first | exact Hs.nil _ | (refine Hs.cons pickA ?_)))
    refine HC.any rfl ?_
    refine HA.pa 0 rfl ?_
    refine HA.pa 1 rfl ?_
    refine HA.pa 2 rfl ?_
    refine HA.pa 3 rfl ?_
    refine HA.pa 4 rfl ?_
    refine HA.pa 5 rfl ?_
    refine HA.pa 6 rfl ?_
    refine HA.pa 8 rfl ?_
    refine HA.pa 9 rfl ?_
    refine HA.pa 10 rfl ?_
    refine HA.all [7, 11] (by kernel_rfl) rfl ⟨⟨_, rfl, ?_⟩, ⟨_, rfl, ?_⟩, trivial⟩
    · refine HO.one ?_
      refine H1.ldAggw (vs := rcells y) rfl rfl (fun w' hM i v hv => by obtain ⟨b', o', e1, -, hc⟩ := (hM.recs (l := X) memA).at hXne; cases e1; have h := hc _ y hy i v hv; rw [Nat.zero_add] at h; exact h) rfl ?_
      apply HA.fold
      refine HA.all [11] (by kernel_rfl) rfl ⟨⟨_, rfl, ?_⟩, trivial⟩
      refine HO.one ?_
      refine H1.ldAggw (vs := rcells x) rfl rfl (fun w' hM i v hv => by obtain ⟨b', o', e1, -, hc⟩ := (hM.recs (l := X) memA).at hXne; cases e1; have h := hc _ x hx i v hv; rw [Nat.zero_add] at h; exact h) rfl ?_
      apply HA.fold
      refine HA.pa 12 rfl ?_
      refine HA.all [13] (by kernel_rfl) rfl ⟨⟨_, rfl, ?_⟩, trivial⟩
      refine HO.one ?_
      refine H1.stgAgg (b := bm) (o := i * 15) (xs := rcl X) (vs := rcells y) rfl rfl rfl (rcells_one y) hq1 hr1 rplA ?_
      apply HA.fold
      refine HA.pa 14 rfl ?_
      refine HA.all [15] (by kernel_rfl) rfl ⟨⟨_, rfl, ?_⟩, trivial⟩
      refine HO.one ?_
      refine H1.stgAgg (b := bm) (o := j * 15) (xs := rcl (X.set i y)) (vs := rcells x) rfl rfl rfl (rcells_one x) hq2 hr2 rplA ?_
      apply HA.fold
      refine HA.done (by kernel_rfl) ?_
      rw [← hl2]
      generalize (X.set i y).set j x = X2 at hl2 hsw ⊢
      refine hwBJ ?_
      exact HX.again (k + 1, X2) ⟨hlt, hl2.trans hXl, fun r => (hsw r).trans (hXm r)⟩ (by show S.length - (k + 1) < S.length - k; omega) esA (by repeat (first | exact Hs.nil _ | (refine Hs.cons pickA ?_)))
    · refine HO.one ?_
      refine H1.ldAggw (vs := rcells x) rfl rfl (fun w' hM i v hv => by obtain ⟨b', o', e1, -, hc⟩ := (hM.recs (l := X) memA).at hXne; cases e1; have h := hc _ x hx i v hv; rw [Nat.zero_add] at h; exact h) rfl ?_
      apply HA.fold
      refine HA.all [7] (by kernel_rfl) rfl ⟨⟨_, rfl, ?_⟩, trivial⟩
      refine HO.one ?_
      refine H1.ldAggw (vs := rcells y) rfl rfl (fun w' hM i v hv => by obtain ⟨b', o', e1, -, hc⟩ := (hM.recs (l := X) memA).at hXne; cases e1; have h := hc _ y hy i v hv; rw [Nat.zero_add] at h; exact h) rfl ?_
      apply HA.fold
      refine HA.pa 12 rfl ?_
      refine HA.all [13] (by kernel_rfl) rfl ⟨⟨_, rfl, ?_⟩, trivial⟩
      refine HO.one ?_
      refine H1.stgAgg (b := bm) (o := i * 15) (xs := rcl X) (vs := rcells y) rfl rfl rfl (rcells_one y) hq1 hr1 rplA ?_
      apply HA.fold
      refine HA.pa 14 rfl ?_
      refine HA.all [15] (by kernel_rfl) rfl ⟨⟨_, rfl, ?_⟩, trivial⟩
      refine HO.one ?_
      refine H1.stgAgg (b := bm) (o := j * 15) (xs := rcl (X.set i y)) (vs := rcells x) rfl rfl rfl (rcells_one x) hq2 hr2 rplA ?_
      apply HA.fold
      refine HA.done (by kernel_rfl) ?_
      rw [← hl2]
      generalize (X.set i y).set j x = X2 at hl2 hsw ⊢
      refine hwBJ ?_
      exact HX.again (k + 1, X2) ⟨hlt, hl2.trans hXl, fun r => (hsw r).trans (hXm r)⟩ (by show S.length - (k + 1) < S.length - k; omega) esA (by repeat (first | exact Hs.nil _ | (refine Hs.cons pickA ?_)))
  rintro X ⟨hXl, hXm⟩
  have hXok : ∀ r ∈ X, RcOk r := fun r hr => by
    have h := (hXm r).1 hr
    rw [hX0] at h
    rcases List.mem_append.1 h with h | h
    · exact hMok r h
    · obtain ⟨s, hs, rfl⟩ := List.mem_map.1 h
      exact late_ok (by omega) (hvL s hs)
  have hsame := late_same hvL (fun r => (hXm r).trans (by rw [hX0]))
  clear hXm hX0 e0 hvL hL30
  refine hwBJ ?_
  refine HL.one (H1.callz1 (α := Nat → Slot) (V := bsV) (An := bsA) (I := fun q => ∀ i : Nat, i < 8 → IsOf M0 D ((i : Int) + 1) (bsL q i)) (vs := [.slice a2 M0.length c2, zv D]) rfl rfl (fun w' hM => of_fn a2 c2 M0 (by omega) hMok D w' (hM.recs (l := M0) memA)) ?_)
  intro q hq
  refine hwBJ ?_
  refine HL.one (H1.alloc (cs := row 8 fun _ => .slice none 0 0) rfl rfl (fun b21 => ?_))
  refine hwBJ ?_
  refine HL.one (H1.stAgg (b := b21) (cs := row 8 fun _ => .slice none 0 0) (vs := row 8 fun i => slot (q i)) rfl rfl (row_len 8 _) rowSlot_one rplA rfl ?_)
  refine hwBJ ?_
  refine HL.one (H1.callz1 (α := Nat → Slot) (V := bsV) (An := bsA) (I := fun q => ∀ i : Nat, i < 8 → IsOf X D ((i : Int) + 1) (bsL q i)) (vs := [.slice a4 X.length c4, zv D]) rfl rfl (fun w' hM => of_fn a4 c4 X (by omega) hXok D w' (hM.recs (l := X) memA)) ?_)
  intro q2 hq2
  have hbk := bok_of (by omega) hq
  have hbk2 := bok_of (by omega) hq2
  have hbs := base_same hq hq2 hsame
  obtain ⟨DD, hDD⟩ : ∃ DD, decF (bsL q) aq = DD := ⟨_, rfl⟩
  have hDD2 : decF (bsL q2) aq = DD := (decF_same hbs aq).trans hDD
  have hDl : DD.2.2.length ≤ 1000 := hDD ▸ decF_len hbk aq
  clear hq hq2 hbs hsame hXok hMok
  refine hwBJ ?_
  refine HL.one (H1.alloc (cs := row 8 fun _ => .slice none 0 0) rfl rfl (fun b22 => ?_))
  refine hwBJ ?_
  refine HL.one (H1.stAgg (b := b22) (cs := row 8 fun _ => .slice none 0 0) (vs := row 8 fun i => slot (q2 i)) rfl rfl (row_len 8 _) rowSlot_one rplA rfl ?_)
  refine hwBJ ?_
  refine HL.one (H1.ldAgg (b := b21) (vs := row 8 fun i => slot (q i)) rfl memA (row_len 8 _) (fun i v hv => by rw [Nat.zero_add]; exact hv) rfl ?_)
  refine hwBJ ?_
  refine HL.one (H1.ldAgg (b := b13) (vs := askC aq) rfl memA rfl (fun i v hv => by rw [Nat.zero_add]; exact hv) rfl ?_)
  refine hwBJ ?_
  refine HL.one (H1.callz1 (α := Option Addr × Nat) (V := fun z => .agg (decCells DD z.1 z.2).toArray) (An := fun z => A.grow 3 1 z.1 z.2 DD.2.2.length (ints DD.2.2)) (I := fun _ => True) (vs := [.agg (row 8 fun i => slot (q i)).toArray, .agg (askC aq).toArray]) rfl rfl (fun w' hM => Decide_fnD hbk aq hDD w' (hM.base (q := q) memA)) ?_)
  rintro ⟨az, cz⟩ -
  dsimp only
  refine hwBJ ?_
  refine HL.one (H1.alloc (cs := [.bool false, zv 0, .slice none 0 0]) rfl rfl (fun b23 => ?_))
  refine hwBJ ?_
  refine HL.one (H1.stAgg (b := b23) (cs := [.bool false, zv 0, .slice none 0 0]) (vs := decCells DD az cz) rfl rfl rfl (decCells_one DD az cz) rplA rfl ?_)
  refine hwBJ ?_
  refine HC.sub [(11, .bool true), (13, .pointer (some ⟨b13, 0, none⟩)), (21, .pointer (some ⟨b21, 0, none⟩)), (22, .pointer (some ⟨b22, 0, none⟩)), (23, .pointer (some ⟨b23, 0, none⟩))] [A.blk b23 (decCells DD az cz) 41, A.blk b22 (row 8 fun i => slot (q2 i)) 38, A.blk b21 (row 8 fun i => slot (q i)) 38, A.blk b13 (askC aq) 32, A.grow 3 1 az cz DD.2.2.length (ints DD.2.2), bsA q2, bsA q] ?_ esA (by repeat (first | exact Hs.nil _ | (refine Hs.cons pickA ?_)))
  refine HC.anyC (cellsB b23 (decCells DD az cz) ++ (cellsB b22 (row 8 fun i => slot (q2 i)) ++ (cellsB b21 (row 8 fun i => slot (q i)) ++ (cellsB b13 (askC aq) ++ [])))) rfl ?_
  refine HB.pa 0 rfl ?_
  refine HB.pa 1 rfl ?_
  refine HB.ldAg (vs := decCells DD az cz) 2 rfl rfl rfl rfl (fun i v hv => cellsBL (cellsB_mem hv)) ?_
  refine HB.ldAg (vs := row 8 fun i => slot (q2 i)) 3 rfl rfl rfl (row_len 8 _) (fun i v hv => cellsBR (cellsBL (cellsB_mem hv))) ?_
  refine HB.ldAg (vs := askC aq) 4 rfl rfl rfl rfl (fun i v hv => cellsBR (cellsBR (cellsBR (cellsBL (cellsB_mem hv))))) ?_
  refine HB.all (by exact Keep.blkB memA (Keep.blkB memA (Keep.blkB memA (Keep.blkB memA Keep.nil)))) [5] (by kernel_rfl) rfl ⟨⟨_, rfl, ?_⟩, trivial⟩
  refine HP.one_a rfl ?_
  refine H1.callz1 (α := Option Addr × Nat) (V := fun z => .agg (decCells DD z.1 z.2).toArray) (An := fun z => A.grow 3 1 z.1 z.2 DD.2.2.length (ints DD.2.2)) (I := fun _ => True) (vs := [.agg (row 8 fun i => slot (q2 i)).toArray, .agg (askC aq).toArray]) rfl rfl (fun w' hM => Decide_fnD hbk2 aq hDD2 w' (hM.base (q := q2) memA)) ?_
  rintro ⟨ae, ce⟩ -
  dsimp only
  apply HB.fold
  refine HB.all (by exact Keep.blkB memA (Keep.blkB memA (Keep.blkB memA (Keep.blkB memA Keep.nil)))) [6] (by kernel_rfl) rfl ⟨⟨_, rfl, ?_⟩, trivial⟩
  refine HP.one_a rfl ?_
  refine H1.callx (u := .bool true) (vs := [.agg (decCells DD az cz).toArray, .agg (decCells DD ae ce).toArray]) rfl rfl (fun w' hM => Same_fn DD.1 DD.2.1 DD.2.2 (by omega) az ae cz ce w' (by have h := hM.gr (e := 3) (a := az) (c := cz) (n := DD.2.2.length) (xs := ints DD.2.2) memA; exact h) (by have h := hM.gr (e := 3) (a := ae) (c := ce) (n := DD.2.2.length) (xs := ints DD.2.2) memA; exact h)) ?_
  apply HB.fold
  refine HB.pa 7 rfl ?_
  refine HB.pa 8 rfl ?_
  refine HB.ldAg (vs := row 8 fun i => slot (q2 i)) 9 rfl rfl rfl (row_len 8 _) (fun i v hv => cellsBR (cellsBL (cellsB_mem hv))) ?_
  refine HB.ldAg (vs := askC aq) 10 rfl rfl rfl rfl (fun i v hv => cellsBR (cellsBR (cellsBR (cellsBL (cellsB_mem hv))))) ?_
  refine HB.ldAg (vs := decCells DD az cz) 11 rfl rfl rfl rfl (fun i v hv => cellsBL (cellsB_mem hv)) ?_
  first | refine HB.ga 12 rfl rfl ?_ | refine HB.na 12 rfl rfl ?_ | refine HB.nu 12 rfl rfl ?_
  refine HB.ldg 13 rfl rfl rfl (cellsBL (cellsB_mem (i := 2) rfl)) ?_
  refine HB.all (by exact Keep.blkB memA (Keep.blkB memA (Keep.blkB memA (Keep.blkB memA Keep.nil)))) [14] (by kernel_rfl) rfl ⟨⟨_, rfl, ?_⟩, trivial⟩
  refine HP.one_a rfl ?_
  refine H1.callx (u := .bool true) (vs := [.agg (row 8 fun i => slot (q2 i)).toArray, .agg (askC aq).toArray, .agg (decCells DD az cz).toArray, .slice az DD.2.2.length cz]) rfl rfl (fun w' hM => Explains_fnD hbk2 aq hDD2 az cz w' (hM.base (q := q2) memA) (by have h := hM.gr (e := 3) (a := az) (c := cz) (n := DD.2.2.length) (xs := ints DD.2.2) memA; exact h)) ?_
  apply HB.fold
  refine HB.pa 15 rfl ?_
  refine HB.pa 16 rfl ?_
  refine HB.ldAg (vs := row 8 fun i => slot (q i)) 17 rfl rfl rfl (row_len 8 _) (fun i v hv => cellsBR (cellsBR (cellsBL (cellsB_mem hv)))) ?_
  refine HB.ldAg (vs := askC aq) 18 rfl rfl rfl rfl (fun i v hv => cellsBR (cellsBR (cellsBR (cellsBL (cellsB_mem hv))))) ?_
  refine HB.ldAg (vs := decCells DD az cz) 19 rfl rfl rfl rfl (fun i v hv => cellsBL (cellsB_mem hv)) ?_
  first | refine HB.ga 20 rfl rfl ?_ | refine HB.na 20 rfl rfl ?_ | refine HB.nu 20 rfl rfl ?_
  refine HB.ldg 21 rfl rfl rfl (cellsBL (cellsB_mem (i := 2) rfl)) ?_
  refine HB.all (by exact Keep.blkB memA (Keep.blkB memA (Keep.blkB memA (Keep.blkB memA Keep.nil)))) [22] (by kernel_rfl) rfl ⟨⟨_, rfl, ?_⟩, trivial⟩
  refine HP.one_a rfl ?_
  refine H1.callx (u := .bool true) (vs := [.agg (row 8 fun i => slot (q i)).toArray, .agg (askC aq).toArray, .agg (decCells DD az cz).toArray, .slice az DD.2.2.length cz]) rfl rfl (fun w' hM => Explains_fnD hbk aq hDD az cz w' (hM.base (q := q) memA) (by have h := hM.gr (e := 3) (a := az) (c := cz) (n := DD.2.2.length) (xs := ints DD.2.2) memA; exact h)) ?_
  apply HB.fold
  refine HB.pa 23 rfl ?_
  refine HB.pa 24 rfl ?_
  refine HB.done (by exact Keep.blkB memA (Keep.blkB memA (Keep.blkB memA (Keep.blkB memA Keep.nil)))) (by kernel_rfl) ?_
  refine hwBJ ?_
  exact HX.ret1 rfl rfl fun w' hM => ⟨rfl, hM.ext⟩
end Go.Sx
/- From a function's contract to a row's statement: arguments that are numbers, arrays of numbers, slices of arrays of numbers, records. -/
namespace Go.Sx
open Go Go.ChangeShapes Go.WideShapes Go.ChangeAt Go.RowKit
section
variable {H : Type} {enc : TypeId × Value → H} {P : Program} {w : World} {b : Nat} {sp : Nat → Bool} {hd : Bool}
theorem args_cons {t : TypeId} {ts : List TypeId} {vs : List Value} {ds : List (DataW H)} {ps : List MemPlace} (h : DataW.TrodAll enc P w b sp hd (t :: ts) vs ds ps) :
    ∃ v vs' d ds' p q, vs = v :: vs' ∧ ds = d :: ds' ∧ ps = p ++ q ∧ DataW.Trod enc P w b sp hd t v d p ∧ DataW.TrodAll enc P w b sp hd ts vs' ds' q := by
  cases vs with
  | nil => exact h.elim
  | cons v vs =>
    cases ds with
    | nil => exact h.elim
    | cons d ds =>
      obtain ⟨p, q, h1, h2, h3⟩ := h
      exact ⟨v, vs, d, ds, p, q, rfl, rfl, h3, h1, h2⟩
theorem args_nil {vs : List Value} {ds : List (DataW H)} {ps : List MemPlace} (h : DataW.TrodAll enc P w b sp hd [] vs ds ps) : vs = [] ∧ ds = [] ∧ ps = [] := by
  cases vs with
  | cons v vs => exact h.elim
  | nil => cases ds with
    | cons d ds => exact h.elim
    | nil => exact ⟨rfl, rfl, h⟩
theorem trodAll_ext (hl : laidOutB P = true) {W W' : World} (hx : Below W.heap.size W W') : ∀ {ts : List TypeId} {vs : List Value} {ds : List (DataW H)} {ps : List MemPlace}, (ts.all fun t => P.readableRec t && decide (t < P.types.size)) = true →
    DataW.TrodAll enc P W 0 (fun _ => true) true ts vs ds ps → (∀ p ∈ ps, p.block < W.heap.size) → ∀ sp : Nat → Bool, (∀ p ∈ ps, sp p.block = true) → DataW.TrodAll enc P W' 0 sp true ts vs ds ps
  | [], [], [], _, _, h, _, _, _ => h
  | [], [], _ :: _, _, _, h, _, _, _ => h.elim
  | [], _ :: _, _, _, _, h, _, _, _ => h.elim
  | _ :: _, [], _, _, _, h, _, _, _ => h.elim
  | _ :: _, _ :: _, [], _, _, h, _, _, _ => h.elim
  | t :: ts, v :: vs, d :: ds, ps, ht, h, hlt, sp, hsp => by
    obtain ⟨p, q, h1, h2, rfl⟩ := h
    simp only [List.all_cons, Bool.and_eq_true, decide_eq_true_eq] at ht
    refine ⟨p, q, ?_, trodAll_ext hl hx ht.2 h2 (fun x hx => hlt x (by simp [hx])) sp (fun x hx => hsp x (by simp [hx])), rfl⟩
    exact WideElems.Trod_stays hl ht.1.1 ht.1.2 h1 (fun x hx' => hx.same (hlt x (by simp [hx']))) (fun x hx' => hsp x (by simp [hx']))
end
end Go.Sx
namespace Go.Sx
open Go Go.Proofs Go.ChangeShapes Go.WideShapes Go.ChangeAt Go.RowKit
theorem ints_rowK (f : Nat → Int) (n : Nat) : ints ((List.range n).map f) = row n fun q => zv (f q) := by
  unfold ints row
  rw [List.map_map]; rfl
/-- The call has laid new blocks, and turned no old one. -/
theorem post_ext {H : Type} {enc : TypeId × Value → H} {P : Program} {f : Func} {s : ChangeSpec} {apart fresh handsOn again : Bool} {W W' : World} {args : Array Value} {v : Value} {ds gs : List (DataW H)} {before pa pv : List MemPlace} (hx : Ext W W')
    (hW : DataW.Whole enc P f.params.toList s.vars apart W args.toList ds gs before)
    (hres : ∀ (b : Nat) (sp : Nat → Bool) (hd : Bool), DataW.TrodAll enc P W' b sp hd f.resultTypes.toList (v.resultList f.resultTypes.size) (s.fn H (ds ++ gs)).results [])
    (hargs : ∀ sp : Nat → Bool, (∀ p ∈ before, sp p.block = true) → DataW.TrodAll enc P W' 0 sp true f.params.toList args.toList (s.fn H (ds ++ gs)).args pa)
    (hvars : ∀ sp : Nat → Bool, (∀ p ∈ before, sp p.block = true) → DataW.TrodVars enc P W' sp s.vars (s.fn H (ds ++ gs)).vars pv)
    (hps : before = pa ++ pv)
    (hok : ∀ (j : Nat) (t : TypeId) (r : Value), f.resultTypes[j]? = some t → (v.resultList f.resultTypes.size)[j]? = some r → Value.okWide P W' .any 0 t r) :
    s.post enc P f apart fresh handsOn again W args v W' := by
  have hlt : ∀ p ∈ before, p.block < W.heap.size := fun p hp => hW.lt p hp
  have hold : ∀ p ∈ before, (fun b => decide (b < W.heap.size)) p.block = true := fun p hp => by simpa using hW.lt p hp
  refine ⟨ds, gs, before, [], pa, pv, hW, hres _ _ _, hargs _ hold, hvars _ hold, (World.keptBut_refl W _).congr hx.os hx.output hx.block, fun _ => ?_⟩
  obtain ⟨_, _, _, _, _, hz, hn⟩ := hW
  refine ⟨hok, _, _, ([] ++ pa) ++ pv, ⟨[] ++ pa, pv, trodAll_append (hargs _ (fun _ _ => rfl)) (hres _ _ _), hvars _ (fun _ _ => rfl), rfl, ?_, ?_⟩, ?_⟩
  · intro b off hp
    have hp' : MemPlace.cell b off ∈ before := by rw [hps]; simpa using hp
    rw [World.frozen?_of_block (hx.block b (hlt _ hp'))]
    exact hz b off hp'
  · intro ha
    have := hn ha
    rw [hps] at this
    simpa using this
  · intro p hp _
    rw [hps]
    simpa using hp
theorem i64_of {x : Int} (h : (Lit.int .i64 x).wf = true) : i64W x := by
  simp only [Lit.wf, Bool.and_eq_true, decide_eq_true_eq] at h
  have e1 : IntKind.i64.min = -9223372036854775808 := rfl
  have e2 : IntKind.i64.max = 9223372036854775807 := rfl
  rw [e1, e2] at h
  exact h
theorem ownK : ownKnob Tryz.prog.godebug = none := by kernel_rfl
section
variable {H : Type} {enc : TypeId × Value → H} {P : Program} {W : World} {r : Reach} {b0 b : Nat} {sp : Nat → Bool} {hd : Bool} {v : Value} {d : DataW H} {p : List MemPlace}
theorem okWide_arr {t e n : Nat} (ht : P.underlying t = some (.array n e)) (h : Value.okWide P W r b0 t v) : ∃ cs, v = .agg cs ∧ cs.size = P.cellsOf t := by
  simp only [Value.okWide, ht] at h
  obtain ⟨cs, h1, h2, _⟩ := h
  exact ⟨cs, h1, h2⟩
theorem spot_none {W : World} {a : Addr} {v : Value} (h : W.cell? a = some v) : a = ⟨a.block, a.off, none⟩ ∧ a.block < W.heap.size := by
  unfold World.cell? at h
  split at h
  · rename_i c e f hc
    split at h
    · cases h
    · rename_i hs
      refine ⟨?_, (Array.getElem?_eq_some_iff.1 hc).1⟩
      cases a with
      | mk b o s => cases s <;> simp_all
  · cases h
def cellInt (W : World) (a : Addr) : Int := match W.cell? a with | some (.int _ z) => z | _ => 0
/-- A slice of numbers. -/
theorem open_sl {t e : Nat} (ht : P.underlying t = some (.slice e)) (he : P.underlying e = some (.int .i64)) (hce : P.cellsOf e = 1) (hv : Value.okWide P W r b0 t v) (h : DataW.Trod enc P W b sp hd t v d p) :
    ∃ l : List Int, Rd W v (ints l) ∧ (∀ x ∈ l, i64W x) ∧ l.length ≤ 9223372036854775807 := by
  obtain ⟨fuel, hf⟩ := h
  obtain ⟨a, n, c, rfl⟩ := okWide_slice ht hv
  have hcells : (Value.slice a n c).cells.toList = [Value.slice a n c] := rfl
  rw [hcells] at hf
  rcases DataW.trod_slice ht hf with ⟨h0, -⟩ | ⟨a', len, cap, elems, rest, m, -, hcs, -, hb, hlc, hm, hlen, hel, -, -⟩
  · cases h0
    exact ⟨[], ⟨_, _, rfl, Nat.le_refl _, .inl rfl⟩, by simp, by simp⟩
  · cases hcs
    have hnm : n ≤ 9223372036854775807 := by simp only [maxLen] at hm; omega
    have key : ∀ q, q < n → ∃ z, W.cell? (a'.add q) = some (.int .i64 z) ∧ (Lit.int .i64 z).wf = true := fun q hq => by
      have h1 := hel q hq
      rw [hce, Nat.mul_one, List.getElem?_eq_getElem (by omega)] at h1
      cases hcs : W.cells? b (a'.add q) 1 with
      | none => rw [hcs] at h1; cases h1
      | some cs =>
        rw [hcs] at h1
        simp only [Option.bind_some] at h1
        obtain ⟨z, e1, -, wz⟩ := DataW.trod_int he h1
        have h3 := (World.cells?_some hcs).2.2 0 (by decide)
        refine ⟨z, ?_, wz⟩
        rw [show (a'.add q).add 0 = a'.add q by simp [Addr.add]] at h3
        rw [h3, e1]; rfl
    by_cases hn0 : n = 0
    · subst hn0
      exact ⟨[], ⟨_, _, rfl, Nat.zero_le _, .inl rfl⟩, by simp, by simp⟩
    · obtain ⟨z0, hz0, -⟩ := key 0 (by omega)
      rw [show a'.add 0 = a' by simp [Addr.add]] at hz0
      obtain ⟨ha, hblk⟩ := spot_none hz0
      have hadd : ∀ q, a'.add q = ⟨a'.block, a'.off + q, none⟩ := fun q => by rw [ha, add_lit]
      have hk : ∀ q, q < n → W.cell? ⟨a'.block, a'.off + q, none⟩ = some (zv (cellInt W ⟨a'.block, a'.off + q, none⟩)) ∧ i64W (cellInt W ⟨a'.block, a'.off + q, none⟩) := fun q hq => by
        obtain ⟨z, hz, wz⟩ := key q hq
        rw [hadd] at hz
        have : cellInt W ⟨a'.block, a'.off + q, none⟩ = z := by unfold cellInt; rw [hz]
        rw [this]
        exact ⟨hz, i64_of wz⟩
      refine ⟨(List.range n).map fun q => cellInt W ⟨a'.block, a'.off + q, none⟩, ⟨some a', c, by rw [ints_len]; simp, by rw [ints_len]; simpa using hlc, .inr ⟨a'.block, a'.off, congrArg some ha, hblk, fun i u hu => ?_⟩⟩, fun x hx => ?_, by simpa using hnm⟩
      · rw [ints_rowK] at hu
        have hi : i < n := by
          have := (List.getElem?_eq_some_iff.1 hu).1
          rwa [row_len] at this
        rw [row_get _ hi] at hu
        cases hu
        exact (hk i hi).1
      · obtain ⟨q, hq, rfl⟩ := List.mem_map.1 hx
        exact (hk q (List.mem_range.1 hq)).2

/-- All cells of a type are numbers. -/
def intCellsB (P : Program) : Nat → TypeId → Bool
  | 0, _ => false
  | n + 1, t => match P.underlying t with
    | some (.int .i64) => Nat.beq (P.cellsOf t) 1
    | some (.array k e) => intCellsB P n e && Nat.beq (P.cellsOf t) (k * P.cellsOf e) && Nat.ble 1 (P.cellsOf e)
    | some (.struct fs) => (fs.toList.all fun f => intCellsB P n f.type) && (List.range (P.cellsOf t)).all fun j => (List.range fs.size).any fun i => match fs[i]? with | some f => Nat.ble f.offset j && Nat.blt j (f.offset + P.cellsOf f.type) | none => false
    | _ => false
theorem intCells : ∀ (n : Nat) (t : TypeId) (cs : List Value) (fuel : Nat) (x : DataW H × List MemPlace), intCellsB P n t = true → DataW.trod enc P W b sp hd fuel t cs = some x → cs.length = P.cellsOf t ∧ ∀ j, j < cs.length → ∃ z, cs[j]? = some (zv z) ∧ i64W z := by
  intro n
  induction n with
  | zero => intro t cs fuel x h; cases h
  | succ n ih =>
    intro t cs fuel x h hf
    simp only [intCellsB] at h
    split at h
    · rename_i ht
      have h1 : P.cellsOf t = 1 := Nat.eq_of_beq_eq_true h
      obtain ⟨z, e, -, hw⟩ := DataW.trod_int ht hf
      subst e
      refine ⟨by rw [h1]; rfl, fun j hj => ?_⟩
      have : j = 0 := by simpa using hj
      subst this
      exact ⟨z, rfl, i64_of hw⟩
    · rename_i k e ht
      rw [Bool.and_eq_true, Bool.and_eq_true] at h
      obtain ⟨⟨h1, h2⟩, h3⟩ := h
      have h2' : P.cellsOf t = k * P.cellsOf e := Nat.eq_of_beq_eq_true h2
      have h3' : 1 ≤ P.cellsOf e := Nat.le_of_ble_eq_true h3
      obtain ⟨xs, m, -, -, hl, hxl, hel⟩ := DataW.trod_array ht hf
      refine ⟨hl, fun j hj => ?_⟩
      rw [h2'] at hl
      have hi : j / P.cellsOf e < k := by
        rw [Nat.div_lt_iff_lt_mul h3']; omega
      have h4 := hel (j / P.cellsOf e) hi
      rw [List.getElem?_eq_getElem (by omega)] at h4
      obtain ⟨hlen, hz⟩ := ih e _ _ _ h1 h4
      have hm := Nat.mod_lt j h3'
      obtain ⟨z, hz, hw⟩ := hz (j % P.cellsOf e) (by rw [hlen]; exact hm)
      refine ⟨z, ?_, hw⟩
      rw [List.getElem?_take, if_pos hm, List.getElem?_drop] at hz
      rw [← hz]
      congr 1
      have := Nat.div_add_mod j (P.cellsOf e)
      rw [Nat.mul_comm] at this
      omega
    · rename_i fs ht
      rw [Bool.and_eq_true, List.all_eq_true, List.all_eq_true] at h
      obtain ⟨h1, h2⟩ := h
      obtain ⟨xs, m, -, -, hl, hxl, hel⟩ := DataW.trod_struct ht hf
      refine ⟨hl, fun j hj => ?_⟩
      have h3 := h2 j (List.mem_range.2 (by omega))
      rw [List.any_eq_true] at h3
      obtain ⟨i, hi, h4⟩ := h3
      have hi' := List.mem_range.1 hi
      cases hfi : fs[i]? with
      | none => rw [hfi] at h4; cases h4
      | some f =>
        rw [hfi] at h4
        simp only [Bool.and_eq_true] at h4
        have h5 : f.offset ≤ j := Nat.le_of_ble_eq_true h4.1
        have h6 : j < f.offset + P.cellsOf f.type := by simpa [Nat.blt_eq] using h4.2
        have h7 := hel i f hfi
        rw [List.getElem?_eq_getElem (by omega)] at h7
        have hmem : f ∈ fs.toList := by
          rw [← Array.getElem?_toList] at hfi
          exact List.mem_of_getElem? hfi
        obtain ⟨hlen, hz⟩ := ih f.type _ _ _ (h1 f hmem) h7
        obtain ⟨z, hz, hw⟩ := hz (j - f.offset) (by rw [hlen]; omega)
        refine ⟨z, ?_, hw⟩
        rw [List.getElem?_take, if_pos (by omega), List.getElem?_drop, show f.offset + (j - f.offset) = j by omega] at hz
        exact hz
    · cases h
/-- A row of numbers. -/
theorem intRow {n : Nat} {t : TypeId} {cs : List Value} {fuel : Nat} {x : DataW H × List MemPlace} (h : intCellsB P n t = true) (hf : DataW.trod enc P W b sp hd fuel t cs = some x) : ∃ zs : List Int, cs = ints zs ∧ zs.length = P.cellsOf t ∧ ∀ z ∈ zs, i64W z := by
  obtain ⟨hl, hz⟩ := intCells n t cs fuel x h hf
  have hch : ∃ g : Nat → Int, ∀ j, j < cs.length → cs[j]? = some (zv (g j)) ∧ i64W (g j) := by
    refine ⟨fun j => if h : j < cs.length then Classical.choose (hz j h) else 0, fun j hj => ?_⟩
    simp only [dif_pos hj]
    exact Classical.choose_spec (hz j hj)
  obtain ⟨g, hg⟩ := hch
  refine ⟨(List.range cs.length).map g, ?_, by simpa using hl, fun z hz => ?_⟩
  · rw [ints_rowK]
    apply List.ext_getElem?
    intro j
    by_cases hj : j < cs.length
    · rw [(hg j hj).1, row_get _ hj]
    · rw [List.getElem?_eq_none (by omega), List.getElem?_eq_none (by rw [row_len]; omega)]
  · obtain ⟨j, hj, rfl⟩ := List.mem_map.1 hz
    exact (hg j (List.mem_range.1 hj)).2
/-- A slice of structs (or arrays) of numbers, read in place: one cell. -/
theorem sl_rows {t e n fuel sz : Nat} {x : DataW H × List MemPlace} (ht : P.underlying t = some (.slice e)) (he : intCellsB P n e = true) (hce : P.cellsOf e = sz) (hsz : 0 < sz) (hf : DataW.trod enc P W b sp hd fuel t [v] = some x) :
    ∃ rows : List (List Int), (∃ (a : Option Addr) (c : Nat), v = .slice a rows.length c ∧ rows.length ≤ c ∧ (rows = [] ∨ ∃ b off, a = some ⟨b, off, none⟩ ∧ b < W.heap.size ∧ ∀ i rw j u, (rows.map ints)[i]? = some rw → rw[j]? = some u → W.cell? ⟨b, off + i * sz + j, none⟩ = some u)) ∧ (∀ r ∈ rows, r.length = sz ∧ ∀ z ∈ r, i64W z) ∧ rows.length ≤ maxLen := by
  rcases DataW.trod_slice ht hf with ⟨h0, -⟩ | ⟨a', n', c, elems, rest, m, -, hcs, -, hb, hlc, hm, hlen, hel, -, -⟩
  · cases h0
    exact ⟨[], ⟨_, _, rfl, Nat.le_refl _, .inl rfl⟩, by simp, Nat.zero_le _⟩
  · cases hcs
    have key : ∀ q, q < n' → ∃ zs : List Int, zs.length = sz ∧ (∀ z ∈ zs, i64W z) ∧ ∀ j u, (ints zs)[j]? = some u → W.cell? ((a'.add (q * sz)).add j) = some u := fun q hq => by
      have h1 := hel q hq
      rw [hce, List.getElem?_eq_getElem (by omega)] at h1
      cases hcl : W.cells? b (a'.add (q * sz)) sz with
      | none => rw [hcl] at h1; cases h1
      | some cs =>
        rw [hcl] at h1
        simp only [Option.bind_some] at h1
        obtain ⟨-, h5, h6⟩ := World.cells?_some hcl
        obtain ⟨zs, rfl, hl, hz⟩ := intRow he h1
        refine ⟨zs, by rw [hl, hce], hz, fun j u hu => ?_⟩
        have hj : j < sz := by
          have := (List.getElem?_eq_some_iff.1 hu).1
          rw [ints_len, hl, hce] at this; exact this
        rw [h6 j hj]; exact hu
    by_cases hn0 : n' = 0
    · subst hn0
      exact ⟨[], ⟨_, _, rfl, Nat.zero_le _, .inl rfl⟩, by simp, Nat.zero_le _⟩
    · have hch : ∃ Z : Nat → List Int, ∀ q, q < n' → (Z q).length = sz ∧ (∀ z ∈ Z q, i64W z) ∧ ∀ j u, (ints (Z q))[j]? = some u → W.cell? ((a'.add (q * sz)).add j) = some u := by
        refine ⟨fun q => if h : q < n' then Classical.choose (key q h) else [], fun q hq => ?_⟩
        simp only [dif_pos hq]
        exact Classical.choose_spec (key q hq)
      obtain ⟨Z, hZ⟩ := hch
      have h0 := hZ 0 (by omega)
      have hz0 := h0.2.2 0 _ (ints_get (by rw [h0.1]; exact hsz))
      rw [Nat.zero_mul, show (a'.add 0).add 0 = a' by simp [Addr.add]] at hz0
      obtain ⟨ha, hblk⟩ := spot_none hz0
      have hadd : ∀ q j, (a'.add (q * sz)).add j = ⟨a'.block, a'.off + q * sz + j, none⟩ := fun q j => by rw [ha, add_lit, add_lit]
      refine ⟨(List.range n').map Z, ⟨some a', c, by simp, by simpa using hlc, .inr ⟨a'.block, a'.off, congrArg some ha, hblk, fun i rw' j u hi hu => ?_⟩⟩, fun r hr => ?_, by simpa using (by omega : n' ≤ maxLen)⟩
      · rw [List.getElem?_map, List.getElem?_map] at hi
        have hin : i < n' := by
          refine Classical.byContradiction fun hn => ?_
          rw [List.getElem?_eq_none (by rw [List.length_range]; omega)] at hi
          cases hi
        rw [List.getElem?_range hin] at hi
        simp only [Option.map_some, Option.some.injEq] at hi
        subst hi
        have := (hZ i hin).2.2 j u hu
        rwa [hadd] at this
      · obtain ⟨q, hq, rfl⟩ := List.mem_map.1 hr
        have := hZ q (List.mem_range.1 hq)
        exact ⟨this.1, this.2.1⟩
end
end Go.Sx
namespace Go.Sx
open Go Go.Proofs Go.ChangeShapes Go.WideShapes Go.ChangeAt Go.RowKit
section
variable {H : Type} {enc : TypeId × Value → H} {W : World} {r : Reach} {b0 b : Nat} {sp : Nat → Bool} {hd : Bool} {v : Value} {d : DataW H} {p : List MemPlace}
theorem agg_cells {t : TypeId} {P : Program} {n : Nat} (ha : ∃ cs, v = .agg cs ∧ cs.size = P.cellsOf t) (hn : P.cellsOf t = n) : ∃ l : List Value, v = .agg l.toArray ∧ l.length = n ∧ v.cells.toList = l := by
  obtain ⟨cs, rfl, h⟩ := ha
  exact ⟨cs.toList, by simp, by simp [h, hn], rfl⟩
theorem open_intK {t : TypeId} {P : Program} (ht : P.underlying t = some (.int .i64)) (hv : Value.okWide P W r b0 t v) (h : DataW.Trod enc P W b sp hd t v d p) : ∃ x : Int, v = zv x ∧ i64W x := by
  obtain ⟨z, rfl⟩ := okWide_int ht hv
  obtain ⟨fuel, hf⟩ := h
  have hf' : DataW.trod enc P W b sp hd fuel t [.int .i64 z] = some (d, p) := hf
  obtain ⟨z', e, -, hw⟩ := DataW.trod_int ht hf'
  cases e
  exact ⟨z, rfl, i64_of hw⟩
set_option maxRecDepth 100000 in
/-- An array of numbers. -/
theorem open_arrK {t e n k : TypeId} (ht : Tryz.prog.underlying t = some (.array n e)) (hc : Tryz.prog.cellsOf t = k) (hi : intCellsB Tryz.prog 3 t = true) (hv : Value.okWide Tryz.prog W r b0 t v) (h : DataW.Trod enc Tryz.prog W b sp hd t v d p) :
    ∃ l : List Int, v = .agg (ints l).toArray ∧ l.length = k ∧ ∀ z ∈ l, i64W z := by
  obtain ⟨l, rfl, hl, hc'⟩ := agg_cells (okWide_arr ht hv) hc
  obtain ⟨fuel, hf⟩ := h
  rw [hc'] at hf
  obtain ⟨zs, rfl, h1, h2⟩ := intRow hi hf
  exact ⟨zs, rfl, by rw [h1, hc], h2⟩
set_option maxRecDepth 100000 in
theorem open_rowsK {t e sz : TypeId} (ht : Tryz.prog.underlying t = some (.slice e)) (hi : intCellsB Tryz.prog 3 e = true) (hc : Tryz.prog.cellsOf e = sz) (hsz : 0 < sz) (hv : Value.okWide Tryz.prog W r b0 t v) (h : DataW.Trod enc Tryz.prog W b sp hd t v d p) :
    ∃ rows : List (List Int), RdA sz W v rows ∧ (∀ r ∈ rows, r.length = sz ∧ ∀ z ∈ r, i64W z) ∧ rows.length ≤ maxLen := by
  obtain ⟨fuel, hf⟩ := h
  obtain ⟨a, n, c, rfl⟩ := okWide_slice ht hv
  have hcells : (Value.slice a n c).cells.toList = [Value.slice a n c] := rfl
  rw [hcells] at hf
  exact sl_rows ht hi hc hsz hf
end
end Go.Sx
