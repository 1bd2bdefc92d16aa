/- Chapter 18: Struck, newLand, isExposed. -/
import Derived.Test.YtfjkdciblblalaaGreatDoorT4
namespace Go.Sx
open Go Go.Proofs Go.RowKit
theorem POp.index_agg {P : Program} {N : Nat} {ds : List Deferred} {E : Env} {t ty : TypeId} {x y : Operand} {len : Nat} {e : TypeId} {z v : Value} {bb i : Nat} {cs : List Value} {k : IntKind} {n : Int} [h : UTy P t (.array len e)] [hi : ITy P e z 1 bb] [ha' : ATy P e false]
    (hx : Env.ev E x = some (.agg cs.toArray)) (hy : Env.ev E y = some (.int k n)) (en : n = (i : Int)) (hv : cs[i]? = some v) (hl : i < len) : POp P N ds E (.index t x y) ty v := fun ac ha d pos af g w => by
  subst en
  have h2 : 0 ≤ (i : Int) ∧ (i : Int) < (len : Int) := by omega
  simp [execOp, ha.ev hx, ha.ev hy, Instr.index, asIntOf, run_underlying h.is, Sem.run_bind, run_sizeOf, hl, part, run_isAgg, hv, Result.andThen]
theorem sc_at (s : St) {q : Nat} (h : q < 4) : (sc s)[q]? = some (zv (s.at q)) := by
  rcases (show q = 0 ∨ q = 1 ∨ q = 2 ∨ q = 3 by omega) with rfl | rfl | rfl | rfl <;> rfl
theorem sc_one (s : St) : ∀ v ∈ sc s, v.oneCell' = true := by
  unfold sc; intro v hv; simp only [List.mem_cons, List.not_mem_nil, or_false] at hv; rcases hv with rfl | rfl | rfl | rfl <;> rfl
/- Struck -/
def struckB (S : List St) (G : Nat → List Int) (i : Nat) : Bool := (List.range 4).any fun q => (G q).contains (gS S i q)
def struckL (S : List St) (G : Nat → List Int) (n : Nat) : List Nat := (List.range n).filter (struckB S G)
theorem struckL_step (S : List St) (G : Nat → List Int) (i : Nat) : struckL S G (i + 1) = struckL S G i ++ (if struckB S G i = true then [i] else []) := by
  unfold struckL
  rw [List.range_succ, List.filter_append]
  congr 1
  cases h : struckB S G i <;> simp [h]
theorem struckL_len (S : List St) (G : Nat → List Int) (n : Nat) : (struckL S G n).length ≤ n := by
  have := List.length_filter_le (struckB S G) (List.range n)
  rwa [List.length_range] at this
theorem struckB_yes {S : List St} {G : Nat → List Int} {i q : Nat} (hq : q < 4) (h : (G q).contains (gS S i q) = true) : struckB S G i = true := List.any_eq_true.2 ⟨q, List.mem_range.2 hq, h⟩
theorem struckB_no {S : List St} {G : Nat → List Int} {i : Nat} (h : ∀ q, q < 4 → (G q).contains (gS S i q) = false) : struckB S G i = false := List.any_eq_false.2 fun q hq => by rw [h q (List.mem_range.1 hq)]; decide
attribute [local irreducible] WC WL WX POp Then Again Fn NX W1 WA WO QL RP RA Yld LoopAt HC HL HX HN H1 HA HO HQ HB HP A.blk A.grow A.rd A.obj A.mp AgainH CutH
attribute [local irreducible] A.mq A.mit A.dfrs A.loop
set_option maxHeartbeats 1000000 in
theorem struck_fn (v : Value) (S : List St) (vs : Nat → Value) (G : Nat → List Int) (hS : S.length ≤ 9) (hG : ∀ q, q < 4 → (G q).length ≤ 1000000) (w : World) (hT : RdS w v S) (hR : ∀ q, q < 4 → Rd w (vs q) (ints (G q))) :
    Fn Tryz.prog 15 #[v, vs 0, vs 1, vs 2, vs 3] w fun u w' => ∃ z : Option Addr × Nat, True ∧ u = .slice z.1 (struckL S G S.length).length z.2 ∧ Mm w [A.grow 3 1 z.1 z.2 (struckL S G S.length).length (ints (natI (struckL S G S.length)))] w' := by
  obtain ⟨a, c, rfl, hc⟩ := hT.shape
  refine enterH (l := [_, _, _, _, _]) rfl Tryz.ntmps15 rfl ?_
  repeat' (first | apply HL.fold | apply HA.fold | apply HL.nil | apply HX.n_then | apply HC.seq | apply HC.region | refine HL.pa ?_ | refine HL.ga rfl ?_ | refine HL.na rfl ?_ | refine HL.nu rfl rfl ?_ | apply HC.skip | apply HC.exit | apply HC.ret | apply HX.e_block | refine HX.e_other rfl ?_ | apply HX.e_then | apply HX.e_again | apply HX.n_block | apply HX.r_then | apply HX.r_block | apply HX.r_again | refine HC.cond_yes rfl ?_ | refine HC.cond_no rfl ?_ | refine HL.one (H1.ldb rfl memA rfl rfl ?_) | refine HC.cond rfl (fun hc => ?_) (fun hc => ?_) | refine HC.cond_b rfl (fun hc => ?_) (fun hc => ?_))
  refine HC.grow0 3 1 ?_
  repeat' (first | apply HL.fold | apply HA.fold | apply HL.nil | apply HX.n_then | apply HC.seq | apply HC.region | refine HL.pa ?_ | refine HL.ga rfl ?_ | refine HL.na rfl ?_ | refine HL.nu rfl rfl ?_ | apply HC.block | apply HC.skip | apply HC.exit | apply HC.ret | apply HX.e_block | refine HX.e_other rfl ?_ | apply HX.e_then | apply HX.e_again | apply HX.n_block | apply HX.r_then | apply HX.r_block | apply HX.r_again | refine HC.cond_yes rfl ?_ | refine HC.cond_no rfl ?_ | refine HL.one (H1.ldb rfl memA rfl rfl ?_) | refine HC.cond rfl (fun hc => ?_) (fun hc => ?_) | refine HC.cond_b rfl (fun hc => ?_) (fun hc => ?_))
  refine HC.loop (α := Nat × Option Addr × Nat) (fun z => [(1, vs 0), (2, vs 1), (3, vs 2), (4, vs 3), (10, .slice z.2.1 (struckL S G z.1).length z.2.2), (15, .slice a S.length c), (16, zv (S.length : Int)), (17, zv (z.1 : Int))])
    (fun z => [A.grow 3 1 z.2.1 z.2.2 (struckL S G z.1).length (ints (natI (struckL S G z.1)))]) (fun z => z.1 ≤ S.length) (fun z => S.length - z.1) (0, none, 0) (Nat.zero_le _) esA (by repeat (first | exact Hs.nil _ | (refine Hs.cons pickA ?_))) ?_
  rintro ⟨i, ar, cr⟩ hi
  dsimp only at hi ⊢
  have hlen := struckL_len S G i
  by_cases hlt : i < S.length
  rotate_left
  · obtain rfl : i = S.length := by omega
    repeat' (first | apply HL.fold | apply HA.fold | apply HL.nil | apply HX.n_then | apply HC.seq | apply HC.region | refine HL.pa ?_ | refine HL.ga rfl ?_ | refine HL.na rfl ?_ | refine HL.nu rfl rfl ?_ | apply HC.block | apply HC.skip | apply HC.exit | apply HC.ret | apply HX.e_block | refine HX.e_other rfl ?_ | apply HX.e_then | apply HX.e_again | apply HX.n_block | apply HX.r_then | apply HX.r_block | apply HX.r_again | refine HC.cond_yes rfl ?_ | refine HC.cond_no rfl ?_ | refine HL.one (H1.ldb rfl memA rfl rfl ?_) | refine HC.cond rfl (fun hc => ?_) (fun hc => ?_) | refine HC.cond_b rfl (fun hc => ?_) (fun hc => ?_))
    exact HX.ret1 rfl rfl fun w' hM => ⟨(ar, cr), trivial, rfl, hM⟩
  obtain ⟨b, off, rfl, hbl, hcl⟩ := hT.at (by intro e; rw [e] at hlt; exact absurd hlt (Nat.not_lt_zero _))
  have hstep := struckL_step S G i
  generalize hX : struckL S G i = X at *
  repeat' (first | apply HL.fold | apply HA.fold | apply HL.nil | apply HX.n_then | apply HC.seq | apply HC.region | refine HL.pa ?_ | refine HL.ga rfl ?_ | refine HL.na rfl ?_ | refine HL.nu rfl rfl ?_ | apply HC.block | apply HC.skip | apply HC.exit | apply HC.ret | apply HX.e_block | refine HX.e_other rfl ?_ | apply HX.e_then | apply HX.e_again | apply HX.n_block | apply HX.r_then | apply HX.r_block | apply HX.r_again | refine HC.cond_yes rfl ?_ | refine HC.cond_no rfl ?_ | refine HL.one (H1.ldb rfl memA rfl rfl ?_) | refine HC.cond rfl (fun hc => ?_) (fun hc => ?_) | refine HC.cond_b rfl (fun hc => ?_) (fun hc => ?_))
  refine HL.one (H1.ldAggw (vs := sc (stAt S i)) rfl rfl (fun w hM j v hj => cell_ext hM.ext (hcl i hlt j v hj)) rfl ?_)
  repeat' (first | apply HL.fold | apply HA.fold | apply HL.nil | apply HX.n_then | apply HC.seq | apply HC.region | refine HL.pa ?_ | refine HL.ga rfl ?_ | refine HL.na rfl ?_ | refine HL.nu rfl rfl ?_ | apply HC.block | apply HC.skip | apply HC.exit | apply HC.ret | apply HX.e_block | refine HX.e_other rfl ?_ | apply HX.e_then | apply HX.e_again | apply HX.n_block | apply HX.r_then | apply HX.r_block | apply HX.r_again | refine HC.cond_yes rfl ?_ | refine HC.cond_no rfl ?_ | refine HL.one (H1.ldb rfl memA rfl rfl ?_) | refine HC.cond rfl (fun hc => ?_) (fun hc => ?_) | refine HC.cond_b rfl (fun hc => ?_) (fun hc => ?_))
  refine HL.one (H1.alloc (cs := [zv 0, zv 0, zv 0, zv 0]) rfl rfl (fun b2 => ?_))
  repeat' (first | apply HL.fold | apply HA.fold | apply HL.nil | apply HX.n_then | apply HC.seq | apply HC.region | refine HL.pa ?_ | refine HL.ga rfl ?_ | refine HL.na rfl ?_ | refine HL.nu rfl rfl ?_ | apply HC.block | apply HC.skip | apply HC.exit | apply HC.ret | apply HX.e_block | refine HX.e_other rfl ?_ | apply HX.e_then | apply HX.e_again | apply HX.n_block | apply HX.r_then | apply HX.r_block | apply HX.r_again | refine HC.cond_yes rfl ?_ | refine HC.cond_no rfl ?_ | refine HL.one (H1.ldb rfl memA rfl rfl ?_) | refine HC.cond rfl (fun hc => ?_) (fun hc => ?_) | refine HC.cond_b rfl (fun hc => ?_) (fun hc => ?_))
  refine HL.one (H1.stAgg (cs := [zv 0, zv 0, zv 0, zv 0]) (vs := sc (stAt S i)) rfl rfl rfl (sc_one _) rplA rfl ?_)
  repeat' (first | apply HL.fold | apply HA.fold | apply HL.nil | apply HX.n_then | apply HC.seq | apply HC.region | refine HL.pa ?_ | refine HL.ga rfl ?_ | refine HL.na rfl ?_ | refine HL.nu rfl rfl ?_ | apply HC.block | apply HC.skip | apply HC.exit | apply HC.ret | apply HX.e_block | refine HX.e_other rfl ?_ | apply HX.e_then | apply HX.e_again | apply HX.n_block | apply HX.r_then | apply HX.r_block | apply HX.r_again | refine HC.cond_yes rfl ?_ | refine HC.cond_no rfl ?_ | refine HL.one (H1.ldb rfl memA rfl rfl ?_) | refine HC.cond rfl (fun hc => ?_) (fun hc => ?_) | refine HC.cond_b rfl (fun hc => ?_) (fun hc => ?_))
  refine HL.build (cs := [vs 0, vs 1, vs 2, vs 3]) rfl (by
    have g : ∀ q, q < 4 → (vs q).cells = #[vs q] := fun q hq => by obtain ⟨a, c, e, -⟩ := (hR q hq).isInts; rw [e]; rfl
    simp [litC, litPut, g 0 (by decide), g 1 (by decide), g 2 (by decide), g 3 (by decide)]
    rfl) rfl ?_
  repeat' (first | apply HL.fold | apply HA.fold | apply HL.nil | apply HX.n_then | apply HC.seq | apply HC.region | refine HL.pa ?_ | refine HL.ga rfl ?_ | refine HL.na rfl ?_ | refine HL.nu rfl rfl ?_ | apply HC.block | apply HC.skip | apply HC.exit | apply HC.ret | apply HX.e_block | refine HX.e_other rfl ?_ | apply HX.e_then | apply HX.e_again | apply HX.n_block | apply HX.r_then | apply HX.r_block | apply HX.r_again | refine HC.cond_yes rfl ?_ | refine HC.cond_no rfl ?_ | refine HL.one (H1.ldb rfl memA rfl rfl ?_) | refine HC.cond rfl (fun hc => ?_) (fun hc => ?_) | refine HC.cond_b rfl (fun hc => ?_) (fun hc => ?_))
  refine HC.loop (α := Nat) (fun q => [(1, vs 0), (2, vs 1), (3, vs 2), (4, vs 3), (10, .slice ar X.length cr), (11, zv (i : Int)), (12, .pointer (some ⟨b2, 0, none⟩)), (15, .slice (some ⟨b, off, none⟩) S.length c), (16, zv (S.length : Int)), (17, zv (i : Int)), (26, .agg #[vs 0, vs 1, vs 2, vs 3]), (27, zv (q : Int))])
    (fun _ => [A.blk b2 (sc (stAt S i)) 95, A.grow 3 1 ar cr X.length (ints (natI X))]) (fun q => q ≤ 4 ∧ ∀ p, p < q → (G p).contains (gS S i p) = false) (fun q => 4 - q) 0 ⟨Nat.zero_le _, fun p hp => absurd hp (Nat.not_lt_zero _)⟩ esA (by repeat (first | exact Hs.nil _ | (refine Hs.cons pickA ?_))) ?_
  rintro q ⟨hq, hno⟩
  by_cases hq4 : q < 4
  rotate_left
  · obtain rfl : q = 4 := by omega
    rw [struckB_no hno, if_neg (by decide), List.append_nil] at hstep
    repeat' (first | apply HL.fold | apply HA.fold | apply HL.nil | apply HX.n_then | apply HC.seq | apply HC.region | refine HL.pa ?_ | refine HL.ga rfl ?_ | refine HL.na rfl ?_ | refine HL.nu rfl rfl ?_ | apply HC.block | apply HC.skip | apply HC.exit | apply HC.ret | apply HX.e_block | refine HX.e_other rfl ?_ | apply HX.e_then | apply HX.e_again | apply HX.n_block | apply HX.r_then | apply HX.r_block | apply HX.r_again | refine HC.cond_yes rfl ?_ | refine HC.cond_no rfl ?_ | refine HL.one (H1.ldb rfl memA rfl rfl ?_) | refine HC.cond rfl (fun hc => ?_) (fun hc => ?_) | refine HC.cond_b rfl (fun hc => ?_) (fun hc => ?_))
    refine HX.again (i + 1, ar, cr) (by show i + 1 ≤ S.length; omega) (by show S.length - (i + 1) < S.length - i; omega) (by dsimp only; rw [hstep]; repeat (first | exact trivial | refine ⟨rfl, ?_⟩)) ?_
    dsimp only
    rw [hstep]
    repeat (first | exact Hs.nil _ | (refine Hs.cons pickA ?_))
  repeat' (first | apply HL.fold | apply HA.fold | apply HL.nil | apply HX.n_then | apply HC.seq | apply HC.region | refine HL.pa ?_ | refine HL.ga rfl ?_ | refine HL.na rfl ?_ | refine HL.nu rfl rfl ?_ | apply HC.block | apply HC.skip | apply HC.exit | apply HC.ret | apply HX.e_block | refine HX.e_other rfl ?_ | apply HX.e_then | apply HX.e_again | apply HX.n_block | apply HX.r_then | apply HX.r_block | apply HX.r_again | refine HC.cond_yes rfl ?_ | refine HC.cond_no rfl ?_ | refine HL.one (H1.ldb rfl memA rfl rfl ?_) | refine HC.cond rfl (fun hc => ?_) (fun hc => ?_) | refine HC.cond_b rfl (fun hc => ?_) (fun hc => ?_))
  refine HL.pa ?_ (POp.index_agg (cs := [vs 0, vs 1, vs 2, vs 3]) (v := vs q) (i := q) rfl rfl rfl (by rcases (show q = 0 ∨ q = 1 ∨ q = 2 ∨ q = 3 by omega) with rfl | rfl | rfl | rfl <;> rfl) hq4)
  repeat' (first | apply HL.fold | apply HA.fold | apply HL.nil | apply HX.n_then | apply HC.seq | apply HC.region | refine HL.pa ?_ | refine HL.ga rfl ?_ | refine HL.na rfl ?_ | refine HL.nu rfl rfl ?_ | apply HC.block | apply HC.skip | apply HC.exit | apply HC.ret | apply HX.e_block | refine HX.e_other rfl ?_ | apply HX.e_then | apply HX.e_again | apply HX.n_block | apply HX.r_then | apply HX.r_block | apply HX.r_again | refine HC.cond_yes rfl ?_ | refine HC.cond_no rfl ?_ | refine HL.one (H1.ldb rfl memA rfl rfl ?_) | refine HC.cond rfl (fun hc => ?_) (fun hc => ?_) | refine HC.cond_b rfl (fun hc => ?_) (fun hc => ?_))
  refine HL.one (H1.ldAgg (vs := sc (stAt S i)) rfl memA rfl (fun i v hv => by rw [Nat.zero_add]; exact hv) rfl ?_)
  repeat' (first | apply HL.fold | apply HA.fold | apply HL.nil | apply HX.n_then | apply HC.seq | apply HC.region | refine HL.pa ?_ | refine HL.ga rfl ?_ | refine HL.na rfl ?_ | refine HL.nu rfl rfl ?_ | apply HC.block | apply HC.skip | apply HC.exit | apply HC.ret | apply HX.e_block | refine HX.e_other rfl ?_ | apply HX.e_then | apply HX.e_again | apply HX.n_block | apply HX.r_then | apply HX.r_block | apply HX.r_again | refine HC.cond_yes rfl ?_ | refine HC.cond_no rfl ?_ | refine HL.one (H1.ldb rfl memA rfl rfl ?_) | refine HC.cond rfl (fun hc => ?_) (fun hc => ?_) | refine HC.cond_b rfl (fun hc => ?_) (fun hc => ?_))
  refine HL.one (H1.callx (vs := [.agg (sc (stAt S i)).toArray]) rfl rfl (fun w' _ => groups_fn _ w') ?_)
  repeat' (first | apply HL.fold | apply HA.fold | apply HL.nil | apply HX.n_then | apply HC.seq | apply HC.region | refine HL.pa ?_ | refine HL.ga rfl ?_ | refine HL.na rfl ?_ | refine HL.nu rfl rfl ?_ | apply HC.block | apply HC.skip | apply HC.exit | apply HC.ret | apply HX.e_block | refine HX.e_other rfl ?_ | apply HX.e_then | apply HX.e_again | apply HX.n_block | apply HX.r_then | apply HX.r_block | apply HX.r_again | refine HC.cond_yes rfl ?_ | refine HC.cond_no rfl ?_ | refine HL.one (H1.ldb rfl memA rfl rfl ?_) | refine HC.cond rfl (fun hc => ?_) (fun hc => ?_) | refine HC.cond_b rfl (fun hc => ?_) (fun hc => ?_))
  refine HL.pa ?_ (POp.index_agg (cs := sc (stAt S i)) (v := zv (gS S i q)) (i := q) rfl rfl rfl (sc_at _ hq4) hq4)
  refine HL.one (H1.call0 (vs := [vs q, zv (gS S i q)]) rfl rfl (fun w' hM => contains_fn (vs q) (G q) _ (hG q hq4) w' (hM.rd0 (hR q hq4))) ?_)
  cases hb : (G q).contains (gS S i q) with
  | true =>
    rw [struckB_yes hq4 hb, if_pos rfl] at hstep
    repeat' (first | apply HL.fold | apply HA.fold | apply HL.nil | apply HX.n_then | apply HC.seq | apply HC.region | refine HL.pa ?_ | refine HL.ga rfl ?_ | refine HL.na rfl ?_ | refine HL.nu rfl rfl ?_ | apply HC.block | apply HC.skip | apply HC.exit | apply HC.ret | apply HX.e_block | refine HX.e_other rfl ?_ | apply HX.e_then | apply HX.e_again | apply HX.n_block | apply HX.r_then | apply HX.r_block | apply HX.r_again | refine HC.cond_yes rfl ?_ | refine HC.cond_no rfl ?_ | refine HL.one (H1.ldb rfl memA rfl rfl ?_) | refine HC.cond rfl (fun hc => ?_) (fun hc => ?_) | refine HC.cond_b rfl (fun hc => ?_) (fun hc => ?_))
    refine HL.one (H1.lit (cs := [zv (i : Int)]) rfl rfl rfl rfl rfl rfl (fun b3 => ?_))
    repeat' (first | apply HL.fold | apply HA.fold | apply HL.nil | apply HX.n_then | apply HC.seq | apply HC.region | refine HL.pa ?_ | refine HL.ga rfl ?_ | refine HL.na rfl ?_ | refine HL.nu rfl rfl ?_ | apply HC.block | apply HC.skip | apply HC.exit | apply HC.ret | apply HX.e_block | refine HX.e_other rfl ?_ | apply HX.e_then | apply HX.e_again | apply HX.n_block | apply HX.r_then | apply HX.r_block | apply HX.r_again | refine HC.cond_yes rfl ?_ | refine HC.cond_no rfl ?_ | refine HL.one (H1.ldb rfl memA rfl rfl ?_) | refine HC.cond rfl (fun hc => ?_) (fun hc => ?_) | refine HC.cond_b rfl (fun hc => ?_) (fun hc => ?_))
    refine HL.one (H1.app1 (u := zv (i : Int)) rfl rfl (fun _ _ => by first | ((repeat (first | with_reducible exact Rpl.here | with_reducible apply Rpl.there)); done) | (repeat (first | exact Rpl.here | apply Rpl.there))) (by repeat (first | exact mem_hd | apply mem_tl)) rfl rfl (by omega) rfl rfl (fun a4 c4 => ?_))
    repeat' (first | apply HL.fold | apply HA.fold | apply HL.nil | apply HX.n_then | apply HC.seq | apply HC.region | refine HL.pa ?_ | refine HL.ga rfl ?_ | refine HL.na rfl ?_ | refine HL.nu rfl rfl ?_ | apply HC.block | apply HC.skip | apply HC.exit | apply HC.ret | apply HX.e_block | refine HX.e_other rfl ?_ | apply HX.e_then | apply HX.e_again | apply HX.n_block | apply HX.r_then | apply HX.r_block | apply HX.r_again | refine HC.cond_yes rfl ?_ | refine HC.cond_no rfl ?_ | refine HL.one (H1.ldb rfl memA rfl rfl ?_) | refine HC.cond rfl (fun hc => ?_) (fun hc => ?_) | refine HC.cond_b rfl (fun hc => ?_) (fun hc => ?_))
    refine HX.again (i + 1, some ⟨a4, 0, none⟩, c4) (by show i + 1 ≤ S.length; omega) (by show S.length - (i + 1) < S.length - i; omega) (by dsimp only; rw [hstep, List.length_append]; repeat (first | exact trivial | refine ⟨rfl, ?_⟩)) ?_
    dsimp only
    rw [hstep, List.length_append, natI_app, ints_app]
    repeat (first | exact Hs.nil _ | (refine Hs.cons pickA ?_))
  | false =>
    repeat' (first | apply HL.fold | apply HA.fold | apply HL.nil | apply HX.n_then | apply HC.seq | apply HC.region | refine HL.pa ?_ | refine HL.ga rfl ?_ | refine HL.na rfl ?_ | refine HL.nu rfl rfl ?_ | apply HC.block | apply HC.skip | apply HC.exit | apply HC.ret | apply HX.e_block | refine HX.e_other rfl ?_ | apply HX.e_then | apply HX.e_again | apply HX.n_block | apply HX.r_then | apply HX.r_block | apply HX.r_again | refine HC.cond_yes rfl ?_ | refine HC.cond_no rfl ?_ | refine HL.one (H1.ldb rfl memA rfl rfl ?_) | refine HC.cond rfl (fun hc => ?_) (fun hc => ?_) | refine HC.cond_b rfl (fun hc => ?_) (fun hc => ?_))
    refine HX.again (q + 1) ⟨by omega, fun p hp => ?_⟩ (by omega) esA (by repeat (first | exact Hs.nil _ | (refine Hs.cons pickA ?_)))
    by_cases e : p = q
    · subst e; exact hb
    · exact hno p (by omega)
end Go.Sx

