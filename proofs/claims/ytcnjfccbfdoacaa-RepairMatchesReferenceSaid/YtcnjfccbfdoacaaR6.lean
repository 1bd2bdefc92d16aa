/- Chapter 19: Right of the reference. -/
import Derived.Test.YtcnjfccbfdoacaaR5
import Derived.Test.YtcnjfccbfdoacaaHu
namespace Go.Sx
open Go Go.Proofs
noncomputable def rightB (holders lost : List Int) (width k deadline : Int) : Bool := @decide (Right holders lost width k deadline) (Classical.propDecidable _)
theorem rightB_no {holders lost : List Int} {width k deadline : Int} (h : ¬ Right holders lost width k deadline) : rightB holders lost width k deadline = false := by unfold rightB; exact @decide_eq_false _ (Classical.propDecidable _) h
theorem rightB_yes {holders lost : List Int} {width k deadline : Int} (h : Right holders lost width k deadline) : rightB holders lost width k deadline = true := by unfold rightB; exact @decide_eq_true _ (Classical.propDecidable _) h
noncomputable def rsurv (holders lost : List Int) (width k deadline : Int) : List Int := if rightB holders lost width k deadline = true then survS holders lost else []
def survTo (holders lost : List Int) (i : Nat) : List Int := ((List.range i).filter fun i : Nat => decide ((i : Int) ∉ lost)).map (at' holders)
theorem survTo_step {holders lost : List Int} (i : Nat) : survTo holders lost (i + 1) = survTo holders lost i ++ (if (i : Int) ∈ lost then [] else [at' holders i]) := by
  unfold survTo
  rw [List.range_succ, List.filter_append, List.map_append]
  congr 1
  by_cases h : (i : Int) ∈ lost
  · simp [h]
  · simp [h]
theorem survTo_len {holders lost : List Int} (i : Nat) : (survTo holders lost i).length ≤ i := by
  unfold survTo
  rw [List.length_map]
  have := List.length_filter_le (fun i : Nat => decide ((i : Int) ∉ lost)) (List.range i)
  rwa [List.length_range] at this
theorem survTo_end {holders lost : List Int} : survTo holders lost holders.length = survS holders lost := rfl
attribute [local irreducible] WC WL WX POp Then Again Fn NX W1 WA WO QL RP RA Yld LoopAt HC HL HX HN H1 HA HO HQ A.blk A.grow A.rd A.obj AgainH CutH
set_option maxHeartbeats 2000000 in
theorem rright_fn (v u : Value) (holders lost : List Int) (width k deadline : Int) (hh : holders.length ≤ 1000000) (hl : lost.length ≤ 1000000) (w : World) (hR : Rd w v (ints holders)) (hS : Rd w u (ints lost)) :
    Fn Try.prog 28 #[v, u, .int .i64 width, .int .i64 k, .int .i64 deadline] w fun x w' => ∃ z : Option Addr × Nat, True ∧ x = .tuple #[.bool (rightB holders lost width k deadline), .slice z.1 (rsurv holders lost width k deadline).length z.2] ∧
      Mm w [A.grow 3 1 z.1 z.2 (rsurv holders lost width k deadline).length (ints (rsurv holders lost width k deadline))] w' := by
  obtain ⟨a, c, rfl, hc⟩ := hR.isInts
  obtain ⟨a', c', rfl, hc'⟩ := hS.isInts
  have no : ∀ {E : Env} {H : List Atom}, ¬ Right holders lost width k deadline → Env.g E 10 = some (.bool false) → Env.g E 11 = some (.slice none 0 0) →
      HX 99 [] .ret (bodyPost Try.prog Try.f28 (RetP fun x w' => ∃ z : Option Addr × Nat, True ∧ x = .tuple #[.bool (rightB holders lost width k deadline), .slice z.1 (rsurv holders lost width k deadline).length z.2] ∧
      Mm w [A.grow 3 1 z.1 z.2 (rsurv holders lost width k deadline).length (ints (rsurv holders lost width k deadline))] w')) E w H := fun hn h1 h2 => by
    have e : rsurv holders lost width k deadline = [] := by unfold rsurv; rw [rightB_no hn]; rfl
    refine HX.ret2 rfl h1 h2 fun w' hM => ⟨(none, 0), trivial, ?_, ?_⟩
    · rw [rightB_no hn, e]; rfl
    · rw [e]; exact (Mm.nil hM.ext).grow0 _ _
  refine enterH (l := [_, _, _, _, _]) rfl Try.ntmps28 rfl ?_
  repeat' (first | refine HL.one (H1.call0 rfl rfl (fun w _ => rwithin_fn _ _ _ w) ?_) | apply HL.fold | apply HA.fold | apply HL.nil | apply HX.n_then | apply HC.seq | apply HC.region | refine HL.pa ?_ | refine HL.ga rfl ?_ | refine HL.na rfl ?_ | refine HL.nu rfl rfl ?_ | apply HC.block | apply HC.skip | apply HC.exit | apply HC.ret | apply HX.e_block | refine HX.e_other rfl ?_ | apply HX.e_then | apply HX.e_again | apply HX.n_block | apply HX.r_then | apply HX.r_block | apply HX.r_again | refine HC.cond_yes rfl ?_ | refine HC.cond_no rfl ?_ | refine HL.one (H1.ldb rfl memA rfl rfl ?_) | refine HC.cond rfl (fun hc => ?_) (fun hc => ?_) | refine HC.cond_b rfl (fun hc => ?_) (fun hc => ?_))
  refine HL.one (H1.callp (α := Bool) (V := fun b => .tuple #[.bool (decide (custs holders)), .bool b]) (I := fun b => custs holders → b = decide (0 < holders.length)) rfl rfl (fun w' hM => (different_fn _ holders hh w' (hM.rd0 hR)).mono fun x w'' ⟨⟨b, h1, h2⟩, h3⟩ => ⟨b, h2, h1, h3⟩) ?_)
  intro sm hsm
  by_cases h1 : custs holders
  · rw [decide_eq_true h1]
    have hsm := hsm h1
    subst hsm
    by_cases h2 : 0 < holders.length
    · rw [decide_eq_true h2]
      by_cases h3 : holders.length ≤ 9
      · by_cases h4 : 1 ≤ width ∧ width ≤ 9
        · by_cases h5 : 1 ≤ k ∧ k ≤ (holders.length : Int)
          · by_cases h6 : 0 ≤ deadline ∧ deadline ≤ 1000
            · have d4 := decide_eq_true h4
              have d5 := decide_eq_true h5
              have d6 := decide_eq_true h6
              repeat' (first | refine HL.one (H1.call0 rfl rfl (fun w _ => rwithin_fn _ _ _ w) ?_) | apply HL.fold | apply HA.fold | apply HL.nil | apply HX.n_then | apply HC.seq | apply HC.region | refine HL.pa ?_ | refine HL.ga rfl ?_ | refine HL.na rfl ?_ | refine HL.nu rfl rfl ?_ | apply HC.block | apply HC.skip | apply HC.exit | apply HC.ret | apply HX.e_block | refine HX.e_other rfl ?_ | apply HX.e_then | apply HX.e_again | apply HX.n_block | apply HX.r_then | apply HX.r_block | apply HX.r_again | refine HC.cond_yes rfl ?_ | refine HC.cond_no rfl ?_ | refine HL.one (H1.ldb rfl memA rfl rfl ?_) | refine HC.cond rfl (fun hc => ?_) (fun hc => ?_) | refine HC.cond_b rfl (fun hc => ?_) (fun hc => ?_))
              refine HC.loop (α := Nat) (fun i => [(0, .slice a holders.length c), (1, .slice a' lost.length c'), (14, .int .i64 (i : Int))]) (fun _ => []) (fun i => i ≤ lost.length ∧ ascTo holders.length lost i) (fun i => lost.length - i) 0 ⟨by omega, fun j hj => by omega⟩ esA (by repeat (first | exact Hs.nil _ | (refine Hs.cons pickA ?_))) ?_
              rintro i ⟨hi, hasc⟩
              by_cases hlt : i < lost.length
              · obtain ⟨b, off, rfl, -⟩ := hS.iat (by intro e; rw [e] at hlt; simp at hlt)
                by_cases hb : 0 ≤ at' lost i ∧ at' lost i ≤ (holders.length : Int) - 1
                · by_cases hi0 : 0 < i
                  · have hm : i - 1 < lost.length := by omega
                    by_cases hge : at' lost (i - 1) < at' lost i
                    · repeat' (first | refine HL.one (H1.call0 rfl rfl (fun w _ => rwithin_fn _ _ _ w) ?_) | apply HL.fold | apply HA.fold | apply HL.nil | apply HX.n_then | apply HC.seq | apply HC.region | refine HL.pa ?_ | refine HL.ga rfl ?_ | refine HL.na rfl ?_ | refine HL.nu rfl rfl ?_ | apply HC.block | apply HC.skip | apply HC.exit | apply HC.ret | apply HX.e_block | refine HX.e_other rfl ?_ | apply HX.e_then | apply HX.e_again | apply HX.n_block | apply HX.r_then | apply HX.r_block | apply HX.r_again | refine HC.cond_yes rfl ?_ | refine HC.cond_no rfl ?_ | refine HL.one (H1.ldb rfl memA rfl rfl ?_) | refine HC.cond rfl (fun hc => ?_) (fun hc => ?_) | refine HC.cond_b rfl (fun hc => ?_) (fun hc => ?_))
                      refine HC.any rfl ?_
                      refine HA.pa 0 rfl ?_
                      refine HA.pa 1 rfl ?_
                      refine HA.pa 2 rfl ?_
                      refine HA.pa 4 rfl ?_
                      refine HA.pa 5 rfl ?_
                      refine HA.pa 6 rfl ?_
                      refine HA.all [3] (by kernel_rfl) rfl ⟨⟨_, rfl, ?_⟩, trivial⟩
                      refine HO.one ?_
                      refine H1.ld0 rfl (hS.cell (ints_get hlt)) rfl ?_
                      apply HA.fold
                      refine HA.all [7] (by kernel_rfl) rfl ⟨⟨_, rfl, ?_⟩, trivial⟩
                      refine HO.one ?_
                      refine H1.call0 rfl rfl (fun w _ => rwithin_fn _ _ _ w) ?_
                      rw [decide_eq_true hb]
                      apply HA.fold
                      refine HA.pa 8 rfl ?_
                      refine HA.pa 9 rfl ?_
                      first | refine HA.ga 10 rfl rfl ?_ | refine HA.na 10 rfl rfl ?_ | refine HA.nu 10 rfl rfl ?_
                      first | refine HA.ga 11 rfl rfl ?_ | refine HA.na 11 rfl rfl ?_ | refine HA.nu 11 rfl rfl ?_
                      first | refine HA.ga 12 rfl rfl ?_ | refine HA.na 12 rfl rfl ?_ | refine HA.nu 12 rfl rfl ?_
                      first | refine HA.ga 13 rfl rfl ?_ | refine HA.na 13 rfl rfl ?_ | refine HA.nu 13 rfl rfl ?_
                      first | refine HA.ga 14 rfl rfl ?_ | refine HA.na 14 rfl rfl ?_ | refine HA.nu 14 rfl rfl ?_
                      first | refine HA.ga 18 rfl rfl ?_ | refine HA.na 18 rfl rfl ?_ | refine HA.nu 18 rfl rfl ?_
                      first | refine HA.ga 19 rfl rfl ?_ | refine HA.na 19 rfl rfl ?_ | refine HA.nu 19 rfl rfl ?_
                      first | refine HA.ga 20 rfl rfl ?_ | refine HA.na 20 rfl rfl ?_ | refine HA.nu 20 rfl rfl ?_
                      refine HA.all [15, 21] (by kernel_rfl) rfl ⟨⟨_, rfl, ?_⟩, ⟨_, rfl, ?_⟩, trivial⟩
                      · refine HO.one_a rfl ?_
                        refine H1.pa (v := .int .i64 ((i - 1 : Nat) : Int)) ?_ (by
                          rw [show ((i - 1 : Nat) : Int) = (i : Int) - 1 from by omega]
                          first
                            | (apply POp.move; rfl)
                            | (apply POp.assign; rfl)
                            | (apply POp.extract; rfl; rfl)
                            | (apply POp.len_slice; rfl)
                            | (apply POp.len_string; rfl)
                            | (apply POp.lss; rfl; rfl)
                            | (apply POp.leq; rfl; rfl)
                            | (apply POp.gtr; rfl; rfl)
                            | (apply POp.geq; rfl; rfl)
                            | (apply POp.eql; rfl; rfl)
                            | (apply POp.neq; rfl; rfl)
                            | (apply POp.not_d; rfl)
                            | (apply POp.not_b; rfl)
                            | (apply POp.add; rfl; rfl; omega; omega)
                            | (apply POp.sub; rfl; rfl; omega; omega)
                            | (apply POp.xor; rfl; rfl; (first | with_reducible exact cst _ | with_reducible exact lit _ | exact rfl); (first | with_reducible exact cst _ | with_reducible exact lit _ | exact rfl); (first | omega | assumption | decide | (refine Nat.lt_of_le_of_lt (Nat.shiftRight_le _ _) ?_; omega) | (refine Nat.lt_of_le_of_lt Nat.and_le_right ?_; omega) | (refine Nat.lt_of_le_of_lt Nat.and_le_left ?_; omega) | (refine Nat.xor_lt_two_pow (n := 63) ?_ ?_ <;> omega)); (first | omega | assumption | decide | (refine Nat.lt_of_le_of_lt (Nat.shiftRight_le _ _) ?_; omega) | (refine Nat.lt_of_le_of_lt Nat.and_le_right ?_; omega) | (refine Nat.lt_of_le_of_lt Nat.and_le_left ?_; omega) | (refine Nat.xor_lt_two_pow (n := 63) ?_ ?_ <;> omega)))
                            | (apply POp.xor8; rfl; rfl; (first | with_reducible exact cst _ | with_reducible exact lit _ | exact rfl); (first | with_reducible exact cst _ | with_reducible exact lit _ | exact rfl); (first | omega | assumption); (first | omega | assumption))
                            | (apply POp.and; rfl; rfl; (first | with_reducible exact cst _ | with_reducible exact lit _ | exact rfl); (first | with_reducible exact cst _ | with_reducible exact lit _ | exact rfl); (first | omega | assumption | decide | (refine Nat.lt_of_le_of_lt (Nat.shiftRight_le _ _) ?_; omega) | (refine Nat.lt_of_le_of_lt Nat.and_le_right ?_; omega) | (refine Nat.lt_of_le_of_lt Nat.and_le_left ?_; omega) | (refine Nat.xor_lt_two_pow (n := 63) ?_ ?_ <;> omega)); (first | omega | assumption | decide | (refine Nat.lt_of_le_of_lt (Nat.shiftRight_le _ _) ?_; omega) | (refine Nat.lt_of_le_of_lt Nat.and_le_right ?_; omega) | (refine Nat.lt_of_le_of_lt Nat.and_le_left ?_; omega) | (refine Nat.xor_lt_two_pow (n := 63) ?_ ?_ <;> omega)))
                            | (apply POp.or; rfl; rfl; (first | with_reducible exact cst _ | with_reducible exact lit _ | exact rfl); (first | with_reducible exact cst _ | with_reducible exact lit _ | exact rfl); (first | omega | assumption | decide | (refine Nat.lt_of_le_of_lt (Nat.shiftRight_le _ _) ?_; omega) | (refine Nat.lt_of_le_of_lt Nat.and_le_right ?_; omega) | (refine Nat.lt_of_le_of_lt Nat.and_le_left ?_; omega) | (refine Nat.xor_lt_two_pow (n := 63) ?_ ?_ <;> omega)); (first | omega | assumption | decide | (refine Nat.lt_of_le_of_lt (Nat.shiftRight_le _ _) ?_; omega) | (refine Nat.lt_of_le_of_lt Nat.and_le_right ?_; omega) | (refine Nat.lt_of_le_of_lt Nat.and_le_left ?_; omega) | (refine Nat.xor_lt_two_pow (n := 63) ?_ ?_ <;> omega)))
                            | (apply POp.shr; rfl; rfl; (first | with_reducible exact cst _ | with_reducible exact lit _ | exact rfl); (first | with_reducible exact cst _ | with_reducible exact lit _ | exact rfl); omega)
                            | (apply POp.shl; rfl; rfl; (first | with_reducible exact cst _ | with_reducible exact lit _ | exact rfl); (first | with_reducible exact cst _ | with_reducible exact lit _ | exact rfl); omega; (first | omega | assumption | decide | (refine Nat.lt_of_le_of_lt (Nat.shiftRight_le _ _) ?_; omega) | (refine Nat.lt_of_le_of_lt Nat.and_le_right ?_; omega) | (refine Nat.lt_of_le_of_lt Nat.and_le_left ?_; omega) | (refine Nat.xor_lt_two_pow (n := 63) ?_ ?_ <;> omega)))
                            | (apply POp.quo; rfl; rfl; omega; omega; omega)
                            | (apply POp.rem; rfl; rfl; omega; omega)
                            | (apply POp.min_int; rfl; rfl)
                            | (apply POp.max_int; rfl; rfl)
                            | (apply POp.conv_i64; rfl; omega; omega)
                            | (apply POp.index_slice; rfl; rfl; omega; omega; (first | (simp only [Nat.zero_add, Nat.add_zero, Nat.mul_one, Int.toNat_natCast, Int.reduceToNat, Nat.reduceMul, Nat.reduceAdd]; done) | (simp only [Nat.zero_add, Nat.add_zero, Nat.mul_one, Int.toNat_natCast, Int.reduceToNat, Nat.reduceMul, Nat.reduceAdd]; rfl) | rfl))
                            | (apply POp.index_array; rfl; rfl; omega; omega; (first | (simp only [Nat.zero_add, Nat.add_zero, Nat.mul_one, Int.toNat_natCast, Int.reduceToNat, Nat.reduceMul, Nat.reduceAdd]; done) | (simp only [Nat.zero_add, Nat.add_zero, Nat.mul_one, Int.toNat_natCast, Int.reduceToNat, Nat.reduceMul, Nat.reduceAdd]; rfl) | rfl))
                            | (apply POp.makeFunc; rfl; rfl)
                            | (apply POp.index_string; rfl; rfl; (first | with_reducible exact cst _ | with_reducible exact lit _ | exact rfl); omega)
                            | (apply POp.sub_lh; rfl; rfl; rfl; omega; omega; omega)
                            | (apply POp.sub_h; rfl; rfl; omega; omega)
                            | (apply POp.sub_l; rfl; rfl; omega; omega)
                            | (apply POp.seql; rfl; rfl)
                            | (apply POp.sneq; rfl; rfl)
                            | (apply POp.conv_u8; rfl; omega; omega)
                            | (apply POp.mul; rfl; rfl; omega; omega)
                            | (refine POp.pick_t rfl ?_ rfl; (first | with_reducible rfl | assumption | (simp only [Bool.not_true, Bool.not_false]; done) | (simp only [decide_eq_true_eq, decide_eq_false_iff_not, Bool.not_true, Bool.not_false, not_true_eq_false, not_false_eq_true, reduceCtorEq]; first | done | assumption | omega)))
                            | (refine POp.pick_f rfl ?_ rfl; (first | with_reducible rfl | assumption | (simp only [Bool.not_true, Bool.not_false]; done) | (simp only [decide_eq_true_eq, decide_eq_false_iff_not, Bool.not_true, Bool.not_false, not_true_eq_false, not_false_eq_true, reduceCtorEq]; first | done | assumption | omega)))
                            | (apply POp.neg; rfl; omega; omega)
                            | (apply POp.cat; rfl; rfl; omega)
                            | (apply POp.beql; rfl; rfl)
                            | (apply POp.bneq; rfl; rfl)
                            | (apply POp.field; rfl; rfl)
                            | (refine POp.fieldAddr rfl rfl)
                            | (apply POp.cut_h; rfl; rfl; omega; omega))
                        apply HA.fold
                        first | refine HA.ga 16 rfl rfl ?_ | refine HA.na 16 rfl rfl ?_ | refine HA.nu 16 rfl rfl ?_
                        refine HA.all [17, 21] (by kernel_rfl) rfl ⟨⟨_, rfl, ?_⟩, ⟨_, rfl, ?_⟩, trivial⟩
                        · refine HO.one_a rfl ?_
                          refine H1.ld0 rfl (hS.cell (ints_get hm)) rfl ?_
                          apply HA.fold
                          refine HA.all [21] (by kernel_rfl) rfl ⟨⟨_, rfl, ?_⟩, trivial⟩
                          refine HO.one_a rfl ?_
                          refine H1.ld0 rfl (hS.cell (ints_get hlt)) rfl ?_
                          apply HA.fold
                          first | refine HA.ga 22 rfl rfl ?_ | refine HA.na 22 rfl rfl ?_ | refine HA.nu 22 rfl rfl ?_
                          first | refine HA.ga 23 rfl rfl ?_ | refine HA.na 23 rfl rfl ?_ | refine HA.nu 23 rfl rfl ?_
                          refine HA.pa 24 rfl ?_
                          refine HA.done (by kernel_rfl) ?_
                          repeat' (first | refine HL.one (H1.call0 rfl rfl (fun w _ => rwithin_fn _ _ _ w) ?_) | apply HL.fold | apply HA.fold | apply HL.nil | apply HX.n_then | apply HC.seq | apply HC.region | refine HL.pa ?_ | refine HL.ga rfl ?_ | refine HL.na rfl ?_ | refine HL.nu rfl rfl ?_ | apply HC.block | apply HC.skip | apply HC.exit | apply HC.ret | apply HX.e_block | refine HX.e_other rfl ?_ | apply HX.e_then | apply HX.e_again | apply HX.n_block | apply HX.r_then | apply HX.r_block | apply HX.r_again | refine HC.cond_yes rfl ?_ | refine HC.cond_no rfl ?_ | refine HL.one (H1.ldb rfl memA rfl rfl ?_) | refine HC.cond rfl (fun hc => ?_) (fun hc => ?_) | refine HC.cond_b rfl (fun hc => ?_) (fun hc => ?_))
                          exact HX.again (i + 1) ⟨by omega, ascTo_succ.2 ⟨hasc, hb, fun _ => hge⟩⟩ (by omega) esA (by repeat (first | exact Hs.nil _ | (refine Hs.cons pickA ?_)))
                        · refine HO.one_a rfl ?_
                          refine H1.ld0 rfl (hS.cell (ints_get hlt)) rfl ?_
                          apply HA.fold
                          refine HA.all [17] (by kernel_rfl) rfl ⟨⟨_, rfl, ?_⟩, trivial⟩
                          refine HO.one_a rfl ?_
                          refine H1.ld0 rfl (hS.cell (ints_get hm)) rfl ?_
                          apply HA.fold
                          first | refine HA.ga 22 rfl rfl ?_ | refine HA.na 22 rfl rfl ?_ | refine HA.nu 22 rfl rfl ?_
                          first | refine HA.ga 23 rfl rfl ?_ | refine HA.na 23 rfl rfl ?_ | refine HA.nu 23 rfl rfl ?_
                          refine HA.pa 24 rfl ?_
                          refine HA.done (by kernel_rfl) ?_
                          repeat' (first | refine HL.one (H1.call0 rfl rfl (fun w _ => rwithin_fn _ _ _ w) ?_) | apply HL.fold | apply HA.fold | apply HL.nil | apply HX.n_then | apply HC.seq | apply HC.region | refine HL.pa ?_ | refine HL.ga rfl ?_ | refine HL.na rfl ?_ | refine HL.nu rfl rfl ?_ | apply HC.block | apply HC.skip | apply HC.exit | apply HC.ret | apply HX.e_block | refine HX.e_other rfl ?_ | apply HX.e_then | apply HX.e_again | apply HX.n_block | apply HX.r_then | apply HX.r_block | apply HX.r_again | refine HC.cond_yes rfl ?_ | refine HC.cond_no rfl ?_ | refine HL.one (H1.ldb rfl memA rfl rfl ?_) | refine HC.cond rfl (fun hc => ?_) (fun hc => ?_) | refine HC.cond_b rfl (fun hc => ?_) (fun hc => ?_))
                          exact HX.again (i + 1) ⟨by omega, ascTo_succ.2 ⟨hasc, hb, fun _ => hge⟩⟩ (by omega) esA (by repeat (first | exact Hs.nil _ | (refine Hs.cons pickA ?_)))
                      · refine HO.one_a rfl ?_
                        refine H1.ld0 rfl (hS.cell (ints_get hlt)) rfl ?_
                        apply HA.fold
                        refine HA.all [15] (by kernel_rfl) rfl ⟨⟨_, rfl, ?_⟩, trivial⟩
                        refine HO.one_a rfl ?_
                        refine H1.pa (v := .int .i64 ((i - 1 : Nat) : Int)) ?_ (by
                          rw [show ((i - 1 : Nat) : Int) = (i : Int) - 1 from by omega]
                          first
                            | (apply POp.move; rfl)
                            | (apply POp.assign; rfl)
                            | (apply POp.extract; rfl; rfl)
                            | (apply POp.len_slice; rfl)
                            | (apply POp.len_string; rfl)
                            | (apply POp.lss; rfl; rfl)
                            | (apply POp.leq; rfl; rfl)
                            | (apply POp.gtr; rfl; rfl)
                            | (apply POp.geq; rfl; rfl)
                            | (apply POp.eql; rfl; rfl)
                            | (apply POp.neq; rfl; rfl)
                            | (apply POp.not_d; rfl)
                            | (apply POp.not_b; rfl)
                            | (apply POp.add; rfl; rfl; omega; omega)
                            | (apply POp.sub; rfl; rfl; omega; omega)
                            | (apply POp.xor; rfl; rfl; (first | with_reducible exact cst _ | with_reducible exact lit _ | exact rfl); (first | with_reducible exact cst _ | with_reducible exact lit _ | exact rfl); (first | omega | assumption | decide | (refine Nat.lt_of_le_of_lt (Nat.shiftRight_le _ _) ?_; omega) | (refine Nat.lt_of_le_of_lt Nat.and_le_right ?_; omega) | (refine Nat.lt_of_le_of_lt Nat.and_le_left ?_; omega) | (refine Nat.xor_lt_two_pow (n := 63) ?_ ?_ <;> omega)); (first | omega | assumption | decide | (refine Nat.lt_of_le_of_lt (Nat.shiftRight_le _ _) ?_; omega) | (refine Nat.lt_of_le_of_lt Nat.and_le_right ?_; omega) | (refine Nat.lt_of_le_of_lt Nat.and_le_left ?_; omega) | (refine Nat.xor_lt_two_pow (n := 63) ?_ ?_ <;> omega)))
                            | (apply POp.xor8; rfl; rfl; (first | with_reducible exact cst _ | with_reducible exact lit _ | exact rfl); (first | with_reducible exact cst _ | with_reducible exact lit _ | exact rfl); (first | omega | assumption); (first | omega | assumption))
                            | (apply POp.and; rfl; rfl; (first | with_reducible exact cst _ | with_reducible exact lit _ | exact rfl); (first | with_reducible exact cst _ | with_reducible exact lit _ | exact rfl); (first | omega | assumption | decide | (refine Nat.lt_of_le_of_lt (Nat.shiftRight_le _ _) ?_; omega) | (refine Nat.lt_of_le_of_lt Nat.and_le_right ?_; omega) | (refine Nat.lt_of_le_of_lt Nat.and_le_left ?_; omega) | (refine Nat.xor_lt_two_pow (n := 63) ?_ ?_ <;> omega)); (first | omega | assumption | decide | (refine Nat.lt_of_le_of_lt (Nat.shiftRight_le _ _) ?_; omega) | (refine Nat.lt_of_le_of_lt Nat.and_le_right ?_; omega) | (refine Nat.lt_of_le_of_lt Nat.and_le_left ?_; omega) | (refine Nat.xor_lt_two_pow (n := 63) ?_ ?_ <;> omega)))
                            | (apply POp.or; rfl; rfl; (first | with_reducible exact cst _ | with_reducible exact lit _ | exact rfl); (first | with_reducible exact cst _ | with_reducible exact lit _ | exact rfl); (first | omega | assumption | decide | (refine Nat.lt_of_le_of_lt (Nat.shiftRight_le _ _) ?_; omega) | (refine Nat.lt_of_le_of_lt Nat.and_le_right ?_; omega) | (refine Nat.lt_of_le_of_lt Nat.and_le_left ?_; omega) | (refine Nat.xor_lt_two_pow (n := 63) ?_ ?_ <;> omega)); (first | omega | assumption | decide | (refine Nat.lt_of_le_of_lt (Nat.shiftRight_le _ _) ?_; omega) | (refine Nat.lt_of_le_of_lt Nat.and_le_right ?_; omega) | (refine Nat.lt_of_le_of_lt Nat.and_le_left ?_; omega) | (refine Nat.xor_lt_two_pow (n := 63) ?_ ?_ <;> omega)))
                            | (apply POp.shr; rfl; rfl; (first | with_reducible exact cst _ | with_reducible exact lit _ | exact rfl); (first | with_reducible exact cst _ | with_reducible exact lit _ | exact rfl); omega)
                            | (apply POp.shl; rfl; rfl; (first | with_reducible exact cst _ | with_reducible exact lit _ | exact rfl); (first | with_reducible exact cst _ | with_reducible exact lit _ | exact rfl); omega; (first | omega | assumption | decide | (refine Nat.lt_of_le_of_lt (Nat.shiftRight_le _ _) ?_; omega) | (refine Nat.lt_of_le_of_lt Nat.and_le_right ?_; omega) | (refine Nat.lt_of_le_of_lt Nat.and_le_left ?_; omega) | (refine Nat.xor_lt_two_pow (n := 63) ?_ ?_ <;> omega)))
                            | (apply POp.quo; rfl; rfl; omega; omega; omega)
                            | (apply POp.rem; rfl; rfl; omega; omega)
                            | (apply POp.min_int; rfl; rfl)
                            | (apply POp.max_int; rfl; rfl)
                            | (apply POp.conv_i64; rfl; omega; omega)
                            | (apply POp.index_slice; rfl; rfl; omega; omega; (first | (simp only [Nat.zero_add, Nat.add_zero, Nat.mul_one, Int.toNat_natCast, Int.reduceToNat, Nat.reduceMul, Nat.reduceAdd]; done) | (simp only [Nat.zero_add, Nat.add_zero, Nat.mul_one, Int.toNat_natCast, Int.reduceToNat, Nat.reduceMul, Nat.reduceAdd]; rfl) | rfl))
                            | (apply POp.index_array; rfl; rfl; omega; omega; (first | (simp only [Nat.zero_add, Nat.add_zero, Nat.mul_one, Int.toNat_natCast, Int.reduceToNat, Nat.reduceMul, Nat.reduceAdd]; done) | (simp only [Nat.zero_add, Nat.add_zero, Nat.mul_one, Int.toNat_natCast, Int.reduceToNat, Nat.reduceMul, Nat.reduceAdd]; rfl) | rfl))
                            | (apply POp.makeFunc; rfl; rfl)
                            | (apply POp.index_string; rfl; rfl; (first | with_reducible exact cst _ | with_reducible exact lit _ | exact rfl); omega)
                            | (apply POp.sub_lh; rfl; rfl; rfl; omega; omega; omega)
                            | (apply POp.sub_h; rfl; rfl; omega; omega)
                            | (apply POp.sub_l; rfl; rfl; omega; omega)
                            | (apply POp.seql; rfl; rfl)
                            | (apply POp.sneq; rfl; rfl)
                            | (apply POp.conv_u8; rfl; omega; omega)
                            | (apply POp.mul; rfl; rfl; omega; omega)
                            | (refine POp.pick_t rfl ?_ rfl; (first | with_reducible rfl | assumption | (simp only [Bool.not_true, Bool.not_false]; done) | (simp only [decide_eq_true_eq, decide_eq_false_iff_not, Bool.not_true, Bool.not_false, not_true_eq_false, not_false_eq_true, reduceCtorEq]; first | done | assumption | omega)))
                            | (refine POp.pick_f rfl ?_ rfl; (first | with_reducible rfl | assumption | (simp only [Bool.not_true, Bool.not_false]; done) | (simp only [decide_eq_true_eq, decide_eq_false_iff_not, Bool.not_true, Bool.not_false, not_true_eq_false, not_false_eq_true, reduceCtorEq]; first | done | assumption | omega)))
                            | (apply POp.neg; rfl; omega; omega)
                            | (apply POp.cat; rfl; rfl; omega)
                            | (apply POp.beql; rfl; rfl)
                            | (apply POp.bneq; rfl; rfl)
                            | (apply POp.field; rfl; rfl)
                            | (refine POp.fieldAddr rfl rfl)
                            | (apply POp.cut_h; rfl; rfl; omega; omega))
                        apply HA.fold
                        first | refine HA.ga 16 rfl rfl ?_ | refine HA.na 16 rfl rfl ?_ | refine HA.nu 16 rfl rfl ?_
                        refine HA.all [17] (by kernel_rfl) rfl ⟨⟨_, rfl, ?_⟩, trivial⟩
                        refine HO.one_a rfl ?_
                        refine H1.ld0 rfl (hS.cell (ints_get hm)) rfl ?_
                        apply HA.fold
                        first | refine HA.ga 22 rfl rfl ?_ | refine HA.na 22 rfl rfl ?_ | refine HA.nu 22 rfl rfl ?_
                        first | refine HA.ga 23 rfl rfl ?_ | refine HA.na 23 rfl rfl ?_ | refine HA.nu 23 rfl rfl ?_
                        refine HA.pa 24 rfl ?_
                        refine HA.done (by kernel_rfl) ?_
                        repeat' (first | refine HL.one (H1.call0 rfl rfl (fun w _ => rwithin_fn _ _ _ w) ?_) | apply HL.fold | apply HA.fold | apply HL.nil | apply HX.n_then | apply HC.seq | apply HC.region | refine HL.pa ?_ | refine HL.ga rfl ?_ | refine HL.na rfl ?_ | refine HL.nu rfl rfl ?_ | apply HC.block | apply HC.skip | apply HC.exit | apply HC.ret | apply HX.e_block | refine HX.e_other rfl ?_ | apply HX.e_then | apply HX.e_again | apply HX.n_block | apply HX.r_then | apply HX.r_block | apply HX.r_again | refine HC.cond_yes rfl ?_ | refine HC.cond_no rfl ?_ | refine HL.one (H1.ldb rfl memA rfl rfl ?_) | refine HC.cond rfl (fun hc => ?_) (fun hc => ?_) | refine HC.cond_b rfl (fun hc => ?_) (fun hc => ?_))
                        exact HX.again (i + 1) ⟨by omega, ascTo_succ.2 ⟨hasc, hb, fun _ => hge⟩⟩ (by omega) esA (by repeat (first | exact Hs.nil _ | (refine Hs.cons pickA ?_)))
                    · have hn : ¬ Right holders lost width k deadline := fun r => hge ((ascTo_succ.1 (ascTo_le r.asc hlt)).2.2 hi0)
                      repeat' (first | refine HL.one (H1.call0 rfl rfl (fun w _ => rwithin_fn _ _ _ w) ?_) | apply HL.fold | apply HA.fold | apply HL.nil | apply HX.n_then | apply HC.seq | apply HC.region | refine HL.pa ?_ | refine HL.ga rfl ?_ | refine HL.na rfl ?_ | refine HL.nu rfl rfl ?_ | apply HC.block | apply HC.skip | apply HC.exit | apply HC.ret | apply HX.e_block | refine HX.e_other rfl ?_ | apply HX.e_then | apply HX.e_again | apply HX.n_block | apply HX.r_then | apply HX.r_block | apply HX.r_again | refine HC.cond_yes rfl ?_ | refine HC.cond_no rfl ?_ | refine HL.one (H1.ldb rfl memA rfl rfl ?_) | refine HC.cond rfl (fun hc => ?_) (fun hc => ?_) | refine HC.cond_b rfl (fun hc => ?_) (fun hc => ?_))
                      refine HC.any rfl ?_
                      refine HA.pa 0 rfl ?_
                      refine HA.pa 1 rfl ?_
                      refine HA.pa 2 rfl ?_
                      refine HA.pa 4 rfl ?_
                      refine HA.pa 5 rfl ?_
                      refine HA.pa 6 rfl ?_
                      refine HA.all [3] (by kernel_rfl) rfl ⟨⟨_, rfl, ?_⟩, trivial⟩
                      refine HO.one ?_
                      refine H1.ld0 rfl (hS.cell (ints_get hlt)) rfl ?_
                      apply HA.fold
                      refine HA.all [7] (by kernel_rfl) rfl ⟨⟨_, rfl, ?_⟩, trivial⟩
                      refine HO.one ?_
                      refine H1.call0 rfl rfl (fun w _ => rwithin_fn _ _ _ w) ?_
                      rw [decide_eq_true hb]
                      apply HA.fold
                      refine HA.pa 8 rfl ?_
                      refine HA.pa 9 rfl ?_
                      first | refine HA.ga 10 rfl rfl ?_ | refine HA.na 10 rfl rfl ?_ | refine HA.nu 10 rfl rfl ?_
                      first | refine HA.ga 11 rfl rfl ?_ | refine HA.na 11 rfl rfl ?_ | refine HA.nu 11 rfl rfl ?_
                      first | refine HA.ga 12 rfl rfl ?_ | refine HA.na 12 rfl rfl ?_ | refine HA.nu 12 rfl rfl ?_
                      first | refine HA.ga 13 rfl rfl ?_ | refine HA.na 13 rfl rfl ?_ | refine HA.nu 13 rfl rfl ?_
                      first | refine HA.ga 14 rfl rfl ?_ | refine HA.na 14 rfl rfl ?_ | refine HA.nu 14 rfl rfl ?_
                      first | refine HA.ga 18 rfl rfl ?_ | refine HA.na 18 rfl rfl ?_ | refine HA.nu 18 rfl rfl ?_
                      first | refine HA.ga 19 rfl rfl ?_ | refine HA.na 19 rfl rfl ?_ | refine HA.nu 19 rfl rfl ?_
                      first | refine HA.ga 20 rfl rfl ?_ | refine HA.na 20 rfl rfl ?_ | refine HA.nu 20 rfl rfl ?_
                      refine HA.all [15, 21] (by kernel_rfl) rfl ⟨⟨_, rfl, ?_⟩, ⟨_, rfl, ?_⟩, trivial⟩
                      · refine HO.one_a rfl ?_
                        refine H1.pa (v := .int .i64 ((i - 1 : Nat) : Int)) ?_ (by
                          rw [show ((i - 1 : Nat) : Int) = (i : Int) - 1 from by omega]
                          first
                            | (apply POp.move; rfl)
                            | (apply POp.assign; rfl)
                            | (apply POp.extract; rfl; rfl)
                            | (apply POp.len_slice; rfl)
                            | (apply POp.len_string; rfl)
                            | (apply POp.lss; rfl; rfl)
                            | (apply POp.leq; rfl; rfl)
                            | (apply POp.gtr; rfl; rfl)
                            | (apply POp.geq; rfl; rfl)
                            | (apply POp.eql; rfl; rfl)
                            | (apply POp.neq; rfl; rfl)
                            | (apply POp.not_d; rfl)
                            | (apply POp.not_b; rfl)
                            | (apply POp.add; rfl; rfl; omega; omega)
                            | (apply POp.sub; rfl; rfl; omega; omega)
                            | (apply POp.xor; rfl; rfl; (first | with_reducible exact cst _ | with_reducible exact lit _ | exact rfl); (first | with_reducible exact cst _ | with_reducible exact lit _ | exact rfl); (first | omega | assumption | decide | (refine Nat.lt_of_le_of_lt (Nat.shiftRight_le _ _) ?_; omega) | (refine Nat.lt_of_le_of_lt Nat.and_le_right ?_; omega) | (refine Nat.lt_of_le_of_lt Nat.and_le_left ?_; omega) | (refine Nat.xor_lt_two_pow (n := 63) ?_ ?_ <;> omega)); (first | omega | assumption | decide | (refine Nat.lt_of_le_of_lt (Nat.shiftRight_le _ _) ?_; omega) | (refine Nat.lt_of_le_of_lt Nat.and_le_right ?_; omega) | (refine Nat.lt_of_le_of_lt Nat.and_le_left ?_; omega) | (refine Nat.xor_lt_two_pow (n := 63) ?_ ?_ <;> omega)))
                            | (apply POp.xor8; rfl; rfl; (first | with_reducible exact cst _ | with_reducible exact lit _ | exact rfl); (first | with_reducible exact cst _ | with_reducible exact lit _ | exact rfl); (first | omega | assumption); (first | omega | assumption))
                            | (apply POp.and; rfl; rfl; (first | with_reducible exact cst _ | with_reducible exact lit _ | exact rfl); (first | with_reducible exact cst _ | with_reducible exact lit _ | exact rfl); (first | omega | assumption | decide | (refine Nat.lt_of_le_of_lt (Nat.shiftRight_le _ _) ?_; omega) | (refine Nat.lt_of_le_of_lt Nat.and_le_right ?_; omega) | (refine Nat.lt_of_le_of_lt Nat.and_le_left ?_; omega) | (refine Nat.xor_lt_two_pow (n := 63) ?_ ?_ <;> omega)); (first | omega | assumption | decide | (refine Nat.lt_of_le_of_lt (Nat.shiftRight_le _ _) ?_; omega) | (refine Nat.lt_of_le_of_lt Nat.and_le_right ?_; omega) | (refine Nat.lt_of_le_of_lt Nat.and_le_left ?_; omega) | (refine Nat.xor_lt_two_pow (n := 63) ?_ ?_ <;> omega)))
                            | (apply POp.or; rfl; rfl; (first | with_reducible exact cst _ | with_reducible exact lit _ | exact rfl); (first | with_reducible exact cst _ | with_reducible exact lit _ | exact rfl); (first | omega | assumption | decide | (refine Nat.lt_of_le_of_lt (Nat.shiftRight_le _ _) ?_; omega) | (refine Nat.lt_of_le_of_lt Nat.and_le_right ?_; omega) | (refine Nat.lt_of_le_of_lt Nat.and_le_left ?_; omega) | (refine Nat.xor_lt_two_pow (n := 63) ?_ ?_ <;> omega)); (first | omega | assumption | decide | (refine Nat.lt_of_le_of_lt (Nat.shiftRight_le _ _) ?_; omega) | (refine Nat.lt_of_le_of_lt Nat.and_le_right ?_; omega) | (refine Nat.lt_of_le_of_lt Nat.and_le_left ?_; omega) | (refine Nat.xor_lt_two_pow (n := 63) ?_ ?_ <;> omega)))
                            | (apply POp.shr; rfl; rfl; (first | with_reducible exact cst _ | with_reducible exact lit _ | exact rfl); (first | with_reducible exact cst _ | with_reducible exact lit _ | exact rfl); omega)
                            | (apply POp.shl; rfl; rfl; (first | with_reducible exact cst _ | with_reducible exact lit _ | exact rfl); (first | with_reducible exact cst _ | with_reducible exact lit _ | exact rfl); omega; (first | omega | assumption | decide | (refine Nat.lt_of_le_of_lt (Nat.shiftRight_le _ _) ?_; omega) | (refine Nat.lt_of_le_of_lt Nat.and_le_right ?_; omega) | (refine Nat.lt_of_le_of_lt Nat.and_le_left ?_; omega) | (refine Nat.xor_lt_two_pow (n := 63) ?_ ?_ <;> omega)))
                            | (apply POp.quo; rfl; rfl; omega; omega; omega)
                            | (apply POp.rem; rfl; rfl; omega; omega)
                            | (apply POp.min_int; rfl; rfl)
                            | (apply POp.max_int; rfl; rfl)
                            | (apply POp.conv_i64; rfl; omega; omega)
                            | (apply POp.index_slice; rfl; rfl; omega; omega; (first | (simp only [Nat.zero_add, Nat.add_zero, Nat.mul_one, Int.toNat_natCast, Int.reduceToNat, Nat.reduceMul, Nat.reduceAdd]; done) | (simp only [Nat.zero_add, Nat.add_zero, Nat.mul_one, Int.toNat_natCast, Int.reduceToNat, Nat.reduceMul, Nat.reduceAdd]; rfl) | rfl))
                            | (apply POp.index_array; rfl; rfl; omega; omega; (first | (simp only [Nat.zero_add, Nat.add_zero, Nat.mul_one, Int.toNat_natCast, Int.reduceToNat, Nat.reduceMul, Nat.reduceAdd]; done) | (simp only [Nat.zero_add, Nat.add_zero, Nat.mul_one, Int.toNat_natCast, Int.reduceToNat, Nat.reduceMul, Nat.reduceAdd]; rfl) | rfl))
                            | (apply POp.makeFunc; rfl; rfl)
                            | (apply POp.index_string; rfl; rfl; (first | with_reducible exact cst _ | with_reducible exact lit _ | exact rfl); omega)
                            | (apply POp.sub_lh; rfl; rfl; rfl; omega; omega; omega)
                            | (apply POp.sub_h; rfl; rfl; omega; omega)
                            | (apply POp.sub_l; rfl; rfl; omega; omega)
                            | (apply POp.seql; rfl; rfl)
                            | (apply POp.sneq; rfl; rfl)
                            | (apply POp.conv_u8; rfl; omega; omega)
                            | (apply POp.mul; rfl; rfl; omega; omega)
                            | (refine POp.pick_t rfl ?_ rfl; (first | with_reducible rfl | assumption | (simp only [Bool.not_true, Bool.not_false]; done) | (simp only [decide_eq_true_eq, decide_eq_false_iff_not, Bool.not_true, Bool.not_false, not_true_eq_false, not_false_eq_true, reduceCtorEq]; first | done | assumption | omega)))
                            | (refine POp.pick_f rfl ?_ rfl; (first | with_reducible rfl | assumption | (simp only [Bool.not_true, Bool.not_false]; done) | (simp only [decide_eq_true_eq, decide_eq_false_iff_not, Bool.not_true, Bool.not_false, not_true_eq_false, not_false_eq_true, reduceCtorEq]; first | done | assumption | omega)))
                            | (apply POp.neg; rfl; omega; omega)
                            | (apply POp.cat; rfl; rfl; omega)
                            | (apply POp.beql; rfl; rfl)
                            | (apply POp.bneq; rfl; rfl)
                            | (apply POp.field; rfl; rfl)
                            | (refine POp.fieldAddr rfl rfl)
                            | (apply POp.cut_h; rfl; rfl; omega; omega))
                        apply HA.fold
                        first | refine HA.ga 16 rfl rfl ?_ | refine HA.na 16 rfl rfl ?_ | refine HA.nu 16 rfl rfl ?_
                        refine HA.all [17, 21] (by kernel_rfl) rfl ⟨⟨_, rfl, ?_⟩, ⟨_, rfl, ?_⟩, trivial⟩
                        · refine HO.one_a rfl ?_
                          refine H1.ld0 rfl (hS.cell (ints_get hm)) rfl ?_
                          apply HA.fold
                          refine HA.all [21] (by kernel_rfl) rfl ⟨⟨_, rfl, ?_⟩, trivial⟩
                          refine HO.one_a rfl ?_
                          refine H1.ld0 rfl (hS.cell (ints_get hlt)) rfl ?_
                          apply HA.fold
                          first | refine HA.ga 22 rfl rfl ?_ | refine HA.na 22 rfl rfl ?_ | refine HA.nu 22 rfl rfl ?_
                          first | refine HA.ga 23 rfl rfl ?_ | refine HA.na 23 rfl rfl ?_ | refine HA.nu 23 rfl rfl ?_
                          refine HA.pa 24 rfl ?_
                          refine HA.done (by kernel_rfl) ?_
                          repeat' (first | refine HL.one (H1.call0 rfl rfl (fun w _ => rwithin_fn _ _ _ w) ?_) | apply HL.fold | apply HA.fold | apply HL.nil | apply HX.n_then | apply HC.seq | apply HC.region | refine HL.pa ?_ | refine HL.ga rfl ?_ | refine HL.na rfl ?_ | refine HL.nu rfl rfl ?_ | apply HC.block | apply HC.skip | apply HC.exit | apply HC.ret | apply HX.e_block | refine HX.e_other rfl ?_ | apply HX.e_then | apply HX.e_again | apply HX.n_block | apply HX.r_then | apply HX.r_block | apply HX.r_again | refine HC.cond_yes rfl ?_ | refine HC.cond_no rfl ?_ | refine HL.one (H1.ldb rfl memA rfl rfl ?_) | refine HC.cond rfl (fun hc => ?_) (fun hc => ?_) | refine HC.cond_b rfl (fun hc => ?_) (fun hc => ?_))
                          exact no hn rfl rfl
                        · refine HO.one_a rfl ?_
                          refine H1.ld0 rfl (hS.cell (ints_get hlt)) rfl ?_
                          apply HA.fold
                          refine HA.all [17] (by kernel_rfl) rfl ⟨⟨_, rfl, ?_⟩, trivial⟩
                          refine HO.one_a rfl ?_
                          refine H1.ld0 rfl (hS.cell (ints_get hm)) rfl ?_
                          apply HA.fold
                          first | refine HA.ga 22 rfl rfl ?_ | refine HA.na 22 rfl rfl ?_ | refine HA.nu 22 rfl rfl ?_
                          first | refine HA.ga 23 rfl rfl ?_ | refine HA.na 23 rfl rfl ?_ | refine HA.nu 23 rfl rfl ?_
                          refine HA.pa 24 rfl ?_
                          refine HA.done (by kernel_rfl) ?_
                          repeat' (first | refine HL.one (H1.call0 rfl rfl (fun w _ => rwithin_fn _ _ _ w) ?_) | apply HL.fold | apply HA.fold | apply HL.nil | apply HX.n_then | apply HC.seq | apply HC.region | refine HL.pa ?_ | refine HL.ga rfl ?_ | refine HL.na rfl ?_ | refine HL.nu rfl rfl ?_ | apply HC.block | apply HC.skip | apply HC.exit | apply HC.ret | apply HX.e_block | refine HX.e_other rfl ?_ | apply HX.e_then | apply HX.e_again | apply HX.n_block | apply HX.r_then | apply HX.r_block | apply HX.r_again | refine HC.cond_yes rfl ?_ | refine HC.cond_no rfl ?_ | refine HL.one (H1.ldb rfl memA rfl rfl ?_) | refine HC.cond rfl (fun hc => ?_) (fun hc => ?_) | refine HC.cond_b rfl (fun hc => ?_) (fun hc => ?_))
                          exact no hn rfl rfl
                      · refine HO.one_a rfl ?_
                        refine H1.ld0 rfl (hS.cell (ints_get hlt)) rfl ?_
                        apply HA.fold
                        refine HA.all [15] (by kernel_rfl) rfl ⟨⟨_, rfl, ?_⟩, trivial⟩
                        refine HO.one_a rfl ?_
                        refine H1.pa (v := .int .i64 ((i - 1 : Nat) : Int)) ?_ (by
                          rw [show ((i - 1 : Nat) : Int) = (i : Int) - 1 from by omega]
                          first
                            | (apply POp.move; rfl)
                            | (apply POp.assign; rfl)
                            | (apply POp.extract; rfl; rfl)
                            | (apply POp.len_slice; rfl)
                            | (apply POp.len_string; rfl)
                            | (apply POp.lss; rfl; rfl)
                            | (apply POp.leq; rfl; rfl)
                            | (apply POp.gtr; rfl; rfl)
                            | (apply POp.geq; rfl; rfl)
                            | (apply POp.eql; rfl; rfl)
                            | (apply POp.neq; rfl; rfl)
                            | (apply POp.not_d; rfl)
                            | (apply POp.not_b; rfl)
                            | (apply POp.add; rfl; rfl; omega; omega)
                            | (apply POp.sub; rfl; rfl; omega; omega)
                            | (apply POp.xor; rfl; rfl; (first | with_reducible exact cst _ | with_reducible exact lit _ | exact rfl); (first | with_reducible exact cst _ | with_reducible exact lit _ | exact rfl); (first | omega | assumption | decide | (refine Nat.lt_of_le_of_lt (Nat.shiftRight_le _ _) ?_; omega) | (refine Nat.lt_of_le_of_lt Nat.and_le_right ?_; omega) | (refine Nat.lt_of_le_of_lt Nat.and_le_left ?_; omega) | (refine Nat.xor_lt_two_pow (n := 63) ?_ ?_ <;> omega)); (first | omega | assumption | decide | (refine Nat.lt_of_le_of_lt (Nat.shiftRight_le _ _) ?_; omega) | (refine Nat.lt_of_le_of_lt Nat.and_le_right ?_; omega) | (refine Nat.lt_of_le_of_lt Nat.and_le_left ?_; omega) | (refine Nat.xor_lt_two_pow (n := 63) ?_ ?_ <;> omega)))
                            | (apply POp.xor8; rfl; rfl; (first | with_reducible exact cst _ | with_reducible exact lit _ | exact rfl); (first | with_reducible exact cst _ | with_reducible exact lit _ | exact rfl); (first | omega | assumption); (first | omega | assumption))
                            | (apply POp.and; rfl; rfl; (first | with_reducible exact cst _ | with_reducible exact lit _ | exact rfl); (first | with_reducible exact cst _ | with_reducible exact lit _ | exact rfl); (first | omega | assumption | decide | (refine Nat.lt_of_le_of_lt (Nat.shiftRight_le _ _) ?_; omega) | (refine Nat.lt_of_le_of_lt Nat.and_le_right ?_; omega) | (refine Nat.lt_of_le_of_lt Nat.and_le_left ?_; omega) | (refine Nat.xor_lt_two_pow (n := 63) ?_ ?_ <;> omega)); (first | omega | assumption | decide | (refine Nat.lt_of_le_of_lt (Nat.shiftRight_le _ _) ?_; omega) | (refine Nat.lt_of_le_of_lt Nat.and_le_right ?_; omega) | (refine Nat.lt_of_le_of_lt Nat.and_le_left ?_; omega) | (refine Nat.xor_lt_two_pow (n := 63) ?_ ?_ <;> omega)))
                            | (apply POp.or; rfl; rfl; (first | with_reducible exact cst _ | with_reducible exact lit _ | exact rfl); (first | with_reducible exact cst _ | with_reducible exact lit _ | exact rfl); (first | omega | assumption | decide | (refine Nat.lt_of_le_of_lt (Nat.shiftRight_le _ _) ?_; omega) | (refine Nat.lt_of_le_of_lt Nat.and_le_right ?_; omega) | (refine Nat.lt_of_le_of_lt Nat.and_le_left ?_; omega) | (refine Nat.xor_lt_two_pow (n := 63) ?_ ?_ <;> omega)); (first | omega | assumption | decide | (refine Nat.lt_of_le_of_lt (Nat.shiftRight_le _ _) ?_; omega) | (refine Nat.lt_of_le_of_lt Nat.and_le_right ?_; omega) | (refine Nat.lt_of_le_of_lt Nat.and_le_left ?_; omega) | (refine Nat.xor_lt_two_pow (n := 63) ?_ ?_ <;> omega)))
                            | (apply POp.shr; rfl; rfl; (first | with_reducible exact cst _ | with_reducible exact lit _ | exact rfl); (first | with_reducible exact cst _ | with_reducible exact lit _ | exact rfl); omega)
                            | (apply POp.shl; rfl; rfl; (first | with_reducible exact cst _ | with_reducible exact lit _ | exact rfl); (first | with_reducible exact cst _ | with_reducible exact lit _ | exact rfl); omega; (first | omega | assumption | decide | (refine Nat.lt_of_le_of_lt (Nat.shiftRight_le _ _) ?_; omega) | (refine Nat.lt_of_le_of_lt Nat.and_le_right ?_; omega) | (refine Nat.lt_of_le_of_lt Nat.and_le_left ?_; omega) | (refine Nat.xor_lt_two_pow (n := 63) ?_ ?_ <;> omega)))
                            | (apply POp.quo; rfl; rfl; omega; omega; omega)
                            | (apply POp.rem; rfl; rfl; omega; omega)
                            | (apply POp.min_int; rfl; rfl)
                            | (apply POp.max_int; rfl; rfl)
                            | (apply POp.conv_i64; rfl; omega; omega)
                            | (apply POp.index_slice; rfl; rfl; omega; omega; (first | (simp only [Nat.zero_add, Nat.add_zero, Nat.mul_one, Int.toNat_natCast, Int.reduceToNat, Nat.reduceMul, Nat.reduceAdd]; done) | (simp only [Nat.zero_add, Nat.add_zero, Nat.mul_one, Int.toNat_natCast, Int.reduceToNat, Nat.reduceMul, Nat.reduceAdd]; rfl) | rfl))
                            | (apply POp.index_array; rfl; rfl; omega; omega; (first | (simp only [Nat.zero_add, Nat.add_zero, Nat.mul_one, Int.toNat_natCast, Int.reduceToNat, Nat.reduceMul, Nat.reduceAdd]; done) | (simp only [Nat.zero_add, Nat.add_zero, Nat.mul_one, Int.toNat_natCast, Int.reduceToNat, Nat.reduceMul, Nat.reduceAdd]; rfl) | rfl))
                            | (apply POp.makeFunc; rfl; rfl)
                            | (apply POp.index_string; rfl; rfl; (first | with_reducible exact cst _ | with_reducible exact lit _ | exact rfl); omega)
                            | (apply POp.sub_lh; rfl; rfl; rfl; omega; omega; omega)
                            | (apply POp.sub_h; rfl; rfl; omega; omega)
                            | (apply POp.sub_l; rfl; rfl; omega; omega)
                            | (apply POp.seql; rfl; rfl)
                            | (apply POp.sneq; rfl; rfl)
                            | (apply POp.conv_u8; rfl; omega; omega)
                            | (apply POp.mul; rfl; rfl; omega; omega)
                            | (refine POp.pick_t rfl ?_ rfl; (first | with_reducible rfl | assumption | (simp only [Bool.not_true, Bool.not_false]; done) | (simp only [decide_eq_true_eq, decide_eq_false_iff_not, Bool.not_true, Bool.not_false, not_true_eq_false, not_false_eq_true, reduceCtorEq]; first | done | assumption | omega)))
                            | (refine POp.pick_f rfl ?_ rfl; (first | with_reducible rfl | assumption | (simp only [Bool.not_true, Bool.not_false]; done) | (simp only [decide_eq_true_eq, decide_eq_false_iff_not, Bool.not_true, Bool.not_false, not_true_eq_false, not_false_eq_true, reduceCtorEq]; first | done | assumption | omega)))
                            | (apply POp.neg; rfl; omega; omega)
                            | (apply POp.cat; rfl; rfl; omega)
                            | (apply POp.beql; rfl; rfl)
                            | (apply POp.bneq; rfl; rfl)
                            | (apply POp.field; rfl; rfl)
                            | (refine POp.fieldAddr rfl rfl)
                            | (apply POp.cut_h; rfl; rfl; omega; omega))
                        apply HA.fold
                        first | refine HA.ga 16 rfl rfl ?_ | refine HA.na 16 rfl rfl ?_ | refine HA.nu 16 rfl rfl ?_
                        refine HA.all [17] (by kernel_rfl) rfl ⟨⟨_, rfl, ?_⟩, trivial⟩
                        refine HO.one_a rfl ?_
                        refine H1.ld0 rfl (hS.cell (ints_get hm)) rfl ?_
                        apply HA.fold
                        first | refine HA.ga 22 rfl rfl ?_ | refine HA.na 22 rfl rfl ?_ | refine HA.nu 22 rfl rfl ?_
                        first | refine HA.ga 23 rfl rfl ?_ | refine HA.na 23 rfl rfl ?_ | refine HA.nu 23 rfl rfl ?_
                        refine HA.pa 24 rfl ?_
                        refine HA.done (by kernel_rfl) ?_
                        repeat' (first | refine HL.one (H1.call0 rfl rfl (fun w _ => rwithin_fn _ _ _ w) ?_) | apply HL.fold | apply HA.fold | apply HL.nil | apply HX.n_then | apply HC.seq | apply HC.region | refine HL.pa ?_ | refine HL.ga rfl ?_ | refine HL.na rfl ?_ | refine HL.nu rfl rfl ?_ | apply HC.block | apply HC.skip | apply HC.exit | apply HC.ret | apply HX.e_block | refine HX.e_other rfl ?_ | apply HX.e_then | apply HX.e_again | apply HX.n_block | apply HX.r_then | apply HX.r_block | apply HX.r_again | refine HC.cond_yes rfl ?_ | refine HC.cond_no rfl ?_ | refine HL.one (H1.ldb rfl memA rfl rfl ?_) | refine HC.cond rfl (fun hc => ?_) (fun hc => ?_) | refine HC.cond_b rfl (fun hc => ?_) (fun hc => ?_))
                        exact no hn rfl rfl
                  · repeat' (first | refine HL.one (H1.call0 rfl rfl (fun w _ => rwithin_fn _ _ _ w) ?_) | apply HL.fold | apply HA.fold | apply HL.nil | apply HX.n_then | apply HC.seq | apply HC.region | refine HL.pa ?_ | refine HL.ga rfl ?_ | refine HL.na rfl ?_ | refine HL.nu rfl rfl ?_ | apply HC.block | apply HC.skip | apply HC.exit | apply HC.ret | apply HX.e_block | refine HX.e_other rfl ?_ | apply HX.e_then | apply HX.e_again | apply HX.n_block | apply HX.r_then | apply HX.r_block | apply HX.r_again | refine HC.cond_yes rfl ?_ | refine HC.cond_no rfl ?_ | refine HL.one (H1.ldb rfl memA rfl rfl ?_) | refine HC.cond rfl (fun hc => ?_) (fun hc => ?_) | refine HC.cond_b rfl (fun hc => ?_) (fun hc => ?_))
                    refine HC.any rfl ?_
                    refine HA.pa 0 rfl ?_
                    refine HA.pa 1 rfl ?_
                    refine HA.pa 2 rfl ?_
                    refine HA.pa 4 rfl ?_
                    refine HA.pa 5 rfl ?_
                    refine HA.pa 6 rfl ?_
                    refine HA.all [3] (by kernel_rfl) rfl ⟨⟨_, rfl, ?_⟩, trivial⟩
                    refine HO.one ?_
                    refine H1.ld0 rfl (hS.cell (ints_get hlt)) rfl ?_
                    apply HA.fold
                    refine HA.all [7] (by kernel_rfl) rfl ⟨⟨_, rfl, ?_⟩, trivial⟩
                    refine HO.one ?_
                    refine H1.call0 rfl rfl (fun w _ => rwithin_fn _ _ _ w) ?_
                    rw [decide_eq_true hb]
                    apply HA.fold
                    refine HA.pa 8 rfl ?_
                    refine HA.pa 9 rfl ?_
                    first | refine HA.ga 10 rfl rfl ?_ | refine HA.na 10 rfl rfl ?_ | refine HA.nu 10 rfl rfl ?_
                    first | refine HA.ga 11 rfl rfl ?_ | refine HA.na 11 rfl rfl ?_ | refine HA.nu 11 rfl rfl ?_
                    first | refine HA.ga 12 rfl rfl ?_ | refine HA.na 12 rfl rfl ?_ | refine HA.nu 12 rfl rfl ?_
                    first | refine HA.ga 13 rfl rfl ?_ | refine HA.na 13 rfl rfl ?_ | refine HA.nu 13 rfl rfl ?_
                    first | refine HA.ga 14 rfl rfl ?_ | refine HA.na 14 rfl rfl ?_ | refine HA.nu 14 rfl rfl ?_
                    first | refine HA.ga 15 rfl rfl ?_ | refine HA.na 15 rfl rfl ?_ | refine HA.nu 15 rfl rfl ?_
                    first | refine HA.ga 16 rfl rfl ?_ | refine HA.na 16 rfl rfl ?_ | refine HA.nu 16 rfl rfl ?_
                    first | refine HA.ga 17 rfl rfl ?_ | refine HA.na 17 rfl rfl ?_ | refine HA.nu 17 rfl rfl ?_
                    first | refine HA.ga 18 rfl rfl ?_ | refine HA.na 18 rfl rfl ?_ | refine HA.nu 18 rfl rfl ?_
                    first | refine HA.ga 19 rfl rfl ?_ | refine HA.na 19 rfl rfl ?_ | refine HA.nu 19 rfl rfl ?_
                    first | refine HA.ga 20 rfl rfl ?_ | refine HA.na 20 rfl rfl ?_ | refine HA.nu 20 rfl rfl ?_
                    first | refine HA.ga 21 rfl rfl ?_ | refine HA.na 21 rfl rfl ?_ | refine HA.nu 21 rfl rfl ?_
                    first | refine HA.ga 22 rfl rfl ?_ | refine HA.na 22 rfl rfl ?_ | refine HA.nu 22 rfl rfl ?_
                    first | refine HA.ga 23 rfl rfl ?_ | refine HA.na 23 rfl rfl ?_ | refine HA.nu 23 rfl rfl ?_
                    refine HA.pa 24 rfl ?_
                    refine HA.done (by kernel_rfl) ?_
                    repeat' (first | refine HL.one (H1.call0 rfl rfl (fun w _ => rwithin_fn _ _ _ w) ?_) | apply HL.fold | apply HA.fold | apply HL.nil | apply HX.n_then | apply HC.seq | apply HC.region | refine HL.pa ?_ | refine HL.ga rfl ?_ | refine HL.na rfl ?_ | refine HL.nu rfl rfl ?_ | apply HC.block | apply HC.skip | apply HC.exit | apply HC.ret | apply HX.e_block | refine HX.e_other rfl ?_ | apply HX.e_then | apply HX.e_again | apply HX.n_block | apply HX.r_then | apply HX.r_block | apply HX.r_again | refine HC.cond_yes rfl ?_ | refine HC.cond_no rfl ?_ | refine HL.one (H1.ldb rfl memA rfl rfl ?_) | refine HC.cond rfl (fun hc => ?_) (fun hc => ?_) | refine HC.cond_b rfl (fun hc => ?_) (fun hc => ?_))
                    exact HX.again (i + 1) ⟨by omega, ascTo_succ.2 ⟨hasc, hb, fun h => absurd h hi0⟩⟩ (by omega) esA (by repeat (first | exact Hs.nil _ | (refine Hs.cons pickA ?_)))
                · have hn : ¬ Right holders lost width k deadline := fun r => hb (ascTo_succ.1 (ascTo_le r.asc hlt)).2.1
                  repeat' (first | refine HL.one (H1.call0 rfl rfl (fun w _ => rwithin_fn _ _ _ w) ?_) | apply HL.fold | apply HA.fold | apply HL.nil | apply HX.n_then | apply HC.seq | apply HC.region | refine HL.pa ?_ | refine HL.ga rfl ?_ | refine HL.na rfl ?_ | refine HL.nu rfl rfl ?_ | apply HC.block | apply HC.skip | apply HC.exit | apply HC.ret | apply HX.e_block | refine HX.e_other rfl ?_ | apply HX.e_then | apply HX.e_again | apply HX.n_block | apply HX.r_then | apply HX.r_block | apply HX.r_again | refine HC.cond_yes rfl ?_ | refine HC.cond_no rfl ?_ | refine HL.one (H1.ldb rfl memA rfl rfl ?_) | refine HC.cond rfl (fun hc => ?_) (fun hc => ?_) | refine HC.cond_b rfl (fun hc => ?_) (fun hc => ?_))
                  refine HC.any rfl ?_
                  refine HA.pa 0 rfl ?_
                  refine HA.pa 1 rfl ?_
                  refine HA.pa 2 rfl ?_
                  refine HA.pa 4 rfl ?_
                  refine HA.pa 5 rfl ?_
                  refine HA.pa 6 rfl ?_
                  refine HA.all [3] (by kernel_rfl) rfl ⟨⟨_, rfl, ?_⟩, trivial⟩
                  refine HO.one ?_
                  refine H1.ld0 rfl (hS.cell (ints_get hlt)) rfl ?_
                  apply HA.fold
                  refine HA.all [7] (by kernel_rfl) rfl ⟨⟨_, rfl, ?_⟩, trivial⟩
                  refine HO.one ?_
                  refine H1.call0 rfl rfl (fun w _ => rwithin_fn _ _ _ w) ?_
                  rw [decide_eq_false hb]
                  apply HA.fold
                  refine HA.pa 8 rfl ?_
                  refine HA.pa 9 rfl ?_
                  first | refine HA.ga 10 rfl rfl ?_ | refine HA.na 10 rfl rfl ?_ | refine HA.nu 10 rfl rfl ?_
                  first | refine HA.ga 11 rfl rfl ?_ | refine HA.na 11 rfl rfl ?_ | refine HA.nu 11 rfl rfl ?_
                  first | refine HA.ga 12 rfl rfl ?_ | refine HA.na 12 rfl rfl ?_ | refine HA.nu 12 rfl rfl ?_
                  first | refine HA.ga 13 rfl rfl ?_ | refine HA.na 13 rfl rfl ?_ | refine HA.nu 13 rfl rfl ?_
                  first | refine HA.ga 14 rfl rfl ?_ | refine HA.na 14 rfl rfl ?_ | refine HA.nu 14 rfl rfl ?_
                  first | refine HA.ga 15 rfl rfl ?_ | refine HA.na 15 rfl rfl ?_ | refine HA.nu 15 rfl rfl ?_
                  first | refine HA.ga 16 rfl rfl ?_ | refine HA.na 16 rfl rfl ?_ | refine HA.nu 16 rfl rfl ?_
                  first | refine HA.ga 17 rfl rfl ?_ | refine HA.na 17 rfl rfl ?_ | refine HA.nu 17 rfl rfl ?_
                  first | refine HA.ga 18 rfl rfl ?_ | refine HA.na 18 rfl rfl ?_ | refine HA.nu 18 rfl rfl ?_
                  first | refine HA.ga 19 rfl rfl ?_ | refine HA.na 19 rfl rfl ?_ | refine HA.nu 19 rfl rfl ?_
                  first | refine HA.ga 20 rfl rfl ?_ | refine HA.na 20 rfl rfl ?_ | refine HA.nu 20 rfl rfl ?_
                  first | refine HA.ga 21 rfl rfl ?_ | refine HA.na 21 rfl rfl ?_ | refine HA.nu 21 rfl rfl ?_
                  first | refine HA.ga 22 rfl rfl ?_ | refine HA.na 22 rfl rfl ?_ | refine HA.nu 22 rfl rfl ?_
                  first | refine HA.ga 23 rfl rfl ?_ | refine HA.na 23 rfl rfl ?_ | refine HA.nu 23 rfl rfl ?_
                  refine HA.pa 24 rfl ?_
                  refine HA.done (by kernel_rfl) ?_
                  repeat' (first | refine HL.one (H1.call0 rfl rfl (fun w _ => rwithin_fn _ _ _ w) ?_) | apply HL.fold | apply HA.fold | apply HL.nil | apply HX.n_then | apply HC.seq | apply HC.region | refine HL.pa ?_ | refine HL.ga rfl ?_ | refine HL.na rfl ?_ | refine HL.nu rfl rfl ?_ | apply HC.block | apply HC.skip | apply HC.exit | apply HC.ret | apply HX.e_block | refine HX.e_other rfl ?_ | apply HX.e_then | apply HX.e_again | apply HX.n_block | apply HX.r_then | apply HX.r_block | apply HX.r_again | refine HC.cond_yes rfl ?_ | refine HC.cond_no rfl ?_ | refine HL.one (H1.ldb rfl memA rfl rfl ?_) | refine HC.cond rfl (fun hc => ?_) (fun hc => ?_) | refine HC.cond_b rfl (fun hc => ?_) (fun hc => ?_))
                  exact no hn rfl rfl
              · obtain rfl : i = lost.length := by omega
                have hr : Right holders lost width k deadline := ⟨h1, h2, h3, h4, h5, h6, hasc⟩
                have e : rsurv holders lost width k deadline = survS holders lost := by unfold rsurv; rw [rightB_yes hr]; rfl
                repeat' (first | refine HL.one (H1.call0 rfl rfl (fun w _ => rwithin_fn _ _ _ w) ?_) | apply HL.fold | apply HA.fold | apply HL.nil | apply HX.n_then | apply HC.seq | apply HC.region | refine HL.pa ?_ | refine HL.ga rfl ?_ | refine HL.na rfl ?_ | refine HL.nu rfl rfl ?_ | apply HC.block | apply HC.skip | apply HC.exit | apply HC.ret | apply HX.e_block | refine HX.e_other rfl ?_ | apply HX.e_then | apply HX.e_again | apply HX.n_block | apply HX.r_then | apply HX.r_block | apply HX.r_again | refine HC.cond_yes rfl ?_ | refine HC.cond_no rfl ?_ | refine HL.one (H1.ldb rfl memA rfl rfl ?_) | refine HC.cond rfl (fun hc => ?_) (fun hc => ?_) | refine HC.cond_b rfl (fun hc => ?_) (fun hc => ?_))
                refine HC.grow0 3 1 ?_
                refine HC.loop (α := Nat × Option Addr × Nat) (fun z => [(0, .slice a holders.length c), (1, .slice a' lost.length c'), (15, .slice z.2.1 (survTo holders lost z.1).length z.2.2), (16, .int .i64 (z.1 : Int))])
                  (fun z => [A.grow 3 1 z.2.1 z.2.2 (survTo holders lost z.1).length (ints (survTo holders lost z.1))]) (fun z => z.1 ≤ holders.length) (fun z => holders.length - z.1) (0, none, 0) (Nat.zero_le _) esA (by repeat (first | exact Hs.nil _ | (refine Hs.cons pickA ?_))) ?_
                rintro ⟨i, ar, cr⟩ hi
                dsimp only at hi ⊢
                have hstep := survTo_step (holders := holders) (lost := lost) i
                have hlen := survTo_len (holders := holders) (lost := lost) i
                generalize hX : survTo holders lost i = X at hstep hlen ⊢
                by_cases hlt : i < holders.length
                · obtain ⟨b, off, rfl, -⟩ := hR.iat (by intro e; rw [e] at hlt; simp at hlt)
                  by_cases hin : (i : Int) ∈ lost
                  · rw [if_pos hin, List.append_nil] at hstep
                    repeat' (first | refine HL.one (H1.call0 rfl rfl (fun w _ => rwithin_fn _ _ _ w) ?_) | apply HL.fold | apply HA.fold | apply HL.nil | apply HX.n_then | apply HC.seq | apply HC.region | refine HL.pa ?_ | refine HL.ga rfl ?_ | refine HL.na rfl ?_ | refine HL.nu rfl rfl ?_ | apply HC.block | apply HC.skip | apply HC.exit | apply HC.ret | apply HX.e_block | refine HX.e_other rfl ?_ | apply HX.e_then | apply HX.e_again | apply HX.n_block | apply HX.r_then | apply HX.r_block | apply HX.r_again | refine HC.cond_yes rfl ?_ | refine HC.cond_no rfl ?_ | refine HL.one (H1.ldb rfl memA rfl rfl ?_) | refine HC.cond rfl (fun hc => ?_) (fun hc => ?_) | refine HC.cond_b rfl (fun hc => ?_) (fun hc => ?_))
                    refine HL.one (H1.call0 (vs := [.slice a' lost.length c', .int .i64 (i : Int)]) rfl rfl (fun w hM => rin_fn _ lost i hl w (hM.rd0 hS)) ?_)
                    rw [decide_eq_true hin]
                    repeat' (first | refine HL.one (H1.call0 rfl rfl (fun w _ => rwithin_fn _ _ _ w) ?_) | apply HL.fold | apply HA.fold | apply HL.nil | apply HX.n_then | apply HC.seq | apply HC.region | refine HL.pa ?_ | refine HL.ga rfl ?_ | refine HL.na rfl ?_ | refine HL.nu rfl rfl ?_ | apply HC.block | apply HC.skip | apply HC.exit | apply HC.ret | apply HX.e_block | refine HX.e_other rfl ?_ | apply HX.e_then | apply HX.e_again | apply HX.n_block | apply HX.r_then | apply HX.r_block | apply HX.r_again | refine HC.cond_yes rfl ?_ | refine HC.cond_no rfl ?_ | refine HL.one (H1.ldb rfl memA rfl rfl ?_) | refine HC.cond rfl (fun hc => ?_) (fun hc => ?_) | refine HC.cond_b rfl (fun hc => ?_) (fun hc => ?_))
                    refine HX.again (i + 1, ar, cr) (by show i + 1 ≤ _; omega) (by show holders.length - (i + 1) < holders.length - i; omega) ⟨rfl, rfl, ?_, rfl, trivial⟩ ?_
                    · show _ = some (Value.slice ar _ cr)
                      rw [hstep]; rfl
                    · show Hs _ [A.grow _ _ ar cr _ _]
                      rw [hstep]; exact Hs.refl _
                  · rw [if_neg hin] at hstep
                    repeat' (first | refine HL.one (H1.call0 rfl rfl (fun w _ => rwithin_fn _ _ _ w) ?_) | apply HL.fold | apply HA.fold | apply HL.nil | apply HX.n_then | apply HC.seq | apply HC.region | refine HL.pa ?_ | refine HL.ga rfl ?_ | refine HL.na rfl ?_ | refine HL.nu rfl rfl ?_ | apply HC.block | apply HC.skip | apply HC.exit | apply HC.ret | apply HX.e_block | refine HX.e_other rfl ?_ | apply HX.e_then | apply HX.e_again | apply HX.n_block | apply HX.r_then | apply HX.r_block | apply HX.r_again | refine HC.cond_yes rfl ?_ | refine HC.cond_no rfl ?_ | refine HL.one (H1.ldb rfl memA rfl rfl ?_) | refine HC.cond rfl (fun hc => ?_) (fun hc => ?_) | refine HC.cond_b rfl (fun hc => ?_) (fun hc => ?_))
                    refine HL.one (H1.call0 (vs := [.slice a' lost.length c', .int .i64 (i : Int)]) rfl rfl (fun w hM => rin_fn _ lost i hl w (hM.rd0 hS)) ?_)
                    rw [decide_eq_false hin]
                    repeat' (first | refine HL.one (H1.call0 rfl rfl (fun w _ => rwithin_fn _ _ _ w) ?_) | apply HL.fold | apply HA.fold | apply HL.nil | apply HX.n_then | apply HC.seq | apply HC.region | refine HL.pa ?_ | refine HL.ga rfl ?_ | refine HL.na rfl ?_ | refine HL.nu rfl rfl ?_ | apply HC.block | apply HC.skip | apply HC.exit | apply HC.ret | apply HX.e_block | refine HX.e_other rfl ?_ | apply HX.e_then | apply HX.e_again | apply HX.n_block | apply HX.r_then | apply HX.r_block | apply HX.r_again | refine HC.cond_yes rfl ?_ | refine HC.cond_no rfl ?_ | refine HL.one (H1.ldb rfl memA rfl rfl ?_) | refine HC.cond rfl (fun hc => ?_) (fun hc => ?_) | refine HC.cond_b rfl (fun hc => ?_) (fun hc => ?_))
                    refine HL.one (H1.ld0 rfl (hR.cell (ints_get hlt)) rfl ?_)
                    repeat' (first | refine HL.one (H1.call0 rfl rfl (fun w _ => rwithin_fn _ _ _ w) ?_) | apply HL.fold | apply HA.fold | apply HL.nil | apply HX.n_then | apply HC.seq | apply HC.region | refine HL.pa ?_ | refine HL.ga rfl ?_ | refine HL.na rfl ?_ | refine HL.nu rfl rfl ?_ | apply HC.block | apply HC.skip | apply HC.exit | apply HC.ret | apply HX.e_block | refine HX.e_other rfl ?_ | apply HX.e_then | apply HX.e_again | apply HX.n_block | apply HX.r_then | apply HX.r_block | apply HX.r_again | refine HC.cond_yes rfl ?_ | refine HC.cond_no rfl ?_ | refine HL.one (H1.ldb rfl memA rfl rfl ?_) | refine HC.cond rfl (fun hc => ?_) (fun hc => ?_) | refine HC.cond_b rfl (fun hc => ?_) (fun hc => ?_))
                    refine HL.one (H1.lit (cs := [.int .i64 (at' holders i)]) rfl rfl rfl rfl rfl rfl (fun b2 => ?_))
                    repeat' (first | refine HL.one (H1.call0 rfl rfl (fun w _ => rwithin_fn _ _ _ w) ?_) | apply HL.fold | apply HA.fold | apply HL.nil | apply HX.n_then | apply HC.seq | apply HC.region | refine HL.pa ?_ | refine HL.ga rfl ?_ | refine HL.na rfl ?_ | refine HL.nu rfl rfl ?_ | apply HC.block | apply HC.skip | apply HC.exit | apply HC.ret | apply HX.e_block | refine HX.e_other rfl ?_ | apply HX.e_then | apply HX.e_again | apply HX.n_block | apply HX.r_then | apply HX.r_block | apply HX.r_again | refine HC.cond_yes rfl ?_ | refine HC.cond_no rfl ?_ | refine HL.one (H1.ldb rfl memA rfl rfl ?_) | refine HC.cond rfl (fun hc => ?_) (fun hc => ?_) | refine HC.cond_b rfl (fun hc => ?_) (fun hc => ?_))
                    refine HL.one (H1.app1 (u := .int .i64 (at' holders i)) rfl rfl (fun _ _ => by first | ((repeat (first | with_reducible exact Rpl.here | with_reducible apply Rpl.there)); done) | (repeat (first | exact Rpl.here | apply Rpl.there))) memA rfl rfl (by omega) rfl rfl (fun a2 c2 => ?_))
                    repeat' (first | refine HL.one (H1.call0 rfl rfl (fun w _ => rwithin_fn _ _ _ w) ?_) | apply HL.fold | apply HA.fold | apply HL.nil | apply HX.n_then | apply HC.seq | apply HC.region | refine HL.pa ?_ | refine HL.ga rfl ?_ | refine HL.na rfl ?_ | refine HL.nu rfl rfl ?_ | apply HC.block | apply HC.skip | apply HC.exit | apply HC.ret | apply HX.e_block | refine HX.e_other rfl ?_ | apply HX.e_then | apply HX.e_again | apply HX.n_block | apply HX.r_then | apply HX.r_block | apply HX.r_again | refine HC.cond_yes rfl ?_ | refine HC.cond_no rfl ?_ | refine HL.one (H1.ldb rfl memA rfl rfl ?_) | refine HC.cond rfl (fun hc => ?_) (fun hc => ?_) | refine HC.cond_b rfl (fun hc => ?_) (fun hc => ?_))
                    refine HX.again (i + 1, some ⟨a2, 0, none⟩, c2) (by show i + 1 ≤ _; omega) (by show holders.length - (i + 1) < holders.length - i; omega) ⟨rfl, rfl, ?_, rfl, trivial⟩ ?_
                    · show _ = some (Value.slice (some ⟨a2, 0, none⟩) _ c2)
                      rw [hstep, List.length_append]; rfl
                    · show Hs _ [A.grow _ _ (some ⟨a2, 0, none⟩) c2 _ _]
                      rw [hstep, List.length_append, ints_app]
                      exact Hs.cons (Pick.there Pick.here) (Hs.nil _)
                · obtain rfl : i = holders.length := by omega
                  repeat' (first | refine HL.one (H1.call0 rfl rfl (fun w _ => rwithin_fn _ _ _ w) ?_) | apply HL.fold | apply HA.fold | apply HL.nil | apply HX.n_then | apply HC.seq | apply HC.region | refine HL.pa ?_ | refine HL.ga rfl ?_ | refine HL.na rfl ?_ | refine HL.nu rfl rfl ?_ | apply HC.block | apply HC.skip | apply HC.exit | apply HC.ret | apply HX.e_block | refine HX.e_other rfl ?_ | apply HX.e_then | apply HX.e_again | apply HX.n_block | apply HX.r_then | apply HX.r_block | apply HX.r_again | refine HC.cond_yes rfl ?_ | refine HC.cond_no rfl ?_ | refine HL.one (H1.ldb rfl memA rfl rfl ?_) | refine HC.cond rfl (fun hc => ?_) (fun hc => ?_) | refine HC.cond_b rfl (fun hc => ?_) (fun hc => ?_))
                  refine HX.ret2 rfl rfl rfl fun w' hM => ⟨(ar, cr), trivial, ?_, ?_⟩
                  · rw [e, rightB_yes hr, ← survTo_end, hX]
                  · rw [e, ← survTo_end, hX]; exact hM
            · have hn : ¬ Right holders lost width k deadline := fun r => h6 r.d
              have d4 := decide_eq_true h4
              have d5 := decide_eq_true h5
              have d6 := decide_eq_false h6
              repeat' (first | refine HL.one (H1.call0 rfl rfl (fun w _ => rwithin_fn _ _ _ w) ?_) | apply HL.fold | apply HA.fold | apply HL.nil | apply HX.n_then | apply HC.seq | apply HC.region | refine HL.pa ?_ | refine HL.ga rfl ?_ | refine HL.na rfl ?_ | refine HL.nu rfl rfl ?_ | apply HC.block | apply HC.skip | apply HC.exit | apply HC.ret | apply HX.e_block | refine HX.e_other rfl ?_ | apply HX.e_then | apply HX.e_again | apply HX.n_block | apply HX.r_then | apply HX.r_block | apply HX.r_again | refine HC.cond_yes rfl ?_ | refine HC.cond_no rfl ?_ | refine HL.one (H1.ldb rfl memA rfl rfl ?_) | refine HC.cond rfl (fun hc => ?_) (fun hc => ?_) | refine HC.cond_b rfl (fun hc => ?_) (fun hc => ?_))
              exact no hn rfl rfl
          · have hn : ¬ Right holders lost width k deadline := fun r => h5 r.k
            have d4 := decide_eq_true h4
            have d5 := decide_eq_false h5
            repeat' (first | refine HL.one (H1.call0 rfl rfl (fun w _ => rwithin_fn _ _ _ w) ?_) | apply HL.fold | apply HA.fold | apply HL.nil | apply HX.n_then | apply HC.seq | apply HC.region | refine HL.pa ?_ | refine HL.ga rfl ?_ | refine HL.na rfl ?_ | refine HL.nu rfl rfl ?_ | apply HC.block | apply HC.skip | apply HC.exit | apply HC.ret | apply HX.e_block | refine HX.e_other rfl ?_ | apply HX.e_then | apply HX.e_again | apply HX.n_block | apply HX.r_then | apply HX.r_block | apply HX.r_again | refine HC.cond_yes rfl ?_ | refine HC.cond_no rfl ?_ | refine HL.one (H1.ldb rfl memA rfl rfl ?_) | refine HC.cond rfl (fun hc => ?_) (fun hc => ?_) | refine HC.cond_b rfl (fun hc => ?_) (fun hc => ?_))
            exact no hn rfl rfl
        · have hn : ¬ Right holders lost width k deadline := fun r => h4 r.w
          have d4 := decide_eq_false h4
          repeat' (first | refine HL.one (H1.call0 rfl rfl (fun w _ => rwithin_fn _ _ _ w) ?_) | apply HL.fold | apply HA.fold | apply HL.nil | apply HX.n_then | apply HC.seq | apply HC.region | refine HL.pa ?_ | refine HL.ga rfl ?_ | refine HL.na rfl ?_ | refine HL.nu rfl rfl ?_ | apply HC.block | apply HC.skip | apply HC.exit | apply HC.ret | apply HX.e_block | refine HX.e_other rfl ?_ | apply HX.e_then | apply HX.e_again | apply HX.n_block | apply HX.r_then | apply HX.r_block | apply HX.r_again | refine HC.cond_yes rfl ?_ | refine HC.cond_no rfl ?_ | refine HL.one (H1.ldb rfl memA rfl rfl ?_) | refine HC.cond rfl (fun hc => ?_) (fun hc => ?_) | refine HC.cond_b rfl (fun hc => ?_) (fun hc => ?_))
          exact no hn rfl rfl
      · have hn : ¬ Right holders lost width k deadline := fun r => h3 r.n9
        repeat' (first | refine HL.one (H1.call0 rfl rfl (fun w _ => rwithin_fn _ _ _ w) ?_) | apply HL.fold | apply HA.fold | apply HL.nil | apply HX.n_then | apply HC.seq | apply HC.region | refine HL.pa ?_ | refine HL.ga rfl ?_ | refine HL.na rfl ?_ | refine HL.nu rfl rfl ?_ | apply HC.block | apply HC.skip | apply HC.exit | apply HC.ret | apply HX.e_block | refine HX.e_other rfl ?_ | apply HX.e_then | apply HX.e_again | apply HX.n_block | apply HX.r_then | apply HX.r_block | apply HX.r_again | refine HC.cond_yes rfl ?_ | refine HC.cond_no rfl ?_ | refine HL.one (H1.ldb rfl memA rfl rfl ?_) | refine HC.cond rfl (fun hc => ?_) (fun hc => ?_) | refine HC.cond_b rfl (fun hc => ?_) (fun hc => ?_))
        exact no hn rfl rfl
    · have hn : ¬ Right holders lost width k deadline := fun r => h2 r.pos
      rw [decide_eq_false h2]
      repeat' (first | refine HL.one (H1.call0 rfl rfl (fun w _ => rwithin_fn _ _ _ w) ?_) | apply HL.fold | apply HA.fold | apply HL.nil | apply HX.n_then | apply HC.seq | apply HC.region | refine HL.pa ?_ | refine HL.ga rfl ?_ | refine HL.na rfl ?_ | refine HL.nu rfl rfl ?_ | apply HC.block | apply HC.skip | apply HC.exit | apply HC.ret | apply HX.e_block | refine HX.e_other rfl ?_ | apply HX.e_then | apply HX.e_again | apply HX.n_block | apply HX.r_then | apply HX.r_block | apply HX.r_again | refine HC.cond_yes rfl ?_ | refine HC.cond_no rfl ?_ | refine HL.one (H1.ldb rfl memA rfl rfl ?_) | refine HC.cond rfl (fun hc => ?_) (fun hc => ?_) | refine HC.cond_b rfl (fun hc => ?_) (fun hc => ?_))
      exact no hn rfl rfl
  · have hn : ¬ Right holders lost width k deadline := fun r => h1 r.cu
    rw [decide_eq_false h1]
    repeat' (first | refine HL.one (H1.call0 rfl rfl (fun w _ => rwithin_fn _ _ _ w) ?_) | apply HL.fold | apply HA.fold | apply HL.nil | apply HX.n_then | apply HC.seq | apply HC.region | refine HL.pa ?_ | refine HL.ga rfl ?_ | refine HL.na rfl ?_ | refine HL.nu rfl rfl ?_ | apply HC.block | apply HC.skip | apply HC.exit | apply HC.ret | apply HX.e_block | refine HX.e_other rfl ?_ | apply HX.e_then | apply HX.e_again | apply HX.n_block | apply HX.r_then | apply HX.r_block | apply HX.r_again | refine HC.cond_yes rfl ?_ | refine HC.cond_no rfl ?_ | refine HL.one (H1.ldb rfl memA rfl rfl ?_) | refine HC.cond rfl (fun hc => ?_) (fun hc => ?_) | refine HC.cond_b rfl (fun hc => ?_) (fun hc => ?_))
    exact no hn rfl rfl
end Go.Sx

