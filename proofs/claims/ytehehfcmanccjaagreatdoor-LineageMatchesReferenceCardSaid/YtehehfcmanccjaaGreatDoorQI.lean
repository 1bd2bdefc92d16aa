/- The law LineageMatchesReference returns true for all nodes, strings, lists and integers: its row, its card. -/
import Derived.Test.YtehehfcmanccjaaGreatDoorQI13
import Derived.Test.YtehehfcmanccjaaGreatDoorCards
import Derived.ChangeMaps5
namespace Go.Proofs.YtehehfcmanccjaaGreatDoor
open Go.Sx Go.ChangeShapes Go.WideShapes Go.ChangeAt Go.RowKit
set_option maxRecDepth 100000 in
theorem lineageMatchesReference_lifted (os : Os) (started : os.Started) (H : Type) (enc : TypeId × Value → H) :
  ReturnsInHanded {} Tryz.checked os 6 .any (fun w args => (Rows.lineageMatchesReferenceSpec.pre enc Tryz.prog Tryz.f6 Rows.lineageMatchesReferenceRow.domain false w args ∧ laidMetH Tryz.prog laid1 w) ∧ sizedMet enc Tryz.prog Tryz.f6 (OpenSpec.ofChange Rows.lineageMatchesReferenceSpec) false w args)
   (Rows.lineageMatchesReferenceSpec.post enc Tryz.prog Tryz.f6 false true false false) := by
 refine returnsInHanded_of_change_and (C := Tryz.checked) (X := fun w _ => laidMetH Tryz.prog laid1 w) (fun _ _ _ hh h => h.of_heap hh) ownK started (by kernel_rfl) Tryz.func6
  (ChangeSpec.witness_shaped (enc := enc) (C := Tryz.checked) (os := os) (X := fun w _ => laidMetH Tryz.prog laid1 w) false (World.laidAll Tryz.prog os laid1) #[.slice none 0 0, .slice none 0 0, .slice none 0 0, .slice none 0 0, .int .i64 0, .slice none 0 0, .int .i64 0, .int .i64 0] 8 (World.laidAll_os _ _ _)
   (World.shaped_of_ZipB (by kernel_rfl) (by kernel_rfl)) (by kernel_rfl) (by kernel_rfl) (by kernel_rfl)
   (by rw [MakeChecks.laidMetH_plain _ _ _ (by kernel_rfl)]; exact laidMet_laidAll _ (by kernel_rfl) (by kernel_rfl))) ?_
 intro W base args ds gs before hval0 hW hc _ hL _
 have hval : ∀ (j : Nat) t v, Tryz.f6.params[j]? = some t → args[j]? = some v → Value.okWide Tryz.prog W .any base t v := hval0
 have hW' := hW
 obtain ⟨p, q, hA0, hV, rfl, _, _⟩ := hW
 obtain ⟨rfl, rfl⟩ := trodVars_none hV
 have hlt : ∀ x ∈ p, x.block < W.heap.size := fun x hx => hW'.lt x (by simpa using hx)
 have hA : DataW.TrodAll enc Tryz.prog W 0 (fun _ => true) true Tryz.f6.params.toList args.toList ds p := hA0
 have hAll := hA
 have hpar : (Tryz.f6.params.toList.all fun t => Tryz.prog.readableRec t && decide (t < Tryz.prog.types.size)) = true := by kernel_rfl
 rw [Tryz.params6] at hA hval
 obtain ⟨v0, r0, d0, k0, p0, q0, e0, rfl, rfl, h0, hA⟩ := args_cons hA
 obtain ⟨v1, r1, d1, k1, p1, q1, e1, rfl, rfl, h1, hA⟩ := args_cons hA
 obtain ⟨v2, r2, d2, k2, p2, q2, e2, rfl, rfl, h2, hA⟩ := args_cons hA
 obtain ⟨v3, r3, d3, k3, p3, q3, e3, rfl, rfl, h3, hA⟩ := args_cons hA
 obtain ⟨v4, r4, d4, k4, p4, q4, e4, rfl, rfl, h4, hA⟩ := args_cons hA
 obtain ⟨v5, r5, d5, k5, p5, q5, e5, rfl, rfl, h5, hA⟩ := args_cons hA
 obtain ⟨v6, r6, d6, k6, p6, q6, e6, rfl, rfl, h6, hA⟩ := args_cons hA
 obtain ⟨v7, r7, d7, k7, p7, q7, e7, rfl, rfl, h7, hA⟩ := args_cons hA
 obtain ⟨eN, rfl, rfl⟩ := args_nil hA
 obtain rfl : args = #[v0, v1, v2, v3, v4, v5, v6, v7] := by
  apply Array.ext'
  rw [e0, e1, e2, e3, e4, e5, e6, e7, eN]
 obtain ⟨raw, U0, hN0, hraw, hnd⟩ := open_nodes (hval 0 24 v0 rfl rfl) h0
 obtain ⟨D0, hS0, hDs0, hD0⟩ := open_strsN Tryz.underlying25 Tryz.underlying9 (by kernel_rfl) (hval 1 25 v1 rfl rfl) h1
 obtain ⟨rows, hX, hrow, -⟩ := open_rowsK Tryz.underlying22 (sz := 4) (by kernel_rfl) (by kernel_rfl) (by decide) (hval 2 22 v2 rfl rfl) h2
 obtain ⟨rowsY, hY, hrowY, -⟩ := open_rowsK Tryz.underlying54 (sz := 6) (by kernel_rfl) (by kernel_rfl) (by decide) (hval 3 54 v3 rfl rfl) h3
 obtain ⟨pack, rfl, wp⟩ := open_intK Tryz.underlying3 (hval 4 3 v4 rfl rfl) h4
 obtain ⟨f, hF, -, hf0⟩ := open_sl Tryz.underlying28 Tryz.underlying3 (by kernel_rfl) (hval 5 28 v5 rfl rfl) h5
 obtain ⟨order, rfl, wo⟩ := open_intK Tryz.underlying3 (hval 6 3 v6 rfl rfl) h6
 obtain ⟨day, rfl, wd⟩ := open_intK Tryz.underlying3 (hval 7 3 v7 rfl rfl) h7
 refine (lineageMatches_fn v0 v1 v2 v3 v5 raw D0 U0 rows rowsY f pack order day wp wo wd hraw (fun i hi => (hnd i hi).1) hD0 hDs0 hf0 hrow hrowY W (round_of_laid1 hL) hN0 hS0 hX hY hF).mono fun v W' ⟨hv, hw⟩ => ?_
 subst hv
 exact post_ext (pa := _) (pv := []) hw hW' (fun _ _ _ => trodAll_mk1 (shut_bool Tryz.underlying4 _))
  (fun sp hsp => trodAll_ext (by kernel_rfl) hw hpar hAll hlt sp (fun x hx => hsp x (by simpa using hx))) (fun _ _ => rfl) rfl (ok_one (by kernel_rfl) rfl (okWide_bool_mk Tryz.underlying4 _))
theorem lineageMatchesReference_and {a b : Bool} (ha : a = true) (hb : b = true) : (a && b) = true := by rw [ha, hb]; rfl
set_option maxHeartbeats 4000000 in
theorem lineageMatchesReference_closed : joinedFacts Tryz.checked.prog 6 Tryz.f6 Rows.lineageMatchesReferenceSpec Rows.lineageMatchesReferenceRow = true := by
 unfold joinedFacts
 repeat' (with_reducible apply lineageMatchesReference_and)
 all_goals as_aux_lemma => kernel_rfl
theorem lineageMatchesReference_holds : Rows.LineageMatchesReferenceSaid :=
 OpenClaim.holds_of_wide 6 Tryz.f6 rfl rfl rfl rfl rfl rfl rfl ⟨rfl, rfl, rfl, rfl, rfl⟩ rfl rfl rfl rfl rfl (by kernel_rfl) Tryz.func6 lineageMatchesReference_closed
  (of_decide_eq_true (by kernel_rfl)) (by unfold Func.isWrapper; first | (rw [if_pos (by decide +kernel)]; kernel_rfl) | (rw [if_neg (by decide +kernel)]; exact ⟨rfl, rfl⟩))
  (fun os started H enc _ => lineageMatchesReference_lifted os started H enc)
theorem lineageMatchesReference_card : Rows.LineageMatchesReferenceCardSaid :=
 Claim7.holds_tied_plain_at .later [] [.data] true (true, "00fe9f2b8886fbf85a3b5fe39e21941e51d7ee937d2f7d03fa6523a58cf93bf4") false
  lineageMatchesReference_holds (fun _ h => by cases h) (by kernel_rfl) (fun _ h => by cases h) lineageMatchesReference_row_tie rfl ⟨rfl, rfl⟩ (by kernel_rfl) rfl
  (fun f fn hf hfn => by
   obtain rfl : f = 6 := Option.some.inj ((show Tryz.prog.funcNamed "evergreen/evergreenlaw24.LineageMatchesReference" = some 6 by kernel_rfl).symm.trans hf) |>.symm
   obtain rfl : fn = Tryz.f6 := (Option.some.inj (Tryz.func6.symm.trans hfn)).symm
   exact ⟨by kernel_rfl, fun j t ht => by
    rw [Tryz.params6] at ht
    have hm : t ∈ [24, 25, 22, 54, 3, 28, 3, 3] := by simpa using Array.mem_of_getElem? ht
    have hall : ([24, 25, 22, 54, 3, 28, 3, 3].all fun u => !Tryz.prog.wantsStandIn u) = true := by kernel_rfl
    exact (show Tryz.prog.wantsStandIn t = false by simpa using List.all_eq_true.1 hall t hm)⟩)
  (by kernel_rfl)
#print axioms lineageMatchesReference_card
end Go.Proofs.YtehehfcmanccjaaGreatDoor
