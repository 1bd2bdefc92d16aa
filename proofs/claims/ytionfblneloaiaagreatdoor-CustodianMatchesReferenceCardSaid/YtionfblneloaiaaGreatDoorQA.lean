/- The law CustodianMatchesReference returns true for all integers, deeds, strings and booleans: its row, its card. -/
import Derived.Test.YtionfblneloaiaaGreatDoorQA11
import Derived.Test.YtionfblneloaiaaGreatDoorCards
import Derived.ChangeMaps5
namespace Go.Proofs.YtionfblneloaiaaGreatDoor
open Go.Sx Go.ChangeShapes Go.WideShapes Go.ChangeAt Go.RowKit
set_option maxRecDepth 100000 in
theorem custodianMatchesReference_lifted (os : Os) (started : os.Started) (H : Type) (enc : TypeId × Value → H) :
    ReturnsInHanded {} Tryz.checked os 7 .any (fun w args => (Rows.custodianMatchesReferenceSpec.pre enc Tryz.prog Tryz.f7 Rows.custodianMatchesReferenceRow.domain false w args ∧ laidMetH Tryz.prog laid5 w) ∧ sizedMet enc Tryz.prog Tryz.f7 (OpenSpec.ofChange Rows.custodianMatchesReferenceSpec) false w args)
      (Rows.custodianMatchesReferenceSpec.post enc Tryz.prog Tryz.f7 false true false false) := by
  refine returnsInHanded_of_change_and (C := Tryz.checked) (X := fun w _ => laidMetH Tryz.prog laid5 w) (fun _ _ _ hh h => h.of_heap hh) ownK started (by kernel_rfl) Tryz.func7
    (ChangeSpec.witness_shaped (enc := enc) (C := Tryz.checked) (os := os) (X := fun w _ => laidMetH Tryz.prog laid5 w) false (World.laidAll Tryz.prog os laid5) #[.int .i64 0, .slice none 0 0, .string (ByteArray.mk #[]), .bool false] 8 (World.laidAll_os _ _ _)
      (World.shaped_of_ZipB (by kernel_rfl) (by kernel_rfl)) (by kernel_rfl) (by kernel_rfl) (by kernel_rfl)
      (by rw [MakeChecks.laidMetH_plain _ _ _ (by kernel_rfl)]; exact laidMet_laidAll _ (by kernel_rfl) (by kernel_rfl))) ?_
  intro W base args ds gs before hval0 hW hc _ hL _
  have hval : ∀ (j : Nat) t v, Tryz.f7.params[j]? = some t → args[j]? = some v → Value.okWide Tryz.prog W .any base t v := hval0
  have hW' := hW
  obtain ⟨p, q, hA0, hV, rfl, _, _⟩ := hW
  obtain ⟨rfl, rfl⟩ := trodVars_none hV
  have hlt : ∀ x ∈ p, x.block < W.heap.size := fun x hx => hW'.lt x (by simpa using hx)
  have hA : DataW.TrodAll enc Tryz.prog W 0 (fun _ => true) true Tryz.f7.params.toList args.toList ds p := hA0
  have hAll := hA
  have hpar : (Tryz.f7.params.toList.all fun t => Tryz.prog.readableRec t && decide (t < Tryz.prog.types.size)) = true := by kernel_rfl
  rw [Tryz.params7] at hA hval
  obtain ⟨v0, r0, d0, k0, p0, q0, e0, rfl, rfl, h0, hA⟩ := args_cons hA
  obtain ⟨v1, r1, d1, k1, p1, q1, e1, rfl, rfl, h1, hA⟩ := args_cons hA
  obtain ⟨v2, r2, d2, k2, p2, q2, e2, rfl, rfl, h2, hA⟩ := args_cons hA
  obtain ⟨v3, r3, d3, k3, p3, q3, e3, rfl, rfl, h3, hA⟩ := args_cons hA
  obtain ⟨eN, rfl, rfl⟩ := args_nil hA
  obtain rfl : args = #[v0, v1, v2, v3] := by
    apply Array.ext'
    rw [e0, e1, e2, e3, eN]
  obtain ⟨n, rfl, wn⟩ := open_intK Tryz.underlying3 (hval 0 3 v0 rfl rfl) h0
  obtain ⟨l, a, c, rfl, hR, hl⟩ := open_deeds (hval 1 35 v1 rfl rfl) h1
  obtain ⟨s, rfl, -, -, ws⟩ := Go.ChangeMaps.open_string Tryz.underlying9 (hval 2 9 v2 rfl rfl) h2
  obtain ⟨raw, rfl⟩ := open_boolK Tryz.underlying4 (hval 3 4 v3 rfl rfl)
  obtain ⟨ea, hE⟩ := err_of_laid5 hL
  obtain ⟨ec, hC⟩ := cerr_of_laid5 hL
  refine (custodianMatches_fn (round_of_laid5 hL) hE hC n wn.1 wn.2 hR hl s (by simp only [maxLen] at ws; omega) raw).mono fun v W' ⟨hv, hw⟩ => ?_
  subst hv
  exact post_ext (pa := _) (pv := []) hw hW' (fun _ _ _ => trodAll_mk1 (shut_bool Tryz.underlying4 _))
    (fun sp hsp => trodAll_ext (by kernel_rfl) hw hpar hAll hlt sp (fun x hx => hsp x (by simpa using hx))) (fun _ _ => rfl) rfl (ok_one (by kernel_rfl) rfl (okWide_bool_mk Tryz.underlying4 _))
theorem custodianMatchesReference_and {a b : Bool} (ha : a = true) (hb : b = true) : (a && b) = true := by rw [ha, hb]; rfl
set_option maxHeartbeats 4000000 in
theorem custodianMatchesReference_closed : joinedFacts Tryz.checked.prog 7 Tryz.f7 Rows.custodianMatchesReferenceSpec Rows.custodianMatchesReferenceRow = true := by
  unfold joinedFacts
  repeat' (with_reducible apply custodianMatchesReference_and)
  all_goals as_aux_lemma => kernel_rfl
theorem custodianMatchesReference_holds : Rows.CustodianMatchesReferenceSaid :=
  OpenClaim.holds_of_wide 7 Tryz.f7 rfl rfl rfl rfl rfl rfl rfl ⟨rfl, rfl, rfl, rfl, rfl⟩ rfl rfl rfl rfl rfl (by kernel_rfl) Tryz.func7 custodianMatchesReference_closed
    (of_decide_eq_true (by kernel_rfl)) (by unfold Func.isWrapper; first | (rw [if_pos (by decide +kernel)]; kernel_rfl) | (rw [if_neg (by decide +kernel)]; exact ⟨rfl, rfl⟩))
    (fun os started H enc _ => custodianMatchesReference_lifted os started H enc)
theorem custodianMatchesReference_card : Rows.CustodianMatchesReferenceCardSaid :=
  Claim7.holds_tied_plain_at .later [] [.data, .data, .sentinel, .sentinel, .pinned] true (true, "17457ff206cbc8f72b82d1475be42d46ab008da376033f7a4fb400a1372f6be1") true
    custodianMatchesReference_holds (fun _ h => by cases h) (by kernel_rfl) (fun _ h => by cases h) custodianMatchesReference_row_tie rfl ⟨rfl, rfl⟩ (by kernel_rfl) rfl
    (fun f fn hf hfn => by
      obtain rfl : f = 7 := Option.some.inj ((show Tryz.prog.funcNamed "evergreen/evergreenlaw27.CustodianMatchesReference" = some 7 by kernel_rfl).symm.trans hf) |>.symm
      obtain rfl : fn = Tryz.f7 := (Option.some.inj (Tryz.func7.symm.trans hfn)).symm
      exact ⟨by kernel_rfl, fun j t ht => by
        rw [Tryz.params7] at ht
        have hm : t ∈ [3, 35, 9, 4] := by simpa using Array.mem_of_getElem? ht
        have hall : ([3, 35, 9, 4].all fun u => !Tryz.prog.wantsStandIn u) = true := by kernel_rfl
        exact (show Tryz.prog.wantsStandIn t = false by simpa using List.all_eq_true.1 hall t hm)⟩)
    (by kernel_rfl)
#print axioms custodianMatchesReference_card
end Go.Proofs.YtionfblneloaiaaGreatDoor
