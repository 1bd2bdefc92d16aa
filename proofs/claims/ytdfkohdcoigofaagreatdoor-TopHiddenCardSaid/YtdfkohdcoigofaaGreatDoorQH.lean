/- The law TopHidden returns true for all arguments: its row, its card. -/
import Derived.Test.YtdfkohdcoigofaaGreatDoorQH10
import Derived.Test.YtdfkohdcoigofaaGreatDoorCards
import Derived.ChangeMaps5
namespace Go.Proofs.YtdfkohdcoigofaaGreatDoor
open Go.Sx Go.ChangeShapes Go.WideShapes Go.ChangeAt Go.RowKit
set_option maxRecDepth 100000 in
theorem topHidden_lifted (os : Os) (started : os.Started) (H : Type) (enc : TypeId × Value → H) :
    ReturnsInHanded {} Tryz.checked os 4 .any (fun w args => (Rows.topHiddenSpec.pre enc Tryz.prog Tryz.f4 Rows.topHiddenRow.domain false w args ∧ laidMetH Tryz.prog laidT w) ∧ sizedMet enc Tryz.prog Tryz.f4 (OpenSpec.ofChange Rows.topHiddenSpec) false w args)
      (Rows.topHiddenSpec.post enc Tryz.prog Tryz.f4 false true false false) := by
  refine returnsInHanded_of_change_and (C := Tryz.checked) (X := fun w _ => laidMetH Tryz.prog laidT w) (fun _ _ _ hh h => h.of_heap hh) ownK started (by kernel_rfl) Tryz.func4
    (ChangeSpec.witness_shaped (enc := enc) (C := Tryz.checked) (os := os) (X := fun w _ => laidMetH Tryz.prog laidT w) false (World.laidAll Tryz.prog os laidT) #[.agg #[.slice none 0 0, .slice none 0 0, .int .i64 0, .int .i64 0], .string ⟨#[]⟩, .slice none 0 0, .int .i64 0, .int .i64 0, .int .i64 0, .int .i64 0] 8 (World.laidAll_os _ _ _)
      (World.shaped_of_ZipB (by kernel_rfl) (by kernel_rfl)) (by kernel_rfl) (by kernel_rfl) (by kernel_rfl)
      (by rw [MakeChecks.laidMetH_plain _ _ _ (by kernel_rfl)]; exact laidMet_laidAll _ (by kernel_rfl) (by kernel_rfl))) ?_
  intro W base args ds gs before hval0 hW hc _ hL _
  have hval : ∀ (j : Nat) t v, Tryz.f4.params[j]? = some t → args[j]? = some v → Value.okWide Tryz.prog W .any base t v := hval0
  have hW' := hW
  obtain ⟨p, q, hA0, hV, rfl, _, _⟩ := hW
  obtain ⟨rfl, rfl⟩ := trodVars_none hV
  have hlt : ∀ x ∈ p, x.block < W.heap.size := fun x hx => hW'.lt x (by simpa using hx)
  have hA : DataW.TrodAll enc Tryz.prog W 0 (fun _ => true) true Tryz.f4.params.toList args.toList ds p := hA0
  have hAll := hA
  have hpar : (Tryz.f4.params.toList.all fun t => Tryz.prog.readableRec t && decide (t < Tryz.prog.types.size)) = true := by kernel_rfl
  rw [Tryz.params4] at hA hval
  obtain ⟨v0, r0, d0, k0, p0, q0, e0, rfl, rfl, h0, hA⟩ := args_cons hA
  obtain ⟨v1, r1, d1, k1, p1, q1, e1, rfl, rfl, h1, hA⟩ := args_cons hA
  obtain ⟨v2, r2, d2, k2, p2, q2, e2, rfl, rfl, h2, hA⟩ := args_cons hA
  obtain ⟨v3, r3, d3, k3, p3, q3, e3, rfl, rfl, h3, hA⟩ := args_cons hA
  obtain ⟨v4, r4, d4, k4, p4, q4, e4, rfl, rfl, h4, hA⟩ := args_cons hA
  obtain ⟨v5, r5, d5, k5, p5, q5, e5, rfl, rfl, h5, hA⟩ := args_cons hA
  obtain ⟨v6, r6, d6, k6, p6, q6, e6, rfl, rfl, h6, hA⟩ := args_cons hA
  obtain ⟨eN, rfl, rfl⟩ := args_nil hA
  obtain rfl : args = #[v0, v1, v2, v3, v4, v5, v6] := by
    apply Array.ext'
    rw [e0, e1, e2, e3, e4, e5, e6, eN]
  obtain ⟨c0, c1, ls, xs, r0, r1, rfl, hX, hls, hZ, hxs, wr0, wr1⟩ := open_caseH (hval 0 50 v0 rfl rfl) h0
  obtain ⟨sec, rfl, hsec⟩ := open_strH Tryz.underlying9 (hval 1 9 v1 rfl rfl) h1
  obtain ⟨recs, hR2, hrec, -⟩ := open_rowsK Tryz.underlying23 (sz := 6) (by kernel_rfl) (by kernel_rfl) (by decide) (hval 2 23 v2 rfl rfl) h2
  obtain ⟨one, rfl, w1⟩ := open_intK Tryz.underlying3 (hval 3 3 v3 rfl rfl) h3
  obtain ⟨two, rfl, w2⟩ := open_intK Tryz.underlying3 (hval 4 3 v4 rfl rfl) h4
  obtain ⟨three, rfl, w3⟩ := open_intK Tryz.underlying3 (hval 5 3 v5 rfl rfl) h5
  obtain ⟨four, rfl, w4⟩ := open_intK Tryz.underlying3 (hval 6 3 v6 rfl rfl) h6
  refine (topHidden_fn c0 c1 v2 ls xs recs r0 r1 sec one two three four hsec wr0 wr1 w1 w2 w3 w4 hls hxs hrec W (round_of_laidT hL) hX hZ hR2).mono fun v W' ⟨hv, hw⟩ => ?_
  subst hv
  exact post_ext (pa := _) (pv := []) hw hW' (fun _ _ _ => trodAll_mk1 (shut_bool Tryz.underlying4 _))
    (fun sp hsp => trodAll_ext (by kernel_rfl) hw hpar hAll hlt sp (fun x hx => hsp x (by simpa using hx))) (fun _ _ => rfl) rfl (ok_one (by kernel_rfl) rfl (okWide_bool_mk Tryz.underlying4 _))
theorem topHidden_and {a b : Bool} (ha : a = true) (hb : b = true) : (a && b) = true := by rw [ha, hb]; rfl
set_option maxHeartbeats 4000000 in
theorem topHidden_closed : joinedFacts Tryz.checked.prog 4 Tryz.f4 Rows.topHiddenSpec Rows.topHiddenRow = true := by
  unfold joinedFacts
  repeat' (with_reducible apply topHidden_and)
  all_goals as_aux_lemma => kernel_rfl
theorem topHidden_holds : Rows.TopHiddenSaid :=
  OpenClaim.holds_of_wide 4 Tryz.f4 rfl rfl rfl rfl rfl rfl rfl ⟨rfl, rfl, rfl, rfl, rfl⟩ rfl rfl rfl rfl rfl (by kernel_rfl) Tryz.func4 topHidden_closed
    (of_decide_eq_true (by kernel_rfl)) (by unfold Func.isWrapper; first | (rw [if_pos (by decide +kernel)]; kernel_rfl) | (rw [if_neg (by decide +kernel)]; exact ⟨rfl, rfl⟩))
    (fun os started H enc _ => topHidden_lifted os started H enc)
theorem topHidden_card : Rows.TopHiddenCardSaid :=
  Claim7.holds_tied_plain_at .later [] [.data, .data, .pinned, .pinned] true (true, "29412c8db7faf7b64d33a512e1fa5103f4f98eed6d0e20df9ded5bf63ffb3ea7") true
    topHidden_holds (fun _ h => by cases h) (by kernel_rfl) (fun _ h => by cases h) topHidden_row_tie rfl ⟨rfl, rfl⟩ (by kernel_rfl) rfl
    (fun f fn hf hfn => by
      obtain rfl : f = 4 := Option.some.inj ((show Tryz.prog.funcNamed "evergreen/evergreentop.TopHidden" = some 4 by kernel_rfl).symm.trans hf) |>.symm
      obtain rfl : fn = Tryz.f4 := (Option.some.inj (Tryz.func4.symm.trans hfn)).symm
      exact ⟨by kernel_rfl, fun j t ht => by
        rw [Tryz.params4] at ht
        have hm : t ∈ [50, 9, 23, 3, 3, 3, 3] := by simpa using Array.mem_of_getElem? ht
        have hall : ([50, 9, 23, 3, 3, 3, 3].all fun u => !Tryz.prog.wantsStandIn u) = true := by kernel_rfl
        exact (show Tryz.prog.wantsStandIn t = false by simpa using List.all_eq_true.1 hall t hm)⟩)
    (by kernel_rfl)
#print axioms topHidden_card
end Go.Proofs.YtdfkohdcoigofaaGreatDoor
