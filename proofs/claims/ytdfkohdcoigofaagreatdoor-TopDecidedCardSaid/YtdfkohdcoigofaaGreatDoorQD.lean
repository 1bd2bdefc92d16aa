/- The law TopDecided returns true for all integers: its row, its card. -/
import Derived.Test.YtdfkohdcoigofaaGreatDoorQD09
import Derived.Test.YtdfkohdcoigofaaGreatDoorCards
import Derived.Test.YtdfkohdcoigofaaGreatDoorTie
import Derived.ChangeMaps5
namespace Go.Sx
open Go Go.Proofs Go.ChangeShapes Go.WideShapes Go.ChangeAt Go.RowKit
def laidD : List (String × DataW Unit) := [("unicode/utf8.acceptRanges", YtdfkohdcoigofaaGreatDoor.Rows.laid_unicode_utf8_acceptRanges), ("unicode.CaseRanges", YtdfkohdcoigofaaGreatDoor.Rows.laid_unicode_CaseRanges), ("unicode/utf8.first", YtdfkohdcoigofaaGreatDoor.Rows.laid_unicode_utf8_first)]
theorem threeB {y : List Int} (h : y.length = 3) : ∃ y0 y1 y2, y = [y0, y1, y2] := by
  match y, h with
  | [a, b, c], _ => exact ⟨a, b, c, rfl⟩
end Go.Sx
namespace Go.Proofs.YtdfkohdcoigofaaGreatDoor
open Go.Sx Go.ChangeShapes Go.WideShapes Go.ChangeAt Go.RowKit
set_option maxRecDepth 100000 in
theorem topDecided_lifted (os : Os) (started : os.Started) (H : Type) (enc : TypeId × Value → H) :
    ReturnsInHanded {} Tryz.checked os 3 .any (fun w args => (Rows.topDecidedSpec.pre enc Tryz.prog Tryz.f3 Rows.topDecidedRow.domain false w args ∧ laidMetH Tryz.prog laidD w) ∧ sizedMet enc Tryz.prog Tryz.f3 (OpenSpec.ofChange Rows.topDecidedSpec) false w args)
      (Rows.topDecidedSpec.post enc Tryz.prog Tryz.f3 false true false false) := by
  refine returnsInHanded_of_change_and (C := Tryz.checked) (X := fun w _ => laidMetH Tryz.prog laidD w) (fun _ _ _ hh h => h.of_heap hh) ownK started (by kernel_rfl) Tryz.func3
    (ChangeSpec.witness_shaped (enc := enc) (C := Tryz.checked) (os := os) (X := fun w _ => laidMetH Tryz.prog laidD w) false (World.laidAll Tryz.prog os laidD) #[.slice none 0 0, .slice none 0 0, .int .i64 0, .agg #[.int .i64 0, .int .i64 0, .int .i64 0], .slice none 0 0] 8 (World.laidAll_os _ _ _)
      (World.shaped_of_ZipB (by kernel_rfl) (by kernel_rfl)) (by kernel_rfl) (by kernel_rfl) (by kernel_rfl)
      (by rw [MakeChecks.laidMetH_plain _ _ _ (by kernel_rfl)]; exact laidMet_laidAll _ (by kernel_rfl) (by kernel_rfl))) ?_
  intro W base args ds gs before hval0 hW hc _ hL _
  have hval : ∀ (j : Nat) t v, Tryz.f3.params[j]? = some t → args[j]? = some v → Value.okWide Tryz.prog W .any base t v := hval0
  have hW' := hW
  obtain ⟨p, q, hA0, hV, rfl, _, _⟩ := hW
  obtain ⟨rfl, rfl⟩ := trodVars_none hV
  have hlt : ∀ x ∈ p, x.block < W.heap.size := fun x hx => hW'.lt x (by simpa using hx)
  have hA : DataW.TrodAll enc Tryz.prog W 0 (fun _ => true) true Tryz.f3.params.toList args.toList ds p := hA0
  have hAll := hA
  have hpar : (Tryz.f3.params.toList.all fun t => Tryz.prog.readableRec t && decide (t < Tryz.prog.types.size)) = true := by kernel_rfl
  rw [Tryz.params3] at hA hval
  obtain ⟨v0, r0, d0, k0, p0, q0, e0, rfl, rfl, h0, hA⟩ := args_cons hA
  obtain ⟨v1, r1, d1, k1, p1, q1, e1, rfl, rfl, h1, hA⟩ := args_cons hA
  obtain ⟨v2, r2, d2, k2, p2, q2, e2, rfl, rfl, h2, hA⟩ := args_cons hA
  obtain ⟨v3, r3, d3, k3, p3, q3, e3, rfl, rfl, h3, hA⟩ := args_cons hA
  obtain ⟨v4, r4, d4, k4, p4, q4, e4, rfl, rfl, h4, hA⟩ := args_cons hA
  obtain ⟨eN, rfl, rfl⟩ := args_nil hA
  obtain rfl : args = #[v0, v1, v2, v3, v4] := by
    apply Array.ext'
    rw [e0, e1, e2, e3, e4, eN]
  obtain ⟨rows, hR, hrow, -⟩ := open_rowsK Tryz.underlying22 (sz := 4) (by kernel_rfl) (by kernel_rfl) (by decide) (hval 0 22 v0 rfl rfl) h0
  obtain ⟨recs, hR2, hrec, -⟩ := open_rowsK Tryz.underlying23 (sz := 6) (by kernel_rfl) (by kernel_rfl) (by decide) (hval 1 23 v1 rfl rfl) h1
  obtain ⟨dy, rfl, wd⟩ := open_intK Tryz.underlying3 (hval 2 3 v2 rfl rfl) h2
  obtain ⟨xs, rfl, hx3, hxs⟩ := open_arrK Tryz.underlying24 (k := 3) (by kernel_rfl) (by kernel_rfl) (hval 3 24 v3 rfl rfl) h3
  obtain ⟨q0, q1, q2, rfl⟩ := threeB hx3
  obtain ⟨S, hF, hS, -⟩ := open_sl Tryz.underlying25 Tryz.underlying3 (by kernel_rfl) (hval 4 25 v4 rfl rfl) h4
  refine (topDecided_fn v0 v1 v4 rows recs dy q0 q1 q2 S wd (hxs q0 (by simp)) (hxs q1 (by simp)) (hxs q2 (by simp)) hrow hrec hS W hR hR2 hF).mono fun v W' ⟨hv, hw⟩ => ?_
  subst hv
  exact post_ext (pa := _) (pv := []) hw hW' (fun _ _ _ => trodAll_mk1 (shut_bool Tryz.underlying4 _))
    (fun sp hsp => trodAll_ext (by kernel_rfl) hw hpar hAll hlt sp (fun x hx => hsp x (by simpa using hx))) (fun _ _ => rfl) rfl (ok_one (by kernel_rfl) rfl (okWide_bool_mk Tryz.underlying4 _))
theorem topDecided_and {a b : Bool} (ha : a = true) (hb : b = true) : (a && b) = true := by rw [ha, hb]; rfl
set_option maxHeartbeats 4000000 in
theorem topDecided_closed : joinedFacts Tryz.checked.prog 3 Tryz.f3 Rows.topDecidedSpec Rows.topDecidedRow = true := by
  unfold joinedFacts
  repeat' (with_reducible apply topDecided_and)
  all_goals as_aux_lemma => kernel_rfl
theorem topDecided_holds : Rows.TopDecidedSaid :=
  OpenClaim.holds_of_wide 3 Tryz.f3 rfl rfl rfl rfl rfl rfl rfl ⟨rfl, rfl, rfl, rfl, rfl⟩ rfl rfl rfl rfl rfl (by kernel_rfl) Tryz.func3 topDecided_closed
    (of_decide_eq_true (by kernel_rfl)) (by unfold Func.isWrapper; first | (rw [if_pos (by decide +kernel)]; kernel_rfl) | (rw [if_neg (by decide +kernel)]; exact ⟨rfl, rfl⟩))
    (fun os started H enc _ => topDecided_lifted os started H enc)
theorem topDecided_card : Rows.TopDecidedCardSaid :=
  Claim7.holds_tied_plain_at .later [] [.data, .pinned, .pinned] true (true, "29412c8db7faf7b64d33a512e1fa5103f4f98eed6d0e20df9ded5bf63ffb3ea7") true
    topDecided_holds (fun _ h => by cases h) (by kernel_rfl) (fun _ h => by cases h) topDecided_row_tie rfl ⟨rfl, rfl⟩ (by kernel_rfl) rfl
    (fun f fn hf hfn => by
      obtain rfl : f = 3 := Option.some.inj ((show Tryz.prog.funcNamed "evergreen/evergreentop.TopDecided" = some 3 by kernel_rfl).symm.trans hf) |>.symm
      obtain rfl : fn = Tryz.f3 := (Option.some.inj (Tryz.func3.symm.trans hfn)).symm
      exact ⟨by kernel_rfl, fun j t ht => by
        rw [Tryz.params3] at ht
        have hm : t ∈ [22, 23, 3, 24, 25] := by simpa using Array.mem_of_getElem? ht
        have hall : ([22, 23, 3, 24, 25].all fun u => !Tryz.prog.wantsStandIn u) = true := by kernel_rfl
        exact (show Tryz.prog.wantsStandIn t = false by simpa using List.all_eq_true.1 hall t hm)⟩)
    (by kernel_rfl)
#print axioms topDecided_card
end Go.Proofs.YtdfkohdcoigofaaGreatDoor
