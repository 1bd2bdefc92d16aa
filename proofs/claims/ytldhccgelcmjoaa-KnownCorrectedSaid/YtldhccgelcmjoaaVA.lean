/- The law KnownCorrected returns true for all rows of numbers, choices, days and both kinds of correction. -/
import Derived.Test.YtldhccgelcmjoaaV9
import Derived.Test.YtldhccgelcmjoaaPX
namespace Go.Proofs.Ytldhccgelcmjoaa
open Go.Sx Go.ChangeShapes Go.WideShapes Go.ChangeAt Go.RowKit
set_option maxRecDepth 100000 in
theorem knownCorrected_lifted (os : Os) (started : os.Started) (H : Type) (enc : TypeId × Value → H) :
    ReturnsInHanded {} Try.checked os 3 .any (Rows.knownCorrectedSpec.pre6 enc Try.prog Try.f3 Rows.knownCorrectedRow.domain false) (Rows.knownCorrectedSpec.post enc Try.prog Try.f3 false true false false) := by
  have hwit := ChangeSpec.witness_shaped (enc := enc) (C := Try.checked) (os := os) (f := 3) (fn := Try.f3) (s := Rows.knownCorrectedSpec) (conds := Rows.knownCorrectedRow.domain) (apart := false) (X := fun _ _ => True) false (World.laidAll Try.prog os []) #[.slice none 0 0, .int .i64 0, .int .i64 0, .bool false, .int .i64 0] 8 (World.laidAll_os _ _ _)
      (World.shaped_of_ZipB (by kernel_rfl) (by kernel_rfl)) (by kernel_rfl) (by kernel_rfl) (by kernel_rfl) trivial
  refine returnsInHanded_of_change (C := Try.checked) ownK started (by kernel_rfl) Try.func3
    (by obtain ⟨w, tape, i, q1, q2, q3, q4, q5, q6⟩ := hwit; exact ⟨w, tape, i, q1, q2, q3, q4, ⟨q5.1.1, q5.2⟩, q6⟩) ?_
  intro W base args ds gs before hval0 hW hc _
  have hval : ∀ (j : Nat) t v, Try.f3.params[j]? = some t → args[j]? = some v → Value.okWide Try.prog W .any base t v := hval0
  have hW' := hW
  obtain ⟨p, q, hA0, hV, rfl, _, _⟩ := hW
  obtain ⟨rfl, rfl⟩ := trodVars_none hV
  have hlt : ∀ x ∈ p, x.block < W.heap.size := fun x hx => hW'.lt x (by simpa using hx)
  have hA : DataW.TrodAll enc Try.prog W 0 (fun _ => true) true Try.f3.params.toList args.toList ds p := hA0
  have hAll := hA
  have hpar : (Try.f3.params.toList.all fun t => Try.prog.readableRec t && decide (t < Try.prog.types.size)) = true := by kernel_rfl
  rw [Try.params3] at hA hval
  obtain ⟨v0, r0, d0, k0, p0, q0, e0, rfl, rfl, h0, hA⟩ := args_cons hA
  obtain ⟨v1, r1, d1, k1, p1, q1, e1, rfl, rfl, h1, hA⟩ := args_cons hA
  obtain ⟨v2, r2, d2, k2, p2, q2, e2, rfl, rfl, h2, hA⟩ := args_cons hA
  obtain ⟨v3, r3, d3, k3, p3, q3, e3, rfl, rfl, h3, hA⟩ := args_cons hA
  obtain ⟨v4, r4, d4, k4, p4, q4, e4, rfl, rfl, h4, hA⟩ := args_cons hA
  obtain ⟨eN, rfl, rfl⟩ := args_nil hA
  obtain rfl : args = #[v0, v1, v2, v3, v4] := by
    apply Array.ext'
    rw [e0, e1, e2, e3, e4, eN]
  obtain ⟨rows, hR, hrow, -⟩ := open_rowsK Try.underlying22 (sz := 6) (by kernel_rfl) (by kernel_rfl) (by decide) (hval 0 22 v0 rfl rfl) h0
  obtain ⟨p, rfl, hp⟩ := open_intK Try.underlying3 (hval 1 3 v1 rfl rfl) h1
  obtain ⟨d, rfl, hd⟩ := open_intK Try.underlying3 (hval 2 3 v2 rfl rfl) h2
  obtain ⟨g, rfl⟩ := open_boolK Try.underlying4 (hval 3 4 v3 rfl rfl)
  obtain ⟨y, rfl, hy⟩ := open_intK Try.underlying3 (hval 4 3 v4 rfl rfl) h4
  refine (knownCorrected_fn v0 rows hrow p d g y hp hd hy W hR).mono fun v W' ⟨hv, hw⟩ => ?_
  subst hv
  exact post_ext (pa := _) (pv := []) hw hW' (fun _ _ _ => trodAll_mk1 (shut_bool Try.underlying4 _))
    (fun sp hsp => trodAll_ext (by kernel_rfl) hw hpar hAll hlt sp (fun x hx => hsp x (by simpa using hx))) (fun _ _ => rfl) rfl (ok_one (by kernel_rfl) rfl (okWide_bool_mk Try.underlying4 _))
theorem knownCorrected_holds : Rows.KnownCorrectedSaid :=
  OpenClaim.holds_of_wide 3 Try.f3 rfl rfl rfl rfl rfl rfl rfl ⟨rfl, rfl, rfl, rfl, rfl⟩ rfl rfl rfl rfl rfl (by kernel_rfl) Try.func3 (by kernel_rfl)
    (of_decide_eq_true (by kernel_rfl)) (by unfold Func.isWrapper; first | (rw [if_pos (by decide +kernel)]; kernel_rfl) | (rw [if_neg (by decide +kernel)]; exact ⟨rfl, rfl⟩))
    (fun os started H enc _ => knownCorrected_lifted os started H enc)
#print axioms knownCorrected_holds
end Go.Proofs.Ytldhccgelcmjoaa

