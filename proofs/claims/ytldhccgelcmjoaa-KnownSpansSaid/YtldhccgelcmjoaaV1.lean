/- The law KnownSpans returns true for all numbers. -/
import Derived.Test.YtldhccgelcmjoaaXZ
import Derived.Test.YtldhccgelcmjoaaPX
namespace Go.Proofs.Ytldhccgelcmjoaa
open Go.Sx Go.ChangeShapes Go.WideShapes Go.ChangeAt Go.RowKit
set_option maxRecDepth 100000 in
theorem knownSpans_lifted (os : Os) (started : os.Started) (H : Type) (enc : TypeId × Value → H) :
    ReturnsInHanded {} Try.checked os 5 .any (Rows.knownSpansSpec.pre6 enc Try.prog Try.f5 Rows.knownSpansRow.domain false) (Rows.knownSpansSpec.post enc Try.prog Try.f5 false true false false) := by
  have hwit := ChangeSpec.witness_shaped (enc := enc) (C := Try.checked) (os := os) (f := 5) (fn := Try.f5) (s := Rows.knownSpansSpec) (conds := Rows.knownSpansRow.domain) (apart := false) (X := fun _ _ => True) false (World.laidAll Try.prog os []) #[.int .i64 0, .int .i64 0, .int .i64 0, .int .i64 0] 8 (World.laidAll_os _ _ _)
      (World.shaped_of_ZipB (by kernel_rfl) (by kernel_rfl)) (by kernel_rfl) (by kernel_rfl) (by kernel_rfl) trivial
  refine returnsInHanded_of_change (C := Try.checked) ownK started (by kernel_rfl) Try.func5
    (by obtain ⟨w, tape, i, q1, q2, q3, q4, q5, q6⟩ := hwit; exact ⟨w, tape, i, q1, q2, q3, q4, ⟨q5.1.1, q5.2⟩, q6⟩) ?_
  intro W base args ds gs before hval0 hW hc _
  have hval : ∀ (j : Nat) t v, Try.f5.params[j]? = some t → args[j]? = some v → Value.okWide Try.prog W .any base t v := hval0
  have hW' := hW
  obtain ⟨p, q, hA0, hV, rfl, _, _⟩ := hW
  obtain ⟨rfl, rfl⟩ := trodVars_none hV
  have hlt : ∀ x ∈ p, x.block < W.heap.size := fun x hx => hW'.lt x (by simpa using hx)
  have hA : DataW.TrodAll enc Try.prog W 0 (fun _ => true) true Try.f5.params.toList args.toList ds p := hA0
  have hAll := hA
  have hpar : (Try.f5.params.toList.all fun t => Try.prog.readableRec t && decide (t < Try.prog.types.size)) = true := by kernel_rfl
  rw [Try.params5] at hA hval
  obtain ⟨v0, r0, d0, k0, p0, q0, e0, rfl, rfl, h0, hA⟩ := args_cons hA
  obtain ⟨v1, r1, d1, k1, p1, q1, e1, rfl, rfl, h1, hA⟩ := args_cons hA
  obtain ⟨v2, r2, d2, k2, p2, q2, e2, rfl, rfl, h2, hA⟩ := args_cons hA
  obtain ⟨v3, r3, d3, k3, p3, q3, e3, rfl, rfl, h3, hA⟩ := args_cons hA
  obtain ⟨eN, rfl, rfl⟩ := args_nil hA
  obtain rfl : args = #[v0, v1, v2, v3] := by
    apply Array.ext'
    rw [e0, e1, e2, e3, eN]
  obtain ⟨x, rfl, hx⟩ := open_intK Try.underlying3 (hval 0 3 v0 rfl rfl) h0
  obtain ⟨y, rfl, hy⟩ := open_intK Try.underlying3 (hval 1 3 v1 rfl rfl) h1
  obtain ⟨z, rfl, hz⟩ := open_intK Try.underlying3 (hval 2 3 v2 rfl rfl) h2
  obtain ⟨u, rfl, hu⟩ := open_intK Try.underlying3 (hval 3 3 v3 rfl rfl) h3
  refine (knownSpans_fn x y z u hx hy hz hu W).mono fun v W' ⟨hv, hw⟩ => ?_
  subst hv
  exact post_ext (pa := _) (pv := []) hw hW' (fun _ _ _ => trodAll_mk1 (shut_bool Try.underlying4 _))
    (fun sp hsp => trodAll_ext (by kernel_rfl) hw hpar hAll hlt sp (fun x hx => hsp x (by simpa using hx))) (fun _ _ => rfl) rfl (ok_one (by kernel_rfl) rfl (okWide_bool_mk Try.underlying4 _))
theorem knownSpans_holds : Rows.KnownSpansSaid :=
  OpenClaim.holds_of_wide 5 Try.f5 rfl rfl rfl rfl rfl rfl rfl ⟨rfl, rfl, rfl, rfl, rfl⟩ rfl rfl rfl rfl rfl (by kernel_rfl) Try.func5 (by kernel_rfl)
    (of_decide_eq_true (by kernel_rfl)) (by unfold Func.isWrapper; first | (rw [if_pos (by decide +kernel)]; kernel_rfl) | (rw [if_neg (by decide +kernel)]; exact ⟨rfl, rfl⟩))
    (fun os started H enc _ => knownSpans_lifted os started H enc)
#print axioms knownSpans_holds
end Go.Proofs.Ytldhccgelcmjoaa

