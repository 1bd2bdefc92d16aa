/- The law KnownOthers returns true for all rows of numbers, packages, purposes and days. -/
import Derived.Test.YtldhccgelcmjoaaGreatVC
import Derived.Test.YtldhccgelcmjoaaGreatPX
namespace Go.Proofs.YtldhccgelcmjoaaGreat
open Go.Sx Go.ChangeShapes Go.WideShapes Go.ChangeAt Go.RowKit
set_option maxRecDepth 100000 in
theorem knownOthers_lifted (os : Os) (started : os.Started) (H : Type) (enc : TypeId × Value → H) :
    ReturnsInHanded {} Tryz.checked os 4 .any (Rows.knownOthersSpec.pre6 enc Tryz.prog Tryz.f4 Rows.knownOthersRow.domain false) (Rows.knownOthersSpec.post enc Tryz.prog Tryz.f4 false true false false) := by
  have hwit := ChangeSpec.witness_shaped (enc := enc) (C := Tryz.checked) (os := os) (f := 4) (fn := Tryz.f4) (s := Rows.knownOthersSpec) (conds := Rows.knownOthersRow.domain) (apart := false) (X := fun _ _ => True) false (World.laidAll Tryz.prog os []) #[.slice none 0 0, .int .i64 0, .int .i64 0, .int .i64 0, .int .i64 0] 8 (World.laidAll_os _ _ _)
      (World.shaped_of_ZipB (by kernel_rfl) (by kernel_rfl)) (by kernel_rfl) (by kernel_rfl) (by kernel_rfl) trivial
  refine returnsInHanded_of_change (C := Tryz.checked) ownK started (by kernel_rfl) Tryz.func4
    (by obtain ⟨w, tape, i, q1, q2, q3, q4, q5, q6⟩ := hwit; exact ⟨w, tape, i, q1, q2, q3, q4, ⟨q5.1.1, q5.2⟩, q6⟩) ?_
  intro W base args ds gs before hval0 hW hc _
  have hval : ∀ (j : Nat) t v, Tryz.f4.params[j]? = some t → args[j]? = some v → Value.okWide Tryz.prog W .any base t v := hval0
  have hW' := hW
  obtain ⟨p, q, hA0, hV, rfl, _, _⟩ := hW
  obtain ⟨rfl, rfl⟩ := trodVars_none hV
  have hlt : ∀ x ∈ p, x.block < W.heap.size := fun x hx => hW'.lt x (by simpa using hx)
  have hA : DataW.TrodAll enc Tryz.prog W 0 (fun _ => true) true Tryz.f4.params.toList args.toList ds p := hA0
  have hAll := hA
  have hpar : (Tryz.f4.params.toList.all fun t => Tryz.prog.readableRec t && decide (t < Tryz.prog.types.size)) = true := by kernel_rfl
  rw [Tryz.params4] at hA hval
  obtain ⟨v0, r0, d0, k0, p0, q0, e0, rfl, rfl, h0, hA⟩ := args_cons hA
  obtain ⟨v1, r1, d1, k1, p1, q1, e1, rfl, rfl, h1, hA⟩ := args_cons hA
  obtain ⟨v2, r2, d2, k2, p2, q2, e2, rfl, rfl, h2, hA⟩ := args_cons hA
  obtain ⟨v3, r3, d3, k3, p3, q3, e3, rfl, rfl, h3, hA⟩ := args_cons hA
  obtain ⟨v4, r4, d4, k4, p4, q4, e4, rfl, rfl, h4, hA⟩ := args_cons hA
  obtain ⟨eN, rfl, rfl⟩ := args_nil hA
  obtain rfl : args = #[v0, v1, v2, v3, v4] := by
    apply Array.ext'
    rw [e0, e1, e2, e3, e4, eN]
  obtain ⟨rows, hR, hrow, -⟩ := open_rowsK Tryz.underlying22 (sz := 6) (by kernel_rfl) (by kernel_rfl) (by decide) (hval 0 22 v0 rfl rfl) h0
  obtain ⟨a, rfl, ha⟩ := open_intK Tryz.underlying3 (hval 1 3 v1 rfl rfl) h1
  obtain ⟨p, rfl, hp⟩ := open_intK Tryz.underlying3 (hval 2 3 v2 rfl rfl) h2
  obtain ⟨b, rfl, hb⟩ := open_intK Tryz.underlying3 (hval 3 3 v3 rfl rfl) h3
  obtain ⟨d, rfl, hd⟩ := open_intK Tryz.underlying3 (hval 4 3 v4 rfl rfl) h4
  refine (knownOthers_fn v0 rows hrow a p b d ha hp hb hd W hR).mono fun v W' ⟨hv, hw⟩ => ?_
  subst hv
  exact post_ext (pa := _) (pv := []) hw hW' (fun _ _ _ => trodAll_mk1 (shut_bool Tryz.underlying4 _))
    (fun sp hsp => trodAll_ext (by kernel_rfl) hw hpar hAll hlt sp (fun x hx => hsp x (by simpa using hx))) (fun _ _ => rfl) rfl (ok_one (by kernel_rfl) rfl (okWide_bool_mk Tryz.underlying4 _))
theorem knownOthers_holds : Rows.KnownOthersSaid :=
  OpenClaim.holds_of_wide 4 Tryz.f4 rfl rfl rfl rfl rfl rfl rfl ⟨rfl, rfl, rfl, rfl, rfl⟩ rfl rfl rfl rfl rfl (by kernel_rfl) Tryz.func4 (by kernel_rfl)
    (of_decide_eq_true (by kernel_rfl)) (by unfold Func.isWrapper; first | (rw [if_pos (by decide +kernel)]; kernel_rfl) | (rw [if_neg (by decide +kernel)]; exact ⟨rfl, rfl⟩))
    (fun os started H enc _ => knownOthers_lifted os started H enc)
#print axioms knownOthers_holds
end Go.Proofs.YtldhccgelcmjoaaGreat

