/- The law PlaceMatchesReference returns true for all sites, bounds, holders, numbers, cases and groups. -/
import Derived.Test.YtnpnoobknolahaaTR
import Derived.Test.YtnpnoobknolahaaPU
namespace Go.Proofs.Ytnpnoobknolahaa
open Go.Sx Go.ChangeShapes Go.WideShapes Go.ChangeAt Go.RowKit
set_option maxRecDepth 100000 in
theorem placeMatchesReference_lifted (os : Os) (started : os.Started) (H : Type) (enc : TypeId × Value → H) :
    ReturnsInHanded {} Try.checked os 3 .any (Rows.placeMatchesReferenceSpec.pre6 enc Try.prog Try.f3 Rows.placeMatchesReferenceRow.domain false) (Rows.placeMatchesReferenceSpec.post enc Try.prog Try.f3 false true false false) := by
  have hwit := ChangeSpec.witness_shaped (enc := enc) (C := Try.checked) (os := os) (f := 3) (fn := Try.f3) (s := Rows.placeMatchesReferenceSpec) (conds := Rows.placeMatchesReferenceRow.domain) (apart := false) (X := fun _ _ => True) false (World.laidAll Try.prog os []) #[.slice none 0 0, .agg #[.int .i64 0, .int .i64 0, .int .i64 0, .int .i64 0, .int .i64 0], .slice none 0 0, .int .i64 0, .agg #[.slice none 0 0, .int .i64 0, .int .i64 0, .int .i64 0, .int .i64 0, .int .i64 0, .int .i64 0, .int .i64 0], .slice none 0 0] 8 (World.laidAll_os _ _ _)
      (World.shaped_of_ZipB (by kernel_rfl) (by kernel_rfl)) (by kernel_rfl) (by kernel_rfl) (by kernel_rfl) trivial
  refine returnsInHanded_of_change (C := Try.checked) ownK started (by kernel_rfl) Try.func3
    (by obtain ⟨w, tape, i, q1, q2, q3, q4, q5, q6⟩ := hwit; exact ⟨w, tape, i, q1, q2, q3, q4, ⟨q5.1.1, q5.2⟩, q6⟩) ?_
  intro W base args ds gs before hval0 hW hc _
  have hval : ∀ (j : Nat) t v, Try.f3.params[j]? = some t → args[j]? = some v → Value.okWide Try.prog W .any base t v := hval0
  have hW' := hW
  obtain ⟨p, q, hA0, hV, rfl, _, _⟩ := hW
  obtain ⟨rfl, rfl⟩ := trodVars_none hV
  have hlt : ∀ x ∈ p, x.block < W.heap.size := fun x hx => hW'.lt x (by simpa using hx)
  have hA : DataW.TrodAll enc Try.prog W 0 (fun _ => true) true Try.f3.params.toList args.toList ds p := hA0
  have hAll := hA
  have hpar : (Try.f3.params.toList.all fun t => Try.prog.readableRec t && decide (t < Try.prog.types.size)) = true := by kernel_rfl
  rw [Try.params3] at hA hval
  obtain ⟨v0, r0, d0, k0, p0, q0, e0, rfl, rfl, h0, hA⟩ := args_cons hA
  obtain ⟨v1, r1, d1, k1, p1, q1, e1, rfl, rfl, h1, hA⟩ := args_cons hA
  obtain ⟨v2, r2, d2, k2, p2, q2, e2, rfl, rfl, h2, hA⟩ := args_cons hA
  obtain ⟨v3, r3, d3, k3, p3, q3, e3, rfl, rfl, h3, hA⟩ := args_cons hA
  obtain ⟨v4, r4, d4, k4, p4, q4, e4, rfl, rfl, h4, hA⟩ := args_cons hA
  obtain ⟨v5, r5, d5, k5, p5, q5, e5, rfl, rfl, h5, hA⟩ := args_cons hA
  obtain ⟨eN, rfl, rfl⟩ := args_nil hA
  obtain rfl : args = #[v0, v1, v2, v3, v4, v5] := by
    apply Array.ext'
    rw [e0, e1, e2, e3, e4, e5, eN]
  obtain ⟨S, hT, -, hS0⟩ := open_sites (n := 3) Try.underlying22 (by kernel_rfl) (by kernel_rfl) (hval 0 22 v0 rfl rfl) h0
  obtain ⟨dB, rfl⟩ := open_bound (hval 1 24 v1 rfl rfl) h1
  obtain ⟨H0, hHd, -, hH0⟩ := open_sl Try.underlying25 Try.underlying3 (by kernel_rfl) (hval 2 25 v2 rfl rfl) h2
  obtain ⟨k, rfl, -⟩ := open_intK Try.underlying3 (hval 3 3 v3 rfl rfl) h3
  obtain ⟨u, X, y, set, kc, rfl, hR, hX, hX1, hy, hset, hk⟩ := open_case (hval 4 29 v4 rfl rfl) h4
  obtain ⟨GG, hV, hG, hGG⟩ := open_sls Try.underlying30 Try.underlying25 Try.underlying3 (by kernel_rfl) (by kernel_rfl) (hval 5 30 v5 rfl rfl) h5
  refine (placeMatches_fn _ S dB _ H0 k u X y set kc _ GG hV hS0 hH0 hX hX1 hy hset hk hGG W hT hHd hR hG).mono fun v W' ⟨hv, hw⟩ => ?_
  subst hv
  exact post_ext (pa := _) (pv := []) hw hW' (fun _ _ _ => trodAll_mk1 (shut_bool Try.underlying4 _))
    (fun sp hsp => trodAll_ext (by kernel_rfl) hw hpar hAll hlt sp (fun x hx => hsp x (by simpa using hx))) (fun _ _ => rfl) rfl (ok_one (by kernel_rfl) rfl (okWide_bool_mk Try.underlying4 _))
theorem placeMatchesReference_holds : Rows.PlaceMatchesReferenceSaid :=
  OpenClaim.holds_of_wide 3 Try.f3 rfl rfl rfl rfl rfl rfl rfl ⟨rfl, rfl, rfl, rfl, rfl⟩ rfl rfl rfl rfl rfl (by kernel_rfl) Try.func3 (by kernel_rfl)
    (of_decide_eq_true (by kernel_rfl)) (by unfold Func.isWrapper; first | (rw [if_pos (by decide +kernel)]; kernel_rfl) | (rw [if_neg (by decide +kernel)]; exact ⟨rfl, rfl⟩))
    (fun os started H enc _ => placeMatchesReference_lifted os started H enc)
#print axioms placeMatchesReference_holds
end Go.Proofs.Ytnpnoobknolahaa

