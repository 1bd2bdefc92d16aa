/- The law KnownEffect returns true for all rows of numbers, all records and days. -/
import Derived.Test.YtldhccgelcmjoaaGreatVF
import Derived.Test.YtldhccgelcmjoaaGreatPX
namespace Go.Sx
open Go Go.Proofs Go.ChangeShapes Go.WideShapes Go.ChangeAt Go.RowKit
section
variable {H : Type} {enc : TypeId × Value → H} {P : Program} {W : World} {b : Nat} {sp : Nat → Bool} {hd : Bool} {n : Nat} {cs : List Value} {xs : List (DataW H × List MemPlace)} {fs : Array Field}
/-- One field of one cell. -/
theorem field_one (hl : xs.length = fs.size) (hel : ∀ (i : Nat) (f : Field), fs[i]? = some f → DataW.trod enc P W b sp hd n f.type ((cs.drop f.offset).take (P.cellsOf f.type)) = xs[i]?) {i o t : Nat} (hf : (fs[i]?).map (fun f => (f.type, f.offset)) = some (t, o)) (hc : P.cellsOf t = 1) :
    ∃ y, DataW.trod enc P W b sp hd n t ((cs.drop o).take 1) = some y := by
  cases h : fs[i]? with
  | none => rw [h] at hf; cases hf
  | some f =>
    rw [h] at hf
    have hf' := Option.some.inj hf
    have h1 : f.type = t := congrArg Prod.fst hf'
    have h2 : f.offset = o := congrArg Prod.snd hf'
    have h3 := hel i f h
    rw [h1, h2, hc] at h3
    have hi : i < xs.length := by
      rw [hl]
      exact (Array.getElem?_eq_some_iff.1 h).1
    rw [List.getElem?_eq_getElem hi] at h3
    exact ⟨_, h3⟩
theorem cell_one {o : Nat} {v : Value} (h : (cs.drop o).take 1 = [v]) : cs[o]? = some v := by
  have h1 : ((cs.drop o).take 1)[0]? = some v := by rw [h]; rfl
  rw [List.getElem?_take, if_pos (by decide), List.getElem?_drop] at h1
  exact h1
theorem field_int (hl : xs.length = fs.size) (hel : ∀ (i : Nat) (f : Field), fs[i]? = some f → DataW.trod enc P W b sp hd n f.type ((cs.drop f.offset).take (P.cellsOf f.type)) = xs[i]?) {i o t : Nat} (hf : (fs[i]?).map (fun f => (f.type, f.offset)) = some (t, o)) (hc : P.cellsOf t = 1) (ht : P.underlying t = some (.int .i64)) :
    ∃ z : Int, cs[o]? = some (zv z) ∧ i64W z := by
  obtain ⟨y, hy⟩ := field_one hl hel hf hc
  obtain ⟨z, e, -, hw⟩ := DataW.trod_int ht hy
  exact ⟨z, cell_one e, i64_of hw⟩
theorem field_bool (hl : xs.length = fs.size) (hel : ∀ (i : Nat) (f : Field), fs[i]? = some f → DataW.trod enc P W b sp hd n f.type ((cs.drop f.offset).take (P.cellsOf f.type)) = xs[i]?) {i o t : Nat} (hf : (fs[i]?).map (fun f => (f.type, f.offset)) = some (t, o)) (hc : P.cellsOf t = 1) (ht : P.underlying t = some .bool) :
    ∃ z : Bool, cs[o]? = some (.bool z) := by
  obtain ⟨y, hy⟩ := field_one hl hel hf hc
  obtain ⟨z, e, -⟩ := DataW.trod_bool ht hy
  exact ⟨z, cell_one e⟩
theorem field_str (hl : xs.length = fs.size) (hel : ∀ (i : Nat) (f : Field), fs[i]? = some f → DataW.trod enc P W b sp hd n f.type ((cs.drop f.offset).take (P.cellsOf f.type)) = xs[i]?) {i o t : Nat} (hf : (fs[i]?).map (fun f => (f.type, f.offset)) = some (t, o)) (hc : P.cellsOf t = 1) (ht : P.underlying t = some .string) :
    ∃ z : ByteArray, cs[o]? = some (.string z) ∧ z.size ≤ maxLen := by
  obtain ⟨y, hy⟩ := field_one hl hel hf hc
  obtain ⟨z, e, -, hw⟩ := DataW.trod_string ht hy
  exact ⟨z, cell_one e, hw⟩
end
section
variable {H : Type} {enc : TypeId × Value → H} {W : World} {r : Reach} {b0 b : Nat} {sp : Nat → Bool} {hd : Bool} {v : Value} {d : DataW H} {p : List MemPlace}
set_option maxRecDepth 100000 in
theorem open_rec (hv : Value.okWide Tryz.prog W r b0 24 v) (h : DataW.Trod enc Tryz.prog W b sp hd 24 v d p) : ∃ rc : Rc, v = recV rc ∧ RcOk rc := by
  obtain ⟨l, rfl, hl, hc'⟩ := agg_cells (okWide_struct Tryz.underlying24 hv) (n := 15) (by kernel_rfl)
  obtain ⟨fuel, hf⟩ := h
  rw [hc'] at hf
  obtain ⟨xs, m, -, -, hlen, hxl, hel⟩ := DataW.trod_struct Tryz.underlying24 hf
  obtain ⟨f0, e0, h0⟩ := field_int hxl hel (i := 0) (o := 0) (t := 3) rfl (by kernel_rfl) Tryz.underlying3
  obtain ⟨f1, e1, h1⟩ := field_int hxl hel (i := 1) (o := 1) (t := 3) rfl (by kernel_rfl) Tryz.underlying3
  obtain ⟨f2, e2, h2⟩ := field_int hxl hel (i := 2) (o := 2) (t := 3) rfl (by kernel_rfl) Tryz.underlying3
  obtain ⟨f3, e3, h3⟩ := field_int hxl hel (i := 3) (o := 3) (t := 3) rfl (by kernel_rfl) Tryz.underlying3
  obtain ⟨f4, e4⟩ := field_bool hxl hel (i := 4) (o := 4) (t := 4) rfl (by kernel_rfl) Tryz.underlying4
  obtain ⟨f5, e5, h5⟩ := field_int hxl hel (i := 5) (o := 5) (t := 3) rfl (by kernel_rfl) Tryz.underlying3
  obtain ⟨f6, e6, h6⟩ := field_int hxl hel (i := 6) (o := 6) (t := 3) rfl (by kernel_rfl) Tryz.underlying3
  obtain ⟨f7, e7, h7⟩ := field_int hxl hel (i := 7) (o := 7) (t := 3) rfl (by kernel_rfl) Tryz.underlying3
  obtain ⟨f8, e8, h8⟩ := field_int hxl hel (i := 8) (o := 8) (t := 3) rfl (by kernel_rfl) Tryz.underlying3
  obtain ⟨f9, e9, h9⟩ := field_int hxl hel (i := 9) (o := 9) (t := 3) rfl (by kernel_rfl) Tryz.underlying3
  obtain ⟨f10, e10, h10⟩ := field_int hxl hel (i := 10) (o := 10) (t := 3) rfl (by kernel_rfl) Tryz.underlying3
  obtain ⟨f11, e11, h11⟩ := field_int hxl hel (i := 11) (o := 11) (t := 3) rfl (by kernel_rfl) Tryz.underlying3
  obtain ⟨f12, e12⟩ := field_bool hxl hel (i := 12) (o := 12) (t := 4) rfl (by kernel_rfl) Tryz.underlying4
  obtain ⟨f13, e13, h13⟩ := field_int hxl hel (i := 13) (o := 13) (t := 3) rfl (by kernel_rfl) Tryz.underlying3
  obtain ⟨f14, e14, h14⟩ := field_str hxl hel (i := 14) (o := 14) (t := 9) rfl (by kernel_rfl) Tryz.underlying9
  clear hel hf hv
  have e : l = rcells ⟨f0, f1, f2, f3, f4, f5, f6, f7, f8, f9, f10, f11, f12, f13, f14⟩ := by
    apply List.ext_getElem?
    intro i
    by_cases hi : i < 15
    · match i, hi with
      | 0, _ => exact e0
      | 1, _ => exact e1
      | 2, _ => exact e2
      | 3, _ => exact e3
      | 4, _ => exact e4
      | 5, _ => exact e5
      | 6, _ => exact e6
      | 7, _ => exact e7
      | 8, _ => exact e8
      | 9, _ => exact e9
      | 10, _ => exact e10
      | 11, _ => exact e11
      | 12, _ => exact e12
      | 13, _ => exact e13
      | 14, _ => exact e14
    · rw [List.getElem?_eq_none (by omega), List.getElem?_eq_none (by rw [rcells_len]; omega)]
  exact ⟨⟨f0, f1, f2, f3, f4, f5, f6, f7, f8, f9, f10, f11, f12, f13, f14⟩, by rw [e], ⟨h0, h1, h2, h3, h5, h6, h7, h8, h9, h10, h11, h13, h14⟩⟩
end
end Go.Sx
namespace Go.Proofs.YtldhccgelcmjoaaGreat
open Go.Sx Go.ChangeShapes Go.WideShapes Go.ChangeAt Go.RowKit
set_option maxRecDepth 100000 in
theorem knownEffect_lifted (os : Os) (started : os.Started) (H : Type) (enc : TypeId × Value → H) :
    ReturnsInHanded {} Tryz.checked os 3 .any (Rows.knownEffectSpec.pre6 enc Tryz.prog Tryz.f3 Rows.knownEffectRow.domain false) (Rows.knownEffectSpec.post enc Tryz.prog Tryz.f3 false true false false) := by
  have hwit := ChangeSpec.witness_shaped (enc := enc) (C := Tryz.checked) (os := os) (f := 3) (fn := Tryz.f3) (s := Rows.knownEffectSpec) (conds := Rows.knownEffectRow.domain) (apart := false) (X := fun _ _ => True) false (World.laidAll Tryz.prog os []) #[.slice none 0 0, .agg #[.int .i64 0, .int .i64 0, .int .i64 0, .int .i64 0, .bool false, .int .i64 0, .int .i64 0, .int .i64 0, .int .i64 0, .int .i64 0, .int .i64 0, .int .i64 0, .bool false, .int .i64 0, .string (ByteArray.mk #[])], .int .i64 0] 8 (World.laidAll_os _ _ _)
      (World.shaped_of_ZipB (by kernel_rfl) (by kernel_rfl)) (by kernel_rfl) (by kernel_rfl) (by kernel_rfl) trivial
  refine returnsInHanded_of_change (C := Tryz.checked) ownK started (by kernel_rfl) Tryz.func3
    (by obtain ⟨w, tape, i, q1, q2, q3, q4, q5, q6⟩ := hwit; exact ⟨w, tape, i, q1, q2, q3, q4, ⟨q5.1.1, q5.2⟩, q6⟩) ?_
  intro W base args ds gs before hval0 hW hc _
  have hval : ∀ (j : Nat) t v, Tryz.f3.params[j]? = some t → args[j]? = some v → Value.okWide Tryz.prog W .any base t v := hval0
  have hW' := hW
  obtain ⟨p, q, hA0, hV, rfl, _, _⟩ := hW
  obtain ⟨rfl, rfl⟩ := trodVars_none hV
  have hlt : ∀ x ∈ p, x.block < W.heap.size := fun x hx => hW'.lt x (by simpa using hx)
  have hA : DataW.TrodAll enc Tryz.prog W 0 (fun _ => true) true Tryz.f3.params.toList args.toList ds p := hA0
  have hAll := hA
  have hpar : (Tryz.f3.params.toList.all fun t => Tryz.prog.readableRec t && decide (t < Tryz.prog.types.size)) = true := by kernel_rfl
  rw [Tryz.params3] at hA hval
  obtain ⟨v0, r0, d0, k0, p0, q0, e0, rfl, rfl, h0, hA⟩ := args_cons hA
  obtain ⟨v1, r1, d1, k1, p1, q1, e1, rfl, rfl, h1, hA⟩ := args_cons hA
  obtain ⟨v2, r2, d2, k2, p2, q2, e2, rfl, rfl, h2, hA⟩ := args_cons hA
  obtain ⟨eN, rfl, rfl⟩ := args_nil hA
  obtain rfl : args = #[v0, v1, v2] := by
    apply Array.ext'
    rw [e0, e1, e2, eN]
  obtain ⟨rows, hR, hrow, -⟩ := open_rowsK Tryz.underlying22 (sz := 6) (by kernel_rfl) (by kernel_rfl) (by decide) (hval 0 22 v0 rfl rfl) h0
  obtain ⟨rc, rfl, hrc⟩ := open_rec (hval 1 24 v1 rfl rfl) h1
  obtain ⟨d, rfl, hd⟩ := open_intK Tryz.underlying3 (hval 2 3 v2 rfl rfl) h2
  refine (knownEffect_fn v0 rows hrow rc hrc d hd W hR).mono fun v W' ⟨hv, hw⟩ => ?_
  subst hv
  exact post_ext (pa := _) (pv := []) hw hW' (fun _ _ _ => trodAll_mk1 (shut_bool Tryz.underlying4 _))
    (fun sp hsp => trodAll_ext (by kernel_rfl) hw hpar hAll hlt sp (fun x hx => hsp x (by simpa using hx))) (fun _ _ => rfl) rfl (ok_one (by kernel_rfl) rfl (okWide_bool_mk Tryz.underlying4 _))
theorem knownEffect_holds : Rows.KnownEffectSaid :=
  OpenClaim.holds_of_wide 3 Tryz.f3 rfl rfl rfl rfl rfl rfl rfl ⟨rfl, rfl, rfl, rfl, rfl⟩ rfl rfl rfl rfl rfl (by kernel_rfl) Tryz.func3 (by kernel_rfl)
    (of_decide_eq_true (by kernel_rfl)) (by unfold Func.isWrapper; first | (rw [if_pos (by decide +kernel)]; kernel_rfl) | (rw [if_neg (by decide +kernel)]; exact ⟨rfl, rfl⟩))
    (fun os started H enc _ => knownEffect_lifted os started H enc)
#print axioms knownEffect_holds
end Go.Proofs.YtldhccgelcmjoaaGreat

