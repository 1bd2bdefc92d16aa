/- The law JournalReopens returns true for all integers and lists of lists of strings: its row, its card. -/
import Derived.Test.YtlihcenahjgnmaaDoorJW
import Derived.Test.YtlihcenahjgnmaaDoorJU
import Derived.Test.YtlihcenahjgnmaaDoorCards
import Derived.ChangeMaps5
namespace Go.Sx
open Go Go.Proofs Go.ChangeShapes Go.WideShapes Go.ChangeAt Go.RowKit
section
variable {H : Type} {enc : TypeId × Value → H} {P : Program} {W : World} {r : Reach} {b0 b : Nat} {sp : Nat → Bool} {hd : Bool} {v : Value} {d : DataW H} {p : List MemPlace}
theorem sl_trodS {t e fuel : Nat} {x : DataW H × List MemPlace} (ht : P.underlying t = some (.slice e)) (he : P.underlying e = some .string) (hce : P.cellsOf e = 1) (hf : DataW.trod enc P W b sp hd fuel t [v] = some x) :
    ∃ l : List ByteArray, Rd W v (strs l) ∧ (∀ x ∈ l, x.size ≤ 9223372036854775807) ∧ l.length ≤ 9223372036854775807 := by
  rcases DataW.trod_slice ht hf with ⟨h0, -⟩ | ⟨a', n, c, elems, rest, m, -, hcs, -, hb, hlc, hm, hlen, hel, -, -⟩
  · cases h0
    exact ⟨[], ⟨_, _, rfl, Nat.le_refl _, .inl rfl⟩, by simp, by simp⟩
  · cases hcs
    have hnm : n ≤ 9223372036854775807 := by simp only [maxLen] at hm; omega
    have key : ∀ q, q < n → ∃ z : ByteArray, W.cell? (a'.add q) = some (.string z) ∧ z.size ≤ 9223372036854775807 := fun q hq => by
      have h1 := hel q hq
      rw [hce, Nat.mul_one, List.getElem?_eq_getElem (by omega)] at h1
      cases hcs : W.cells? b (a'.add q) 1 with
      | none => rw [hcs] at h1; cases h1
      | some cs =>
        rw [hcs] at h1
        simp only [Option.bind_some] at h1
        obtain ⟨z, e1, -, wz⟩ := DataW.trod_string he h1
        have h3 := (World.cells?_some hcs).2.2 0 (by decide)
        refine ⟨z, ?_, by simp only [maxLen] at wz; omega⟩
        rw [show (a'.add q).add 0 = a'.add q by simp [Addr.add]] at h3
        rw [h3, e1]; rfl
    by_cases hn0 : n = 0
    · subst hn0
      exact ⟨[], ⟨_, _, rfl, Nat.zero_le _, .inl rfl⟩, by simp, by simp⟩
    · obtain ⟨z0, hz0, -⟩ := key 0 (by omega)
      rw [show a'.add 0 = a' by simp [Addr.add]] at hz0
      obtain ⟨ha, hblk⟩ := spot_none hz0
      have hadd : ∀ q, a'.add q = ⟨a'.block, a'.off + q, none⟩ := fun q => by rw [ha, add_lit]
      have hk : ∀ q, q < n → W.cell? ⟨a'.block, a'.off + q, none⟩ = some (.string (cellStr W ⟨a'.block, a'.off + q, none⟩)) ∧ (cellStr W ⟨a'.block, a'.off + q, none⟩).size ≤ 9223372036854775807 := fun q hq => by
        obtain ⟨z, hz, wz⟩ := key q hq
        rw [hadd] at hz
        have : cellStr W ⟨a'.block, a'.off + q, none⟩ = z := by unfold cellStr; rw [hz]
        rw [this]
        exact ⟨hz, wz⟩
      have hsl : (strs ((List.range n).map fun q => cellStr W ⟨a'.block, a'.off + q, none⟩)).length = n := by simp [strs]
      refine ⟨(List.range n).map fun q => cellStr W ⟨a'.block, a'.off + q, none⟩, ⟨some a', c, by rw [hsl], by rw [hsl]; exact hlc, .inr ⟨a'.block, a'.off, congrArg some ha, hblk, fun i u hu => ?_⟩⟩, fun x hx => ?_, by simpa using hnm⟩
      · rw [strs_row] at hu
        have hi : i < n := by
          have := (List.getElem?_eq_some_iff.1 hu).1
          rwa [row_len] at this
        rw [row_get _ hi] at hu
        cases hu
        exact (hk i hi).1
      · obtain ⟨q, hq, rfl⟩ := List.mem_map.1 hx
        exact (hk q (List.mem_range.1 hq)).2
/-- A slice of slices of strings. -/
theorem open_gs {t s e : Nat} (ht : P.underlying t = some (.slice s)) (hs : P.underlying s = some (.slice e)) (he : P.underlying e = some .string) (hcs : P.cellsOf s = 1) (hce : P.cellsOf e = 1) (hv : Value.okWide P W r b0 t v) (h : DataW.Trod enc P W b sp hd t v d p) :
    ∃ (GG : List (List ByteArray)) (hV : Nat → Value), RdGS W v GG hV ∧ (∀ i (hi : i < GG.length), (∀ s ∈ GG[i], s.size ≤ 9223372036854775807) ∧ GG[i].length ≤ 9223372036854775807) ∧ GG.length ≤ 9223372036854775807 := by
  obtain ⟨fuel, hf⟩ := h
  obtain ⟨a, n, c, rfl⟩ := okWide_slice ht hv
  have hcells : (Value.slice a n c).cells.toList = [Value.slice a n c] := rfl
  rw [hcells] at hf
  rcases DataW.trod_slice ht hf with ⟨h0, -⟩ | ⟨a', len, cap, elems, rest, m, -, hcs', -, hb, hlc, hm, hlen, hel, -, -⟩
  · cases h0
    exact ⟨[], fun _ => undef, ⟨⟨none, 0, rfl, Nat.le_refl _, .inl rfl⟩, fun i hi => by cases hi⟩, (fun i hi => by cases hi), by simp⟩
  · cases hcs'
    have hnm : n ≤ 9223372036854775807 := by simp only [maxLen] at hm; omega
    have key : ∀ q, q < n → ∃ (l : List ByteArray) (u : Value), W.cell? (a'.add q) = some u ∧ Rd W u (strs l) ∧ (∀ s ∈ l, s.size ≤ 9223372036854775807) ∧ l.length ≤ 9223372036854775807 := fun q hq => by
      have h1 := hel q hq
      rw [hcs, Nat.mul_one, List.getElem?_eq_getElem (by omega)] at h1
      cases hcl : W.cells? b (a'.add q) 1 with
      | none => rw [hcl] at h1; cases h1
      | some cs =>
        rw [hcl] at h1
        simp only [Option.bind_some] at h1
        obtain ⟨-, h5, h6⟩ := World.cells?_some hcl
        match cs, h5 with
        | [u], _ =>
          obtain ⟨l, hl, hb1, hb2⟩ := sl_trodS hs he hce h1
          have h3 := h6 0 (by decide)
          rw [show (a'.add q).add 0 = a'.add q by simp [Addr.add]] at h3
          exact ⟨l, u, h3, hl, hb1, hb2⟩
    by_cases hn0 : n = 0
    · subst hn0
      exact ⟨[], fun _ => undef, ⟨⟨some a', c, rfl, Nat.zero_le _, .inl rfl⟩, fun i hi => by cases hi⟩, (fun i hi => by cases hi), by simp⟩
    · have hch : ∃ (L : Nat → List ByteArray) (U : Nat → Value), ∀ q, q < n → W.cell? (a'.add q) = some (U q) ∧ Rd W (U q) (strs (L q)) ∧ (∀ s ∈ L q, s.size ≤ 9223372036854775807) ∧ (L q).length ≤ 9223372036854775807 := by
        refine ⟨fun q => if h : q < n then Classical.choose (key q h) else [], fun q => if h : q < n then Classical.choose (Classical.choose_spec (key q h)) else undef, fun q hq => ?_⟩
        simp only [dif_pos hq]
        exact Classical.choose_spec (Classical.choose_spec (key q hq))
      obtain ⟨L, U, hk⟩ := hch
      have hz0 := (hk 0 (by omega)).1
      rw [show a'.add 0 = a' by simp [Addr.add]] at hz0
      obtain ⟨ha, hblk⟩ := spot_none hz0
      have hadd : ∀ q, a'.add q = ⟨a'.block, a'.off + q, none⟩ := fun q => by rw [ha, add_lit]
      have hl : ((List.range n).map L).length = n := by simp
      have hl2 : ((List.range ((List.range n).map L).length).map U).length = n := by simp
      refine ⟨(List.range n).map L, U, ⟨⟨some a', c, by rw [hl2], by rw [hl2]; exact hlc, .inr ⟨a'.block, a'.off, congrArg some ha, hblk, fun i u hu => ?_⟩⟩, fun i hi => ?_⟩, fun i hi => ?_, by rw [hl]; exact hnm⟩
      · rw [hl] at hu
        have hi : i < n := by
          have := (List.getElem?_eq_some_iff.1 hu).1
          simpa using this
        rw [List.getElem?_map, List.getElem?_range hi] at hu
        cases hu
        rw [← hadd]; exact (hk i hi).1
      · have hi' : i < n := by rwa [hl] at hi
        simp only [List.getElem_map, List.getElem_range]
        exact (hk i hi').2.1
      · have hi' : i < n := by rwa [hl] at hi
        simp only [List.getElem_map, List.getElem_range]
        exact (hk i hi').2.2
end
end Go.Sx
namespace Go.Proofs.YtlihcenahjgnmaaDoor
open Go.Sx Go.ChangeShapes Go.WideShapes Go.ChangeAt Go.RowKit
set_option maxRecDepth 100000 in
theorem journalReopens_lifted (os : Os) (started : os.Started) (H : Type) (enc : TypeId × Value → H) :
    ReturnsInHanded {} Tryd.checked os 4 .any (fun w args => (Rows.journalReopensSpec.pre enc Tryd.prog Tryd.f4 Rows.journalReopensRow.domain false w args ∧ laidMetH Tryd.prog laid4 w) ∧ sizedMet enc Tryd.prog Tryd.f4 (OpenSpec.ofChange Rows.journalReopensSpec) false w args)
      (Rows.journalReopensSpec.post enc Tryd.prog Tryd.f4 false true false false) := by
  refine returnsInHanded_of_change_and (C := Tryd.checked) (X := fun w _ => laidMetH Tryd.prog laid4 w) (fun _ _ _ hh h => h.of_heap hh) ownK started (by kernel_rfl) Tryd.func4
    (ChangeSpec.witness_shaped (enc := enc) (C := Tryd.checked) (os := os) (X := fun w _ => laidMetH Tryd.prog laid4 w) false (World.laidAll Tryd.prog os laid4) #[.int .i64 0, .slice none 0 0] 8 (World.laidAll_os _ _ _)
      (World.shaped_of_ZipB (by kernel_rfl) (by kernel_rfl)) (by kernel_rfl) (by kernel_rfl) (by kernel_rfl)
      (by rw [MakeChecks.laidMetH_plain _ _ _ (by kernel_rfl)]; exact laidMet_laidAll _ (by kernel_rfl) (by kernel_rfl))) ?_
  intro W base args ds gs before hval0 hW hc _ hL _
  have hval : ∀ (j : Nat) t v, Tryd.f4.params[j]? = some t → args[j]? = some v → Value.okWide Tryd.prog W .any base t v := hval0
  have hW' := hW
  obtain ⟨p, q, hA0, hV, rfl, _, _⟩ := hW
  obtain ⟨rfl, rfl⟩ := trodVars_none hV
  have hlt : ∀ x ∈ p, x.block < W.heap.size := fun x hx => hW'.lt x (by simpa using hx)
  have hA : DataW.TrodAll enc Tryd.prog W 0 (fun _ => true) true Tryd.f4.params.toList args.toList ds p := hA0
  have hAll := hA
  have hpar : (Tryd.f4.params.toList.all fun t => Tryd.prog.readableRec t && decide (t < Tryd.prog.types.size)) = true := by kernel_rfl
  rw [Tryd.params4] at hA hval
  obtain ⟨v0, r0, d0, k0, p0, q0, e0, rfl, rfl, h0, hA⟩ := args_cons hA
  obtain ⟨v1, r1, d1, k1, p1, q1, e1, rfl, rfl, h1, hA⟩ := args_cons hA
  obtain ⟨eN, rfl, rfl⟩ := args_nil hA
  obtain rfl : args = #[v0, v1] := by
    apply Array.ext'
    rw [e0, e1, eN]
  obtain ⟨n, rfl, wn⟩ := open_intK Tryd.underlying3 (hval 0 3 v0 rfl rfl) h0
  obtain ⟨GG, hV, hR, hs, hl⟩ := open_gs Tryd.underlying43 Tryd.underlying22 Tryd.underlying9 (by kernel_rfl) (by kernel_rfl) (hval 1 43 v1 rfl rfl) h1
  obtain ⟨ea, hE⟩ := err_of_laid hL
  refine (journalReopens_fn (round_of_laid hL) hE n v1 GG hV wn.1 wn.2 hR hs hl).mono fun v W' ⟨hv, hw⟩ => ?_
  subst hv
  exact post_ext (pa := _) (pv := []) hw hW' (fun _ _ _ => trodAll_mk1 (shut_bool Tryd.underlying4 _))
    (fun sp hsp => trodAll_ext (by kernel_rfl) hw hpar hAll hlt sp (fun x hx => hsp x (by simpa using hx))) (fun _ _ => rfl) rfl (ok_one (by kernel_rfl) rfl (okWide_bool_mk Tryd.underlying4 _))
theorem journalReopens_holds : Rows.JournalReopensSaid :=
  OpenClaim.holds_of_wide 4 Tryd.f4 rfl rfl rfl rfl rfl rfl rfl ⟨rfl, rfl, rfl, rfl, rfl⟩ rfl rfl rfl rfl rfl (by kernel_rfl) Tryd.func4 (by kernel_rfl)
    (of_decide_eq_true (by kernel_rfl)) (by unfold Func.isWrapper; first | (rw [if_pos (by decide +kernel)]; kernel_rfl) | (rw [if_neg (by decide +kernel)]; exact ⟨rfl, rfl⟩))
    (fun os started H enc _ => journalReopens_lifted os started H enc)
theorem journalReopens_card : Rows.JournalReopensCardSaid :=
  Claim7.holds_tied_plain_at .later [] [.data, .data, .sentinel, .pinned] true (true, "80d0ea35b83fdbb32c4b4cc76aa5dde567b30a060b3dcd647d238f8ea1096c1f") true
    journalReopens_holds (fun _ h => by cases h) (by kernel_rfl) (fun _ h => by cases h) journalReopens_row_tie rfl ⟨rfl, rfl⟩ (by kernel_rfl) rfl
    (fun f fn hf hfn => by
      obtain rfl : f = 4 := Option.some.inj ((show Tryd.prog.funcNamed "evergreen/evergreenlaw26.JournalReopens" = some 4 by kernel_rfl).symm.trans hf) |>.symm
      obtain rfl : fn = Tryd.f4 := (Option.some.inj (Tryd.func4.symm.trans hfn)).symm
      exact ⟨by kernel_rfl, fun j t ht => by
        rw [Tryd.params4] at ht
        have hm : t ∈ [3, 43] := by simpa using Array.mem_of_getElem? ht
        have hall : ([3, 43].all fun u => !Tryd.prog.wantsStandIn u) = true := by kernel_rfl
        exact (show Tryd.prog.wantsStandIn t = false by simpa using List.all_eq_true.1 hall t hm)⟩)
    (by kernel_rfl)
#print axioms journalReopens_card
end Go.Proofs.YtlihcenahjgnmaaDoor

