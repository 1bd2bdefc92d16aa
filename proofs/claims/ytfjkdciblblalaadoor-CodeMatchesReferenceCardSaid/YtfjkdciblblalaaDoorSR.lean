/- Chapter 17: the reference's Join and Fragment. -/
import Derived.Test.YtfjkdciblblalaaDoorSQ
namespace Go.Sx
open Go Go.Proofs
noncomputable def fragV (frs : List ByteArray) (th : List Bool) (k which : Int) : ByteArray × Nat := open Classical in if FragOK frs th k which then (cOut frs th k.toNat which.toNat, 0) else (noStr, 170)
attribute [local irreducible] WC WL WX POp Then Again Fn NX W1 WA WO QL RP RA Yld LoopAt HC HL HX HN H1 HA HO HQ HB HP A.blk A.grow A.rd A.obj A.mp AgainH CutH
attribute [local irreducible] atR cOut cM tnums
theorem frag_any {vf vt : Value} {frs : List ByteArray} {th : List Bool} {k len : Int} (hl : frs.length ≤ 100) (hlt : th.length ≤ 100) (w : World) (hr : Red w) (hRf : Rd w vf (strs frs)) (hRt : Rd w vt (bools th)) :
    Fn Tryd.prog 12 #[vf, vt, .int .i64 k, .int .i64 len] w fun v w' => v = .tuple #[.string (fragV frs th k len).1, .int .i64 ((fragV frs th k len).2 : Int)] ∧ Ext w w' := by
  unfold fragV
  by_cases h : FragOK frs th k len
  · rw [if_pos h]; exact frag_yes h hl hlt w hr hRf hRt
  · rw [if_neg h]; exact frag_no h hl hlt w hr hRf hRt
theorem all_yes {vf vt : Value} {frs : List ByteArray} {th : List Bool} {k : Int} (h : CompOK frs th k) (hl : frs.length ≤ 100) (hlt : th.length ≤ 100) (w : World) (hF : Rd w vf (strs frs)) (hT : Rd w vt (bools th)) :
    Fn Tryd.prog 26 #[vf, vt, .int .i64 k] w fun v w' => ∃ z : Option Addr × Nat, True ∧ v = .tuple #[.slice z.1 frs.length z.2, .bool true] ∧ Mm w [A.grow 9 1 z.1 z.2 frs.length (strs (allOut frs th k.toNat))] w' :=
  (all_fn vf vt frs th k hl hlt w hF hT).mono fun _ _ ⟨⟨b, z⟩, h1, h2, h3⟩ => by
    obtain rfl : b = true := h1.2 h
    exact ⟨z, trivial, h2, h3⟩
theorem all_no {vf vt : Value} {frs : List ByteArray} {th : List Bool} {k : Int} (h : ¬ CompOK frs th k) (hl : frs.length ≤ 100) (hlt : th.length ≤ 100) (w : World) (hF : Rd w vf (strs frs)) (hT : Rd w vt (bools th)) :
    Fn Tryd.prog 26 #[vf, vt, .int .i64 k] w fun v w' => ∃ z : Option Addr × Nat, True ∧ v = .tuple #[.slice z.1 0 z.2, .bool false] ∧ Mm w [A.grow 9 1 z.1 z.2 0 []] w' :=
  (all_fn vf vt frs th k hl hlt w hF hT).mono fun _ _ ⟨⟨b, z⟩, h1, h2, h3⟩ => by
    obtain rfl : b = false := by
      cases b with
      | false => rfl
      | true => exact absurd (h1.1 rfl) h
    exact ⟨z, trivial, h2, h3⟩
theorem strsO_get {frs : List ByteArray} {th : List Bool} {K i : Nat} (h : i < frs.length) : (strs (allOut frs th K))[i]? = some (.string (cOut frs th K i)) := by
  unfold allOut
  rw [strs_row]; exact row_get _ h
set_option maxHeartbeats 2000000 in
theorem refFrag_fn (vf vt : Value) (frs : List ByteArray) (th : List Bool) (k which : Int) (hwb : -9223372036854775808 ≤ which ∧ which ≤ 9223372036854775807) (hl : frs.length ≤ 100) (hlt : th.length ≤ 100) (w : World) (hF : Rd w vf (strs frs)) (hT : Rd w vt (bools th)) :
    Fn Tryd.prog 13 #[vf, vt, .int .i64 k, .int .i64 which] w fun v w' => v = .tuple #[.string (fragV frs th k which).1, .int .i64 ((fragV frs th k which).2 : Int)] ∧ Ext w w' := by
  have hlf : (strs frs).length = frs.length := by simp [strs]
  obtain ⟨af, cf, rfl⟩ := hF.len
  rw [hlf] at hF ⊢
  refine enterH (l := [_, _, _, _]) rfl Tryd.ntmps13 rfl ?_
  by_cases hC : CompOK frs th k
  rotate_left
  · have hv : fragV frs th k which = (noStr, 170) := if_neg fun h => hC h.1
    rw [hv]
    repeat' (first | apply HL.fold | apply HA.fold | apply HL.nil | apply HX.n_then | apply HC.seq | apply HC.region | refine HL.pa ?_ | refine HL.ga rfl ?_ | refine HL.na rfl ?_ | refine HL.nu rfl rfl ?_ | apply HC.block | apply HC.skip | apply HC.exit | apply HC.ret | apply HX.e_block | refine HX.e_other rfl ?_ | apply HX.e_then | apply HX.e_again | apply HX.n_block | apply HX.r_then | apply HX.r_block | apply HX.r_again | refine HC.cond_yes rfl ?_ | refine HC.cond_no rfl ?_ | refine HL.one (H1.ldb rfl memA rfl rfl ?_) | refine HC.cond rfl (fun hc => ?_) (fun hc => ?_) | refine HC.cond_b rfl (fun hc => ?_) (fun hc => ?_))
    refine HL.one (H1.callz1 (vs := [.slice af frs.length cf, vt, .int .i64 k]) rfl rfl (fun w' hM => all_no hC hl hlt w' (hM.rd0 hF) (hM.rd0 hT)) ?_)
    rintro ⟨a, c⟩ -
    repeat' (first | apply HL.fold | apply HA.fold | apply HL.nil | apply HX.n_then | apply HC.seq | apply HC.region | refine HL.pa ?_ | refine HL.ga rfl ?_ | refine HL.na rfl ?_ | refine HL.nu rfl rfl ?_ | apply HC.block | apply HC.skip | apply HC.exit | apply HC.ret | apply HX.e_block | refine HX.e_other rfl ?_ | apply HX.e_then | apply HX.e_again | apply HX.n_block | apply HX.r_then | apply HX.r_block | apply HX.r_again | refine HC.cond_yes rfl ?_ | refine HC.cond_no rfl ?_ | refine HL.one (H1.ldb rfl memA rfl rfl ?_) | refine HC.cond rfl (fun hc => ?_) (fun hc => ?_) | refine HC.cond_b rfl (fun hc => ?_) (fun hc => ?_))
    exact HX.ret2 rfl rfl rfl fun w' hM => ⟨rfl, hM.ext⟩
  repeat' (first | apply HL.fold | apply HA.fold | apply HL.nil | apply HX.n_then | apply HC.seq | apply HC.region | refine HL.pa ?_ | refine HL.ga rfl ?_ | refine HL.na rfl ?_ | refine HL.nu rfl rfl ?_ | apply HC.block | apply HC.skip | apply HC.exit | apply HC.ret | apply HX.e_block | refine HX.e_other rfl ?_ | apply HX.e_then | apply HX.e_again | apply HX.n_block | apply HX.r_then | apply HX.r_block | apply HX.r_again | refine HC.cond_yes rfl ?_ | refine HC.cond_no rfl ?_ | refine HL.one (H1.ldb rfl memA rfl rfl ?_) | refine HC.cond rfl (fun hc => ?_) (fun hc => ?_) | refine HC.cond_b rfl (fun hc => ?_) (fun hc => ?_))
  refine HL.one (H1.callz1 (vs := [.slice af frs.length cf, vt, .int .i64 k]) rfl rfl (fun w' hM => all_yes hC hl hlt w' (hM.rd0 hF) (hM.rd0 hT)) ?_)
  rintro ⟨a, c⟩ -
  dsimp only
  repeat' (first | apply HL.fold | apply HA.fold | apply HL.nil | apply HX.n_then | apply HC.seq | apply HC.region | refine HL.pa ?_ | refine HL.ga rfl ?_ | refine HL.na rfl ?_ | refine HL.nu rfl rfl ?_ | apply HC.block | apply HC.skip | apply HC.exit | apply HC.ret | apply HX.e_block | refine HX.e_other rfl ?_ | apply HX.e_then | apply HX.e_again | apply HX.n_block | apply HX.r_then | apply HX.r_block | apply HX.r_again | refine HC.cond_yes rfl ?_ | refine HC.cond_no rfl ?_ | refine HL.one (H1.ldb rfl memA rfl rfl ?_) | refine HC.cond rfl (fun hc => ?_) (fun hc => ?_) | refine HC.cond_b rfl (fun hc => ?_) (fun hc => ?_))
  refine HL.one (H1.call0 (vs := [.int .i64 which, .int .i64 0, .int .i64 ((frs.length : Int) - 1)]) rfl rfl (fun w' _ => within_fn _ _ _ w') ?_)
  by_cases h1 : 0 ≤ which ∧ which ≤ (frs.length : Int) - 1
  rotate_left
  · have hv : fragV frs th k which = (noStr, 170) := if_neg fun h => h1 ⟨h.2.1, by have := h.2.2; omega⟩
    rw [hv, decide_eq_false h1]
    repeat' (first | apply HL.fold | apply HA.fold | apply HL.nil | apply HX.n_then | apply HC.seq | apply HC.region | refine HL.pa ?_ | refine HL.ga rfl ?_ | refine HL.na rfl ?_ | refine HL.nu rfl rfl ?_ | apply HC.block | apply HC.skip | apply HC.exit | apply HC.ret | apply HX.e_block | refine HX.e_other rfl ?_ | apply HX.e_then | apply HX.e_again | apply HX.n_block | apply HX.r_then | apply HX.r_block | apply HX.r_again | refine HC.cond_yes rfl ?_ | refine HC.cond_no rfl ?_ | refine HL.one (H1.ldb rfl memA rfl rfl ?_) | refine HC.cond rfl (fun hc => ?_) (fun hc => ?_) | refine HC.cond_b rfl (fun hc => ?_) (fun hc => ?_))
    exact HX.ret2 rfl rfl rfl fun w' hM => ⟨rfl, hM.ext⟩
  have hv : fragV frs th k which = (cOut frs th k.toNat which.toNat, 0) := if_pos ⟨hC, h1.1, by omega⟩
  rw [hv, decide_eq_true h1]
  obtain ⟨q, rfl⟩ : ∃ q : Nat, which = (q : Int) := ⟨which.toNat, by omega⟩
  repeat' (first | apply HL.fold | apply HA.fold | apply HL.nil | apply HX.n_then | apply HC.seq | apply HC.region | refine HL.pa ?_ | refine HL.ga rfl ?_ | refine HL.na rfl ?_ | refine HL.nu rfl rfl ?_ | apply HC.block | apply HC.skip | apply HC.exit | apply HC.ret | apply HX.e_block | refine HX.e_other rfl ?_ | apply HX.e_then | apply HX.e_again | apply HX.n_block | apply HX.r_then | apply HX.r_block | apply HX.r_again | refine HC.cond_yes rfl ?_ | refine HC.cond_no rfl ?_ | refine HL.one (H1.ldb rfl memA rfl rfl ?_) | refine HC.cond rfl (fun hc => ?_) (fun hc => ?_) | refine HC.cond_b rfl (fun hc => ?_) (fun hc => ?_))
  refine HL.openg (e := 9) (a := a) (xs := strs (allOut frs th k.toNat)) memA (by omega) ?_
  rintro b rfl
  repeat' (first | apply HL.fold | apply HA.fold | apply HL.nil | apply HX.n_then | apply HC.seq | apply HC.region | refine HL.pa ?_ | refine HL.ga rfl ?_ | refine HL.na rfl ?_ | refine HL.nu rfl rfl ?_ | apply HC.block | apply HC.skip | apply HC.exit | apply HC.ret | apply HX.e_block | refine HX.e_other rfl ?_ | apply HX.e_then | apply HX.e_again | apply HX.n_block | apply HX.r_then | apply HX.r_block | apply HX.r_again | refine HC.cond_yes rfl ?_ | refine HC.cond_no rfl ?_ | refine HL.one (H1.ldb rfl memA rfl rfl ?_) | refine HC.cond rfl (fun hc => ?_) (fun hc => ?_) | refine HC.cond_b rfl (fun hc => ?_) (fun hc => ?_))
  refine HL.one (H1.ldg (vs := strs (allOut frs th k.toNat)) rfl memA (strsO_get (i := q) (by omega)) rfl ?_)
  repeat' (first | apply HL.fold | apply HA.fold | apply HL.nil | apply HX.n_then | apply HC.seq | apply HC.region | refine HL.pa ?_ | refine HL.ga rfl ?_ | refine HL.na rfl ?_ | refine HL.nu rfl rfl ?_ | apply HC.block | apply HC.skip | apply HC.exit | apply HC.ret | apply HX.e_block | refine HX.e_other rfl ?_ | apply HX.e_then | apply HX.e_again | apply HX.n_block | apply HX.r_then | apply HX.r_block | apply HX.r_again | refine HC.cond_yes rfl ?_ | refine HC.cond_no rfl ?_ | refine HL.one (H1.ldb rfl memA rfl rfl ?_) | refine HC.cond rfl (fun hc => ?_) (fun hc => ?_) | refine HC.cond_b rfl (fun hc => ?_) (fun hc => ?_))
  exact HX.ret2 rfl rfl rfl fun w' hM => ⟨by rw [Int.toNat_natCast]; rfl, hM.ext⟩
set_option maxHeartbeats 4000000 in
theorem refJoin_fn (vf vt : Value) (frs : List ByteArray) (th : List Bool) (k len : Int) (hlb : -9223372036854775808 ≤ len ∧ len ≤ 9223372036854775807) (hl : frs.length ≤ 100) (hlt : th.length ≤ 100) (w : World) (hF : Rd w vf (strs frs)) (hT : Rd w vt (bools th)) :
    Fn Tryd.prog 11 #[vf, vt, .int .i64 k, .int .i64 len] w fun v w' => v = .tuple #[.string (joinV frs th k len).1, .int .i64 ((joinV frs th k len).2 : Int)] ∧ Ext w w' := by
  have hlf : (strs frs).length = frs.length := by simp [strs]
  obtain ⟨af, cf, rfl⟩ := hF.len
  rw [hlf] at hF ⊢
  refine enterH (l := [_, _, _, _]) rfl Tryd.ntmps11 rfl ?_
  by_cases hC : CompOK frs th k
  rotate_left
  · have hv : joinV frs th k len = (noStr, 170) := if_neg fun h => hC h.1
    rw [hv]
    repeat' (first | apply HL.fold | apply HA.fold | apply HL.nil | apply HX.n_then | apply HC.seq | apply HC.region | refine HL.pa ?_ | refine HL.ga rfl ?_ | refine HL.na rfl ?_ | refine HL.nu rfl rfl ?_ | apply HC.block | apply HC.skip | apply HC.exit | apply HC.ret | apply HX.e_block | refine HX.e_other rfl ?_ | apply HX.e_then | apply HX.e_again | apply HX.n_block | apply HX.r_then | apply HX.r_block | apply HX.r_again | refine HC.cond_yes rfl ?_ | refine HC.cond_no rfl ?_ | refine HL.one (H1.ldb rfl memA rfl rfl ?_) | refine HC.cond rfl (fun hc => ?_) (fun hc => ?_) | refine HC.cond_b rfl (fun hc => ?_) (fun hc => ?_))
    refine HL.one (H1.callz1 (vs := [.slice af frs.length cf, vt, .int .i64 k]) rfl rfl (fun w' hM => all_no hC hl hlt w' (hM.rd0 hF) (hM.rd0 hT)) ?_)
    rintro ⟨a, c⟩ -
    repeat' (first | apply HL.fold | apply HA.fold | apply HL.nil | apply HX.n_then | apply HC.seq | apply HC.region | refine HL.pa ?_ | refine HL.ga rfl ?_ | refine HL.na rfl ?_ | refine HL.nu rfl rfl ?_ | apply HC.block | apply HC.skip | apply HC.exit | apply HC.ret | apply HX.e_block | refine HX.e_other rfl ?_ | apply HX.e_then | apply HX.e_again | apply HX.n_block | apply HX.r_then | apply HX.r_block | apply HX.r_again | refine HC.cond_yes rfl ?_ | refine HC.cond_no rfl ?_ | refine HL.one (H1.ldb rfl memA rfl rfl ?_) | refine HC.cond rfl (fun hc => ?_) (fun hc => ?_) | refine HC.cond_b rfl (fun hc => ?_) (fun hc => ?_))
    refine HC.any rfl ?_
    refine HA.pa 0 rfl ?_
    refine HA.pa 1 rfl ?_
    refine HA.pa 2 rfl ?_
    first | refine HA.ga 3 rfl rfl ?_ | refine HA.na 3 rfl rfl ?_ | refine HA.nu 3 rfl rfl ?_
    first | refine HA.ga 4 rfl rfl ?_ | refine HA.na 4 rfl rfl ?_ | refine HA.nu 4 rfl rfl ?_
    first | refine HA.ga 5 rfl rfl ?_ | refine HA.na 5 rfl rfl ?_ | refine HA.nu 5 rfl rfl ?_
    refine HA.all [6] (by kernel_rfl) rfl ⟨⟨_, rfl, ?_⟩, trivial⟩
    refine HO.drop_a rfl ?_
    first | refine HA.ga 7 rfl rfl ?_ | refine HA.na 7 rfl rfl ?_ | refine HA.nu 7 rfl rfl ?_
    refine HA.pa 8 rfl ?_
    refine HA.pa 9 rfl ?_
    first | refine HA.ga 10 rfl rfl ?_ | refine HA.na 10 rfl rfl ?_ | refine HA.nu 10 rfl rfl ?_
    first | refine HA.ga 11 rfl rfl ?_ | refine HA.na 11 rfl rfl ?_ | refine HA.nu 11 rfl rfl ?_
    first | refine HA.ga 12 rfl rfl ?_ | refine HA.na 12 rfl rfl ?_ | refine HA.nu 12 rfl rfl ?_
    first | refine HA.ga 13 rfl rfl ?_ | refine HA.na 13 rfl rfl ?_ | refine HA.nu 13 rfl rfl ?_
    first | refine HA.ga 14 rfl rfl ?_ | refine HA.na 14 rfl rfl ?_ | refine HA.nu 14 rfl rfl ?_
    first | refine HA.ga 15 rfl rfl ?_ | refine HA.na 15 rfl rfl ?_ | refine HA.nu 15 rfl rfl ?_
    refine HA.all [16] (by kernel_rfl) rfl ⟨⟨_, rfl, ?_⟩, trivial⟩
    refine HO.drop_a rfl ?_
    first | refine HA.ga 17 rfl rfl ?_ | refine HA.na 17 rfl rfl ?_ | refine HA.nu 17 rfl rfl ?_
    refine HA.pa 18 rfl ?_
    refine HA.done (by kernel_rfl) ?_
    repeat' (first | apply HL.fold | apply HA.fold | apply HL.nil | apply HX.n_then | apply HC.seq | apply HC.region | refine HL.pa ?_ | refine HL.ga rfl ?_ | refine HL.na rfl ?_ | refine HL.nu rfl rfl ?_ | apply HC.block | apply HC.skip | apply HC.exit | apply HC.ret | apply HX.e_block | refine HX.e_other rfl ?_ | apply HX.e_then | apply HX.e_again | apply HX.n_block | apply HX.r_then | apply HX.r_block | apply HX.r_again | refine HC.cond_yes rfl ?_ | refine HC.cond_no rfl ?_ | refine HL.one (H1.ldb rfl memA rfl rfl ?_) | refine HC.cond rfl (fun hc => ?_) (fun hc => ?_) | refine HC.cond_b rfl (fun hc => ?_) (fun hc => ?_))
    exact HX.ret2 rfl rfl rfl fun w' hM => ⟨rfl, hM.ext⟩
  obtain ⟨K, rfl⟩ : ∃ K : Nat, k = (K : Int) := ⟨k.toNat, by have := hC.1.1; omega⟩
  have hk1 : 1 ≤ K := by have := hC.1.1; omega
  have hkn : K ≤ frs.length := by have := hC.1.2.1; omega
  have hn9 : frs.length ≤ 9 := by have := hC.1.2.2; omega
  have hcM := hC.cM_le
  rw [Int.toNat_natCast] at hcM
  repeat' (first | apply HL.fold | apply HA.fold | apply HL.nil | apply HX.n_then | apply HC.seq | apply HC.region | refine HL.pa ?_ | refine HL.ga rfl ?_ | refine HL.na rfl ?_ | refine HL.nu rfl rfl ?_ | apply HC.block | apply HC.skip | apply HC.exit | apply HC.ret | apply HX.e_block | refine HX.e_other rfl ?_ | apply HX.e_then | apply HX.e_again | apply HX.n_block | apply HX.r_then | apply HX.r_block | apply HX.r_again | refine HC.cond_yes rfl ?_ | refine HC.cond_no rfl ?_ | refine HL.one (H1.ldb rfl memA rfl rfl ?_) | refine HC.cond rfl (fun hc => ?_) (fun hc => ?_) | refine HC.cond_b rfl (fun hc => ?_) (fun hc => ?_))
  refine HL.one (H1.callz1 (vs := [.slice af frs.length cf, vt, iv K]) rfl rfl (fun w' hM => all_yes hC hl hlt w' (hM.rd0 hF) (hM.rd0 hT)) ?_)
  rintro ⟨a, c⟩ -
  dsimp only
  rw [Int.toNat_natCast]
  have hg0 := strsO_get (frs := frs) (th := th) (K := K) (i := 0) (by omega)
  have hs0 := cOut_size frs th K 0
  by_cases h1 : 0 ≤ len ∧ len ≤ 4096 * (K : Int)
  rotate_left
  · have hv : joinV frs th (K : Int) len = (noStr, 170) := if_neg fun h => h1 ⟨h.2.1, h.2.2.1⟩
    have h1' := decide_eq_false h1
    rw [hv]
    repeat' (first | apply HL.fold | apply HA.fold | apply HL.nil | apply HX.n_then | apply HC.seq | apply HC.region | refine HL.pa ?_ | refine HL.ga rfl ?_ | refine HL.na rfl ?_ | refine HL.nu rfl rfl ?_ | apply HC.block | apply HC.skip | apply HC.exit | apply HC.ret | apply HX.e_block | refine HX.e_other rfl ?_ | apply HX.e_then | apply HX.e_again | apply HX.n_block | apply HX.r_then | apply HX.r_block | apply HX.r_again | refine HC.cond_yes rfl ?_ | refine HC.cond_no rfl ?_ | refine HL.one (H1.ldb rfl memA rfl rfl ?_) | refine HC.cond rfl (fun hc => ?_) (fun hc => ?_) | refine HC.cond_b rfl (fun hc => ?_) (fun hc => ?_))
    refine HC.any rfl ?_
    refine HA.pa 0 rfl ?_
    refine HA.pa 1 rfl ?_
    refine HA.pa 2 rfl ?_
    first | refine HA.ga 3 rfl rfl ?_ | refine HA.na 3 rfl rfl ?_ | refine HA.nu 3 rfl rfl ?_
    first | refine HA.ga 4 rfl rfl ?_ | refine HA.na 4 rfl rfl ?_ | refine HA.nu 4 rfl rfl ?_
    first | refine HA.ga 5 rfl rfl ?_ | refine HA.na 5 rfl rfl ?_ | refine HA.nu 5 rfl rfl ?_
    refine HA.all [6] (by kernel_rfl) rfl ⟨⟨_, rfl, ?_⟩, trivial⟩
    refine HO.one_a rfl ?_
    refine H1.call0 (vs := [.int .i64 len, .int .i64 0, .int .i64 (4096 * (K : Int))]) rfl rfl (fun w' _ => within_fn _ _ _ w') ?_
    rw [h1']
    apply HA.fold
    first | refine HA.ga 7 rfl rfl ?_ | refine HA.na 7 rfl rfl ?_ | refine HA.nu 7 rfl rfl ?_
    refine HA.pa 8 rfl ?_
    refine HA.pa 9 rfl ?_
    first | refine HA.ga 10 rfl rfl ?_ | refine HA.na 10 rfl rfl ?_ | refine HA.nu 10 rfl rfl ?_
    first | refine HA.ga 11 rfl rfl ?_ | refine HA.na 11 rfl rfl ?_ | refine HA.nu 11 rfl rfl ?_
    first | refine HA.ga 12 rfl rfl ?_ | refine HA.na 12 rfl rfl ?_ | refine HA.nu 12 rfl rfl ?_
    first | refine HA.ga 13 rfl rfl ?_ | refine HA.na 13 rfl rfl ?_ | refine HA.nu 13 rfl rfl ?_
    first | refine HA.ga 14 rfl rfl ?_ | refine HA.na 14 rfl rfl ?_ | refine HA.nu 14 rfl rfl ?_
    first | refine HA.ga 15 rfl rfl ?_ | refine HA.na 15 rfl rfl ?_ | refine HA.nu 15 rfl rfl ?_
    refine HA.all [16] (by kernel_rfl) rfl ⟨⟨_, rfl, ?_⟩, trivial⟩
    refine HO.drop_a rfl ?_
    first | refine HA.ga 17 rfl rfl ?_ | refine HA.na 17 rfl rfl ?_ | refine HA.nu 17 rfl rfl ?_
    refine HA.pa 18 rfl ?_
    refine HA.done (by kernel_rfl) ?_
    repeat' (first | apply HL.fold | apply HA.fold | apply HL.nil | apply HX.n_then | apply HC.seq | apply HC.region | refine HL.pa ?_ | refine HL.ga rfl ?_ | refine HL.na rfl ?_ | refine HL.nu rfl rfl ?_ | apply HC.block | apply HC.skip | apply HC.exit | apply HC.ret | apply HX.e_block | refine HX.e_other rfl ?_ | apply HX.e_then | apply HX.e_again | apply HX.n_block | apply HX.r_then | apply HX.r_block | apply HX.r_again | refine HC.cond_yes rfl ?_ | refine HC.cond_no rfl ?_ | refine HL.one (H1.ldb rfl memA rfl rfl ?_) | refine HC.cond rfl (fun hc => ?_) (fun hc => ?_) | refine HC.cond_b rfl (fun hc => ?_) (fun hc => ?_))
    exact HX.ret2 rfl rfl rfl fun w' hM => ⟨rfl, hM.ext⟩
  have h1' := decide_eq_true h1
  obtain ⟨L, rfl⟩ : ∃ L : Nat, len = (L : Int) := ⟨len.toNat, by omega⟩
  obtain ⟨b, hb⟩ : ∃ b : Nat, b = b := ⟨0, rfl⟩
  by_cases h2 : (cM frs th K : Int) = ((L : Int) + K - 1) / K
  rotate_left
  · have hv : joinV frs th (K : Int) (L : Int) = (noStr, 170) := if_neg fun h => h2 (by have := h.2.2.2.1; rwa [Int.toNat_natCast] at this)
    rw [hv]
    repeat' (first | apply HL.fold | apply HA.fold | apply HL.nil | apply HX.n_then | apply HC.seq | apply HC.region | refine HL.pa ?_ | refine HL.ga rfl ?_ | refine HL.na rfl ?_ | refine HL.nu rfl rfl ?_ | apply HC.block | apply HC.skip | apply HC.exit | apply HC.ret | apply HX.e_block | refine HX.e_other rfl ?_ | apply HX.e_then | apply HX.e_again | apply HX.n_block | apply HX.r_then | apply HX.r_block | apply HX.r_again | refine HC.cond_yes rfl ?_ | refine HC.cond_no rfl ?_ | refine HL.one (H1.ldb rfl memA rfl rfl ?_) | refine HC.cond rfl (fun hc => ?_) (fun hc => ?_) | refine HC.cond_b rfl (fun hc => ?_) (fun hc => ?_))
    refine HC.openg (e := 9) (a := a) (xs := strs (allOut frs th K)) memA (by omega) ?_
    rintro b rfl
    refine HC.any rfl ?_
    refine HA.pa 0 rfl ?_
    refine HA.pa 1 rfl ?_
    refine HA.pa 2 rfl ?_
    first | refine HA.ga 3 rfl rfl ?_ | refine HA.na 3 rfl rfl ?_ | refine HA.nu 3 rfl rfl ?_
    first | refine HA.ga 4 rfl rfl ?_ | refine HA.na 4 rfl rfl ?_ | refine HA.nu 4 rfl rfl ?_
    first | refine HA.ga 5 rfl rfl ?_ | refine HA.na 5 rfl rfl ?_ | refine HA.nu 5 rfl rfl ?_
    refine HA.all [6] (by kernel_rfl) rfl ⟨⟨_, rfl, ?_⟩, trivial⟩
    refine HO.one_a rfl ?_
    refine H1.call0 (vs := [.int .i64 (L : Int), .int .i64 0, .int .i64 (4096 * (K : Int))]) rfl rfl (fun w' _ => within_fn _ _ _ w') ?_
    rw [h1']
    apply HA.fold
    first | refine HA.ga 7 rfl rfl ?_ | refine HA.na 7 rfl rfl ?_ | refine HA.nu 7 rfl rfl ?_
    refine HA.pa 8 rfl ?_
    refine HA.pa 9 rfl ?_
    first | refine HA.ga 10 rfl rfl ?_ | refine HA.na 10 rfl rfl ?_ | refine HA.nu 10 rfl rfl ?_
    first | refine HA.ga 11 rfl rfl ?_ | refine HA.na 11 rfl rfl ?_ | refine HA.nu 11 rfl rfl ?_
    first | refine HA.ga 14 rfl rfl ?_ | refine HA.na 14 rfl rfl ?_ | refine HA.nu 14 rfl rfl ?_
    first | refine HA.ga 15 rfl rfl ?_ | refine HA.na 15 rfl rfl ?_ | refine HA.nu 15 rfl rfl ?_
    refine HA.all [12, 16] (by kernel_rfl) rfl ⟨⟨_, rfl, ?_⟩, ⟨_, rfl, ?_⟩, trivial⟩
    · refine HO.one_a rfl ?_
      refine H1.ldg (vs := strs (allOut frs th K)) rfl memA hg0 rfl ?_
      apply HA.fold
      first | refine HA.ga 13 rfl rfl ?_ | refine HA.na 13 rfl rfl ?_ | refine HA.nu 13 rfl rfl ?_
      refine HA.all [16] (by kernel_rfl) rfl ⟨⟨_, rfl, ?_⟩, trivial⟩
      refine HO.one_a rfl ?_
      refine H1.call0 (vs := [iv L, iv K]) rfl rfl (fun w' _ => size_fn _ _ (by omega) (by omega) w') ?_
      apply HA.fold
      first | refine HA.ga 17 rfl rfl ?_ | refine HA.na 17 rfl rfl ?_ | refine HA.nu 17 rfl rfl ?_
      refine HA.pa 18 rfl ?_
      refine HA.done (by kernel_rfl) ?_
      rw [hs0]
      repeat' (first | apply HL.fold | apply HA.fold | apply HL.nil | apply HX.n_then | apply HC.seq | apply HC.region | refine HL.pa ?_ | refine HL.ga rfl ?_ | refine HL.na rfl ?_ | refine HL.nu rfl rfl ?_ | apply HC.block | apply HC.skip | apply HC.exit | apply HC.ret | apply HX.e_block | refine HX.e_other rfl ?_ | apply HX.e_then | apply HX.e_again | apply HX.n_block | apply HX.r_then | apply HX.r_block | apply HX.r_again | refine HC.cond_yes rfl ?_ | refine HC.cond_no rfl ?_ | refine HL.one (H1.ldb rfl memA rfl rfl ?_) | refine HC.cond rfl (fun hc => ?_) (fun hc => ?_) | refine HC.cond_b rfl (fun hc => ?_) (fun hc => ?_))
      exact HX.ret2 rfl rfl rfl fun w' hM => ⟨rfl, hM.ext⟩
    · refine HO.one_a rfl ?_
      refine H1.call0 (vs := [iv L, iv K]) rfl rfl (fun w' _ => size_fn _ _ (by omega) (by omega) w') ?_
      apply HA.fold
      refine HA.all [12] (by kernel_rfl) rfl ⟨⟨_, rfl, ?_⟩, trivial⟩
      refine HO.one_a rfl ?_
      refine H1.ldg (vs := strs (allOut frs th K)) rfl memA hg0 rfl ?_
      apply HA.fold
      first | refine HA.ga 13 rfl rfl ?_ | refine HA.na 13 rfl rfl ?_ | refine HA.nu 13 rfl rfl ?_
      first | refine HA.ga 17 rfl rfl ?_ | refine HA.na 17 rfl rfl ?_ | refine HA.nu 17 rfl rfl ?_
      refine HA.pa 18 rfl ?_
      refine HA.done (by kernel_rfl) ?_
      rw [hs0]
      repeat' (first | apply HL.fold | apply HA.fold | apply HL.nil | apply HX.n_then | apply HC.seq | apply HC.region | refine HL.pa ?_ | refine HL.ga rfl ?_ | refine HL.na rfl ?_ | refine HL.nu rfl rfl ?_ | apply HC.block | apply HC.skip | apply HC.exit | apply HC.ret | apply HX.e_block | refine HX.e_other rfl ?_ | apply HX.e_then | apply HX.e_again | apply HX.n_block | apply HX.r_then | apply HX.r_block | apply HX.r_again | refine HC.cond_yes rfl ?_ | refine HC.cond_no rfl ?_ | refine HL.one (H1.ldb rfl memA rfl rfl ?_) | refine HC.cond rfl (fun hc => ?_) (fun hc => ?_) | refine HC.cond_b rfl (fun hc => ?_) (fun hc => ?_))
      exact HX.ret2 rfl rfl rfl fun w' hM => ⟨rfl, hM.ext⟩
  have hK9 : (K : Int) * (cM frs th K : Int) ≤ 36864 := by
    have : K * cM frs th K ≤ 9 * 4096 := Nat.mul_le_mul (by omega) hcM
    have e : (K : Int) * (cM frs th K : Int) = ((K * cM frs th K : Nat) : Int) := by rw [Int.natCast_mul]
    omega
  have hge : L ≤ K * cM frs th K := by
    have h3 : (cM frs th K : Int) = ((mOf L K : Nat) : Int) := by
      rw [h2]
      unfold mOf
      rw [Int.natCast_ediv]
      congr 1
      omega
    have h4 : cM frs th K = mOf L K := by omega
    rw [h4]; exact mOf_ge L (by omega)
  have hsz := catO_size frs th K
  have hcatn : ∀ i, i ≤ K → (catS ((List.range i).map (cOut frs th K))).size = i * cM frs th K := fun i _ => by
    rw [catS_size _ (cM frs th K)]
    · simp
    · intro x hx
      obtain ⟨j, -, rfl⟩ := List.mem_map.1 hx
      exact cOut_size _ _ _ _
  have hcst : ∀ i, catS ((List.range i).map (cOut frs th K)) ++ cOut frs th K i = catS ((List.range (i + 1)).map (cOut frs th K)) := fun i => by
    rw [List.range_succ, List.map_append, List.map_singleton, catS_snoc]
  have hcsz := cOut_size frs th K
  repeat' (first | apply HL.fold | apply HA.fold | apply HL.nil | apply HX.n_then | apply HC.seq | apply HC.region | refine HL.pa ?_ | refine HL.ga rfl ?_ | refine HL.na rfl ?_ | refine HL.nu rfl rfl ?_ | apply HC.block | apply HC.skip | apply HC.exit | apply HC.ret | apply HX.e_block | refine HX.e_other rfl ?_ | apply HX.e_then | apply HX.e_again | apply HX.n_block | apply HX.r_then | apply HX.r_block | apply HX.r_again | refine HC.cond_yes rfl ?_ | refine HC.cond_no rfl ?_ | refine HL.one (H1.ldb rfl memA rfl rfl ?_) | refine HC.cond rfl (fun hc => ?_) (fun hc => ?_) | refine HC.cond_b rfl (fun hc => ?_) (fun hc => ?_))
  refine HC.openg (e := 9) (a := a) (xs := strs (allOut frs th K)) memA (by omega) ?_
  rintro b rfl
  refine HC.cut (α := Unit) (fun _ => [(2, iv K), (3, iv L), (10, .slice (some ⟨b, 0, none⟩) frs.length c), (40, .bool (decide (¬ (cM frs th K : Int) = (cM frs th K : Int))))]) (fun _ => [A.grow 9 1 (some ⟨b, 0, none⟩) c frs.length (strs (allOut frs th K))]) (fun _ => True) ?_ ?_
  · refine HC.any rfl ?_
    refine HA.pa 0 rfl ?_
    refine HA.pa 1 rfl ?_
    refine HA.pa 2 rfl ?_
    first | refine HA.ga 3 rfl rfl ?_ | refine HA.na 3 rfl rfl ?_ | refine HA.nu 3 rfl rfl ?_
    first | refine HA.ga 4 rfl rfl ?_ | refine HA.na 4 rfl rfl ?_ | refine HA.nu 4 rfl rfl ?_
    first | refine HA.ga 5 rfl rfl ?_ | refine HA.na 5 rfl rfl ?_ | refine HA.nu 5 rfl rfl ?_
    refine HA.all [6] (by kernel_rfl) rfl ⟨⟨_, rfl, ?_⟩, trivial⟩
    refine HO.one_a rfl ?_
    refine H1.call0 (vs := [.int .i64 (L : Int), .int .i64 0, .int .i64 (4096 * (K : Int))]) rfl rfl (fun w' _ => within_fn _ _ _ w') ?_
    rw [h1']
    apply HA.fold
    first | refine HA.ga 7 rfl rfl ?_ | refine HA.na 7 rfl rfl ?_ | refine HA.nu 7 rfl rfl ?_
    refine HA.pa 8 rfl ?_
    refine HA.pa 9 rfl ?_
    first | refine HA.ga 10 rfl rfl ?_ | refine HA.na 10 rfl rfl ?_ | refine HA.nu 10 rfl rfl ?_
    first | refine HA.ga 11 rfl rfl ?_ | refine HA.na 11 rfl rfl ?_ | refine HA.nu 11 rfl rfl ?_
    first | refine HA.ga 14 rfl rfl ?_ | refine HA.na 14 rfl rfl ?_ | refine HA.nu 14 rfl rfl ?_
    first | refine HA.ga 15 rfl rfl ?_ | refine HA.na 15 rfl rfl ?_ | refine HA.nu 15 rfl rfl ?_
    refine HA.all [12, 16] (by kernel_rfl) rfl ⟨⟨_, rfl, ?_⟩, ⟨_, rfl, ?_⟩, trivial⟩
    · refine HO.one_a rfl ?_
      refine H1.ldg (vs := strs (allOut frs th K)) rfl memA hg0 rfl ?_
      apply HA.fold
      first | refine HA.ga 13 rfl rfl ?_ | refine HA.na 13 rfl rfl ?_ | refine HA.nu 13 rfl rfl ?_
      refine HA.all [16] (by kernel_rfl) rfl ⟨⟨_, rfl, ?_⟩, trivial⟩
      refine HO.one_a rfl ?_
      refine H1.call0 (vs := [iv L, iv K]) rfl rfl (fun w' _ => size_fn _ _ (by omega) (by omega) w') ?_
      rw [← h2]
      apply HA.fold
      first | refine HA.ga 17 rfl rfl ?_ | refine HA.na 17 rfl rfl ?_ | refine HA.nu 17 rfl rfl ?_
      refine HA.pa 18 rfl ?_
      refine HA.done (by kernel_rfl) ?_
      rw [hs0]
      repeat' (first | apply HL.fold | apply HA.fold | apply HL.nil | apply HX.n_then | apply HC.seq | apply HC.region | refine HL.pa ?_ | refine HL.ga rfl ?_ | refine HL.na rfl ?_ | refine HL.nu rfl rfl ?_ | apply HC.block | apply HC.skip | apply HC.exit | apply HC.ret | apply HX.e_block | refine HX.e_other rfl ?_ | apply HX.e_then | apply HX.e_again | apply HX.n_block | apply HX.r_then | apply HX.r_block | apply HX.r_again | refine HC.cond_yes rfl ?_ | refine HC.cond_no rfl ?_ | refine HL.one (H1.ldb rfl memA rfl rfl ?_) | refine HC.cond rfl (fun hc => ?_) (fun hc => ?_) | refine HC.cond_b rfl (fun hc => ?_) (fun hc => ?_))
      exact HX.cut () trivial esA (by repeat (first | exact Hs.nil _ | (refine Hs.cons pickA ?_)))
    · refine HO.one_a rfl ?_
      refine H1.call0 (vs := [iv L, iv K]) rfl rfl (fun w' _ => size_fn _ _ (by omega) (by omega) w') ?_
      rw [← h2]
      apply HA.fold
      refine HA.all [12] (by kernel_rfl) rfl ⟨⟨_, rfl, ?_⟩, trivial⟩
      refine HO.one_a rfl ?_
      refine H1.ldg (vs := strs (allOut frs th K)) rfl memA hg0 rfl ?_
      apply HA.fold
      first | refine HA.ga 13 rfl rfl ?_ | refine HA.na 13 rfl rfl ?_ | refine HA.nu 13 rfl rfl ?_
      first | refine HA.ga 17 rfl rfl ?_ | refine HA.na 17 rfl rfl ?_ | refine HA.nu 17 rfl rfl ?_
      refine HA.pa 18 rfl ?_
      refine HA.done (by kernel_rfl) ?_
      rw [hs0]
      repeat' (first | apply HL.fold | apply HA.fold | apply HL.nil | apply HX.n_then | apply HC.seq | apply HC.region | refine HL.pa ?_ | refine HL.ga rfl ?_ | refine HL.na rfl ?_ | refine HL.nu rfl rfl ?_ | apply HC.block | apply HC.skip | apply HC.exit | apply HC.ret | apply HX.e_block | refine HX.e_other rfl ?_ | apply HX.e_then | apply HX.e_again | apply HX.n_block | apply HX.r_then | apply HX.r_block | apply HX.r_again | refine HC.cond_yes rfl ?_ | refine HC.cond_no rfl ?_ | refine HL.one (H1.ldb rfl memA rfl rfl ?_) | refine HC.cond rfl (fun hc => ?_) (fun hc => ?_) | refine HC.cond_b rfl (fun hc => ?_) (fun hc => ?_))
      exact HX.cut () trivial esA (by repeat (first | exact Hs.nil _ | (refine Hs.cons pickA ?_)))
  rintro - -
  rw [decide_eq_false (fun h => h rfl)]
  generalize hM : cM frs th K = M at *
  repeat' (first | apply HL.fold | apply HA.fold | apply HL.nil | apply HX.n_then | apply HC.seq | apply HC.region | refine HL.pa ?_ | refine HL.ga rfl ?_ | refine HL.na rfl ?_ | refine HL.nu rfl rfl ?_ | apply HC.block | apply HC.skip | apply HC.exit | apply HC.ret | apply HX.e_block | refine HX.e_other rfl ?_ | apply HX.e_then | apply HX.e_again | apply HX.n_block | apply HX.r_then | apply HX.r_block | apply HX.r_again | refine HC.cond_yes rfl ?_ | refine HC.cond_no rfl ?_ | refine HL.one (H1.ldb rfl memA rfl rfl ?_) | refine HC.cond rfl (fun hc => ?_) (fun hc => ?_) | refine HC.cond_b rfl (fun hc => ?_) (fun hc => ?_))
  refine HC.loop (α := Nat) (fun i => [(2, iv K), (3, iv L), (10, .slice (some ⟨b, 0, none⟩) frs.length c), (12, .string (catS ((List.range i).map (cOut frs th K)))), (13, iv i)])
    (fun _ => [A.grow 9 1 (some ⟨b, 0, none⟩) c frs.length (strs (allOut frs th K))]) (fun i => i ≤ K) (fun i => K - i) 0 (Nat.zero_le _) ⟨rfl, rfl, rfl, (by show _ = some (Value.string (catS [])); rfl), rfl, trivial⟩ (by repeat (first | exact Hs.nil _ | (refine Hs.cons pickA ?_))) ?_
  intro i hi
  by_cases hlti : i < K
  · have hgi := strsO_get (frs := frs) (th := th) (K := K) (i := i) (by omega)
    have hci := hcatn i (by omega)
    have him : i * M ≤ K * M := Nat.mul_le_mul_right _ (by omega)
    have hKM : (K : Int) * (M : Int) = ((K * M : Nat) : Int) := by rw [Int.natCast_mul]
    have hcz := hcsz i
    have hcs := hcst i
    repeat' (first | apply HL.fold | apply HA.fold | apply HL.nil | apply HX.n_then | apply HC.seq | apply HC.region | refine HL.pa ?_ | refine HL.ga rfl ?_ | refine HL.na rfl ?_ | refine HL.nu rfl rfl ?_ | apply HC.block | apply HC.skip | apply HC.exit | apply HC.ret | apply HX.e_block | refine HX.e_other rfl ?_ | apply HX.e_then | apply HX.e_again | apply HX.n_block | apply HX.r_then | apply HX.r_block | apply HX.r_again | refine HC.cond_yes rfl ?_ | refine HC.cond_no rfl ?_ | refine HL.one (H1.ldb rfl memA rfl rfl ?_) | refine HC.cond rfl (fun hc => ?_) (fun hc => ?_) | refine HC.cond_b rfl (fun hc => ?_) (fun hc => ?_))
    refine HL.one (H1.ldg (vs := strs (allOut frs th K)) rfl memA hgi rfl ?_)
    repeat' (first | apply HL.fold | apply HA.fold | apply HL.nil | apply HX.n_then | apply HC.seq | apply HC.region | refine HL.pa ?_ | refine HL.ga rfl ?_ | refine HL.na rfl ?_ | refine HL.nu rfl rfl ?_ | apply HC.block | apply HC.skip | apply HC.exit | apply HC.ret | apply HX.e_block | refine HX.e_other rfl ?_ | apply HX.e_then | apply HX.e_again | apply HX.n_block | apply HX.r_then | apply HX.r_block | apply HX.r_again | refine HC.cond_yes rfl ?_ | refine HC.cond_no rfl ?_ | refine HL.one (H1.ldb rfl memA rfl rfl ?_) | refine HC.cond rfl (fun hc => ?_) (fun hc => ?_) | refine HC.cond_b rfl (fun hc => ?_) (fun hc => ?_))
    rw [hcs]
    repeat' (first | apply HL.fold | apply HA.fold | apply HL.nil | apply HX.n_then | apply HC.seq | apply HC.region | refine HL.pa ?_ | refine HL.ga rfl ?_ | refine HL.na rfl ?_ | refine HL.nu rfl rfl ?_ | apply HC.block | apply HC.skip | apply HC.exit | apply HC.ret | apply HX.e_block | refine HX.e_other rfl ?_ | apply HX.e_then | apply HX.e_again | apply HX.n_block | apply HX.r_then | apply HX.r_block | apply HX.r_again | refine HC.cond_yes rfl ?_ | refine HC.cond_no rfl ?_ | refine HL.one (H1.ldb rfl memA rfl rfl ?_) | refine HC.cond rfl (fun hc => ?_) (fun hc => ?_) | refine HC.cond_b rfl (fun hc => ?_) (fun hc => ?_))
    exact HX.again (i + 1) (by omega) (by omega) esA (by repeat (first | exact Hs.nil _ | (refine Hs.cons pickA ?_)))
  obtain rfl : K = i := by omega
  have hcatO : catS ((List.range K).map (cOut frs th K)) = catO frs th K := rfl
  rw [hcatO]
  generalize hS : catO frs th K = S at *
  repeat' (first | apply HL.fold | apply HA.fold | apply HL.nil | apply HX.n_then | apply HC.seq | apply HC.region | refine HL.pa ?_ | refine HL.ga rfl ?_ | refine HL.na rfl ?_ | refine HL.nu rfl rfl ?_ | apply HC.block | apply HC.skip | apply HC.exit | apply HC.ret | apply HX.e_block | refine HX.e_other rfl ?_ | apply HX.e_then | apply HX.e_again | apply HX.n_block | apply HX.r_then | apply HX.r_block | apply HX.r_again | refine HC.cond_yes rfl ?_ | refine HC.cond_no rfl ?_ | refine HL.one (H1.ldb rfl memA rfl rfl ?_) | refine HC.cond rfl (fun hc => ?_) (fun hc => ?_) | refine HC.cond_b rfl (fun hc => ?_) (fun hc => ?_))
  refine HC.loop (α := Nat) (fun i => [(3, iv L), (12, .string S), (14, iv i)]) (fun _ => []) (fun i => L ≤ i ∧ i ≤ S.size ∧ ∀ j, L ≤ j → j < i → sb S j = 0) (fun i => S.size - i) L ⟨Nat.le_refl _, by omega, fun j h1 h2 => by omega⟩ esA (by repeat (first | exact Hs.nil _ | (refine Hs.cons pickA ?_))) ?_
  rintro i ⟨hi1, hi2, hI⟩
  by_cases hlti : i < S.size
  · by_cases hz : sb S i = 0
    · have hz' : ((sb S i : Nat) : Int) = 0 := by omega
      repeat' (first | apply HL.fold | apply HA.fold | apply HL.nil | apply HX.n_then | apply HC.seq | apply HC.region | refine HL.pa ?_ | refine HL.ga rfl ?_ | refine HL.na rfl ?_ | refine HL.nu rfl rfl ?_ | apply HC.block | apply HC.skip | apply HC.exit | apply HC.ret | apply HX.e_block | refine HX.e_other rfl ?_ | apply HX.e_then | apply HX.e_again | apply HX.n_block | apply HX.r_then | apply HX.r_block | apply HX.r_again | refine HC.cond_yes rfl ?_ | refine HC.cond_no rfl ?_ | refine HL.one (H1.ldb rfl memA rfl rfl ?_) | refine HC.cond rfl (fun hc => ?_) (fun hc => ?_) | refine HC.cond_b rfl (fun hc => ?_) (fun hc => ?_))
      exact HX.again (i + 1) ⟨by omega, by omega, fun j h1 h2 => by
        by_cases e : j = i
        · subst e; exact hz
        · exact hI j h1 (by omega)⟩ (by omega) esA (by repeat (first | exact Hs.nil _ | (refine Hs.cons pickA ?_)))
    · have hz' : ¬ ((sb S i : Nat) : Int) = 0 := by omega
      have hv : joinV frs th (K : Int) (L : Int) = (noStr, 170) := if_neg fun h => hz (by
        have := h.2.2.2.2 i (by rw [Int.toNat_natCast]; exact hi1) (by rw [Int.toNat_natCast, hS]; exact hlti)
        rwa [Int.toNat_natCast, hS] at this)
      rw [hv]
      repeat' (first | apply HL.fold | apply HA.fold | apply HL.nil | apply HX.n_then | apply HC.seq | apply HC.region | refine HL.pa ?_ | refine HL.ga rfl ?_ | refine HL.na rfl ?_ | refine HL.nu rfl rfl ?_ | apply HC.block | apply HC.skip | apply HC.exit | apply HC.ret | apply HX.e_block | refine HX.e_other rfl ?_ | apply HX.e_then | apply HX.e_again | apply HX.n_block | apply HX.r_then | apply HX.r_block | apply HX.r_again | refine HC.cond_yes rfl ?_ | refine HC.cond_no rfl ?_ | refine HL.one (H1.ldb rfl memA rfl rfl ?_) | refine HC.cond rfl (fun hc => ?_) (fun hc => ?_) | refine HC.cond_b rfl (fun hc => ?_) (fun hc => ?_))
      exact HX.ret2 rfl rfl rfl fun w' hM => ⟨rfl, hM.ext⟩
  obtain rfl : i = S.size := by omega
  have hv : joinV frs th (K : Int) (L : Int) = (S.extract 0 L, 0) := by
    unfold joinV
    rw [if_pos ⟨hC, h1.1, h1.2, by rw [Int.toNat_natCast, hM]; exact h2, fun j hj1 hj2 => by
      rw [Int.toNat_natCast] at hj1 hj2 ⊢
      rw [hS] at hj2 ⊢
      exact hI j hj1 hj2⟩, Int.toNat_natCast, Int.toNat_natCast, hS]
  rw [hv]
  repeat' (first | apply HL.fold | apply HA.fold | apply HL.nil | apply HX.n_then | apply HC.seq | apply HC.region | refine HL.pa ?_ | refine HL.ga rfl ?_ | refine HL.na rfl ?_ | refine HL.nu rfl rfl ?_ | apply HC.block | apply HC.skip | apply HC.exit | apply HC.ret | apply HX.e_block | refine HX.e_other rfl ?_ | apply HX.e_then | apply HX.e_again | apply HX.n_block | apply HX.r_then | apply HX.r_block | apply HX.r_again | refine HC.cond_yes rfl ?_ | refine HC.cond_no rfl ?_ | refine HL.one (H1.ldb rfl memA rfl rfl ?_) | refine HC.cond rfl (fun hc => ?_) (fun hc => ?_) | refine HC.cond_b rfl (fun hc => ?_) (fun hc => ?_))
  exact HX.ret2 rfl rfl rfl fun w' hM => ⟨rfl, hM.ext⟩
end Go.Sx

