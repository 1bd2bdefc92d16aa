/- Chapter 17: completed. -/
import Derived.Test.YtionfblneloaiaaGreatDoorQB09
import Derived.Test.YtionfblneloaiaaGreatDoorRows
import Derived.ProofKit
import Derived.OpenShut
import Derived.LaidMore
import Derived.Lay
import Derived.SevenTiedAt
import Derived.Stop.Joined
import Derived.Deep.Onto
import Derived.Laws.IdiomArrays
import Derived.Carry
import Derived.Test.YtionfblneloaiaaGreatDoorTie
import Derived.Stop.LaidErr
import Derived.Lib.LaidTab
namespace Go.Sx
open Go Go.Proofs
attribute [local irreducible] WC WL WX POp Then Again Fn NX W1 WA WO QL RP RA Yld LoopAt
set_option maxHeartbeats 2000000 in
theorem completed_fn (vf vt : Value) (frs : List ByteArray) (th : List Bool) (k : Int) (_hl : frs.length ≤ 100) (hlt : th.length ≤ 100) (w : World) (hr : Red w) (hRf : Rd w vf (strs frs)) (hRt : Rd w vt (bools th)) :
    Fn Tryz.prog 85 #[vf, vt, .int .i64 k] w fun v w' => ∃ c b, v = .tuple #[c, .bool b] ∧ Ext w w' ∧ (b = true ↔ CompOK frs th k) ∧ (b = true → Rd w' c (strs ((List.range frs.length).map (cOut frs th k.toNat)))) := by
  have hlf : (strs frs).length = frs.length := by simp [strs]
  have hlt' : (bools th).length = th.length := by simp [bools]
  by_cases hC : isC k frs.length ∧ th.length = frs.length
  · obtain ⟨hC, hL⟩ := hC
    obtain ⟨k1, k2, k3⟩ := id hC
    obtain ⟨bf, off, c, rfl, hc, hb0, -⟩ := hRf.at (by intro e; rw [e] at hlf; simp at hlf; omega)
    obtain ⟨bt, offt, ct, rfl, hct, hbt, -⟩ := hRt.at (by intro e; rw [e] at hlt'; simp at hlt'; omega)
    rw [hlf] at hc hRf ⊢
    rw [hlt', hL] at hct hRt ⊢
    obtain ⟨K, rfl⟩ : ∃ K : Nat, k = (K : Int) := ⟨k.toNat, by omega⟩
    refine enter (l := [_, _, _]) rfl Tryz.ntmps85 rfl ?_
    repeat' (first | apply WL.fold | apply WA.fold | apply WL.nil | apply WX.n_then | apply WC.seq | apply WC.region | refine WL.pa ?_ | refine WL.ga rfl ?_ | refine WL.na rfl ?_ | refine WL.nu rfl rfl ?_ | apply WC.block | apply WC.skip | apply WC.exit | apply WC.ret | apply WX.e_block | refine WX.e_other rfl ?_ | apply WX.e_then | apply WX.e_again | apply WX.n_block | apply WX.r_then | apply WX.r_block | apply WX.r_again | refine WC.cond_yes rfl ?_ | refine WC.cond_no rfl ?_ | refine WC.cond rfl (fun hc => ?_) (fun hc => ?_) | refine WC.cond_b rfl (fun hc => ?_) (fun hc => ?_))
    refine WL.call rfl rfl (isCode_fn _ _ _) ?_
    rintro _ w1 ⟨rfl, rfl⟩
    simp only [hC, decide_true]
    repeat' (first | apply WL.fold | apply WA.fold | apply WL.nil | apply WX.n_then | apply WC.seq | apply WC.region | refine WL.pa ?_ | refine WL.ga rfl ?_ | refine WL.na rfl ?_ | refine WL.nu rfl rfl ?_ | apply WC.block | apply WC.skip | apply WC.exit | apply WC.ret | apply WX.e_block | refine WX.e_other rfl ?_ | apply WX.e_then | apply WX.e_again | apply WX.n_block | apply WX.r_then | apply WX.r_block | apply WX.r_again | refine WC.cond_yes rfl ?_ | refine WC.cond_no rfl ?_ | refine WC.cond rfl (fun hc => ?_) (fun hc => ?_) | refine WC.cond_b rfl (fun hc => ?_) (fun hc => ?_))
    refine WC.loop (α := Nat × Value) (fun z => [(0, .slice (some ⟨bf, off, none⟩) frs.length c), (1, .slice (some ⟨bt, offt, none⟩) frs.length ct), (2, iv K), (8, z.2), (30, .slice (some ⟨bt, offt, none⟩) frs.length ct), (31, iv frs.length), (32, iv z.1)])
      (fun z w' => z.1 ≤ frs.length ∧ Ext w w' ∧ w'.ownsRow w.heap.size 3 1 z.2 (tnums th z.1 K).length ((tnums th z.1 K).map iv)) (fun z => frs.length - z.1) (0, .slice none 0 0)
      ⟨rfl, rfl, rfl, rfl, rfl, rfl, rfl, trivial⟩ ⟨by simp, Ext.refl _, by simpa [tnums] using World.ownsRow_nil w w.heap.size 3 1⟩ ?_
    rintro ⟨i, v⟩ w1 ⟨hi, x1, hown⟩
    dsimp only at hi hown ⊢
    obtain ⟨av, cv, rfl⟩ := (Rd.of_owns hown).len
    rw [List.length_map] at hown ⊢
    have hlen1 := tnums_len th i K
    have hlen2 := tnums_len2 th i K
    by_cases hlti : i < frs.length
    · have hcell := (hRt.ext x1).cell (bools_get (i := i) (by omega))
      cases hb : tf th i with
      | false =>
        rw [hb] at hcell
        repeat' (first | apply WL.fold | apply WA.fold | apply WL.nil | apply WX.n_then | apply WC.seq | apply WC.region | refine WL.pa ?_ | refine WL.ga rfl ?_ | refine WL.na rfl ?_ | refine WL.nu rfl rfl ?_ | apply WC.block | apply WC.skip | apply WC.exit | apply WC.ret | apply WX.e_block | refine WX.e_other rfl ?_ | apply WX.e_then | apply WX.e_again | apply WX.n_block | apply WX.r_then | apply WX.r_block | apply WX.r_again | refine WC.cond_yes rfl ?_ | refine WC.cond_no rfl ?_ | refine WC.cond rfl (fun hc => ?_) (fun hc => ?_) | refine WC.cond_b rfl (fun hc => ?_) (fun hc => ?_))
        refine WL.load rfl hcell rfl ?_
        repeat' (first | apply WL.fold | apply WA.fold | apply WL.nil | apply WX.n_then | apply WC.seq | apply WC.region | refine WL.pa ?_ | refine WL.ga rfl ?_ | refine WL.na rfl ?_ | refine WL.nu rfl rfl ?_ | apply WC.block | apply WC.skip | apply WC.exit | apply WC.ret | apply WX.e_block | refine WX.e_other rfl ?_ | apply WX.e_then | apply WX.e_again | apply WX.n_block | apply WX.r_then | apply WX.r_block | apply WX.r_again | refine WC.cond_yes rfl ?_ | refine WC.cond_no rfl ?_ | refine WC.cond rfl (fun hc => ?_) (fun hc => ?_) | refine WC.cond_b rfl (fun hc => ?_) (fun hc => ?_))
        exact WX.again (i + 1, _) ⟨by show i + 1 ≤ _; omega, x1, by show World.ownsRow _ _ _ _ _ _ _; dsimp only; rw [tnums_skip hb]; exact hown⟩ (by show _ - (i + 1) < _ - i; omega) ⟨rfl, rfl, rfl, rfl, rfl, rfl, rfl, trivial⟩
      | true =>
        rw [hb] at hcell
        by_cases hroom : (tnums th i K).length < K
        · repeat' (first | apply WL.fold | apply WA.fold | apply WL.nil | apply WX.n_then | apply WC.seq | apply WC.region | refine WL.pa ?_ | refine WL.ga rfl ?_ | refine WL.na rfl ?_ | refine WL.nu rfl rfl ?_ | apply WC.block | apply WC.skip | apply WC.exit | apply WC.ret | apply WX.e_block | refine WX.e_other rfl ?_ | apply WX.e_then | apply WX.e_again | apply WX.n_block | apply WX.r_then | apply WX.r_block | apply WX.r_again | refine WC.cond_yes rfl ?_ | refine WC.cond_no rfl ?_ | refine WC.cond rfl (fun hc => ?_) (fun hc => ?_) | refine WC.cond_b rfl (fun hc => ?_) (fun hc => ?_))
          refine WL.load rfl hcell rfl ?_
          repeat' (first | apply WL.fold | apply WA.fold | apply WL.nil | apply WX.n_then | apply WC.seq | apply WC.region | refine WL.pa ?_ | refine WL.ga rfl ?_ | refine WL.na rfl ?_ | refine WL.nu rfl rfl ?_ | apply WC.block | apply WC.skip | apply WC.exit | apply WC.ret | apply WX.e_block | refine WX.e_other rfl ?_ | apply WX.e_then | apply WX.e_again | apply WX.n_block | apply WX.r_then | apply WX.r_block | apply WX.r_again | refine WC.cond_yes rfl ?_ | refine WC.cond_no rfl ?_ | refine WC.cond rfl (fun hc => ?_) (fun hc => ?_) | refine WC.cond_b rfl (fun hc => ?_) (fun hc => ?_))
          refine WL.one (W1.lit1' rfl rfl rfl rfl ?_)
          intro b8 w2 e2 s2 x2 k2
          repeat' (first | apply WL.fold | apply WA.fold | apply WL.nil | apply WX.n_then | apply WC.seq | apply WC.region | refine WL.pa ?_ | refine WL.ga rfl ?_ | refine WL.na rfl ?_ | refine WL.nu rfl rfl ?_ | apply WC.block | apply WC.skip | apply WC.exit | apply WC.ret | apply WX.e_block | refine WX.e_other rfl ?_ | apply WX.e_then | apply WX.e_again | apply WX.n_block | apply WX.r_then | apply WX.r_block | apply WX.r_again | refine WC.cond_yes rfl ?_ | refine WC.cond_no rfl ?_ | refine WC.cond rfl (fun hc => ?_) (fun hc => ?_) | refine WC.cond_b rfl (fun hc => ?_) (fun hc => ?_))
          refine WL.one (W1.append1o rfl rfl rfl (ownsRow_ext hown x2) (x1.trans x2) (k2.cell (i := 0) rfl) rfl (by omega) (by decide) rfl ?_)
          intro v' w3 hown' x3 _
          repeat' (first | apply WL.fold | apply WA.fold | apply WL.nil | apply WX.n_then | apply WC.seq | apply WC.region | refine WL.pa ?_ | refine WL.ga rfl ?_ | refine WL.na rfl ?_ | refine WL.nu rfl rfl ?_ | apply WC.block | apply WC.skip | apply WC.exit | apply WC.ret | apply WX.e_block | refine WX.e_other rfl ?_ | apply WX.e_then | apply WX.e_again | apply WX.n_block | apply WX.r_then | apply WX.r_block | apply WX.r_again | refine WC.cond_yes rfl ?_ | refine WC.cond_no rfl ?_ | refine WC.cond rfl (fun hc => ?_) (fun hc => ?_) | refine WC.cond_b rfl (fun hc => ?_) (fun hc => ?_))
          refine WX.again (i + 1, v') ⟨by show i + 1 ≤ _; omega, x3, ?_⟩ (by show _ - (i + 1) < _ - i; omega) ⟨rfl, rfl, rfl, rfl, rfl, rfl, rfl, trivial⟩
          dsimp only
          rw [tnums_add hb hroom, List.length_append, List.map_append]
          exact hown'
        · repeat' (first | apply WL.fold | apply WA.fold | apply WL.nil | apply WX.n_then | apply WC.seq | apply WC.region | refine WL.pa ?_ | refine WL.ga rfl ?_ | refine WL.na rfl ?_ | refine WL.nu rfl rfl ?_ | apply WC.block | apply WC.skip | apply WC.exit | apply WC.ret | apply WX.e_block | refine WX.e_other rfl ?_ | apply WX.e_then | apply WX.e_again | apply WX.n_block | apply WX.r_then | apply WX.r_block | apply WX.r_again | refine WC.cond_yes rfl ?_ | refine WC.cond_no rfl ?_ | refine WC.cond rfl (fun hc => ?_) (fun hc => ?_) | refine WC.cond_b rfl (fun hc => ?_) (fun hc => ?_))
          refine WL.load rfl hcell rfl ?_
          repeat' (first | apply WL.fold | apply WA.fold | apply WL.nil | apply WX.n_then | apply WC.seq | apply WC.region | refine WL.pa ?_ | refine WL.ga rfl ?_ | refine WL.na rfl ?_ | refine WL.nu rfl rfl ?_ | apply WC.block | apply WC.skip | apply WC.exit | apply WC.ret | apply WX.e_block | refine WX.e_other rfl ?_ | apply WX.e_then | apply WX.e_again | apply WX.n_block | apply WX.r_then | apply WX.r_block | apply WX.r_again | refine WC.cond_yes rfl ?_ | refine WC.cond_no rfl ?_ | refine WC.cond rfl (fun hc => ?_) (fun hc => ?_) | refine WC.cond_b rfl (fun hc => ?_) (fun hc => ?_))
          exact WX.again (i + 1, _) ⟨by show i + 1 ≤ _; omega, x1, by show World.ownsRow _ _ _ _ _ _ _; dsimp only; rw [tnums_full hroom]; exact hown⟩ (by show _ - (i + 1) < _ - i; omega) ⟨rfl, rfl, rfl, rfl, rfl, rfl, rfl, trivial⟩
    · obtain rfl : i = frs.length := by omega
      have hcN : tnums th frs.length K = cN th K := by unfold cN; rw [hL]
      rw [hcN] at hown hlen1 ⊢
      have hlenN : ∀ j ∈ cN th K, j < frs.length ∧ tf th j = true := fun j hj => by rw [← hL]; exact tnums_mem hj
      clear hcN
      by_cases hfull : (cN th K).length < K
      · repeat' (first | apply WL.fold | apply WA.fold | apply WL.nil | apply WX.n_then | apply WC.seq | apply WC.region | refine WL.pa ?_ | refine WL.ga rfl ?_ | refine WL.na rfl ?_ | refine WL.nu rfl rfl ?_ | apply WC.block | apply WC.skip | apply WC.exit | apply WC.ret | apply WX.e_block | refine WX.e_other rfl ?_ | apply WX.e_then | apply WX.e_again | apply WX.n_block | apply WX.r_then | apply WX.r_block | apply WX.r_again | refine WC.cond_yes rfl ?_ | refine WC.cond_no rfl ?_ | refine WC.cond rfl (fun hc => ?_) (fun hc => ?_) | refine WC.cond_b rfl (fun hc => ?_) (fun hc => ?_))
        refine WX.ret2 rfl rfl rfl ⟨_, _, rfl, x1, ⟨fun h => (by cases h), fun h => ?_⟩, fun h => (by cases h)⟩
        have := h.2.2.1
        rw [Int.toNat_natCast] at this
        omega
      · have hfl : (cN th K).length = K := by omega
        have hRn := Rd.of_owns hown
        have hneN : cN th K ≠ [] := by intro e; rw [e] at hfl; simp at hfl; omega
        obtain ⟨bn, offn, cn, hve, hcn, hbn, -⟩ := hRn.at (by simpa using hneN)
        rw [List.length_map] at hve hcn
        cases hve
        have hp0 := len_pos hneN
        have hi0 := (hlenN _ (nu_mem hp0)).1
        repeat' (first | apply WL.fold | apply WA.fold | apply WL.nil | apply WX.n_then | apply WC.seq | apply WC.region | refine WL.pa ?_ | refine WL.ga rfl ?_ | refine WL.na rfl ?_ | refine WL.nu rfl rfl ?_ | apply WC.block | apply WC.skip | apply WC.exit | apply WC.ret | apply WX.e_block | refine WX.e_other rfl ?_ | apply WX.e_then | apply WX.e_again | apply WX.n_block | apply WX.r_then | apply WX.r_block | apply WX.r_again | refine WC.cond_yes rfl ?_ | refine WC.cond_no rfl ?_ | refine WC.cond rfl (fun hc => ?_) (fun hc => ?_) | refine WC.cond_b rfl (fun hc => ?_) (fun hc => ?_))
        refine WL.load rfl (hRn.cell (i := 0) (u := iv (nu (cN th K) 0)) (by simp [nu_get hp0])) rfl ?_
        repeat' (first | apply WL.fold | apply WA.fold | apply WL.nil | apply WX.n_then | apply WC.seq | apply WC.region | refine WL.pa ?_ | refine WL.ga rfl ?_ | refine WL.na rfl ?_ | refine WL.nu rfl rfl ?_ | apply WC.block | apply WC.skip | apply WC.exit | apply WC.ret | apply WX.e_block | refine WX.e_other rfl ?_ | apply WX.e_then | apply WX.e_again | apply WX.n_block | apply WX.r_then | apply WX.r_block | apply WX.r_again | refine WC.cond_yes rfl ?_ | refine WC.cond_no rfl ?_ | refine WC.cond rfl (fun hc => ?_) (fun hc => ?_) | refine WC.cond_b rfl (fun hc => ?_) (fun hc => ?_))
        refine WL.load rfl ((hRf.ext x1).cell (strs_get hi0)) rfl ?_
        repeat' (first | apply WL.fold | apply WA.fold | apply WL.nil | apply WX.n_then | apply WC.seq | apply WC.region | refine WL.pa ?_ | refine WL.ga rfl ?_ | refine WL.na rfl ?_ | refine WL.nu rfl rfl ?_ | apply WC.block | apply WC.skip | apply WC.exit | apply WC.ret | apply WX.e_block | refine WX.e_other rfl ?_ | apply WX.e_then | apply WX.e_again | apply WX.n_block | apply WX.r_then | apply WX.r_block | apply WX.r_again | refine WC.cond_yes rfl ?_ | refine WC.cond_no rfl ?_ | refine WC.cond rfl (fun hc => ?_) (fun hc => ?_) | refine WC.cond_b rfl (fun hc => ?_) (fun hc => ?_))
        have hM : (fr frs (nu (cN th K) 0)).size = cM frs th K := rfl
        rw [hM]
        refine WC.loop (α := Nat) (fun i => [(0, .slice (some ⟨bf, off, none⟩) frs.length c), (1, .slice (some ⟨bt, offt, none⟩) frs.length ct), (2, iv K), (8, .slice (some ⟨bn, offn, none⟩) (cN th K).length cv), (11, iv (cM frs th K)),
            (60, .slice (some ⟨bf, off, none⟩) frs.length c), (61, iv frs.length), (62, iv i)])
          (fun i w' => i ≤ frs.length ∧ w1 = w' ∧ ∀ q, q < i → tf th q = true → (fr frs q).size = cM frs th K ∧ cM frs th K ≤ 4096) (fun i => frs.length - i) 0
          ⟨rfl, rfl, rfl, rfl, rfl, rfl, rfl, rfl, trivial⟩ ⟨by omega, rfl, fun q hq => by omega⟩ ?_
        rintro i _ ⟨hi, rfl, hok⟩
        by_cases hlti : i < frs.length
        · have hcell := (hRt.ext x1).cell (bools_get (i := i) (by omega))
          have hcellf := (hRf.ext x1).cell (strs_get hlti)
          have hno : ¬ ((fr frs i).size = cM frs th K ∧ cM frs th K ≤ 4096) → tf th i = true → ¬ CompOK frs th K := fun h1 h2 h3 => h1 (by have := h3.2.2.2.1 i hlti h2; rwa [Int.toNat_natCast] at this)
          have hstep : (tf th i = true → (fr frs i).size = cM frs th K ∧ cM frs th K ≤ 4096) → ∀ q, q < i + 1 → tf th q = true → (fr frs q).size = cM frs th K ∧ cM frs th K ≤ 4096 := fun h q hq ht => by
            by_cases e : q = i
            · subst e; exact h ht
            · exact hok q (by omega) ht
          cases hb : tf th i with
          | false =>
            rw [hb] at hcell hstep
            repeat' (first | apply WL.fold | apply WA.fold | apply WL.nil | apply WX.n_then | apply WC.seq | apply WC.region | refine WL.pa ?_ | refine WL.ga rfl ?_ | refine WL.na rfl ?_ | refine WL.nu rfl rfl ?_ | apply WC.block | apply WC.skip | apply WC.exit | apply WC.ret | apply WX.e_block | refine WX.e_other rfl ?_ | apply WX.e_then | apply WX.e_again | apply WX.n_block | apply WX.r_then | apply WX.r_block | apply WX.r_again | refine WC.cond_yes rfl ?_ | refine WC.cond_no rfl ?_ | refine WC.cond rfl (fun hc => ?_) (fun hc => ?_) | refine WC.cond_b rfl (fun hc => ?_) (fun hc => ?_))
            refine WL.load rfl hcellf rfl ?_
            repeat' (first | apply WL.fold | apply WA.fold | apply WL.nil | apply WX.n_then | apply WC.seq | apply WC.region | refine WL.pa ?_ | refine WL.ga rfl ?_ | refine WL.na rfl ?_ | refine WL.nu rfl rfl ?_ | apply WC.block | apply WC.skip | apply WC.exit | apply WC.ret | apply WX.e_block | refine WX.e_other rfl ?_ | apply WX.e_then | apply WX.e_again | apply WX.n_block | apply WX.r_then | apply WX.r_block | apply WX.r_again | refine WC.cond_yes rfl ?_ | refine WC.cond_no rfl ?_ | refine WC.cond rfl (fun hc => ?_) (fun hc => ?_) | refine WC.cond_b rfl (fun hc => ?_) (fun hc => ?_))
            refine WL.load rfl hcell rfl ?_
            repeat' (first | apply WL.fold | apply WA.fold | apply WL.nil | apply WX.n_then | apply WC.seq | apply WC.region | refine WL.pa ?_ | refine WL.ga rfl ?_ | refine WL.na rfl ?_ | refine WL.nu rfl rfl ?_ | apply WC.block | apply WC.skip | apply WC.exit | apply WC.ret | apply WX.e_block | refine WX.e_other rfl ?_ | apply WX.e_then | apply WX.e_again | apply WX.n_block | apply WX.r_then | apply WX.r_block | apply WX.r_again | refine WC.cond_yes rfl ?_ | refine WC.cond_no rfl ?_ | refine WC.cond rfl (fun hc => ?_) (fun hc => ?_) | refine WC.cond_b rfl (fun hc => ?_) (fun hc => ?_))
            exact WX.again (i + 1) ⟨by omega, rfl, hstep (fun h => by cases h)⟩ (by omega) ⟨rfl, rfl, rfl, rfl, rfl, rfl, rfl, rfl, trivial⟩
          | true =>
            rw [hb] at hcell hstep hno
            by_cases hsz : (fr frs i).size = cM frs th K
            · rw [hsz] at hno hstep
              by_cases h40 : cM frs th K ≤ 4096
              · repeat' (first | apply WL.fold | apply WA.fold | apply WL.nil | apply WX.n_then | apply WC.seq | apply WC.region | refine WL.pa ?_ | refine WL.ga rfl ?_ | refine WL.na rfl ?_ | refine WL.nu rfl rfl ?_ | apply WC.block | apply WC.skip | apply WC.exit | apply WC.ret | apply WX.e_block | refine WX.e_other rfl ?_ | apply WX.e_then | apply WX.e_again | apply WX.n_block | apply WX.r_then | apply WX.r_block | apply WX.r_again | refine WC.cond_yes rfl ?_ | refine WC.cond_no rfl ?_ | refine WC.cond rfl (fun hc => ?_) (fun hc => ?_) | refine WC.cond_b rfl (fun hc => ?_) (fun hc => ?_))
                refine WL.load rfl hcellf rfl ?_
                repeat' (first | apply WL.fold | apply WA.fold | apply WL.nil | apply WX.n_then | apply WC.seq | apply WC.region | refine WL.pa ?_ | refine WL.ga rfl ?_ | refine WL.na rfl ?_ | refine WL.nu rfl rfl ?_ | apply WC.block | apply WC.skip | apply WC.exit | apply WC.ret | apply WX.e_block | refine WX.e_other rfl ?_ | apply WX.e_then | apply WX.e_again | apply WX.n_block | apply WX.r_then | apply WX.r_block | apply WX.r_again | refine WC.cond_yes rfl ?_ | refine WC.cond_no rfl ?_ | refine WC.cond rfl (fun hc => ?_) (fun hc => ?_) | refine WC.cond_b rfl (fun hc => ?_) (fun hc => ?_))
                refine WL.load rfl hcell rfl ?_
                repeat' (first | apply WL.fold | apply WA.fold | apply WL.nil | apply WX.n_then | apply WC.seq | apply WC.region | refine WL.pa ?_ | refine WL.ga rfl ?_ | refine WL.na rfl ?_ | refine WL.nu rfl rfl ?_ | apply WC.block | apply WC.skip | apply WC.exit | apply WC.ret | apply WX.e_block | refine WX.e_other rfl ?_ | apply WX.e_then | apply WX.e_again | apply WX.n_block | apply WX.r_then | apply WX.r_block | apply WX.r_again | refine WC.cond_yes rfl ?_ | refine WC.cond_no rfl ?_ | refine WC.cond rfl (fun hc => ?_) (fun hc => ?_) | refine WC.cond_b rfl (fun hc => ?_) (fun hc => ?_))
                exact WX.again (i + 1) ⟨by omega, rfl, hstep (fun _ => ⟨rfl, h40⟩)⟩ (by omega) ⟨rfl, rfl, rfl, rfl, rfl, rfl, rfl, rfl, trivial⟩
              · repeat' (first | apply WL.fold | apply WA.fold | apply WL.nil | apply WX.n_then | apply WC.seq | apply WC.region | refine WL.pa ?_ | refine WL.ga rfl ?_ | refine WL.na rfl ?_ | refine WL.nu rfl rfl ?_ | apply WC.block | apply WC.skip | apply WC.exit | apply WC.ret | apply WX.e_block | refine WX.e_other rfl ?_ | apply WX.e_then | apply WX.e_again | apply WX.n_block | apply WX.r_then | apply WX.r_block | apply WX.r_again | refine WC.cond_yes rfl ?_ | refine WC.cond_no rfl ?_ | refine WC.cond rfl (fun hc => ?_) (fun hc => ?_) | refine WC.cond_b rfl (fun hc => ?_) (fun hc => ?_))
                refine WL.load rfl hcellf rfl ?_
                repeat' (first | apply WL.fold | apply WA.fold | apply WL.nil | apply WX.n_then | apply WC.seq | apply WC.region | refine WL.pa ?_ | refine WL.ga rfl ?_ | refine WL.na rfl ?_ | refine WL.nu rfl rfl ?_ | apply WC.block | apply WC.skip | apply WC.exit | apply WC.ret | apply WX.e_block | refine WX.e_other rfl ?_ | apply WX.e_then | apply WX.e_again | apply WX.n_block | apply WX.r_then | apply WX.r_block | apply WX.r_again | refine WC.cond_yes rfl ?_ | refine WC.cond_no rfl ?_ | refine WC.cond rfl (fun hc => ?_) (fun hc => ?_) | refine WC.cond_b rfl (fun hc => ?_) (fun hc => ?_))
                refine WL.load rfl hcell rfl ?_
                repeat' (first | apply WL.fold | apply WA.fold | apply WL.nil | apply WX.n_then | apply WC.seq | apply WC.region | refine WL.pa ?_ | refine WL.ga rfl ?_ | refine WL.na rfl ?_ | refine WL.nu rfl rfl ?_ | apply WC.block | apply WC.skip | apply WC.exit | apply WC.ret | apply WX.e_block | refine WX.e_other rfl ?_ | apply WX.e_then | apply WX.e_again | apply WX.n_block | apply WX.r_then | apply WX.r_block | apply WX.r_again | refine WC.cond_yes rfl ?_ | refine WC.cond_no rfl ?_ | refine WC.cond rfl (fun hc => ?_) (fun hc => ?_) | refine WC.cond_b rfl (fun hc => ?_) (fun hc => ?_))
                exact WX.ret2 rfl rfl rfl ⟨_, _, rfl, x1, ⟨fun h => (by cases h), fun h => absurd h (hno (fun h => h40 h.2) rfl)⟩, fun h => (by cases h)⟩
            · repeat' (first | apply WL.fold | apply WA.fold | apply WL.nil | apply WX.n_then | apply WC.seq | apply WC.region | refine WL.pa ?_ | refine WL.ga rfl ?_ | refine WL.na rfl ?_ | refine WL.nu rfl rfl ?_ | apply WC.block | apply WC.skip | apply WC.exit | apply WC.ret | apply WX.e_block | refine WX.e_other rfl ?_ | apply WX.e_then | apply WX.e_again | apply WX.n_block | apply WX.r_then | apply WX.r_block | apply WX.r_again | refine WC.cond_yes rfl ?_ | refine WC.cond_no rfl ?_ | refine WC.cond rfl (fun hc => ?_) (fun hc => ?_) | refine WC.cond_b rfl (fun hc => ?_) (fun hc => ?_))
              refine WL.load rfl hcellf rfl ?_
              repeat' (first | apply WL.fold | apply WA.fold | apply WL.nil | apply WX.n_then | apply WC.seq | apply WC.region | refine WL.pa ?_ | refine WL.ga rfl ?_ | refine WL.na rfl ?_ | refine WL.nu rfl rfl ?_ | apply WC.block | apply WC.skip | apply WC.exit | apply WC.ret | apply WX.e_block | refine WX.e_other rfl ?_ | apply WX.e_then | apply WX.e_again | apply WX.n_block | apply WX.r_then | apply WX.r_block | apply WX.r_again | refine WC.cond_yes rfl ?_ | refine WC.cond_no rfl ?_ | refine WC.cond rfl (fun hc => ?_) (fun hc => ?_) | refine WC.cond_b rfl (fun hc => ?_) (fun hc => ?_))
              refine WL.load rfl hcell rfl ?_
              repeat' (first | apply WL.fold | apply WA.fold | apply WL.nil | apply WX.n_then | apply WC.seq | apply WC.region | refine WL.pa ?_ | refine WL.ga rfl ?_ | refine WL.na rfl ?_ | refine WL.nu rfl rfl ?_ | apply WC.block | apply WC.skip | apply WC.exit | apply WC.ret | apply WX.e_block | refine WX.e_other rfl ?_ | apply WX.e_then | apply WX.e_again | apply WX.n_block | apply WX.r_then | apply WX.r_block | apply WX.r_again | refine WC.cond_yes rfl ?_ | refine WC.cond_no rfl ?_ | refine WC.cond rfl (fun hc => ?_) (fun hc => ?_) | refine WC.cond_b rfl (fun hc => ?_) (fun hc => ?_))
              exact WX.ret2 rfl rfl rfl ⟨_, _, rfl, x1, ⟨fun h => (by cases h), fun h => absurd h (hno (fun h => hsz h.1) rfl)⟩, fun h => (by cases h)⟩
        · obtain rfl : i = frs.length := by omega
          repeat' (first | apply WL.fold | apply WA.fold | apply WL.nil | apply WX.n_then | apply WC.seq | apply WC.region | refine WL.pa ?_ | refine WL.ga rfl ?_ | refine WL.na rfl ?_ | refine WL.nu rfl rfl ?_ | apply WC.block | apply WC.skip | apply WC.exit | apply WC.ret | apply WX.e_block | refine WX.e_other rfl ?_ | apply WX.e_then | apply WX.e_again | apply WX.n_block | apply WX.r_then | apply WX.r_block | apply WX.r_again | refine WC.cond_yes rfl ?_ | refine WC.cond_no rfl ?_ | refine WC.cond rfl (fun hc => ?_) (fun hc => ?_) | refine WC.cond_b rfl (fun hc => ?_) (fun hc => ?_))
          have hnums : ∀ i ∈ cN th K, i < 9 := fun i hi => by have := (hlenN i hi).1; omega
          refine WC.cutT (α := Nat × Nat × Nat) (fun z => [(0, .slice (some ⟨bf, off, none⟩) frs.length c), (1, .slice (some ⟨bt, offt, none⟩) frs.length ct), (2, iv K), (8, .slice (some ⟨bn, offn, none⟩) (cN th K).length cv),
              (14, .slice (some ⟨z.1, 0, none⟩) frs.length frs.length), (15, .func (.func 137) #[] #[.pointer (some ⟨z.2.1, 0, none⟩), .pointer (some ⟨z.2.2, 0, none⟩)])])
            (fun z w' => Ext w1 w' ∧ w1.heap.size ≤ z.1 ∧ Blk w' z.1 (row frs.length fun _ => .string (ByteArray.mk #[])) 9 ∧ Blk w' z.2.1 [.slice (some ⟨bn, offn, none⟩) (cN th K).length cv] 38 ∧ Blk w' z.2.2 (row 9 fun j => iv (belA (cN th K) j)) 155) ?_ ?_
          · refine WC.any rfl (fun w2 x2 _ => ?_)
            refine WA.pa 0 rfl ?_
            refine WA.pa 1 rfl ?_
            refine WA.pa 3 rfl ?_
            refine WA.all [2, 4] (by kernel_rfl) rfl ⟨⟨_, rfl, ?_⟩, ⟨_, rfl, ?_⟩, trivial⟩
            · refine WO.one (W1.make' rfl rfl rfl rfl rfl (Nat.le_refl _) (by omega) (by omega) rfl ?_)
              intro b3 w3 e3 s3 x3 k3
              apply WA.fold
              refine WA.all [4] (by kernel_rfl) rfl ⟨⟨_, rfl, ?_⟩, trivial⟩
              refine WO.one (W1.call rfl rfl (weights_fn _ (cN th K) hneN hnums _ (hr.ext (x1.trans (x2.trans x3))) (by omega) (hRn.ext (x2.trans x3))) ?_)
              rintro _ w4 ⟨b1, b2, rfl, x4, k5, k6⟩
              apply WA.fold
              refine WA.pa 5 rfl ?_
              refine WA.pa 6 rfl ?_
              apply WA.done (by kernel_rfl)
              exact WX.cut (b3, b1, b2) ⟨x2.trans (x3.trans x4), by show _ ≤ b3; have := x2.size; omega, by rw [← row_rep]; exact k3.ext x4, k5, k6⟩ ⟨rfl, rfl, rfl, rfl, rfl, rfl, trivial⟩
            · refine WO.one (W1.call rfl rfl (weights_fn _ (cN th K) hneN hnums _ (hr.ext (x1.trans x2)) (by omega) (hRn.ext x2)) ?_)
              rintro _ w4 ⟨b1, b2, rfl, x4, k5, k6⟩
              apply WA.fold
              refine WA.all [2] (by kernel_rfl) rfl ⟨⟨_, rfl, ?_⟩, trivial⟩
              refine WO.one (W1.make' rfl rfl rfl rfl rfl (Nat.le_refl _) (by omega) (by omega) rfl ?_)
              intro b3 w3 e3 s3 x3 k3
              apply WA.fold
              refine WA.pa 5 rfl ?_
              refine WA.pa 6 rfl ?_
              apply WA.done (by kernel_rfl)
              exact WX.cut (b3, b1, b2) ⟨x2.trans (x4.trans x3), by show _ ≤ b3; have := x2.size; have := x4.size; omega, by rw [← row_rep]; exact k3, k5.ext x3, k6.ext x3⟩ ⟨rfl, rfl, rfl, rfl, rfl, rfl, trivial⟩
          · rintro ⟨bo, b1, b2⟩ w2 ⟨x2, hbo, k3, k5, k6⟩
            dsimp only at hbo k3 k5 k6 ⊢
            have n1 : b1 ≠ bo := k5.ne k3 (by decide)
            have n2 : b2 ≠ bo := k6.ne k3 (by decide)
            have hm40 := (hok _ hi0 (hlenN _ (nu_mem hp0)).2).2
            repeat' (first | apply WL.fold | apply WA.fold | apply WL.nil | apply WX.n_then | apply WC.seq | apply WC.region | refine WL.pa ?_ | refine WL.ga rfl ?_ | refine WL.na rfl ?_ | refine WL.nu rfl rfl ?_ | apply WC.block | apply WC.skip | apply WC.exit | apply WC.ret | apply WX.e_block | refine WX.e_other rfl ?_ | apply WX.e_then | apply WX.e_again | apply WX.n_block | apply WX.r_then | apply WX.r_block | apply WX.r_again | refine WC.cond_yes rfl ?_ | refine WC.cond_no rfl ?_ | refine WC.cond rfl (fun hc => ?_) (fun hc => ?_) | refine WC.cond_b rfl (fun hc => ?_) (fun hc => ?_))
            refine WC.loop (α := Nat) (fun i => [(0, .slice (some ⟨bf, off, none⟩) frs.length c), (1, .slice (some ⟨bt, offt, none⟩) frs.length ct), (2, iv K), (8, .slice (some ⟨bn, offn, none⟩) (cN th K).length cv),
                (14, .slice (some ⟨bo, 0, none⟩) frs.length frs.length), (15, .func (.func 137) #[] #[.pointer (some ⟨b1, 0, none⟩), .pointer (some ⟨b2, 0, none⟩)]), (87, .slice (some ⟨bf, off, none⟩) frs.length c), (88, iv frs.length), (89, iv i)])
              (fun i w' => i ≤ frs.length ∧ Ext w1 w' ∧ Blk w' bo (row frs.length fun q => .string (if q < i then cOut frs th K q else ByteArray.mk #[])) 9 ∧ Blk w' b1 [.slice (some ⟨bn, offn, none⟩) (cN th K).length cv] 38 ∧
                Blk w' b2 (row 9 fun j => iv (belA (cN th K) j)) 155 ∧ ∀ q, q < i → tf th q = true → cOut frs th K q = fr frs q) (fun i => frs.length - i) 0
              ⟨rfl, rfl, rfl, rfl, rfl, rfl, rfl, rfl, rfl, trivial⟩ ⟨by omega, x2, by simpa using k3, k5, k6, fun q hq => by omega⟩ ?_
            clear x2 k3 k5 k6
            rintro i w3 ⟨hi, x3, k3, k5, k6, hmat⟩
            by_cases hlti : i < frs.length
            · have x03 := x1.trans x3
              have hcellf := (hRf.ext x03).cell (strs_get hlti)
              repeat' (first | apply WL.fold | apply WA.fold | apply WL.nil | apply WX.n_then | apply WC.seq | apply WC.region | refine WL.pa ?_ | refine WL.ga rfl ?_ | refine WL.na rfl ?_ | refine WL.nu rfl rfl ?_ | apply WC.block | apply WC.skip | apply WC.exit | apply WC.ret | apply WX.e_block | refine WX.e_other rfl ?_ | apply WX.e_then | apply WX.e_again | apply WX.n_block | apply WX.r_then | apply WX.r_block | apply WX.r_again | refine WC.cond_yes rfl ?_ | refine WC.cond_no rfl ?_ | refine WC.cond rfl (fun hc => ?_) (fun hc => ?_) | refine WC.cond_b rfl (fun hc => ?_) (fun hc => ?_))
              refine WL.load rfl hcellf rfl ?_
              repeat' (first | apply WL.fold | apply WA.fold | apply WL.nil | apply WX.n_then | apply WC.seq | apply WC.region | refine WL.pa ?_ | refine WL.ga rfl ?_ | refine WL.na rfl ?_ | refine WL.nu rfl rfl ?_ | apply WC.block | apply WC.skip | apply WC.exit | apply WC.ret | apply WX.e_block | refine WX.e_other rfl ?_ | apply WX.e_then | apply WX.e_again | apply WX.n_block | apply WX.r_then | apply WX.r_block | apply WX.r_again | refine WC.cond_yes rfl ?_ | refine WC.cond_no rfl ?_ | refine WC.cond rfl (fun hc => ?_) (fun hc => ?_) | refine WC.cond_b rfl (fun hc => ?_) (fun hc => ?_))
              refine WL.one (W1.callv rfl rfl rfl (weightsAt_fn i (by omega) _ (cN th K) hneN hnums _ (hr.ext x03) (by omega) (hRn.ext x3) b1 b2 k5 k6) ?_)
              rintro _ w4 ⟨rfl, x4⟩
              repeat' (first | apply WL.fold | apply WA.fold | apply WL.nil | apply WX.n_then | apply WC.seq | apply WC.region | refine WL.pa ?_ | refine WL.ga rfl ?_ | refine WL.na rfl ?_ | refine WL.nu rfl rfl ?_ | apply WC.block | apply WC.skip | apply WC.exit | apply WC.ret | apply WX.e_block | refine WX.e_other rfl ?_ | apply WX.e_then | apply WX.e_again | apply WX.n_block | apply WX.r_then | apply WX.r_block | apply WX.r_again | refine WC.cond_yes rfl ?_ | refine WC.cond_no rfl ?_ | refine WC.cond rfl (fun hc => ?_) (fun hc => ?_) | refine WC.cond_b rfl (fun hc => ?_) (fun hc => ?_))
              refine WL.call rfl rfl (computed_fn _ _ frs (cN th K) (wgtA (cN th K) i) (cM frs th K) hneN (fun q hq => (hlenN q hq).1) hnums (fun q hq => (hok q (hlenN q hq).1 (hlenN q hq).2).1) hm40 (by omega) ?_ w4 (hr.ext (x03.trans x4)) (hRf.ext (x03.trans x4)) (hRn.ext (x3.trans x4))) ?_
              · intro q; unfold wgtA; split
                · exact wgt_lt _ _ _
                · decide
              rintro _ w5 ⟨rfl, x5⟩
              have hval : cmpStr frs (cN th K) (wgtA (cN th K) i) (cM frs th K) = cOut frs th K i := rfl
              rw [hval]
              repeat' (first | apply WL.fold | apply WA.fold | apply WL.nil | apply WX.n_then | apply WC.seq | apply WC.region | refine WL.pa ?_ | refine WL.ga rfl ?_ | refine WL.na rfl ?_ | refine WL.nu rfl rfl ?_ | apply WC.block | apply WC.skip | apply WC.exit | apply WC.ret | apply WX.e_block | refine WX.e_other rfl ?_ | apply WX.e_then | apply WX.e_again | apply WX.n_block | apply WX.r_then | apply WX.r_block | apply WX.r_again | refine WC.cond_yes rfl ?_ | refine WC.cond_no rfl ?_ | refine WC.cond rfl (fun hc => ?_) (fun hc => ?_) | refine WC.cond_b rfl (fun hc => ?_) (fun hc => ?_))
              have x35 := x4.trans x5
              refine WL.one (W1.store' rfl rfl (by intro _ h; cases h) (by intro _ h; cases h) (k3.ext x35) (by rw [row_len]; omega) fun w6 u6 g3 => ?_)
              rw [row_set] at g3
              have g3' : Blk w6 bo (row frs.length fun q => .string (if q < i + 1 then cOut frs th K q else ByteArray.mk #[])) 9 := by
                refine (congrArg (fun l => Blk w6 bo l _) (row_congr fun q hq => ?_)).mp g3
                by_cases e : q = i
                · subst e; simp
                · have : (q < i + 1) = (q < i) := by simp only [eq_iff_iff]; omega
                  simp only [e, if_false, this]
              have x16 : Ext w1 w6 := u6.ext (x3.trans x35) hbo
              have g5 := (k5.ext x35).keep1 u6 n1
              have g6 := (k6.ext x35).keep1 u6 n2
              have hcell := (hRt.ext (x1.trans x16)).cell (bools_get (i := i) (by omega))
              have hcello : w6.cell? ⟨bo, i, none⟩ = some (.string (cOut frs th K i)) := g3'.cell (by rw [row_get _ hlti]; simp)
              repeat' (first | apply WL.fold | apply WA.fold | apply WL.nil | apply WX.n_then | apply WC.seq | apply WC.region | refine WL.pa ?_ | refine WL.ga rfl ?_ | refine WL.na rfl ?_ | refine WL.nu rfl rfl ?_ | apply WC.block | apply WC.skip | apply WC.exit | apply WC.ret | apply WX.e_block | refine WX.e_other rfl ?_ | apply WX.e_then | apply WX.e_again | apply WX.n_block | apply WX.r_then | apply WX.r_block | apply WX.r_again | refine WC.cond_yes rfl ?_ | refine WC.cond_no rfl ?_ | refine WC.cond rfl (fun hc => ?_) (fun hc => ?_) | refine WC.cond_b rfl (fun hc => ?_) (fun hc => ?_))
              cases hb : tf th i with
              | false =>
                rw [hb] at hcell
                refine WL.load rfl hcell rfl ?_
                repeat' (first | apply WL.fold | apply WA.fold | apply WL.nil | apply WX.n_then | apply WC.seq | apply WC.region | refine WL.pa ?_ | refine WL.ga rfl ?_ | refine WL.na rfl ?_ | refine WL.nu rfl rfl ?_ | apply WC.block | apply WC.skip | apply WC.exit | apply WC.ret | apply WX.e_block | refine WX.e_other rfl ?_ | apply WX.e_then | apply WX.e_again | apply WX.n_block | apply WX.r_then | apply WX.r_block | apply WX.r_again | refine WC.cond_yes rfl ?_ | refine WC.cond_no rfl ?_ | refine WC.cond rfl (fun hc => ?_) (fun hc => ?_) | refine WC.cond_b rfl (fun hc => ?_) (fun hc => ?_))
                refine WX.again (i + 1) ⟨by omega, x16, g3', g5, g6, fun q hq ht => ?_⟩ (by omega) ⟨rfl, rfl, rfl, rfl, rfl, rfl, rfl, rfl, rfl, trivial⟩
                by_cases e : q = i
                · subst e; rw [hb] at ht; cases ht
                · exact hmat q (by omega) ht
              | true =>
                rw [hb] at hcell
                by_cases heq : cOut frs th K i = fr frs i
                · refine WL.load rfl hcell rfl ?_
                  repeat' (first | apply WL.fold | apply WA.fold | apply WL.nil | apply WX.n_then | apply WC.seq | apply WC.region | refine WL.pa ?_ | refine WL.ga rfl ?_ | refine WL.na rfl ?_ | refine WL.nu rfl rfl ?_ | apply WC.block | apply WC.skip | apply WC.exit | apply WC.ret | apply WX.e_block | refine WX.e_other rfl ?_ | apply WX.e_then | apply WX.e_again | apply WX.n_block | apply WX.r_then | apply WX.r_block | apply WX.r_again | refine WC.cond_yes rfl ?_ | refine WC.cond_no rfl ?_ | refine WC.cond rfl (fun hc => ?_) (fun hc => ?_) | refine WC.cond_b rfl (fun hc => ?_) (fun hc => ?_))
                  refine WL.load rfl hcello rfl ?_
                  repeat' (first | apply WL.fold | apply WA.fold | apply WL.nil | apply WX.n_then | apply WC.seq | apply WC.region | refine WL.pa ?_ | refine WL.ga rfl ?_ | refine WL.na rfl ?_ | refine WL.nu rfl rfl ?_ | apply WC.block | apply WC.skip | apply WC.exit | apply WC.ret | apply WX.e_block | refine WX.e_other rfl ?_ | apply WX.e_then | apply WX.e_again | apply WX.n_block | apply WX.r_then | apply WX.r_block | apply WX.r_again | refine WC.cond_yes rfl ?_ | refine WC.cond_no rfl ?_ | refine WC.cond rfl (fun hc => ?_) (fun hc => ?_) | refine WC.cond_b rfl (fun hc => ?_) (fun hc => ?_))
                  · exact absurd heq ‹_›
                  · refine WX.again (i + 1) ⟨by omega, x16, g3', g5, g6, fun q hq ht => ?_⟩ (by omega) ⟨rfl, rfl, rfl, rfl, rfl, rfl, rfl, rfl, rfl, trivial⟩
                    by_cases e : q = i
                    · subst e; exact heq
                    · exact hmat q (by omega) ht
                · refine WL.load rfl hcell rfl ?_
                  repeat' (first | apply WL.fold | apply WA.fold | apply WL.nil | apply WX.n_then | apply WC.seq | apply WC.region | refine WL.pa ?_ | refine WL.ga rfl ?_ | refine WL.na rfl ?_ | refine WL.nu rfl rfl ?_ | apply WC.block | apply WC.skip | apply WC.exit | apply WC.ret | apply WX.e_block | refine WX.e_other rfl ?_ | apply WX.e_then | apply WX.e_again | apply WX.n_block | apply WX.r_then | apply WX.r_block | apply WX.r_again | refine WC.cond_yes rfl ?_ | refine WC.cond_no rfl ?_ | refine WC.cond rfl (fun hc => ?_) (fun hc => ?_) | refine WC.cond_b rfl (fun hc => ?_) (fun hc => ?_))
                  refine WL.load rfl hcello rfl ?_
                  repeat' (first | apply WL.fold | apply WA.fold | apply WL.nil | apply WX.n_then | apply WC.seq | apply WC.region | refine WL.pa ?_ | refine WL.ga rfl ?_ | refine WL.na rfl ?_ | refine WL.nu rfl rfl ?_ | apply WC.block | apply WC.skip | apply WC.exit | apply WC.ret | apply WX.e_block | refine WX.e_other rfl ?_ | apply WX.e_then | apply WX.e_again | apply WX.n_block | apply WX.r_then | apply WX.r_block | apply WX.r_again | refine WC.cond_yes rfl ?_ | refine WC.cond_no rfl ?_ | refine WC.cond rfl (fun hc => ?_) (fun hc => ?_) | refine WC.cond_b rfl (fun hc => ?_) (fun hc => ?_))
                  refine WX.ret2 rfl rfl rfl ⟨_, _, rfl, x1.trans x16, ⟨fun h => (by cases h), fun h => absurd (h.2.2.2.2 i hlti hb) ?_⟩, fun h => (by cases h)⟩
                  rw [Int.toNat_natCast]; exact heq
            · obtain rfl : i = frs.length := by omega
              repeat' (first | apply WL.fold | apply WA.fold | apply WL.nil | apply WX.n_then | apply WC.seq | apply WC.region | refine WL.pa ?_ | refine WL.ga rfl ?_ | refine WL.na rfl ?_ | refine WL.nu rfl rfl ?_ | apply WC.block | apply WC.skip | apply WC.exit | apply WC.ret | apply WX.e_block | refine WX.e_other rfl ?_ | apply WX.e_then | apply WX.e_again | apply WX.n_block | apply WX.r_then | apply WX.r_block | apply WX.r_again | refine WC.cond_yes rfl ?_ | refine WC.cond_no rfl ?_ | refine WC.cond rfl (fun hc => ?_) (fun hc => ?_) | refine WC.cond_b rfl (fun hc => ?_) (fun hc => ?_))
              refine WX.ret2 rfl rfl rfl ⟨_, _, rfl, x1.trans x3, ⟨fun _ => ⟨hC, hL, ?_, ?_, ?_⟩, fun _ => rfl⟩, fun _ => ?_⟩
              · rw [Int.toNat_natCast]; exact hfl
              · rw [Int.toNat_natCast]; exact hok
              · rw [Int.toNat_natCast]; exact hmat
              · rw [Int.toNat_natCast]
                have := Rd.of_row k3 (Nat.le_refl _) (Nat.le_refl _)
                refine (congrArg (Rd w3 _) ?_).mp this
                simp only [strs, List.map_map]
                apply List.map_congr_left
                intro q hq
                simp [List.mem_range.1 hq]
  · have hno : ¬ CompOK frs th k := fun h => hC ⟨h.1, h.2.1⟩
    obtain ⟨af, cf, rfl⟩ := hRf.len
    obtain ⟨at', ct, rfl⟩ := hRt.len
    rw [hlf, hlt']
    refine enter (l := [_, _, _]) rfl Tryz.ntmps85 rfl ?_
    repeat' (first | apply WL.fold | apply WA.fold | apply WL.nil | apply WX.n_then | apply WC.seq | apply WC.region | refine WL.pa ?_ | refine WL.ga rfl ?_ | refine WL.na rfl ?_ | refine WL.nu rfl rfl ?_ | apply WC.block | apply WC.skip | apply WC.exit | apply WC.ret | apply WX.e_block | refine WX.e_other rfl ?_ | apply WX.e_then | apply WX.e_again | apply WX.n_block | apply WX.r_then | apply WX.r_block | apply WX.r_again | refine WC.cond_yes rfl ?_ | refine WC.cond_no rfl ?_ | refine WC.cond rfl (fun hc => ?_) (fun hc => ?_) | refine WC.cond_b rfl (fun hc => ?_) (fun hc => ?_))
    refine WL.call rfl rfl (isCode_fn _ _ _) ?_
    rintro _ w1 ⟨rfl, rfl⟩
    by_cases hC1 : isC k frs.length
    · have hL : ¬ th.length = frs.length := fun h => hC ⟨hC1, h⟩
      simp only [hC1, decide_true]
      repeat' (first | apply WL.fold | apply WA.fold | apply WL.nil | apply WX.n_then | apply WC.seq | apply WC.region | refine WL.pa ?_ | refine WL.ga rfl ?_ | refine WL.na rfl ?_ | refine WL.nu rfl rfl ?_ | apply WC.block | apply WC.skip | apply WC.exit | apply WC.ret | apply WX.e_block | refine WX.e_other rfl ?_ | apply WX.e_then | apply WX.e_again | apply WX.n_block | apply WX.r_then | apply WX.r_block | apply WX.r_again | refine WC.cond_yes rfl ?_ | refine WC.cond_no rfl ?_ | refine WC.cond rfl (fun hc => ?_) (fun hc => ?_) | refine WC.cond_b rfl (fun hc => ?_) (fun hc => ?_))
      exact WX.ret2 rfl rfl rfl ⟨_, _, rfl, Ext.refl _, ⟨fun h => (by cases h), fun h => absurd h hno⟩, fun h => (by cases h)⟩
    · simp only [hC1, decide_false]
      repeat' (first | apply WL.fold | apply WA.fold | apply WL.nil | apply WX.n_then | apply WC.seq | apply WC.region | refine WL.pa ?_ | refine WL.ga rfl ?_ | refine WL.na rfl ?_ | refine WL.nu rfl rfl ?_ | apply WC.block | apply WC.skip | apply WC.exit | apply WC.ret | apply WX.e_block | refine WX.e_other rfl ?_ | apply WX.e_then | apply WX.e_again | apply WX.n_block | apply WX.r_then | apply WX.r_block | apply WX.r_again | refine WC.cond_yes rfl ?_ | refine WC.cond_no rfl ?_ | refine WC.cond rfl (fun hc => ?_) (fun hc => ?_) | refine WC.cond_b rfl (fun hc => ?_) (fun hc => ?_))
      exact WX.ret2 rfl rfl rfl ⟨_, _, rfl, Ext.refl _, ⟨fun h => (by cases h), fun h => absurd h hno⟩, fun h => (by cases h)⟩
end Go.Sx
/- Chapter 17: Fragment, Join. -/
namespace Go.Sx
open Go Go.Proofs
theorem join_fn (c : Nat) (b off : Nat) (l : List ByteArray) (w : World) (hR : Rd w (.slice (some ⟨b, off, none⟩) l.length c) (strs l)) (hb : b < w.heap.size) (hl : l.length ≤ 100) (hc : l.length ≤ c) (hs : (catS l).size ≤ 1000000) :
    Fn Tryz.prog 86 #[.slice (some ⟨b, off, none⟩) l.length c, .string (ByteArray.mk #[])] w fun v w' => v = .string (catS l) ∧ Ext w w' := by
  have hlen : (Lib.join (l.map (·.data.toList)) (ByteArray.mk #[]).data.toList).length = (catS l).size := by
    rw [← join_empty l]; rfl
  have := Tryz.strings_Join b off c l (ByteArray.mk #[]) w (fun j x hx => hR.cell (by simp [strs, hx])) hb (by omega) hc (by omega)
  refine Calls.mono this ?_
  rintro e w' ⟨rfl, h2⟩
  exact ⟨_, rfl, by rw [join_empty], h2⟩
theorem trim_fn (s : ByteArray) (w : World) (hs : s.size ≤ 1000000) :
    Fn Tryz.prog 87 #[.string s, .string (ByteArray.mk #[0])] w fun v w' => v = .string ⟨(Lib.trimB s.data.toList 0).toArray⟩ ∧ Ext w w' := by
  refine Calls.mono (Tryz.strings_Trim_one s 0 (by decide) w (by omega)) ?_
  rintro e w' ⟨rfl, h2⟩
  refine ⟨_, rfl, rfl, ?_⟩
  rcases h2 with rfl | rfl
  · exact Ext.refl _
  · exact Ext.drew _
attribute [local irreducible] WC WL WX POp Then Again Fn NX W1 WA WO QL RP RA Yld LoopAt
def noStr : ByteArray := ByteArray.mk #[]
set_option maxHeartbeats 2000000 in
theorem codeJoin_fn (vf vt : Value) (frs : List ByteArray) (th : List Bool) (k len : Int) (hl : frs.length ≤ 100) (hlt : th.length ≤ 100) (w : World) (hr : Red w) (hRf : Rd w vf (strs frs)) (hRt : Rd w vt (bools th)) :
    Fn Tryz.prog 41 #[vf, vt, .int .i64 k, .int .i64 len] w fun v w' => Ext w w' ∧ ((JoinOK frs th k len ∧ v = .tuple #[.string ((catO frs th k.toNat).extract 0 len.toNat), .int .i64 0]) ∨ (¬ JoinOK frs th k len ∧ v = .tuple #[.string noStr, .int .i64 170])) := by
  refine enter (l := [_, _, _, _]) rfl Tryz.ntmps41 rfl ?_
  repeat' (first | apply WL.fold | apply WA.fold | apply WL.nil | apply WX.n_then | apply WC.seq | apply WC.region | refine WL.pa ?_ | refine WL.ga rfl ?_ | refine WL.na rfl ?_ | refine WL.nu rfl rfl ?_ | apply WC.block | apply WC.skip | apply WC.exit | apply WC.ret | apply WX.e_block | refine WX.e_other rfl ?_ | apply WX.e_then | apply WX.e_again | apply WX.n_block | apply WX.r_then | apply WX.r_block | apply WX.r_again | refine WC.cond_yes rfl ?_ | refine WC.cond_no rfl ?_ | refine WC.cond rfl (fun hc => ?_) (fun hc => ?_) | refine WC.cond_b rfl (fun hc => ?_) (fun hc => ?_))
  refine WL.call rfl rfl (completed_fn _ _ frs th k hl hlt w hr hRf hRt) ?_
  rintro _ w1 ⟨c, b, rfl, x1, hiff, hRd⟩
  cases b with
  | false =>
    have hno : ¬ JoinOK frs th k len := fun h => by have := hiff.2 h.1; cases this
    repeat' (first | apply WL.fold | apply WA.fold | apply WL.nil | apply WX.n_then | apply WC.seq | apply WC.region | refine WL.pa ?_ | refine WL.ga rfl ?_ | refine WL.na rfl ?_ | refine WL.nu rfl rfl ?_ | apply WC.block | apply WC.skip | apply WC.exit | apply WC.ret | apply WX.e_block | refine WX.e_other rfl ?_ | apply WX.e_then | apply WX.e_again | apply WX.n_block | apply WX.r_then | apply WX.r_block | apply WX.r_again | refine WC.cond_yes rfl ?_ | refine WC.cond_no rfl ?_ | refine WC.cond rfl (fun hc => ?_) (fun hc => ?_) | refine WC.cond_b rfl (fun hc => ?_) (fun hc => ?_))
    apply WC.quiet (by kernel_rfl)
    repeat' (first | refine QL.pa ?_ | refine QL.ga rfl ?_ | refine QL.na rfl ?_ | refine QL.nu rfl ?_)
    refine QL.nil (fun w2 x2 => ?_)
    repeat' (first | apply WL.fold | apply WA.fold | apply WL.nil | apply WX.n_then | apply WC.seq | apply WC.region | refine WL.pa ?_ | refine WL.ga rfl ?_ | refine WL.na rfl ?_ | refine WL.nu rfl rfl ?_ | apply WC.block | apply WC.skip | apply WC.exit | apply WC.ret | apply WX.e_block | refine WX.e_other rfl ?_ | apply WX.e_then | apply WX.e_again | apply WX.n_block | apply WX.r_then | apply WX.r_block | apply WX.r_again | refine WC.cond_yes rfl ?_ | refine WC.cond_no rfl ?_ | refine WC.cond rfl (fun hc => ?_) (fun hc => ?_) | refine WC.cond_b rfl (fun hc => ?_) (fun hc => ?_))
    exact WX.ret2 rfl rfl rfl ⟨x1.trans x2, .inr ⟨hno, rfl⟩⟩
  | true =>
    have hOK := hiff.1 rfl
    have hRd := hRd rfl
    have hlen : (strs ((List.range frs.length).map (cOut frs th k.toNat))).length = frs.length := by simp [strs]
    obtain ⟨bo, off, cc, rfl, hcc, hbo, -⟩ := hRd.at (by intro e; rw [e] at hlen; have := hOK.1.1; have := hOK.1.2.1; simp at hlen; omega)
    rw [hlen] at hRd hcc ⊢
    obtain ⟨k1, k2, k3⟩ := hOK.1
    obtain ⟨K, rfl⟩ : ∃ K : Nat, k = (K : Int) := ⟨k.toNat, by omega⟩
    rw [Int.toNat_natCast] at hRd ⊢
    repeat' (first | apply WL.fold | apply WA.fold | apply WL.nil | apply WX.n_then | apply WC.seq | apply WC.region | refine WL.pa ?_ | refine WL.ga rfl ?_ | refine WL.na rfl ?_ | refine WL.nu rfl rfl ?_ | apply WC.block | apply WC.skip | apply WC.exit | apply WC.ret | apply WX.e_block | refine WX.e_other rfl ?_ | apply WX.e_then | apply WX.e_again | apply WX.n_block | apply WX.r_then | apply WX.r_block | apply WX.r_again | refine WC.cond_yes rfl ?_ | refine WC.cond_no rfl ?_ | refine WC.cond rfl (fun hc => ?_) (fun hc => ?_) | refine WC.cond_b rfl (fun hc => ?_) (fun hc => ?_))
    apply WC.quiet (by kernel_rfl)
    by_cases h1 : len < 0
    · repeat' (first | refine QL.pa ?_ | refine QL.ga rfl ?_ | refine QL.na rfl ?_ | refine QL.nu rfl ?_)
      refine QL.nil (fun w2 x2 => ?_)
      repeat' (first | apply WL.fold | apply WA.fold | apply WL.nil | apply WX.n_then | apply WC.seq | apply WC.region | refine WL.pa ?_ | refine WL.ga rfl ?_ | refine WL.na rfl ?_ | refine WL.nu rfl rfl ?_ | apply WC.block | apply WC.skip | apply WC.exit | apply WC.ret | apply WX.e_block | refine WX.e_other rfl ?_ | apply WX.e_then | apply WX.e_again | apply WX.n_block | apply WX.r_then | apply WX.r_block | apply WX.r_again | refine WC.cond_yes rfl ?_ | refine WC.cond_no rfl ?_ | refine WC.cond rfl (fun hc => ?_) (fun hc => ?_) | refine WC.cond_b rfl (fun hc => ?_) (fun hc => ?_))
      exact WX.ret2 rfl rfl rfl ⟨x1.trans x2, .inr ⟨fun h => by have := h.2.1; omega, rfl⟩⟩
    · by_cases h2 : len ≤ 4096 * K
      · repeat' (first | refine QL.pa ?_ | refine QL.ga rfl ?_ | refine QL.na rfl ?_ | refine QL.nu rfl ?_)
        refine QL.load rfl (hRd.cell (i := 0) (u := .string (cOut frs th K 0)) ?_) rfl ?_
        · have : 0 < frs.length := by omega
          simp [strs, this]
        repeat' (first | refine QL.pa ?_ | refine QL.ga rfl ?_ | refine QL.na rfl ?_ | refine QL.nu rfl ?_)
        refine QL.nil (fun w2 x2 => ?_)
        rw [cOut_size]
        have hpos : 0 < K := by omega
        obtain ⟨n, rfl⟩ : ∃ n : Nat, len = (n : Int) := ⟨len.toNat, by omega⟩
        by_cases h3 : (cM frs th K : Int) = (n + K - 1) / K
        · have hmOf : cM frs th K = mOf n K := by
            have e1 : (n : Int) + K - 1 = ((n + K - 1 : Nat) : Int) := by omega
            rw [e1, ← Int.natCast_ediv] at h3
            exact Int.natCast_inj.1 h3
          have hge : n ≤ K * cM frs th K := by rw [hmOf]; exact mOf_ge n hpos
          have hle := hOK.cM_le
          rw [Int.toNat_natCast] at hle
          have hsz := catO_size frs th K
          have hsm : K * cM frs th K ≤ 36864 := Nat.le_trans (Nat.mul_le_mul (show K ≤ 9 by omega) hle) (by decide)
          repeat' (first | apply WL.fold | apply WA.fold | apply WL.nil | apply WX.n_then | apply WC.seq | apply WC.region | refine WL.pa ?_ | refine WL.ga rfl ?_ | refine WL.na rfl ?_ | refine WL.nu rfl rfl ?_ | apply WC.block | apply WC.skip | apply WC.exit | apply WC.ret | apply WX.e_block | refine WX.e_other rfl ?_ | apply WX.e_then | apply WX.e_again | apply WX.n_block | apply WX.r_then | apply WX.r_block | apply WX.r_again | refine WC.cond_yes rfl ?_ | refine WC.cond_no rfl ?_ | refine WC.cond rfl (fun hc => ?_) (fun hc => ?_) | refine WC.cond_b rfl (fun hc => ?_) (fun hc => ?_))
          rw [Int.toNat_natCast]
          have hlK : ((List.range K).map (cOut frs th K)).length = K := by simp
          have hRK : Rd w2 (.slice (some ⟨bo, off, none⟩) K cc) (strs ((List.range K).map (cOut frs th K))) := by
            have := (hRd.ext x2).take (l := K) (by simp [strs]; omega)
            refine (congrArg (Rd w2 _) ?_).mp this
            simp only [strs]
            rw [← List.map_take, ← List.map_take, List.take_range, Nat.min_eq_left (by omega)]
          have hj := join_fn cc bo off ((List.range K).map (cOut frs th K)) w2 (by rw [hlK]; exact hRK) (Nat.lt_of_lt_of_le hbo x2.size) (by omega) (by omega) (by
            show (catO frs th K).size ≤ _
            omega)
          rw [hlK] at hj
          refine WL.call rfl rfl hj ?_
          rintro _ w3 ⟨rfl, x3⟩
          have hcat : catS ((List.range K).map (cOut frs th K)) = catO frs th K := rfl
          rw [hcat]
          repeat' (first | apply WL.fold | apply WA.fold | apply WL.nil | apply WX.n_then | apply WC.seq | apply WC.region | refine WL.pa ?_ | refine WL.ga rfl ?_ | refine WL.na rfl ?_ | refine WL.nu rfl rfl ?_ | apply WC.block | apply WC.skip | apply WC.exit | apply WC.ret | apply WX.e_block | refine WX.e_other rfl ?_ | apply WX.e_then | apply WX.e_again | apply WX.n_block | apply WX.r_then | apply WX.r_block | apply WX.r_again | refine WC.cond_yes rfl ?_ | refine WC.cond_no rfl ?_ | refine WC.cond rfl (fun hc => ?_) (fun hc => ?_) | refine WC.cond_b rfl (fun hc => ?_) (fun hc => ?_))
          rw [Int.toNat_natCast]
          refine WL.call rfl rfl (trim_fn _ _ ?_) ?_
          · rw [ByteArray.size_extract]; omega
          rintro _ w4 ⟨rfl, x4⟩
          have x04 := x1.trans (x2.trans (x3.trans x4))
          have htz := tail_zero (catO frs th K) n (by omega)
          by_cases htail : (⟨(Lib.trimB ((catO frs th K).extract n (catO frs th K).size).data.toList 0).toArray⟩ : ByteArray) = ByteArray.mk #[]
          · have hz := htz.1 ((trim_nil _ _).1 ((ba_empty _).1 htail))
            repeat' (first | apply WL.fold | apply WA.fold | apply WL.nil | apply WX.n_then | apply WC.seq | apply WC.region | refine WL.pa ?_ | refine WL.ga rfl ?_ | refine WL.na rfl ?_ | refine WL.nu rfl rfl ?_ | apply WC.block | apply WC.skip | apply WC.exit | apply WC.ret | apply WX.e_block | refine WX.e_other rfl ?_ | apply WX.e_then | apply WX.e_again | apply WX.n_block | apply WX.r_then | apply WX.r_block | apply WX.r_again | refine WC.cond_yes rfl ?_ | refine WC.cond_no rfl ?_ | refine WC.cond rfl (fun hc => ?_) (fun hc => ?_) | refine WC.cond_b rfl (fun hc => ?_) (fun hc => ?_))
            · exact absurd htail ‹_›
            · refine WX.ret2 rfl rfl rfl ⟨x04, .inl ⟨⟨hOK, by omega, h2, ?_, ?_⟩, rfl⟩⟩
              · rw [Int.toNat_natCast]; exact h3
              · rw [Int.toNat_natCast, Int.toNat_natCast]; exact hz
          · repeat' (first | apply WL.fold | apply WA.fold | apply WL.nil | apply WX.n_then | apply WC.seq | apply WC.region | refine WL.pa ?_ | refine WL.ga rfl ?_ | refine WL.na rfl ?_ | refine WL.nu rfl rfl ?_ | apply WC.block | apply WC.skip | apply WC.exit | apply WC.ret | apply WX.e_block | refine WX.e_other rfl ?_ | apply WX.e_then | apply WX.e_again | apply WX.n_block | apply WX.r_then | apply WX.r_block | apply WX.r_again | refine WC.cond_yes rfl ?_ | refine WC.cond_no rfl ?_ | refine WC.cond rfl (fun hc => ?_) (fun hc => ?_) | refine WC.cond_b rfl (fun hc => ?_) (fun hc => ?_))
            refine WX.ret2 rfl rfl rfl ⟨x04, .inr ⟨fun h => ?_, rfl⟩⟩
            have h5 := h.2.2.2.2
            rw [Int.toNat_natCast, Int.toNat_natCast] at h5
            exact htail ((ba_empty _).2 ((trim_nil _ _).2 (htz.2 h5)))
        · repeat' (first | apply WL.fold | apply WA.fold | apply WL.nil | apply WX.n_then | apply WC.seq | apply WC.region | refine WL.pa ?_ | refine WL.ga rfl ?_ | refine WL.na rfl ?_ | refine WL.nu rfl rfl ?_ | apply WC.block | apply WC.skip | apply WC.exit | apply WC.ret | apply WX.e_block | refine WX.e_other rfl ?_ | apply WX.e_then | apply WX.e_again | apply WX.n_block | apply WX.r_then | apply WX.r_block | apply WX.r_again | refine WC.cond_yes rfl ?_ | refine WC.cond_no rfl ?_ | refine WC.cond rfl (fun hc => ?_) (fun hc => ?_) | refine WC.cond_b rfl (fun hc => ?_) (fun hc => ?_))
          refine WX.ret2 rfl rfl rfl ⟨x1.trans x2, .inr ⟨fun h => h3 ?_, rfl⟩⟩
          have := h.2.2.2.1
          rwa [Int.toNat_natCast] at this
      · repeat' (first | refine QL.pa ?_ | refine QL.ga rfl ?_ | refine QL.na rfl ?_ | refine QL.nu rfl ?_)
        refine QL.nil (fun w2 x2 => ?_)
        repeat' (first | apply WL.fold | apply WA.fold | apply WL.nil | apply WX.n_then | apply WC.seq | apply WC.region | refine WL.pa ?_ | refine WL.ga rfl ?_ | refine WL.na rfl ?_ | refine WL.nu rfl rfl ?_ | apply WC.block | apply WC.skip | apply WC.exit | apply WC.ret | apply WX.e_block | refine WX.e_other rfl ?_ | apply WX.e_then | apply WX.e_again | apply WX.n_block | apply WX.r_then | apply WX.r_block | apply WX.r_again | refine WC.cond_yes rfl ?_ | refine WC.cond_no rfl ?_ | refine WC.cond rfl (fun hc => ?_) (fun hc => ?_) | refine WC.cond_b rfl (fun hc => ?_) (fun hc => ?_))
        exact WX.ret2 rfl rfl rfl ⟨x1.trans x2, .inr ⟨fun h => h2 h.2.2.1, rfl⟩⟩
end Go.Sx
/- Plain: the numbers of chapter 17 are a field. -/
namespace Go.Sx
theorem red_lin : ∀ i, i < 16 → ∀ j, j < 16 → redL.getD (i ^^^ j) 0 = redL.getD i 0 ^^^ redL.getD j 0 := by decide +kernel
theorem bit_xor (b c i : Nat) : ((b ^^^ c) >>> i) &&& 1 = ((b >>> i) &&& 1) ^^^ ((c >>> i) &&& 1) := by
  rw [Nat.shiftRight_xor_distrib, Nat.and_xor_distrib_right]
theorem bit_01 (b i : Nat) : (b >>> i) &&& 1 = 0 ∨ (b >>> i) &&& 1 = 1 := by
  have := Nat.and_one_is_mod (b >>> i)
  omega
theorem fewP_lin_b (a b c : Nat) : ∀ i, fewP a (b ^^^ c) i = fewP a b i ^^^ fewP a c i
  | 0 => by simp [fewP]
  | i + 1 => by
    unfold fewP
    rw [bit_xor, fewP_lin_b a b c i]
    generalize fewP a b i = X
    generalize fewP a c i = Y
    generalize a <<< i = Z
    rcases bit_01 b i with h1 | h1 <;> rcases bit_01 c i with h2 | h2 <;> rw [h1, h2]
    · simp
    · simp [Nat.xor_assoc]
    · simp only [Nat.xor_zero, if_true]
      have : (0 : Nat) = 1 ↔ False := by decide
      simp only [this, if_false]
      rw [Nat.xor_assoc, Nat.xor_assoc, Nat.xor_comm Y Z]
    · simp only [Nat.xor_self, if_true]
      have : (0 : Nat) = 1 ↔ False := by decide
      simp only [this, if_false]
      rw [Nat.xor_assoc X Z, ← Nat.xor_assoc Z Y Z, Nat.xor_comm Z Y, Nat.xor_assoc Y Z Z, Nat.xor_self, Nat.xor_zero]
theorem fewP_lin_a (a d b : Nat) : ∀ i, fewP (a ^^^ d) b i = fewP a b i ^^^ fewP d b i
  | 0 => by simp [fewP]
  | i + 1 => by
    unfold fewP
    rw [fewP_lin_a a d b i, Nat.shiftLeft_xor_distrib]
    split
    · generalize fewP a b i = X
      generalize fewP d b i = Y
      rw [Nat.xor_assoc, Nat.xor_assoc, ← Nat.xor_assoc Y, Nat.xor_comm Y, Nat.xor_assoc (a <<< i)]
    · rfl
theorem low_lin (p q : Nat) (hp : p < 4096) (hq : q < 4096) : ((p ^^^ q) &&& 255) ^^^ redL.getD ((p ^^^ q) >>> 8) 0 = ((p &&& 255) ^^^ redL.getD (p >>> 8) 0) ^^^ ((q &&& 255) ^^^ redL.getD (q >>> 8) 0) := by
  rw [Nat.shiftRight_xor_distrib, Nat.and_xor_distrib_right, red_lin _ (by rw [Nat.shiftRight_eq_div_pow]; omega) _ (by rw [Nat.shiftRight_eq_div_pow]; omega)]
  generalize p &&& 255 = A
  generalize q &&& 255 = B
  generalize redL.getD (p >>> 8) 0 = C
  generalize redL.getD (q >>> 8) 0 = D
  rw [Nat.xor_assoc, Nat.xor_assoc, ← Nat.xor_assoc B, Nat.xor_comm B, Nat.xor_assoc C]
theorem fewN_lin_b {a b c : Nat} (ha : a < 256) : fewN a (b ^^^ c) = fewN a b ^^^ fewN a c := by
  unfold fewN
  rw [fewP_lin_b, low_lin _ _ (fewP_lt ha 4 (Nat.le_refl _)) (fewP_lt ha 4 (Nat.le_refl _))]
theorem fewN_lin_a {a d b : Nat} (ha : a < 256) (hd : d < 256) : fewN (a ^^^ d) b = fewN a b ^^^ fewN d b := by
  unfold fewN
  rw [fewP_lin_a, low_lin _ _ (fewP_lt ha 4 (Nat.le_refl _)) (fewP_lt hd 4 (Nat.le_refl _))]
theorem sixteenN_lin {a b : Nat} (ha : a < 256) (hb : b < 256) : sixteenN (a ^^^ b) = sixteenN a ^^^ sixteenN b := by
  unfold sixteenN
  rw [Nat.shiftLeft_xor_distrib, Nat.shiftRight_xor_distrib, Nat.and_xor_distrib_right, red_lin _ (by rw [Nat.shiftRight_eq_div_pow]; omega) _ (by rw [Nat.shiftRight_eq_div_pow]; omega)]
  generalize (a <<< 4) &&& 255 = A
  generalize (b <<< 4) &&& 255 = B
  generalize redL.getD (a >>> 4) 0 = C
  generalize redL.getD (b >>> 4) 0 = D
  rw [Nat.xor_assoc, Nat.xor_assoc, ← Nat.xor_assoc B, Nat.xor_comm B, Nat.xor_assoc C]
theorem xor4 (A B C D : Nat) : (A ^^^ B) ^^^ (C ^^^ D) = (A ^^^ C) ^^^ (B ^^^ D) := by
  rw [Nat.xor_assoc, Nat.xor_assoc, ← Nat.xor_assoc B, Nat.xor_comm B, Nat.xor_assoc C]
theorem mul_add {a b c : Nat} (ha : a < 256) : mulN a (b ^^^ c) = mulN a b ^^^ mulN a c := by
  unfold mulN
  rw [Nat.and_xor_distrib_right, Nat.shiftRight_xor_distrib, fewN_lin_b ha, fewN_lin_b ha, sixteenN_lin fewN_lt fewN_lt, xor4]
theorem add_mul {a d b : Nat} (ha : a < 256) (hd : d < 256) : mulN (a ^^^ d) b = mulN a b ^^^ mulN d b := by
  unfold mulN
  rw [fewN_lin_a ha hd, fewN_lin_a ha hd, sixteenN_lin fewN_lt fewN_lt, xor4]
theorem mul_zero {a : Nat} (ha : a < 256) : mulN a 0 = 0 := by
  have := mul_add (b := 0) (c := 0) ha
  rw [Nat.xor_self, Nat.xor_self] at this
  exact this
theorem zero_mul (b : Nat) : mulN 0 b = 0 := by
  have := add_mul (a := 0) (d := 0) (b := b) (by decide) (by decide)
  rw [Nat.xor_self, Nat.xor_self] at this
  exact this
/-- A number by its bits. -/
theorem bits8 : ∀ x, x < 256 → x = (x &&& 1) ^^^ ((x &&& 2) ^^^ ((x &&& 4) ^^^ ((x &&& 8) ^^^ ((x &&& 16) ^^^ ((x &&& 32) ^^^ ((x &&& 64) ^^^ (x &&& 128))))))) := by decide +kernel
theorem bit8 : ∀ x, x < 256 → ∀ i, i < 8 → x &&& 2 ^ i = 0 ∨ x &&& 2 ^ i = 2 ^ i := by decide +kernel
/-- Two maps that keep sums are one if they agree at eight numbers. -/
theorem lin_ext {f g : Nat → Nat} (hf : ∀ x y, x < 256 → y < 256 → f (x ^^^ y) = f x ^^^ f y) (hg : ∀ x y, x < 256 → y < 256 → g (x ^^^ y) = g x ^^^ g y)
    (h : ∀ i, i < 8 → f (2 ^ i) = g (2 ^ i)) (x : Nat) (hx : x < 256) : f x = g x := by
  have f0 : f 0 = 0 := by have := hf 0 0 (by decide) (by decide); rwa [Nat.xor_self, Nat.xor_self] at this
  have g0 : g 0 = 0 := by have := hg 0 0 (by decide) (by decide); rwa [Nat.xor_self, Nat.xor_self] at this
  have hb : ∀ i, i < 8 → f (x &&& 2 ^ i) = g (x &&& 2 ^ i) := fun i hi => by
    rcases bit8 x hx i hi with e | e <;> rw [e]
    · rw [f0, g0]
    · exact h i hi
  have hlt : ∀ n, x &&& n < 256 := fun n => Nat.lt_of_le_of_lt Nat.and_le_left hx
  have hxl : ∀ a b, a < 256 → b < 256 → a ^^^ b < 256 := fun a b ha hb => Nat.xor_lt_two_pow (n := 8) ha hb
  have e := bits8 x hx
  have l7 := hlt 128
  have l6 := hxl _ _ (hlt 64) l7
  have l5 := hxl _ _ (hlt 32) l6
  have l4 := hxl _ _ (hlt 16) l5
  have l3 := hxl _ _ (hlt 8) l4
  have l2 := hxl _ _ (hlt 4) l3
  have l1 := hxl _ _ (hlt 2) l2
  rw [e, hf _ _ (hlt 1) l1, hf _ _ (hlt 2) l2, hf _ _ (hlt 4) l3, hf _ _ (hlt 8) l4, hf _ _ (hlt 16) l5, hf _ _ (hlt 32) l6, hf _ _ (hlt 64) l7,
    hg _ _ (hlt 1) l1, hg _ _ (hlt 2) l2, hg _ _ (hlt 4) l3, hg _ _ (hlt 8) l4, hg _ _ (hlt 16) l5, hg _ _ (hlt 32) l6, hg _ _ (hlt 64) l7]
  rw [show f (x &&& 1) = g (x &&& 1) from hb 0 (by decide), show f (x &&& 2) = g (x &&& 2) from hb 1 (by decide), show f (x &&& 4) = g (x &&& 4) from hb 2 (by decide), show f (x &&& 8) = g (x &&& 8) from hb 3 (by decide),
    show f (x &&& 16) = g (x &&& 16) from hb 4 (by decide), show f (x &&& 32) = g (x &&& 32) from hb 5 (by decide), show f (x &&& 64) = g (x &&& 64) from hb 6 (by decide), show f (x &&& 128) = g (x &&& 128) from hb 7 (by decide)]
theorem pow8 : ∀ i, i < 8 → 2 ^ i < 256 := by decide
theorem comm_base : ∀ i, i < 8 → ∀ j, j < 8 → mulN (2 ^ i) (2 ^ j) = mulN (2 ^ j) (2 ^ i) := by decide +kernel
theorem assoc_base : ∀ i, i < 8 → ∀ j, j < 8 → ∀ k, k < 8 → mulN (mulN (2 ^ i) (2 ^ j)) (2 ^ k) = mulN (2 ^ i) (mulN (2 ^ j) (2 ^ k)) := by decide +kernel
theorem one_base : ∀ i, i < 8 → mulN (2 ^ i) 1 = 2 ^ i := by decide +kernel
theorem mul_comm {a b : Nat} (ha : a < 256) (hb : b < 256) : mulN a b = mulN b a :=
  lin_ext (f := fun x => mulN x b) (g := fun x => mulN b x) (fun _ _ hx hy => add_mul hx hy) (fun _ _ _ _ => mul_add hb)
    (fun i hi => lin_ext (f := fun y => mulN (2 ^ i) y) (g := fun y => mulN y (2 ^ i)) (fun _ _ _ _ => mul_add (pow8 i hi)) (fun _ _ hx hy => add_mul hx hy) (fun j hj => comm_base i hi j hj) b hb) a ha
theorem mul_assoc {a b c : Nat} (ha : a < 256) (hb : b < 256) (hc : c < 256) : mulN (mulN a b) c = mulN a (mulN b c) := by
  refine lin_ext (f := fun x => mulN (mulN x b) c) (g := fun x => mulN x (mulN b c)) (fun x y hx hy => ?_) (fun _ _ hx hy => add_mul hx hy) (fun i hi => ?_) a ha
  · show mulN (mulN (x ^^^ y) b) c = _
    rw [add_mul hx hy, add_mul mulN_lt mulN_lt]
  refine lin_ext (f := fun x => mulN (mulN (2 ^ i) x) c) (g := fun x => mulN (2 ^ i) (mulN x c)) (fun x y _ _ => ?_) (fun x y hx hy => ?_) (fun j hj => ?_) b hb
  · show mulN (mulN _ (x ^^^ y)) c = _
    rw [mul_add (pow8 i hi), add_mul mulN_lt mulN_lt]
  · show mulN _ (mulN (x ^^^ y) c) = _
    rw [add_mul hx hy, mul_add (pow8 i hi)]
  refine lin_ext (f := fun x => mulN (mulN (2 ^ i) (2 ^ j)) x) (g := fun x => mulN (2 ^ i) (mulN (2 ^ j) x)) (fun _ _ _ _ => mul_add mulN_lt) (fun x y _ _ => ?_) (fun k hk => assoc_base i hi j hj k hk) c hc
  show mulN _ (mulN _ (x ^^^ y)) = _
  rw [mul_add (pow8 j hj), mul_add (pow8 i hi)]
theorem mul_one {a : Nat} (ha : a < 256) : mulN a 1 = a :=
  lin_ext (f := fun x => mulN x 1) (g := fun x => x) (fun _ _ hx hy => add_mul hx hy) (fun _ _ _ _ => rfl) one_base a ha
theorem one_mul {a : Nat} (ha : a < 256) : mulN 1 a = a := by rw [mul_comm (by decide) ha, mul_one ha]
theorem mul_inv : ∀ a, a < 256 → 0 < a → mulN a (invN a) = 1 := by decide +kernel
theorem mul_left_cancel {a b c : Nat} (ha : a < 256) (h0 : 0 < a) (hb : b < 256) (hc : c < 256) (h : mulN a b = mulN a c) : b = c := by
  have h1 := mul_inv a ha h0
  have hi := invN_lt ha
  have key : ∀ x, x < 256 → mulN (invN a) (mulN a x) = x := fun x hx => by
    rw [← mul_assoc hi ha hx, mul_comm hi ha, h1, one_mul hx]
  rw [← key b hb, h, key c hc]
theorem mul_eq_zero {a b : Nat} (ha : a < 256) (hb : b < 256) (h : mulN a b = 0) : a = 0 ∨ b = 0 := by
  rcases Nat.eq_zero_or_pos a with e | e
  · exact .inl e
  · exact .inr (mul_left_cancel ha e hb (by decide) (by rw [h, mul_zero ha]))
end Go.Sx
/- Plain: polynomials over the numbers of chapter 17; the interpolation. -/
namespace Go.Sx
/-- A number of the field. -/
structure F where
  n : Nat
  lt : n < 256
namespace F
theorem ext' {a b : F} (h : a.n = b.n) : a = b := by cases a; cases b; cases h; rfl
instance : DecidableEq F := fun a b => if h : a.n = b.n then .isTrue (ext' h) else .isFalse fun e => h (by rw [e])
instance : Add F := ⟨fun a b => ⟨a.n ^^^ b.n, Nat.xor_lt_two_pow (n := 8) a.lt b.lt⟩⟩
instance : Mul F := ⟨fun a b => ⟨mulN a.n b.n, mulN_lt⟩⟩
def zero : F := ⟨0, by decide⟩
def one : F := ⟨1, by decide⟩
def inv (a : F) : F := ⟨invN a.n, invN_lt a.lt⟩
theorem add_n (a b : F) : (a + b).n = a.n ^^^ b.n := rfl
theorem mul_n (a b : F) : (a * b).n = mulN a.n b.n := rfl
theorem add_comm (a b : F) : a + b = b + a := ext' (Nat.xor_comm _ _)
theorem add_assoc (a b c : F) : a + b + c = a + (b + c) := ext' (Nat.xor_assoc _ _ _)
theorem add_left_comm (a b c : F) : a + (b + c) = b + (a + c) := by rw [← add_assoc, add_comm a b, add_assoc]
theorem add_self (a : F) : a + a = zero := ext' (Nat.xor_self _)
theorem add_zero (a : F) : a + zero = a := ext' (Nat.xor_zero _)
theorem zero_add (a : F) : zero + a = a := ext' (Nat.zero_xor _)
theorem add_self_left (a b : F) : a + (a + b) = b := by rw [← add_assoc, add_self, zero_add]
theorem mul_comm (a b : F) : a * b = b * a := ext' (Go.Sx.mul_comm a.lt b.lt)
theorem mul_assoc (a b c : F) : a * b * c = a * (b * c) := ext' (Go.Sx.mul_assoc a.lt b.lt c.lt)
theorem mul_left_comm (a b c : F) : a * (b * c) = b * (a * c) := by rw [← mul_assoc, mul_comm a b, mul_assoc]
theorem mul_add (a b c : F) : a * (b + c) = a * b + a * c := ext' (Go.Sx.mul_add a.lt)
theorem mul_one (a : F) : a * one = a := ext' (Go.Sx.mul_one a.lt)
theorem one_mul (a : F) : one * a = a := ext' (Go.Sx.one_mul a.lt)
theorem mul_zero (a : F) : a * zero = zero := ext' (Go.Sx.mul_zero a.lt)
theorem zero_mul (a : F) : zero * a = zero := ext' (Go.Sx.zero_mul a.n)
theorem mul_inv {a : F} (h : a ≠ zero) : a * inv a = one := ext' (Go.Sx.mul_inv a.n a.lt (Nat.pos_of_ne_zero fun e => h (ext' e)))
theorem mul_eq_zero {a b : F} (h : a * b = zero) : a = zero ∨ b = zero := (Go.Sx.mul_eq_zero a.lt b.lt (congrArg F.n h)).imp (fun e => ext' e) fun e => ext' e
theorem add_eq_zero {a b : F} (h : a + b = zero) : a = b := by
  have : a + b + b = zero + b := by rw [h]
  rwa [add_assoc, add_self, add_zero, zero_add] at this
theorem add_ne {a b : F} (h : a ≠ b) : a + b ≠ zero := fun e => h (add_eq_zero e)
/-- A polynomial, its lowest coefficient first. -/
def pev : List F → F → F
  | [], _ => zero
  | a :: l, x => a + x * pev l x
/-- A map that is a polynomial of at most k coefficients. -/
def IsP (k : Nat) (f : F → F) : Prop := ∃ l : List F, l.length = k ∧ ∀ x, f x = pev l x
def padd : List F → List F → List F
  | a :: l, b :: m => (a + b) :: padd l m
  | [], m => m
  | l, [] => l
theorem padd_len : ∀ (l m : List F), l.length = m.length → (padd l m).length = l.length
  | [], [], _ => rfl
  | a :: l, b :: m, h => by simp only [padd, List.length_cons]; rw [padd_len l m (by simpa using h)]
theorem pev_padd : ∀ (l m : List F) (x : F), l.length = m.length → pev (padd l m) x = pev l x + pev m x
  | [], [], _, _ => (add_zero _).symm
  | a :: l, b :: m, x, h => by
    simp only [padd, pev]
    rw [pev_padd l m x (by simpa using h), mul_add]
    simp only [add_assoc, add_left_comm, add_comm]
theorem pev_scale (c : F) : ∀ (l : List F) (x : F), pev (l.map (c * ·)) x = c * pev l x
  | [], _ => (mul_zero c).symm
  | a :: l, x => by
    simp only [List.map_cons, pev]
    rw [pev_scale c l x, mul_add, mul_left_comm]
theorem IsP.add {k : Nat} {f g : F → F} (hf : IsP k f) (hg : IsP k g) : IsP k fun x => f x + g x := by
  obtain ⟨l, h1, h2⟩ := hf
  obtain ⟨m, h3, h4⟩ := hg
  exact ⟨padd l m, (padd_len l m (h1.trans h3.symm)).trans h1, fun x => by rw [pev_padd l m x (h1.trans h3.symm), ← h2, ← h4]⟩
theorem IsP.scale {k : Nat} {f : F → F} (hf : IsP k f) (c : F) : IsP k fun x => c * f x := by
  obtain ⟨l, h1, h2⟩ := hf
  exact ⟨l.map (c * ·), by rw [List.length_map, h1], fun x => by rw [pev_scale, ← h2]⟩
theorem IsP.const (c : F) : IsP 1 fun _ => c := ⟨[c], rfl, fun x => by simp only [pev]; rw [mul_zero, add_zero]⟩
theorem IsP.nought : ∀ k, IsP k fun _ => zero
  | 0 => ⟨[], rfl, fun _ => rfl⟩
  | k + 1 => by
    obtain ⟨l, h1, h2⟩ := IsP.nought k
    exact ⟨zero :: l, by rw [List.length_cons, h1], fun x => by show zero = zero + x * pev l x; rw [← h2 x, mul_zero, add_zero]⟩
theorem pev_snoc : ∀ (l : List F) (x : F), pev (l ++ [zero]) x = pev l x
  | [], x => by simp only [List.nil_append, pev]; rw [mul_zero, add_zero]
  | a :: l, x => by simp only [List.cons_append, pev]; rw [pev_snoc l x]
theorem IsP.linear {k : Nat} {f : F → F} (hf : IsP k f) (h : F) : IsP (k + 1) fun x => f x * (x + h) := by
  obtain ⟨l, h1, h2⟩ := hf
  have hx : IsP (k + 1) fun x => x * f x := ⟨zero :: l, by rw [List.length_cons, h1], fun x => by show x * f x = zero + x * pev l x; rw [h2 x, zero_add]⟩
  have hy : IsP (k + 1) f := ⟨l ++ [zero], by rw [List.length_append, h1]; rfl, fun x => by rw [pev_snoc, ← h2]⟩
  have := hx.add (hy.scale h)
  obtain ⟨m, h3, h4⟩ := this
  refine ⟨m, h3, fun x => ?_⟩
  show f x * (x + h) = _
  rw [← h4 x, mul_add, mul_comm (f x) x, mul_comm (f x) h]
/-- Division by x + r. -/
theorem pev_div (r : F) : ∀ l : List F, ∃ q : List F, q.length = l.length - 1 ∧ ∀ x, pev l x + pev l r = (x + r) * pev q x
  | [] => ⟨[], rfl, fun x => by show zero + zero = (x + r) * zero; rw [add_self, mul_zero]⟩
  | a :: l => by
    obtain ⟨q, h1, h2⟩ := pev_div r l
    cases l with
    | nil => exact ⟨[], rfl, fun x => by show (a + x * zero) + (a + r * zero) = (x + r) * zero; rw [mul_zero, mul_zero, mul_zero, add_self]⟩
    | cons b m =>
      refine ⟨pev (b :: m) r :: q, by rw [List.length_cons, h1]; rfl, fun x => ?_⟩
      have h3 := h2 x
      show (a + x * pev (b :: m) x) + (a + r * pev (b :: m) r) = (x + r) * (pev (b :: m) r + x * pev q x)
      generalize pev (b :: m) r = R at *
      generalize pev (b :: m) x = X at *
      generalize pev q x = Q at *
      have e : X = (x + r) * Q + R := by rw [← h3, add_assoc, add_self, add_zero]
      rw [e]
      simp only [mul_add, add_mul, mul_assoc, add_assoc, mul_left_comm, mul_comm, add_left_comm, add_comm, add_self_left, add_self, add_zero, zero_add]
/-- A polynomial of k coefficients with k roots is nothing. -/
theorem roots : ∀ (k : Nat) (l : List F), l.length = k → ∀ rs : List F, rs.length = k → rs.Nodup → (∀ r ∈ rs, pev l r = zero) → ∀ x, pev l x = zero
  | 0, l, hl, _, _, _, _, x => by
    have : l = [] := List.eq_nil_of_length_eq_zero hl
    subst this; rfl
  | k + 1, l, hl, [], hr, _, _, _ => by cases hr
  | k + 1, l, hl, r :: rs, hr, hn, h0, x => by
    obtain ⟨q, h1, h2⟩ := pev_div r l
    have hr0 := h0 r (by simp)
    have h3 : ∀ y, pev l y = (y + r) * pev q y := fun y => by rw [← h2 y, hr0, add_zero]
    have hq := roots k q (by omega) rs (by simpa using hr) (List.nodup_cons.1 hn).2 (fun s hs => by
      have h4 := h3 s
      rw [h0 s (by simp [hs])] at h4
      rcases mul_eq_zero h4.symm with e | e
      · have : s = r := add_eq_zero e
        subst this
        exact absurd hs (List.nodup_cons.1 hn).1
      · exact e) x
    rw [h3, hq, mul_zero]
theorem IsP.unique {k : Nat} {f g : F → F} (hf : IsP k f) (hg : IsP k g) (rs : List F) (hl : k ≤ rs.length) (hn : rs.Nodup) (h : ∀ r ∈ rs, f r = g r) (x : F) : f x = g x := by
  obtain ⟨l, h1, h2⟩ := hf.add hg
  have := roots k l h1 (rs.take k) (by simp [hl]) (hn.sublist (List.take_sublist _ _)) (fun r hr => by
    have := h r (List.mem_of_mem_take hr)
    rw [← h2 r]
    show f r + g r = zero
    rw [this, add_self]) x
  exact add_eq_zero ((h2 x).trans this)
/-- Sums over a list. -/
def sum (S : List F) (f : F → F) : F := S.foldr (fun i a => f i + a) zero
/-- Products of x + h over the list, but for i. -/
def pr (S : List F) (i x : F) : F := S.foldr (fun h a => if h = i then a else (x + h) * a) one
def La (S : List F) (i x : F) : F := pr S i x * inv (pr S i i)
def interp (S : List F) (f : F → F) (x : F) : F := sum S fun i => f i * La S i x
theorem pr_isP : ∀ (S : List F) (i : F), i ∈ S → S.Nodup → IsP S.length fun x => pr S i x
  | [], _, h, _ => by cases h
  | h :: S, i, hi, hn => by
    obtain ⟨n1, n2⟩ := List.nodup_cons.1 hn
    by_cases e : h = i
    · subst e
      have key : ∀ T : List F, h ∉ T → IsP (T.length + 1) fun x => pr T h x := by
        intro T
        induction T with
        | nil => intro _; exact IsP.const one
        | cons t T ih =>
          intro hT
          have hne : ¬ t = h := fun e => hT (by simp [e])
          have := (ih (fun h' => hT (by simp [h']))).linear t
          obtain ⟨l, h1, h2⟩ := this
          refine ⟨l, h1, fun x => ?_⟩
          rw [← h2 x]
          show (if t = h then pr T h x else (x + t) * pr T h x) = pr T h x * (x + t)
          rw [if_neg hne, mul_comm]
      obtain ⟨l, h1, h2⟩ := key S n1
      refine ⟨l, h1, fun x => ?_⟩
      rw [← h2 x]
      show (if h = h then pr S h x else _) = pr S h x
      rw [if_pos rfl]
    · have hi' : i ∈ S := by
        rcases List.mem_cons.1 hi with e' | e'
        · exact absurd e'.symm e
        · exact e'
      obtain ⟨l, h1, h2⟩ := (pr_isP S i hi' n2).linear h
      refine ⟨l, h1, fun x => ?_⟩
      rw [← h2 x]
      show (if h = i then pr S i x else (x + h) * pr S i x) = pr S i x * (x + h)
      rw [if_neg e, mul_comm]
theorem pr_zero : ∀ (S : List F) (i x : F), x ∈ S → x ≠ i → pr S i x = zero
  | [], _, _, h, _ => by cases h
  | h :: S, i, x, hx, hne => by
    show (if h = i then pr S i x else (x + h) * pr S i x) = zero
    rcases List.mem_cons.1 hx with e | e
    · subst e
      rw [if_neg hne, add_self, zero_mul]
    · split
      · exact pr_zero S i x e hne
      · rw [pr_zero S i x e hne, mul_zero]
theorem pr_ne : ∀ (S : List F) (i : F), pr S i i ≠ zero
  | [], _ => fun h => by have := congrArg F.n h; cases this
  | h :: S, i => by
    show (if h = i then pr S i i else (i + h) * pr S i i) ≠ zero
    split
    · exact pr_ne S i
    · rename_i hne
      intro h0
      rcases mul_eq_zero h0 with e | e
      · exact hne (add_eq_zero e).symm
      · exact pr_ne S i e
theorem La_isP {S : List F} {i : F} (hi : i ∈ S) (hn : S.Nodup) : IsP S.length fun x => La S i x := by
  obtain ⟨l, h1, h2⟩ := (pr_isP S i hi hn).scale (inv (pr S i i))
  refine ⟨l, h1, fun x => ?_⟩
  rw [← h2 x]
  exact mul_comm _ _
theorem La_self (S : List F) (i : F) : La S i i = one := mul_inv (pr_ne S i)
theorem La_other {S : List F} {i x : F} (hx : x ∈ S) (hne : x ≠ i) : La S i x = zero := by
  unfold La
  rw [pr_zero S i x hx hne, zero_mul]
theorem sum_isP (k : Nat) (g : F → F → F) : ∀ S : List F, (∀ i ∈ S, IsP k (g i)) → IsP k fun x => sum S fun i => g i x
  | [], _ => IsP.nought k
  | i :: S, h => (h i (by simp)).add (sum_isP k g S fun j hj => h j (by simp [hj]))
theorem interp_isP {S : List F} (hn : S.Nodup) (f : F → F) : IsP S.length fun x => interp S f x :=
  sum_isP S.length (fun i x => f i * La S i x) S fun _ hi => (La_isP hi hn).scale _
theorem sum_zero (g : F → F) : ∀ S : List F, (∀ i ∈ S, g i = zero) → sum S g = zero
  | [], _ => rfl
  | i :: S, h => by
    show g i + sum S g = zero
    rw [h i (by simp), sum_zero g S fun j hj => h j (by simp [hj]), add_zero]
theorem sum_one (g : F → F) (x : F) : ∀ S : List F, S.Nodup → x ∈ S → (∀ i ∈ S, i ≠ x → g i = zero) → sum S g = g x
  | [], _, h, _ => by cases h
  | i :: S, hn, hx, h => by
    obtain ⟨n1, n2⟩ := List.nodup_cons.1 hn
    show g i + sum S g = g x
    rcases List.mem_cons.1 hx with e | e
    · subst e
      rw [sum_zero g S fun j hj => h j (by simp [hj]) fun e => n1 (e ▸ hj), add_zero]
    · have hne : i ≠ x := fun e' => n1 (e' ▸ e)
      rw [h i (by simp) hne, zero_add, sum_one g x S n2 e fun j hj => h j (by simp [hj])]
/-- At the points that are given, it is what is given. -/
theorem interp_at {S : List F} (hn : S.Nodup) (f : F → F) {x : F} (hx : x ∈ S) : interp S f x = f x := by
  unfold interp
  rw [sum_one (fun i => f i * La S i x) x S hn hx fun i _ hne => by show f i * La S i x = zero; rw [La_other hx (fun e => hne e.symm), mul_zero]]
  show f x * La S x x = f x
  rw [La_self, mul_one]
/-- WHICHEVER POINTS ARE GIVEN: a polynomial is got back. -/
theorem interp_poly {k : Nat} {S : List F} (hn : S.Nodup) (hk : S.length = k) {f g : F → F} (hf : IsP k f) (h : ∀ i ∈ S, g i = f i) (x : F) : interp S g x = f x :=
  IsP.unique (f := fun x => interp S g x) (k := k) (by rw [← hk]; exact interp_isP hn g) hf S (by omega) hn (fun r hr => by rw [interp_at hn g hr, h r hr]) x
end F
end Go.Sx
/- Plain: the fragments of a string are the values of polynomials. -/
namespace Go.Sx
open F
def toF (n : Nat) : F := ⟨n % 256, Nat.mod_lt _ (by decide)⟩
theorem toF_n {n : Nat} (h : n < 256) : (toF n).n = n := Nat.mod_eq_of_lt h
theorem toF_xor {a b : Nat} (ha : a < 256) (hb : b < 256) : toF (a ^^^ b) = toF a + toF b := F.ext' (by
  rw [toF_n (Nat.xor_lt_two_pow (n := 8) ha hb), F.add_n, toF_n ha, toF_n hb])
theorem toF_mul {a b : Nat} (ha : a < 256) (hb : b < 256) : toF (mulN a b) = toF a * toF b := F.ext' (by
  rw [toF_n mulN_lt, F.mul_n, toF_n ha, toF_n hb])
theorem toF_inv {a : Nat} (ha : a < 256) : toF (invN a) = inv (toF a) := F.ext' (by
  rw [toF_n (invN_lt ha)]; show _ = invN (toF a).n; rw [toF_n ha])
theorem toF_inj {a b : Nat} (ha : a < 256) (hb : b < 256) (h : toF a = toF b) : a = b := by
  have := congrArg F.n h
  rwa [toF_n ha, toF_n hb] at this
theorem inv_one : inv F.one = F.one := by decide +kernel
theorem inv_mul {a b : F} (ha : a ≠ F.zero) (hb : b ≠ F.zero) : inv (a * b) = inv a * inv b := by
  have hab : a * b ≠ F.zero := fun h => by
    rcases F.mul_eq_zero h with e | e
    · exact ha e
    · exact hb e
  have h1 := F.mul_inv hab
  have h2 := F.mul_inv ha
  have h3 := F.mul_inv hb
  calc inv (a * b) = inv (a * b) * F.one := (F.mul_one _).symm
    _ = inv (a * b) * (F.one * F.one) := by rw [F.mul_one F.one]
    _ = inv (a * b) * ((a * inv a) * (b * inv b)) := by rw [h2, h3]
    _ = ((a * b) * inv (a * b)) * (inv a * inv b) := by simp only [F.mul_assoc, F.mul_left_comm, F.mul_comm]
    _ = inv a * inv b := by rw [h1, F.one_mul]
/-- A fold from the left with products, as a product over the list. -/
theorem foldl_mul (f : Nat → Option F) (g : Nat → Nat → Nat) (l : List Nat) (hg : ∀ h ∈ l, ∀ acc, acc < 256 → g acc h < 256 ∧ toF (g acc h) = match f h with | some v => toF acc * v | none => toF acc) :
    ∀ acc, acc < 256 → toF (l.foldl g acc) = toF acc * l.foldr (fun h a => match f h with | some v => v * a | none => a) F.one := by
  induction l with
  | nil => intro acc _; exact (F.mul_one _).symm
  | cons h l ih =>
    intro acc ha
    obtain ⟨h1, h2⟩ := hg h (by simp) acc ha
    rw [List.foldl_cons, ih (fun h' hh => hg h' (by simp [hh])) _ h1, h2, List.foldr_cons]
    cases f h with
    | none => rfl
    | some v => exact F.mul_assoc _ _ _
theorem wgt_La (nums : List Nat) (hn : ∀ i ∈ nums, i < 256) (x i : Nat) (hx : x < 256) (hi : i < 256) : toF (wgt nums x i) = La (nums.map toF) (toF i) (toF x) := by
  have h1 : toF (bel nums i) = inv (pr (nums.map toF) (toF i) (toF i)) := by
    have key : ∀ l : List Nat, (∀ j ∈ l, j < 256) → l.foldr (fun h a => match (if h = i then none else some (inv (toF i + toF h))) with | some v => v * a | none => a) F.one = inv (pr (l.map toF) (toF i) (toF i)) := by
      intro l
      induction l with
      | nil => intro _; exact inv_one.symm
      | cons h l ih =>
        intro hl
        have ih := ih fun j hj => hl j (by simp [hj])
        have hh := hl h (by simp)
        rw [List.foldr_cons, ih]
        show _ = inv (if toF h = toF i then pr (l.map toF) (toF i) (toF i) else (toF i + toF h) * pr (l.map toF) (toF i) (toF i))
        by_cases e : h = i
        · subst e; rw [if_pos rfl, if_pos rfl]
        · have e' : ¬ toF h = toF i := fun e' => e (toF_inj hh hi e')
          rw [if_neg e, if_neg e']
          show inv (toF i + toF h) * inv _ = _
          rw [inv_mul (F.add_ne fun e2 => e' e2.symm) (pr_ne _ _)]
    have := foldl_mul (fun h => if h = i then none else some (inv (toF i + toF h))) (belS i) nums (fun h hh acc ha => by
      unfold belS
      by_cases e : h = i
      · simp only [e, if_true]; exact ⟨ha, trivial⟩
      · simp only [e, if_false]
        have hx := Nat.xor_lt_two_pow (n := 8) hi (hn h hh)
        exact ⟨mulN_lt, by rw [toF_mul ha (invN_lt hx), toF_inv hx, toF_xor hi (hn h hh)]⟩) 1 (by decide)
    unfold bel
    rw [this, key nums hn]
    exact F.one_mul _
  have key : ∀ l : List Nat, (∀ j ∈ l, j < 256) → l.foldr (fun h a => match (if h = i then none else some (toF x + toF h)) with | some v => v * a | none => a) F.one = pr (l.map toF) (toF i) (toF x) := by
    intro l
    induction l with
    | nil => intro _; rfl
    | cons h l ih =>
      intro hl
      have ih := ih fun j hj => hl j (by simp [hj])
      have hh := hl h (by simp)
      rw [List.foldr_cons, ih]
      show _ = (if toF h = toF i then pr (l.map toF) (toF i) (toF x) else (toF x + toF h) * pr (l.map toF) (toF i) (toF x))
      by_cases e : h = i
      · subst e; rw [if_pos rfl, if_pos rfl]
      · have e' : ¬ toF h = toF i := fun e' => e (toF_inj hh hi e')
        rw [if_neg e, if_neg e']
  have := foldl_mul (fun h => if h = i then none else some (toF x + toF h)) (outS i x) nums (fun h hh acc ha => by
    unfold outS
    by_cases e : h = i
    · simp only [e, if_true]; exact ⟨ha, trivial⟩
    · simp only [e, if_false]
      have hxh := Nat.xor_lt_two_pow (n := 8) hx (hn h hh)
      exact ⟨mulN_lt, by rw [toF_mul ha hxh, toF_xor hx (hn h hh)]⟩) (bel nums i) (bel_lt _ _)
  unfold wgt
  rw [this, key nums hn, h1, F.mul_comm]
  rfl
theorem cmpS_sum (frs : List ByteArray) (W : Nat → Nat) (q : Nat) (hW : ∀ i, W i < 256) : ∀ (nums : List Nat) (acc : Nat), acc < 256 →
    toF (nums.foldl (cmpF frs W q) acc) = toF acc + nums.foldr (fun i a => toF (W i) * toF (sb (fr frs i) q) + a) F.zero
  | [], _, _ => (F.add_zero _).symm
  | i :: l, acc, h => by
    have h1 : mulN (W i) (sb (fr frs i) q) < 256 := mulN_lt
    show toF (l.foldl (cmpF frs W q) (acc ^^^ mulN (W i) (sb (fr frs i) q))) = _
    rw [cmpS_sum frs W q hW l _ (Nat.xor_lt_two_pow (n := 8) h h1), List.foldr_cons]
    rw [toF_xor h h1, toF_mul (hW i) (sb_lt _ _), F.add_assoc]
theorem wgtA_lt (nums : List Nat) (x j : Nat) : wgtA nums x j < 256 := by
  unfold wgtA; split
  · exact wgt_lt _ _ _
  · decide
/-- A byte that is computed is a value of the polynomial through those that are given. -/
theorem cmpS_interp (frs : List ByteArray) (nums : List Nat) (hn : ∀ i ∈ nums, i < 256) (x q : Nat) (hx : x < 256) :
    toF (cmpS frs nums (wgtA nums x) q) = interp (nums.map toF) (fun i => toF (sb (fr frs i.n) q)) (toF x) := by
  unfold cmpS
  rw [cmpS_sum frs _ q (wgtA_lt nums x) nums 0 (by decide)]
  have h0 : toF 0 = F.zero := rfl
  rw [h0, F.zero_add]
  unfold interp F.sum
  have key : ∀ l : List Nat, (∀ i ∈ l, i ∈ nums) → l.foldr (fun i a => toF (wgtA nums x i) * toF (sb (fr frs i) q) + a) F.zero = (l.map toF).foldr (fun i a => toF (sb (fr frs i.n) q) * La (nums.map toF) i (toF x) + a) F.zero := by
    intro l
    induction l with
    | nil => intro _; rfl
    | cons i l ih =>
      intro hl
      have hi := hl i (by simp)
      rw [List.foldr_cons, List.map_cons, List.foldr_cons, ih fun j hj => hl j (by simp [hj])]
      have : wgtA nums x i = wgt nums x i := by unfold wgtA; rw [if_pos hi]
      rw [this, wgt_La nums hn x i hx (hn i hi), toF_n (hn i hi), F.mul_comm]
  exact key nums fun _ h => h
theorem map_toF_nodup {l : List Nat} (h : l.Nodup) (hl : ∀ i ∈ l, i < 256) : (l.map toF).Nodup := by
  induction l with
  | nil => simp
  | cons x l ih =>
    obtain ⟨h1, h2⟩ := List.nodup_cons.1 h
    rw [List.map_cons, List.nodup_cons]
    refine ⟨fun hx => ?_, ih h2 fun i hi => hl i (by simp [hi])⟩
    obtain ⟨y, hy, e⟩ := List.mem_map.1 hx
    have := toF_inj (hl y (by simp [hy])) (hl x (by simp)) e
    subst this
    exact h1 hy
/-- The polynomial of byte q of the fragments of s. -/
def polyOf (s : ByteArray) (k q : Nat) (x : F) : F := interp ((List.range k).map toF) (fun i => toF (sb (partOf s k i.n) q)) x
theorem range_nodup (k : Nat) (hk : k ≤ 256) : ((List.range k).map toF).Nodup := map_toF_nodup List.nodup_range (fun i hi => by have := List.mem_range.1 hi; omega)
theorem polyOf_isP (s : ByteArray) (k q : Nat) (hk : k ≤ 256) : IsP k (polyOf s k q) := by
  have := interp_isP (range_nodup k hk) (fun i => toF (sb (partOf s k i.n) q))
  rwa [List.length_map, List.length_range] at this
theorem codeA_poly (s : ByteArray) (k j q : Nat) (hk : k ≤ 256) (hj : j < 256) (hq : q < mOf s.size k) : toF (sb (codeA s k j) q) = polyOf s k q (toF j) := by
  by_cases h : j < k
  · unfold polyOf
    rw [interp_at (range_nodup k hk) _ (List.mem_map_of_mem (List.mem_range.2 h)), toF_n hj]
    simp only [codeA, h, if_true]
  · simp only [codeA, h, if_false]
    rw [cmpStr_sb _ _ _ _ _ hq, cmpS_interp _ _ (fun i hi => by have := List.mem_range.1 hi; omega) _ _ hj]
    unfold polyOf interp
    have key : ∀ l : List F, (∀ i ∈ l, i.n < k) → F.sum l (fun i => toF (sb (fr (parts s k) i.n) q) * La ((List.range k).map toF) i (toF j)) = F.sum l (fun i => toF (sb (partOf s k i.n) q) * La ((List.range k).map toF) i (toF j)) := by
      intro l
      induction l with
      | nil => intro _; rfl
      | cons i l ih =>
        intro hl
        have hi := hl i (by simp)
        have e := ih fun i' hi' => hl i' (by simp [hi'])
        unfold F.sum at e ⊢
        rw [List.foldr_cons, List.foldr_cons, e]
        show toF (sb (fr (parts s k) i.n) q) * _ + _ = toF (sb (partOf s k i.n) q) * _ + _
        rw [parts_fr s hi]
        simp only [codeA, hi, if_true]
    refine key _ fun i hi => ?_
    obtain ⟨a, ha, rfl⟩ := List.mem_map.1 hi
    have := List.mem_range.1 ha
    rw [toF_n (by omega)]; exact this
end Go.Sx
/- Plain: whichever k fragments are there, all are got back. -/
namespace Go.Sx
open F
theorem sb_ext {a b : ByteArray} (hs : a.size = b.size) (h : ∀ q, q < a.size → sb a q = sb b q) : a = b := by
  cases a with
  | mk a =>
  cases b with
  | mk b =>
  congr 1
  apply Array.ext
  · exact hs
  · intro i h1 h2
    have h3 := h i h1
    unfold sb at h3
    have e1 : a.toList.getD i 0 = a[i] := by simp [h1]
    have e2 : b.toList.getD i 0 = b[i] := by simp [h2]
    simp only at h3
    rw [e1, e2] at h3
    exact UInt8.toNat_inj.1 h3
theorem tnums_nodup (th : List Bool) (i k : Nat) : (tnums th i k).Nodup := by
  unfold tnums
  exact (List.nodup_range.sublist List.filter_sublist).sublist (List.take_sublist _ _)
theorem cOut_sb (frs : List ByteArray) (th : List Bool) (k j q : Nat) (hth : th.length ≤ 256) (hj : j < 256) (hq : q < cM frs th k) :
    toF (sb (cOut frs th k j) q) = interp ((cN th k).map toF) (fun i => toF (sb (fr frs i.n) q)) (toF j) := by
  unfold cOut
  rw [cmpStr_sb _ _ _ _ _ hq, cmpS_interp _ _ (fun i hi => by have := (tnums_mem hi).1; omega) _ _ hj]
theorem toF_sb_inj {a b : ByteArray} {q : Nat} (h : toF (sb a q) = toF (sb b q)) : sb a q = sb b q := toF_inj (sb_lt _ _) (sb_lt _ _) h
/-- What is there agrees with the fragments of s, and is enough: everything is got back. -/
structure Agree (frs : List ByteArray) (th : List Bool) (s : ByteArray) (k : Nat) : Prop where
  pos : 0 < k
  th9 : th.length ≤ 9
  eq : ∀ i, i < th.length → tf th i = true → fr frs i = codeA s k i
  enough : (cN th k).length = k
theorem Agree.k9 {frs : List ByteArray} {th : List Bool} {s : ByteArray} {k : Nat} (h : Agree frs th s k) : k ≤ 9 := by
  have h1 := h.enough
  have h2 : (cN th k).length ≤ th.length := tnums_len2 _ _ _
  have := h.th9
  omega
theorem Agree.cM {frs : List ByteArray} {th : List Bool} {s : ByteArray} {k : Nat} (h : Agree frs th s k) : cM frs th k = mOf s.size k := by
  unfold Go.Sx.cM
  have hp : 0 < (cN th k).length := by rw [h.enough]; exact h.pos
  have hm := tnums_mem (nu_mem hp)
  rw [show fr frs (nu (cN th k) 0) = codeA s k (nu (cN th k) 0) from h.eq _ hm.1 hm.2, codeA_size]
theorem Agree.out {frs : List ByteArray} {th : List Bool} {s : ByteArray} {k : Nat} (h : Agree frs th s k) (j : Nat) (hj : j < 256) : cOut frs th k j = codeA s k j := by
  have hk := h.k9
  have h9 := h.th9
  refine sb_ext (by rw [cOut_size, codeA_size, h.cM]) fun q hq => toF_sb_inj ?_
  rw [cOut_size] at hq
  rw [cOut_sb frs th k j q (by omega) hj hq]
  rw [h.cM] at hq
  rw [codeA_poly s k j q (by omega) hj hq]
  refine interp_poly (map_toF_nodup (tnums_nodup _ _ _) fun i hi => by have := (tnums_mem hi).1; omega) ((List.length_map _).trans h.enough) (polyOf_isP s k q (by omega)) ?_ _
  intro i hi
  obtain ⟨a, ha, rfl⟩ := List.mem_map.1 hi
  have hm := tnums_mem ha
  rw [toF_n (by omega), h.eq a hm.1 hm.2, codeA_poly s k a q (by omega) (by omega) hq]
theorem Agree.ok {frs : List ByteArray} {th : List Bool} {s : ByteArray} {k : Nat} (h : Agree frs th s k) (hl : frs.length = th.length) (hs : s.size ≤ 4096 * k) : CompOK frs th k := by
  have h1 := h.enough
  have h2 : (cN th k).length ≤ th.length := tnums_len2 _ _ _
  have h3 := h.th9
  have h4 := h.pos
  refine ⟨⟨by omega, by omega, by omega⟩, hl.symm, by rw [Int.toNat_natCast]; exact h1, fun i hi ht => ?_, fun i hi ht => ?_⟩
  · rw [Int.toNat_natCast, h.cM, h.eq i (by omega) ht, codeA_size]
    exact ⟨rfl, mOf_le h.pos hs⟩
  · rw [Int.toNat_natCast, h.out i (by omega), h.eq i (by omega) ht]
/-- The string is the beginning of its first k fragments; behind it there is nothing but zeros. -/
theorem catS_sb : ∀ (l : List ByteArray) (m : Nat), (∀ x ∈ l, x.size = m) → ∀ i q, i < l.length → q < m → sb (catS l) (i * m + q) = sb (fr l i) q
  | [], _, _, _, _, h, _ => by cases h
  | x :: l, m, hm, i, q, hi, hq => by
    have hx := hm x (by simp)
    have hc : (catS (x :: l)).data.toList = x.data.toList ++ (catS l).data.toList := by
      unfold catS
      simp
    have hxl : x.data.toList.length = m := by rw [ba_len, hx]
    unfold sb
    rw [hc]
    cases i with
    | zero =>
      have : 0 * m + q < x.data.toList.length := by omega
      rw [List.getD_eq_getElem?_getD, List.getElem?_append_left this, ← List.getD_eq_getElem?_getD]
      simp [fr]
    | succ i =>
      have h2 := catS_sb l m (fun y hy => hm y (by simp [hy])) i q (by simpa using hi) hq
      have h3 : (i + 1) * m + q = m + (i * m + q) := by rw [Nat.succ_mul]; omega
      rw [List.getD_eq_getElem?_getD, List.getElem?_append_right (by omega), ← List.getD_eq_getElem?_getD]
      unfold sb at h2
      rw [show (i + 1) * m + q - x.data.toList.length = i * m + q by omega, h2]
      rfl
theorem sb_append_left {a b : ByteArray} {i : Nat} (h : i < a.size) : sb (a ++ b) i = sb a i := by
  unfold sb
  have e : (a ++ b).data.toList = a.data.toList ++ b.data.toList := by simp
  rw [e, List.getD_eq_getElem?_getD, List.getElem?_append_left (by rw [ba_len]; exact h), ← List.getD_eq_getElem?_getD]
theorem sb_append_right {a b : ByteArray} {i : Nat} (h : a.size ≤ i) : sb (a ++ b) i = sb b (i - a.size) := by
  unfold sb
  have e : (a ++ b).data.toList = a.data.toList ++ b.data.toList := by simp
  rw [e, List.getD_eq_getElem?_getD, List.getElem?_append_right (by rw [ba_len]; exact h), ← List.getD_eq_getElem?_getD, ba_len]
theorem sb_zeros (n i : Nat) : sb (zeros n) i = 0 := by
  unfold sb zeros
  simp only [List.getD_eq_getElem?_getD, List.getElem?_replicate]
  split <;> rfl
theorem sb_extract {a : ByteArray} {i j q : Nat} (hj : j ≤ a.size) (hq : i + q < j) : sb (a.extract i j) q = sb a (i + q) := by
  unfold sb
  rw [ByteArray.data_extract, Array.toList_extract, List.extract_eq_take_drop, List.getD_eq_getElem?_getD, List.getElem?_take_of_lt (by omega), List.getElem?_drop, ← List.getD_eq_getElem?_getD]
theorem padS_sb_in (s : ByteArray) (k : Nat) {i : Nat} (h : i < s.size) : sb (padS s k) i = sb s i := sb_append_left h
theorem padS_sb_out (s : ByteArray) (k : Nat) {i : Nat} (h : s.size ≤ i) : sb (padS s k) i = 0 := by
  unfold padS
  rw [sb_append_right h, sb_zeros]
theorem partOf_sb (s : ByteArray) {k i q : Nat} (hi : i < k) (hq : q < mOf s.size k) : sb (partOf s k i) q = sb (padS s k) (i * mOf s.size k + q) := by
  have h2 : (i + 1) * mOf s.size k ≤ k * mOf s.size k := Nat.mul_le_mul_right _ (by omega)
  have h3 : (i + 1) * mOf s.size k = i * mOf s.size k + mOf s.size k := Nat.succ_mul _ _
  unfold partOf
  rw [sb_extract (by rw [padS_size s (by omega)]; exact h2) (by omega)]
theorem cat_parts (s : ByteArray) {k : Nat} (hk : 0 < k) : catS (parts s k) = padS s k := by
  have hsz : (catS (parts s k)).size = k * mOf s.size k := by
    rw [catS_size _ (mOf s.size k)]
    · simp [parts]
    · intro x hx
      obtain ⟨i, hi, rfl⟩ := List.mem_map.1 hx
      exact partOf_size s (List.mem_range.1 hi)
  refine sb_ext (by rw [hsz, padS_size s hk]) fun q hq => ?_
  rw [hsz] at hq
  have hm : 0 < mOf s.size k := by
    rcases Nat.eq_zero_or_pos (mOf s.size k) with e | e
    · rw [e, Nat.mul_zero] at hq; cases hq
    · exact e
  have hd := Nat.div_add_mod q (mOf s.size k)
  have hr := Nat.mod_lt q hm
  have hi : q / mOf s.size k < k := Nat.div_lt_of_lt_mul (by rw [Nat.mul_comm]; exact hq)
  have e : q = q / mOf s.size k * mOf s.size k + q % mOf s.size k := by rw [Nat.mul_comm]; exact hd.symm
  rw [e, catS_sb (parts s k) (mOf s.size k) (fun x hx => by
    obtain ⟨i, hi, rfl⟩ := List.mem_map.1 hx
    exact partOf_size s (List.mem_range.1 hi)) _ _ (by simpa [parts] using hi) hr]
  have hf : fr (parts s k) (q / mOf s.size k) = partOf s k (q / mOf s.size k) := by rw [parts_fr s hi]; simp [codeA, hi]
  rw [hf, partOf_sb s hi hr]
theorem Agree.cat {frs : List ByteArray} {th : List Bool} {s : ByteArray} {k : Nat} (h : Agree frs th s k) : catO frs th k = padS s k := by
  rw [← cat_parts s h.pos]
  unfold catO parts
  congr 1
  apply List.map_congr_left
  intro i hi
  have := List.mem_range.1 hi
  have hk := h.k9
  rw [h.out i (by omega)]
  simp [codeA, this]
theorem padS_take (s : ByteArray) (k : Nat) : (padS s k).extract 0 s.size = s := by
  refine sb_ext ?_ fun q hq => ?_
  · rw [ByteArray.size_extract]
    unfold padS
    rw [ByteArray.size_append]
    omega
  · rw [ByteArray.size_extract] at hq
    have h1 : s.size ≤ (padS s k).size := by unfold padS; rw [ByteArray.size_append]; omega
    rw [sb_extract h1 (by omega), Nat.zero_add, padS_sb_in s k (by omega)]
theorem Agree.join {frs : List ByteArray} {th : List Bool} {s : ByteArray} {k : Nat} (h : Agree frs th s k) (hl : frs.length = th.length) (hs : s.size ≤ 4096 * k) : JoinOK frs th k s.size := by
  refine ⟨h.ok hl hs, by omega, by omega, ?_, ?_⟩
  · rw [Int.toNat_natCast, h.cM]
    unfold mOf
    have hp := h.pos
    rw [Int.natCast_ediv]
    congr 1
    omega
  · intro j h1 h2
    rw [Int.toNat_natCast] at h1 h2 ⊢
    rw [h.cat]
    exact padS_sb_out s k h1
end Go.Sx
/- Plain: what the laws ask of the fragments. -/
namespace Go.Sx
theorem cN_len {th : List Bool} {k : Nat} (h : k ≤ ((List.range th.length).filter (tf th)).length) : (cN th k).length = k := by
  unfold cN tnums
  rw [List.length_take]
  omega
theorem cN_few {th : List Bool} {k : Nat} (h : ((List.range th.length).filter (tf th)).length < k) : (cN th k).length < k := by
  unfold cN tnums
  rw [List.length_take]
  omega
theorem few_no {frs : List ByteArray} {th : List Bool} {k : Nat} (h : ((List.range th.length).filter (tf th)).length < k) : ¬ CompOK frs th k := fun hc => by
  have h1 := hc.2.2.1
  rw [Int.toNat_natCast] at h1
  have := cN_few h
  omega
end Go.Sx
namespace Go.Sx
open F
/-- The string with bytes XORed. -/
def xorS (s t : ByteArray) : ByteArray := mkS (min s.size t.size) fun q => sb s q ^^^ sb t q
/-- A changed fragment is another one. -/
def chgS (s : ByteArray) (i c : Nat) : ByteArray := s.extract 0 i ++ mkS 1 (fun _ => sb s i ^^^ c) ++ s.extract (i + 1) s.size
end Go.Sx
namespace Go.Sx
def textS (s : ByteArray) (k i : Nat) : ByteArray := catS ((List.range i).map (codeA s k))
theorem fr_range {n i : Nat} (f : Nat → ByteArray) (h : i < n) : fr ((List.range n).map f) i = f i := by simp [fr, h]
end Go.Sx
/- Chapter 17: Split, Join and Fragment as laws use them. -/
namespace Go.Sx
open Go Go.Proofs
attribute [local irreducible] WC WL WX POp Then Again Fn NX W1 WA WO QL RP RA Yld LoopAt HC HL HX HN H1 HA HO HQ A.blk A.grow A.rd A.obj AgainH CutH
theorem split_z (s : ByteArray) (k n : Nat) (hk : 1 ≤ k) (hkn : k ≤ n) (hn : n ≤ 9) (hs : s.size ≤ 4096 * k) (w : World) (hr : Red w) :
    Fn Tryz.prog 40 #[.string s, .int .i64 (k : Int), .int .i64 (n : Int)] w fun v w' => ∃ b : Nat, True ∧ v = .tuple #[.slice (some ⟨b, 0, none⟩) n n, .int .i64 0] ∧ Mm w [A.rd (.slice (some ⟨b, 0, none⟩) n n) (strs (codeL s k n))] w' :=
  (split_new s k n hk hkn hn hs w hr).mono fun _ _ ⟨b, h0, h1, h2, h3⟩ => ⟨b, trivial, h1, Mm.rdFresh h3 h0 h2⟩
theorem join_no {vf vt : Value} {frs : List ByteArray} {th : List Bool} {k len : Int} (h : ¬ JoinOK frs th k len) (hl : frs.length ≤ 100) (hlt : th.length ≤ 100) (w : World) (hr : Red w) (hRf : Rd w vf (strs frs)) (hRt : Rd w vt (bools th)) :
    Fn Tryz.prog 41 #[vf, vt, .int .i64 k, .int .i64 len] w fun v w' => v = .tuple #[.string noStr, .int .i64 170] ∧ Ext w w' :=
  (codeJoin_fn vf vt frs th k len hl hlt w hr hRf hRt).mono fun _ _ ⟨h1, h2⟩ => ⟨(h2.resolve_left fun h3 => h h3.1).2, h1⟩
theorem join_yes {vf vt : Value} {frs : List ByteArray} {th : List Bool} {k len : Int} (h : JoinOK frs th k len) (hl : frs.length ≤ 100) (hlt : th.length ≤ 100) (w : World) (hr : Red w) (hRf : Rd w vf (strs frs)) (hRt : Rd w vt (bools th)) :
    Fn Tryz.prog 41 #[vf, vt, .int .i64 k, .int .i64 len] w fun v w' => v = .tuple #[.string ((catO frs th k.toNat).extract 0 len.toNat), .int .i64 0] ∧ Ext w w' :=
  (codeJoin_fn vf vt frs th k len hl hlt w hr hRf hRt).mono fun _ _ ⟨h1, h2⟩ => ⟨(h2.resolve_right fun h3 => h3.1 h).2, h1⟩
/-- Whatever it returns. -/
noncomputable def joinV (frs : List ByteArray) (th : List Bool) (k len : Int) : ByteArray × Nat := open Classical in if JoinOK frs th k len then ((catO frs th k.toNat).extract 0 len.toNat, 0) else (noStr, 170)
end Go.Sx
/- Chapter 27: the law CustodianJoined: the walk. -/
namespace Go.Sx
open Go Go.Proofs Go.RowKit
theorem hwZG {G G2 : Prop} (x : G2) (hwq : Hold G2 → G := by
    intro hQq
    repeat' (first | refine HL.pa ?_ (POp.pneN rfl rfl) | refine HL.pa ?_ (POp.pnil1 rfl rfl) | refine HL.pa ?_ (POp.pnil0 rfl rfl) | refine HL.pa ?_ (POp.nilCheck rfl) | apply HL.fold | apply HA.fold | apply HL.nil | apply HX.n_then | apply HC.seq | apply HC.region | refine HL.pa ?_ | refine HL.ga rfl ?_ | refine HL.na rfl ?_ | refine HL.nu rfl rfl ?_ | apply HC.block | apply HC.skip | apply HC.exit | apply HC.ret | apply HX.e_block | refine HX.e_other rfl ?_ | apply HX.e_then | apply HX.e_again | apply HX.n_block | apply HX.r_then | apply HX.r_block | apply HX.r_again | refine HC.cond_yes rfl ?_ | refine HC.cond_no rfl ?_ | refine HL.one (H1.ldb rfl memA rfl rfl ?_) | refine HC.cond rfl (fun hc => ?_) (fun hc => ?_) | refine HC.cond_b rfl (fun hc => ?_) (fun hc => ?_))
    exact hQq.get) : G := hwq ⟨x⟩
theorem hbZG {G G2 : Prop} (x : G2) (hwq : Hold G2 → G := by
    intro hQq
    repeat' (first | refine HL.pa ?_ (POp.pneN rfl rfl) | refine HL.pa ?_ (POp.pnil1 rfl rfl) | refine HL.pa ?_ (POp.pnil0 rfl rfl) | refine HL.pa ?_ (POp.nilCheck rfl) | apply HL.fold | apply HA.fold | apply HL.nil | apply HX.n_then | apply HC.seq | apply HC.region | refine HL.pa ?_ | refine HL.ga rfl ?_ | refine HL.na rfl ?_ | refine HL.nu rfl rfl ?_ | apply HC.skip | apply HC.exit | apply HC.ret | apply HX.e_block | refine HX.e_other rfl ?_ | apply HX.e_then | apply HX.e_again | apply HX.n_block | apply HX.r_then | apply HX.r_block | apply HX.r_again | refine HC.cond_yes rfl ?_ | refine HC.cond_no rfl ?_ | refine HL.one (H1.ldb rfl memA rfl rfl ?_) | refine HC.cond rfl (fun hc => ?_) (fun hc => ?_) | refine HC.cond_b rfl (fun hc => ?_) (fun hc => ?_))
    exact hQq.get) : G := hwq ⟨x⟩
def cJ (i : Nat) (p : Nat → Bool) : Nat := ((List.range i).filter p).length
theorem cJ_yes {i : Nat} {p : Nat → Bool} (h : p i = true) : cJ (i + 1) p = cJ i p + 1 := by
  unfold cJ
  rw [List.range_succ, List.filter_append, List.length_append]
  simp [h]
theorem cJ_no {i : Nat} {p : Nat → Bool} (h : p i = false) : cJ (i + 1) p = cJ i p := by
  unfold cJ
  rw [List.range_succ, List.filter_append, List.length_append]
  simp [h]
theorem cJ_le (i : Nat) (p : Nat → Bool) : cJ i p ≤ i := by
  unfold cJ
  refine Nat.le_trans (List.length_filter_le _ _) ?_
  rw [List.length_range]
  exact Nat.le_refl _
def frJ (s : ByteArray) (k n : Nat) (p : Nat → Bool) : List ByteArray := (List.range n).map fun q => if p q = true then codeA s k q else noStr
theorem cJ_tf (n : Nat) (p : Nat → Bool) : ((List.range ((List.range n).map p).length).filter (tf ((List.range n).map p))).length = cJ n p := by
  unfold cJ
  rw [List.length_map, List.length_range]
  congr 1
  refine List.filter_congr fun q hq => ?_
  have := List.mem_range.1 hq
  simp [tf, this]
theorem agreeJ {s : ByteArray} {k n : Nat} {p : Nat → Bool} (hk : 1 ≤ k) (hn : n ≤ 9) (h : k ≤ cJ n p) : Agree (frJ s k n p) ((List.range n).map p) s k :=
  ⟨hk, by simp; omega, fun i hi ht => by
    have hi' : i < n := by simpa using hi
    have hp : p i = true := by simpa [tf, hi'] using ht
    unfold frJ
    rw [fr_range _ hi', if_pos hp], cN_len (by rw [cJ_tf]; exact h)⟩
/-- A disk whose records are durable, behind a power failure. -/
theorem CClean.dark {m : PM} {j : Jn} {N : Nat} {l : List ByteArray} (h : CClean m j N l) (hl : l.length ≤ 100000) (keep : List Int) (torn : Int) : ∃ k3, openF (j.k.crash keep torn) = (0, k3, some (adds t00 l)) ∧ (j.k.crash keep torn).Ok ∧ (j.k.crash keep torn).pend = [] ∧ (∀ r ∈ l, r.size ≤ 65536) ∧ j.k.Ok ∧ j.k.Fit := by
  have hs : ∀ r ∈ l, r.size ≤ 65536 := fun r hr => Nat.le_trans (h.rcs r hr) (by decide)
  have he := h.jn.half.ends
  obtain ⟨l3, k3, hl3, hop, -, hok, hp⟩ := he.opens hs hs h.jn.half.lo h.jn.half.hi keep torn
  obtain rfl : l3 = l := hl3.elim id id
  exact ⟨k3, hop, hok, hp, hs, he.ok, he.fits⟩
attribute [local irreducible] WC WL WX POp Then Again Fn NX W1 WA WO QL RP RA Yld LoopAt HC HL HX HN H1 HA HO HQ HB HP A.blk A.grow A.rd A.obj A.mp AgainH CutH
attribute [local irreducible] A.pm A.mx A.mit sumS newK expB codeA codeL
set_option maxHeartbeats 8000000 in
theorem custodianJoined_fn {w : World} {ea ec : Addr} (hG : RoundG w) (hE : ErrG ea w) (hC : CErrG ec w) (hRed : Red w) (s0 : ByteArray) (hs0 : s0.size ≤ 9223372036854775807) (n0 k0 left : Int) (hn1 : -9223372036854775808 ≤ n0) (hn2 : n0 ≤ 9223372036854775807) (hk1 : -9223372036854775808 ≤ k0) (hk2 : k0 ≤ 9223372036854775807)
    (hl1 : -9223372036854775808 ≤ left) (hl2 : left ≤ 9223372036854775807) :
    Fn Tryz.prog 9 #[.string s0, zv n0, zv k0, zv left] w fun v w' => v = .bool true ∧ Ext w w' := by
  obtain ⟨s, hs⟩ : ∃ s, s = cutS 200 s0 := ⟨_, rfl⟩
  have hs2 : s.size ≤ 200 := by rw [hs]; exact cutS_size _ _
  have hpn := pk_lt n0 (n := 6) (by decide)
  obtain ⟨n, hn, hn6, hn0⟩ : ∃ n : Nat, 1 + pk n0 6 = (n : Int) ∧ n ≤ 6 ∧ 1 ≤ n := ⟨(1 + pk n0 6).toNat, by omega, by omega, by omega⟩
  have hpk := pk_lt k0 (n := (n : Int)) (by omega)
  obtain ⟨k, hk, hkn, hk0⟩ : ∃ k : Nat, 1 + pk k0 (n : Int) = (k : Int) ∧ k ≤ n ∧ 1 ≤ k := ⟨(1 + pk k0 (n : Int)).toNat, by omega, by omega, by omega⟩
  have hpl := pk_lt left (n := 64) (by decide)
  obtain ⟨v, hv⟩ : ∃ v, v = pk left 64 := ⟨_, rfl⟩
  rw [← hv] at hpl
  obtain ⟨p, hp⟩ : ∃ p : Nat → Bool, p = fun i => decide (¬ v / 2 ^ i % 2 = 0) := ⟨_, rfl⟩
  have hlc : (codeL s k n).length = n := codeL_len s k n
  have hcz : ∀ i, (codeA s k i).size ≤ 200 := fun i => by
    rw [codeA_size]
    have h1 := mOf_lt s.size (show 0 < k by omega)
    have h2 : mOf s.size k ≤ k * mOf s.size k := Nat.le_mul_of_pos_left _ (by omega)
    have h3 : mOf s.size k ≤ s.size := by
      unfold mOf
      rcases Nat.eq_zero_or_pos s.size with h | h
      · rw [h]; exact Nat.le_of_eq (Nat.div_eq_of_lt (by omega))
      · refine Nat.div_le_of_le_mul ?_
        have : k + s.size ≤ k * s.size + 1 := by
          obtain ⟨a, rfl⟩ : ∃ a, k = a + 1 := ⟨k - 1, by omega⟩
          obtain ⟨b, hb⟩ : ∃ b, s.size = b + 1 := ⟨s.size - 1, by omega⟩
          rw [hb, Nat.add_mul, Nat.mul_add]
          omega
        omega
    omega
  have h0 := cclean0 (N := 3000) (by decide) (by decide)
  refine enterH (l := [_, _, _, _]) rfl Tryz.ntmps9 rfl ?_
  refine hwZG ?_
  refine HL.one (H1.callx (vs := []) rfl rfl (fun w' hM => sane27_fn (hG.ext hM.ext) (hE.ext hM.ext) (hC.ext hM.ext)) ?_)
  refine hwZG ?_
  refine HL.one (H1.call0 (vs := [_, zv ((200 : Nat) : Int)]) rfl rfl (fun w' _ => cut27_fn s0 200 hs0 w') ?_)
  rw [← hs]
  refine hwZG ?_
  refine HL.one (H1.call0 (vs := [_, zv 6]) rfl rfl (fun w' _ => pick27_fn n0 6 hn1 hn2 (by decide) w') ?_)
  refine hwZG ?_
  rw [hn]
  refine hwZG ?_
  refine HL.one (H1.call0 (vs := [_, zv (n : Int)]) rfl rfl (fun w' _ => pick27_fn k0 (n : Int) hk1 hk2 (by omega) w') ?_)
  refine hwZG ?_
  rw [hk]
  refine HL.one (H1.callz1 (vs := [.string s, zv (k : Int), zv (n : Int)]) rfl rfl (fun w' hM => split_z s k n hk0 hkn (by omega) (by omega) w' (hRed.ext hM.ext)) ?_)
  rintro bl -
  refine hwZG ?_
  refine HL.one (H1.make (l := n) (c := n) rfl rfl rfl rfl rfl (Nat.le_refl _) (by omega) (by omega) rfl (fun bf => ?_))
  rw [row_rep]
  refine hwZG ?_
  refine HL.one (H1.make (l := n) (c := n) rfl rfl rfl rfl rfl (Nat.le_refl _) (by omega) (by omega) rfl (fun bt => ?_))
  rw [row_rep]
  refine hbZG ?_
  repeat refine HC.seq ?_
  refine HC.cut (α := Unit) (fun _ => [(0, .string s), (2, zv (k : Int)), (9, .bool true), (12, .slice (some ⟨bf, 0, none⟩) n n), (13, .slice (some ⟨bt, 0, none⟩) n n), (14, zv ((cJ n p : Nat) : Int))]) (fun _ => [A.blk bf (row n fun q => .string (if q < n ∧ p q = true then codeA s k q else noStr)) 9, A.blk bt (row n fun q => .bool (decide (q < n) && p q)) 4]) (fun _ => True) ?_ ?_
  · refine HC.block ?_
    refine HC.loop (α := Nat) (fun i => [(0, .string s), (2, zv (k : Int)), (9, .bool true), (1, zv (n : Int)), (3, zv left), (10, .slice (some ⟨bl, 0, none⟩) n n), (12, .slice (some ⟨bf, 0, none⟩) n n), (13, .slice (some ⟨bt, 0, none⟩) n n), (14, zv ((cJ i p : Nat) : Int)), (15, zv (i : Int))])
      (fun i => [A.blk bf (row n fun q => .string (if q < i ∧ p q = true then codeA s k q else noStr)) 9, A.blk bt (row n fun q => .bool (decide (q < i) && p q)) 4, A.rd (.slice (some ⟨bl, 0, none⟩) n n) (strs (codeL s k n))]) (fun i => i ≤ n) (fun i => n - i) 0 (Nat.zero_le _) esA (Hs.cons (Pick.there Pick.here) (Hs.cons Pick.here (Hs.refl _))) ?_
    intro i hi
    by_cases hlt : i < n
    rotate_left
    · obtain rfl : i = n := by omega
      refine hwZG ?_
      exact HX.cut () trivial esA (Hs.cons Pick.here (Hs.cons Pick.here (Hs.nil _)))
    have hci := cJ_le i p
    have hfrg : (strs (codeL s k n))[i]? = some (.string (codeA s k i)) := by rw [strs_get (by omega), codeL_fr s k hlt]
    have hcs := hcz i
    have hpi : p i = decide (¬ v / 2 ^ i % 2 = 0) := by rw [hp]
    have hv0 : 0 ≤ v / 2 ^ i := Int.ediv_nonneg hpl.1 (Int.pow_nonneg (by decide))
    have hv1 : v / 2 ^ i ≤ v := Int.ediv_le_self _ hpl.1
    have hok7 : okP (7, (i : Int)) := ⟨by show (1 : Int) ≤ 7; decide, by show (7 : Int) ≤ 1000000; decide, by show (0 : Int) ≤ (i : Int); omega, by show (i : Int) < 9; omega⟩
    obtain ⟨j, hst, hc1⟩ := h0.store (p := (7, (i : Int))) (s := codeA s k i) hok7 (by omega) (Nat.le_trans (needL_le3 _ (fun r hr => by
      rcases List.mem_cons.1 hr with rfl | hr
      · exact recS_le3 hok7 hcs
      · cases hr)) (show 350 * 1 ≤ 3000 by decide))
    have hset : setM [] (7, (i : Int)) (codeA s k i) = [((7, (i : Int)), codeA s k i)] := rfl
    rw [hset] at hst hc1
    obtain ⟨k3, hop, hck, hcp, hrz, hjk, hjf⟩ := hc1.dark (Nat.le_trans (Nat.le_refl 1) (by decide)) [] (-1)
    have hrp := hc1.rep
    have hrl := hc1.len
    have hfv : fetchV [((7, (i : Int)), codeA s k i)] (7, (i : Int)) = .tuple #[.string (codeA s k i), zv 0] := fetchV_some (if_pos rfl)
    obtain ⟨fg, hfg⟩ : ∃ fg, fg = codeA s k i := ⟨_, rfl⟩
    rw [← hfg] at hfrg hcs hst hc1 hop hrz hrp hrl hfv
    refine hwZG ?_
    refine HL.one (H1.callz (α := (Nat × Nat × Nat) × Nat × Nat × Nat × (Option Addr × Nat) × (Option Addr × Nat)) (V := fun z => .tuple #[.pointer (some ⟨z.2.1, 0, none⟩), .pointer (some ⟨z.1.1, 0, none⟩), .bool true])
      (Hn := fun z => cuH z.2.1 z.2.2.1 z.2.2.2.1 z.1.1 z.1.2.1 z.1.2.2 z.2.2.2.2.1.1 z.2.2.2.2.1.2 z.2.2.2.2.2.1 z.2.2.2.2.2.2 [] ⟨t00, newK 3000, false⟩ []) (I := fun _ => True) (vs := [zv 3000]) rfl rfl (fun w' hM => opened_fn (hG.ext hM.ext) (hE.ext hM.ext) (hC.ext hM.ext) 3000 (by decide) (by decide)) ?_)
    rintro ⟨⟨bd, b1, b2⟩, bx, bm, bj, ⟨a, c⟩, ⟨pa, pc⟩⟩ -
    dsimp only
    refine hwZG ?_
    refine HL.one (H1.ldr (by rw [Nat.zero_add]; rfl) memA hfrg rfl ?_)
    refine hwZG ?_
    refine HL.one (H1.callk (α := (Option Addr × Nat) × (Option Addr × Nat)) (V := fun _ => zv 0) (I := fun _ => True) (H' := fun q => cuH bx bm bj bd b1 b2 q.1.1 q.1.2 q.2.1 q.2.2 [((7, (i : Int)), fg)] j [A.blk bf (row n fun q => .string (if q < i ∧ p q = true then codeA s k q else noStr)) 9, A.blk bt (row n fun q => .bool (decide (q < i) && p q)) 4, A.rd (.slice (some ⟨bl, 0, none⟩) n n) (strs (codeL s k n))]) (vs := [_, zv 7, zv (i : Int), .string fg]) rfl rfl
      (fun w' hM => by
        have h := store_fn (7, (i : Int)) fg hG hM (h0.jn.jok (Nat.zero_le _))
        rw [hst] at h
        exact h) ?_)
    rintro ⟨⟨a, c⟩, ⟨pa, pc⟩⟩ -
    dsimp only
    refine hwZG ?_
    refine HL.one (H1.call0 (vs := [_, zv 64]) rfl rfl (fun w' _ => pick27_fn left 64 hl1 hl2 (by decide) w') ?_)
    rw [← hv]
    refine hwZG ?_
    refine HL.pa ?_ (POp.shrI (b := i) rfl rfl rfl (by omega))
    by_cases hz : v / 2 ^ i % 2 = 0
    · have hpf : p i = false := by rw [hpi]; exact decide_eq_false fun h => h hz
      have hcj := cJ_no hpf
      have er : (row n fun q => Value.string (if q < i + 1 ∧ p q = true then codeA s k q else noStr)) = row n fun q => .string (if q < i ∧ p q = true then codeA s k q else noStr) := row_congr fun q _ => by
        by_cases e : q = i
        · subst e; rw [if_neg (by rw [hpf]; rintro ⟨-, h⟩; cases h), if_neg (by omega)]
        · have : (q < i + 1) = (q < i) := propext (by omega)
          simp only [this]
      have et : (row n fun q => Value.bool (decide (q < i + 1) && p q)) = row n fun q => .bool (decide (q < i) && p q) := row_congr fun q _ => by
        by_cases e : q = i
        · subst e; rw [hpf, Bool.and_false, Bool.and_false]
        · have : decide (q < i + 1) = decide (q < i) := decide_eq_decide.2 (by omega)
          rw [this]
      refine hwZG ?_
      exact HX.again (i + 1) hlt (by show n - (i + 1) < n - i; omega) ⟨rfl, rfl, rfl, rfl, rfl, rfl, rfl, rfl, by rw [hcj]; rfl, rfl, trivial⟩ (by rw [er, et]; exact (Hs.cons (Pick.there (Pick.there (Pick.there (Pick.there (Pick.there (Pick.there (Pick.there (Pick.there Pick.here)))))))) (Hs.cons (Pick.there (Pick.there (Pick.there (Pick.there (Pick.there (Pick.there (Pick.there (Pick.there Pick.here)))))))) (Hs.cons (Pick.there (Pick.there (Pick.there (Pick.there (Pick.there (Pick.there (Pick.there (Pick.there Pick.here)))))))) (Hs.nil _)))))
    have hpt : p i = true := by rw [hpi]; exact decide_eq_true hz
    have hcj := cJ_yes hpt
    refine hwZG ?_
    refine HL.one (H1.callk (α := Unit) (V := fun _ => zv 0) (I := fun _ => True) (H' := fun _ => dkH bd b1 b2 pa pc (j.k.crash [] (-1)) [A.blk bf (row n fun q => .string (if q < i ∧ p q = true then codeA s k q else noStr)) 9, A.blk bt (row n fun q => .bool (decide (q < i) && p q)) 4, A.rd (.slice (some ⟨bl, 0, none⟩) n n) (strs (codeL s k n))]) (vs := [_, .slice none 0 0, zv (-1)]) rfl rfl
      (fun w' hM => (crash_fn [] (-1) (by decide) (by decide) (hM.sub (Hs.cons (Pick.there (Pick.there (Pick.there (Pick.there Pick.here)))) (Hs.cons (Pick.there (Pick.there (Pick.there (Pick.there Pick.here)))) (Hs.cons (Pick.there (Pick.there (Pick.there (Pick.there Pick.here)))) (Hs.cons (Pick.there (Pick.there (Pick.there (Pick.there Pick.here)))) (Hs.refl _).skip.skip.skip.skip))))) hjk hjf (by decide) (fun w2 hM2 => ⟨none, 0, rfl, Nat.le_refl _, .inl rfl⟩)).mono fun v w2 h => ⟨(), trivial, h⟩) ?_)
    rintro - -
    generalize j.k.crash [] (-1) = k2 at hop hck hcp
    refine hwZG ?_
    refine HL.one (H1.callk (α := Nat × Nat × Nat × (Option Addr × Nat) × (Option Addr × Nat)) (V := fun z => .tuple #[.pointer (some ⟨z.1, 0, none⟩), zv 0]) (I := fun _ => True) (H' := fun z => cuH z.1 z.2.1 z.2.2.1 bd b1 b2 z.2.2.2.1.1 z.2.2.2.1.2 z.2.2.2.2.1 z.2.2.2.2.2 [((7, (i : Int)), fg)] ⟨adds t00 ([] ++ [recS (7, (i : Int)) fg]), k3, false⟩ [A.blk bf (row n fun q => .string (if q < i ∧ p q = true then codeA s k q else noStr)) 9, A.blk bt (row n fun q => .bool (decide (q < i) && p q)) 4, A.rd (.slice (some ⟨bl, 0, none⟩) n n) (strs (codeL s k n))]) (vs := [_]) rfl rfl
      (fun w' hM => (copen_F hG hE hC hM hck (by rw [hcp]; exact Nat.zero_le _) (.inl ⟨_, _, hop, by rw [adds0_recs]; show 1 ≤ 100000; decide, by rw [adds0_recs]; exact hrz⟩)).mono fun v w2 h => by
        rw [hop] at h
        unfold copenP at h
        dsimp only at h
        rw [adds0_recs, hrp] at h
        obtain ⟨z, h1, h2⟩ := h
        exact ⟨z, trivial, h1, h2⟩) ?_)
    rintro ⟨by_, bn, bk, ⟨a, c⟩, ⟨pa, pc⟩⟩ -
    dsimp only
    refine hwZG ?_
    refine HL.one (H1.callk (α := Unit) (V := fun _ => .tuple #[.string fg, zv 0]) (I := fun _ => True) (H' := fun _ => [A.blk bf (row n fun q => .string (if q < i ∧ p q = true then codeA s k q else noStr)) 9, A.blk bt (row n fun q => .bool (decide (q < i) && p q)) 4, A.rd (.slice (some ⟨bl, 0, none⟩) n n) (strs (codeL s k n))]) (vs := [_, zv 7, zv (i : Int)]) rfl rfl
      (fun w' hM => by
        have h := fetch_fn (7, (i : Int)) hM
        rw [hfv] at h
        exact h.mono fun v w2 ⟨z, h1, h2, h3⟩ => ⟨z, h1, h2, h3.sub (Hs.cons (Pick.there (Pick.there (Pick.there (Pick.there (Pick.there (Pick.there (Pick.there (Pick.there Pick.here)))))))) (Hs.cons (Pick.there (Pick.there (Pick.there (Pick.there (Pick.there (Pick.there (Pick.there (Pick.there Pick.here)))))))) (Hs.cons (Pick.there (Pick.there (Pick.there (Pick.there (Pick.there (Pick.there (Pick.there (Pick.there Pick.here)))))))) (Hs.nil _))))⟩) ?_)
    rintro - -
    refine hwZG ?_
    refine HL.one (H1.st rfl rfl (by intro _ h; cases h) (by intro _ h; cases h) rplA (by rw [row_len]; omega) ?_)
    rw [row_step (g := fun q => Value.string (if q < i + 1 ∧ p q = true then codeA s k q else noStr)) (by rw [if_pos ⟨Nat.lt_succ_self _, hpt⟩, ← hfg]) (fun q hq => by
      have : (q < i + 1) = (q < i) := propext (by omega)
      simp only [this])]
    refine hwZG ?_
    refine HL.one (H1.st rfl rfl (by intro _ h; cases h) (by intro _ h; cases h) rplA (by rw [row_len]; omega) ?_)
    rw [row_step (g := fun q => Value.bool (decide (q < i + 1) && p q)) (by rw [hpt, decide_eq_true (Nat.lt_succ_self i)]; rfl) (fun q hq => by
      have : decide (q < i + 1) = decide (q < i) := decide_eq_decide.2 (by omega)
      rw [this])]
    refine hwZG ?_
    exact HX.again (i + 1) hlt (by show n - (i + 1) < n - i; omega) ⟨rfl, rfl, rfl, rfl, rfl, rfl, rfl, rfl, by rw [hcj]; rfl, rfl, trivial⟩ (Hs.refl _)
  rintro - -
  have eF : ∀ w', Mm w [A.blk bf (row n fun q => .string (if q < n ∧ p q = true then codeA s k q else noStr)) 9, A.blk bt (row n fun q => .bool (decide (q < n) && p q)) 4] w' → Rd w' (.slice (some ⟨bf, 0, none⟩) n n) (strs (frJ s k n p)) := fun w' hM => by
    have := Rd.of_row (hM.blk (b := bf) memA) (Nat.le_refl _) (Nat.le_refl n)
    refine (congrArg (Rd w' _) ?_).mp this
    unfold frJ strs
    rw [List.map_map]
    refine List.map_congr_left fun q hq => ?_
    have hq2 := List.mem_range.1 hq
    simp [hq2]
  have eT : ∀ w', Mm w [A.blk bf (row n fun q => .string (if q < n ∧ p q = true then codeA s k q else noStr)) 9, A.blk bt (row n fun q => .bool (decide (q < n) && p q)) 4] w' → Rd w' (.slice (some ⟨bt, 0, none⟩) n n) (bools ((List.range n).map p)) := fun w' hM => by
    have := Rd.of_row (hM.blk (b := bt) memA) (Nat.le_refl _) (Nat.le_refl n)
    refine (congrArg (Rd w' _) ?_).mp this
    unfold bools
    rw [List.map_map]
    refine List.map_congr_left fun q hq => ?_
    have hq2 := List.mem_range.1 hq
    simp [hq2]
  have hfl : (frJ s k n p).length = n := by unfold frJ; rw [List.length_map, List.length_range]
  have htl : ((List.range n).map p).length = n := by rw [List.length_map, List.length_range]
  by_cases hcn : k ≤ cJ n p
  · have hcn' : (k : Int) ≤ ((cJ n p : Nat) : Int) := by omega
    have hag := agreeJ (s := s) hk0 (show n ≤ 9 by omega) hcn
    have hok := hag.join (by rw [hfl, htl]) (by omega)
    have hcat : (catO (frJ s k n p) ((List.range n).map p) (k : Int).toNat).extract 0 (s.size : Int).toNat = s := by rw [Int.toNat_natCast, Int.toNat_natCast, hag.cat, padS_take]
    refine hwZG ?_
    refine HL.one (H1.callx (vs := [_, _, _, _]) rfl rfl (fun w' hM => by
      have h := join_yes hok (by omega) (by omega) w' (hRed.ext hM.ext) (eF w' hM) (eT w' hM)
      rw [hcat] at h
      exact h) ?_)
    refine hwZG ?_
    rw [show (decide ((0 : Int) = 0) == decide ((k : Int) ≤ ((cJ n p : Nat) : Int))) = true from by rw [decide_eq_true hcn']; rfl]
    refine hwZG ?_
    exact HX.ret1 rfl rfl fun w' hM => ⟨by rw [decide_eq_true (rfl : s = s)], hM.ext⟩
  · have hcn' : ¬ (k : Int) ≤ ((cJ n p : Nat) : Int) := by omega
    have hno : ¬ JoinOK (frJ s k n p) ((List.range n).map p) (k : Int) (s.size : Int) := fun h => few_no (by rw [cJ_tf]; omega) h.1
    refine hwZG ?_
    refine HL.one (H1.callx (vs := [_, _, _, _]) rfl rfl (fun w' hM => join_no hno (by omega) (by omega) w' (hRed.ext hM.ext) (eF w' hM) (eT w' hM)) ?_)
    refine hwZG ?_
    rw [show (decide ((170 : Int) = 0) == decide ((k : Int) ≤ ((cJ n p : Nat) : Int))) = true from by rw [decide_eq_false hcn']; rfl]
    refine hwZG ?_
    exact HX.ret1 rfl rfl fun w' hM => ⟨rfl, hM.ext⟩
end Go.Sx
/- From a function's contract to a row's statement: arguments that are numbers, slices of numbers, slices of strings; the laid variables of chapter 26. -/
namespace Go.Sx
open Go Go.ChangeShapes Go.WideShapes Go.ChangeAt Go.RowKit
def i64W (x : Int) : Prop := -9223372036854775808 ≤ x ∧ x ≤ 9223372036854775807
section
variable {H : Type} {enc : TypeId × Value → H} {P : Program} {w : World} {b : Nat} {sp : Nat → Bool} {hd : Bool}
theorem args_cons {t : TypeId} {ts : List TypeId} {vs : List Value} {ds : List (DataW H)} {ps : List MemPlace} (h : DataW.TrodAll enc P w b sp hd (t :: ts) vs ds ps) :
    ∃ v vs' d ds' p q, vs = v :: vs' ∧ ds = d :: ds' ∧ ps = p ++ q ∧ DataW.Trod enc P w b sp hd t v d p ∧ DataW.TrodAll enc P w b sp hd ts vs' ds' q := by
  cases vs with
  | nil => exact h.elim
  | cons v vs =>
    cases ds with
    | nil => exact h.elim
    | cons d ds =>
      obtain ⟨p, q, h1, h2, h3⟩ := h
      exact ⟨v, vs, d, ds, p, q, rfl, rfl, h3, h1, h2⟩
theorem args_nil {vs : List Value} {ds : List (DataW H)} {ps : List MemPlace} (h : DataW.TrodAll enc P w b sp hd [] vs ds ps) : vs = [] ∧ ds = [] ∧ ps = [] := by
  cases vs with
  | cons v vs => exact h.elim
  | nil => cases ds with
    | cons d ds => exact h.elim
    | nil => exact ⟨rfl, rfl, h⟩
theorem trodAll_ext (hl : laidOutB P = true) {W W' : World} (hx : Below W.heap.size W W') : ∀ {ts : List TypeId} {vs : List Value} {ds : List (DataW H)} {ps : List MemPlace}, (ts.all fun t => P.readableRec t && decide (t < P.types.size)) = true →
    DataW.TrodAll enc P W 0 (fun _ => true) true ts vs ds ps → (∀ p ∈ ps, p.block < W.heap.size) → ∀ sp : Nat → Bool, (∀ p ∈ ps, sp p.block = true) → DataW.TrodAll enc P W' 0 sp true ts vs ds ps
  | [], [], [], _, _, h, _, _, _ => h
  | [], [], _ :: _, _, _, h, _, _, _ => h.elim
  | [], _ :: _, _, _, _, h, _, _, _ => h.elim
  | _ :: _, [], _, _, _, h, _, _, _ => h.elim
  | _ :: _, _ :: _, [], _, _, h, _, _, _ => h.elim
  | t :: ts, v :: vs, d :: ds, ps, ht, h, hlt, sp, hsp => by
    obtain ⟨p, q, h1, h2, rfl⟩ := h
    simp only [List.all_cons, Bool.and_eq_true, decide_eq_true_eq] at ht
    refine ⟨p, q, ?_, trodAll_ext hl hx ht.2 h2 (fun x hx => hlt x (by simp [hx])) sp (fun x hx => hsp x (by simp [hx])), rfl⟩
    exact WideElems.Trod_stays hl ht.1.1 ht.1.2 h1 (fun x hx' => hx.same (hlt x (by simp [hx']))) (fun x hx' => hsp x (by simp [hx']))
end
end Go.Sx
namespace Go.Sx
open Go Go.Proofs Go.ChangeShapes Go.WideShapes Go.ChangeAt Go.RowKit
/-- The call has laid new blocks, and turned no old one. -/
theorem post_ext {H : Type} {enc : TypeId × Value → H} {P : Program} {f : Func} {s : ChangeSpec} {apart fresh handsOn again : Bool} {W W' : World} {args : Array Value} {v : Value} {ds gs : List (DataW H)} {before pa pv : List MemPlace} (hx : Ext W W')
    (hW : DataW.Whole enc P f.params.toList s.vars apart W args.toList ds gs before)
    (hres : ∀ (b : Nat) (sp : Nat → Bool) (hd : Bool), DataW.TrodAll enc P W' b sp hd f.resultTypes.toList (v.resultList f.resultTypes.size) (s.fn H (ds ++ gs)).results [])
    (hargs : ∀ sp : Nat → Bool, (∀ p ∈ before, sp p.block = true) → DataW.TrodAll enc P W' 0 sp true f.params.toList args.toList (s.fn H (ds ++ gs)).args pa)
    (hvars : ∀ sp : Nat → Bool, (∀ p ∈ before, sp p.block = true) → DataW.TrodVars enc P W' sp s.vars (s.fn H (ds ++ gs)).vars pv)
    (hps : before = pa ++ pv)
    (hok : ∀ (j : Nat) (t : TypeId) (r : Value), f.resultTypes[j]? = some t → (v.resultList f.resultTypes.size)[j]? = some r → Value.okWide P W' .any 0 t r) :
    s.post enc P f apart fresh handsOn again W args v W' := by
  have hlt : ∀ p ∈ before, p.block < W.heap.size := fun p hp => hW.lt p hp
  have hold : ∀ p ∈ before, (fun b => decide (b < W.heap.size)) p.block = true := fun p hp => by simpa using hW.lt p hp
  refine ⟨ds, gs, before, [], pa, pv, hW, hres _ _ _, hargs _ hold, hvars _ hold, (World.keptBut_refl W _).congr hx.os hx.output hx.block, fun _ => ?_⟩
  obtain ⟨_, _, _, _, _, hz, hn⟩ := hW
  refine ⟨hok, _, _, ([] ++ pa) ++ pv, ⟨[] ++ pa, pv, trodAll_append (hargs _ (fun _ _ => rfl)) (hres _ _ _), hvars _ (fun _ _ => rfl), rfl, ?_, ?_⟩, ?_⟩
  · intro b off hp
    have hp' : MemPlace.cell b off ∈ before := by rw [hps]; simpa using hp
    rw [World.frozen?_of_block (hx.block b (hlt _ hp'))]
    exact hz b off hp'
  · intro ha
    have := hn ha
    rw [hps] at this
    simpa using this
  · intro p hp _
    rw [hps]
    simpa using hp
theorem i64_of {x : Int} (h : (Lit.int .i64 x).wf = true) : i64W x := by
  simp only [Lit.wf, Bool.and_eq_true, decide_eq_true_eq] at h
  have e1 : IntKind.i64.min = -9223372036854775808 := rfl
  have e2 : IntKind.i64.max = 9223372036854775807 := rfl
  rw [e1, e2] at h
  exact h
theorem ownK : ownKnob Tryz.prog.godebug = none := by kernel_rfl
section
variable {H : Type} {enc : TypeId × Value → H} {P : Program} {W : World} {r : Reach} {b0 b : Nat} {sp : Nat → Bool} {hd : Bool} {v : Value} {d : DataW H} {p : List MemPlace}
def cellInt (W : World) (a : Addr) : Int := match W.cell? a with | some (.int _ z) => z | _ => 0
theorem strs_row (n : Nat) (f : Nat → ByteArray) : strs ((List.range n).map f) = row n fun q => .string (f q) := by simp [strs, row]
def cellStr (W : World) (a : Addr) : ByteArray := match W.cell? a with | some (.string z) => z | _ => ByteArray.mk #[]
end
section
variable {H : Type} {enc : TypeId × Value → H} {W : World} {r : Reach} {b0 b : Nat} {sp : Nat → Bool} {hd : Bool} {v : Value} {d : DataW H} {p : List MemPlace}
theorem open_intK {t : TypeId} {P : Program} (ht : P.underlying t = some (.int .i64)) (hv : Value.okWide P W r b0 t v) (h : DataW.Trod enc P W b sp hd t v d p) : ∃ x : Int, v = zv x ∧ i64W x := by
  obtain ⟨z, rfl⟩ := okWide_int ht hv
  obtain ⟨fuel, hf⟩ := h
  have hf' : DataW.trod enc P W b sp hd fuel t [.int .i64 z] = some (d, p) := hf
  obtain ⟨z', e, -, hw⟩ := DataW.trod_int ht hf'
  cases e
  exact ⟨z, rfl, i64_of hw⟩
end
end Go.Sx
/- What the rows of chapter 26 say of the package's variables. -/
namespace Go.Sx
open Go Go.Proofs Go.ChangeShapes Go.WideShapes Go.ChangeAt Go.RowKit
def laid4 : List (String × DataW Unit) := [("unicode/utf8.acceptRanges", YtionfblneloaiaaGreatDoor.Rows.laid_unicode_utf8_acceptRanges), ("evergreen/digest.round", YtionfblneloaiaaGreatDoor.Rows.laid_evergreen_digest_round), ("evergreen/journal.errDamaged", YtionfblneloaiaaGreatDoor.Rows.laid_evergreen_journal_errDamaged), ("unicode/utf8.first", YtionfblneloaiaaGreatDoor.Rows.laid_unicode_utf8_first)]
def kZ : List Int := kL.map fun x => ((x.toNat : Nat) : Int)
theorem kZ_data : (YtionfblneloaiaaGreatDoor.Rows.laid_evergreen_digest_round : DataW Unit) = Lib.tabData .u32 kZ := by kernel_rfl
theorem err_star : "*" ++ "errors.errorString" = "*errors.errorString" := by decide
theorem err_row (u : TypeId) (h : Tryz.prog.typeName? 3 u = some "*errors.errorString") : u = 303 :=
  typeName_ptr_named (nm := "errors.errorString") (by rw [err_star]; kernel_rfl) (by kernel_rfl) (by decide) u (by rw [err_star]; exact h)
end Go.Sx
/- Chapter 27: the laid variables. -/
namespace Go.Sx
open Go Go.Proofs Go.ChangeShapes Go.WideShapes Go.ChangeAt Go.RowKit
def laid5 : List (String × DataW Unit) := [("unicode/utf8.acceptRanges", YtionfblneloaiaaGreatDoor.Rows.laid_unicode_utf8_acceptRanges), ("evergreen/digest.round", YtionfblneloaiaaGreatDoor.Rows.laid_evergreen_digest_round), ("evergreen/journal.errDamaged", YtionfblneloaiaaGreatDoor.Rows.laid_evergreen_journal_errDamaged), ("evergreen/custodian.errRecord", YtionfblneloaiaaGreatDoor.Rows.laid_evergreen_custodian_errRecord), ("unicode/utf8.first", YtionfblneloaiaaGreatDoor.Rows.laid_unicode_utf8_first)]
end Go.Sx
/- Chapter 27: the laid variables of the law CustodianJoined. -/
namespace Go.Sx
open Go Go.Proofs Go.ChangeShapes Go.WideShapes Go.ChangeAt Go.RowKit
def laid6 : List (String × DataW Unit) := [("unicode/utf8.acceptRanges", YtionfblneloaiaaGreatDoor.Rows.laid_unicode_utf8_acceptRanges), ("evergreen/code.reduced", YtionfblneloaiaaGreatDoor.Rows.laid_evergreen_code_reduced), ("evergreen/digest.round", YtionfblneloaiaaGreatDoor.Rows.laid_evergreen_digest_round), ("evergreen/journal.errDamaged", YtionfblneloaiaaGreatDoor.Rows.laid_evergreen_journal_errDamaged), ("evergreen/custodian.errRecord", YtionfblneloaiaaGreatDoor.Rows.laid_evergreen_custodian_errRecord), ("unicode/utf8.first", YtionfblneloaiaaGreatDoor.Rows.laid_unicode_utf8_first)]
theorem laid6_plain {W : World} (h : laidMetH Tryz.prog laid6 W) : laidMet Tryz.prog laid6 W := by
  rwa [MakeChecks.laidMetH_plain _ _ _ (by kernel_rfl)] at h
theorem red_data6 : (YtionfblneloaiaaGreatDoor.Rows.laid_evergreen_code_reduced : DataW Unit) = .agg (redL.map fun n : Nat => .lit (.int .i64 (n : Int))) := by rfl
theorem red_of_laid6 {W : World} (h : laidMetH Tryz.prog laid6 W) : Red W := by
  rw [MakeChecks.laidMetH_plain _ _ _ (by kernel_rfl)] at h
  obtain ⟨ps, ⟨_, _, _, _, _, _, _, _, _, _, ⟨g, t, cs, fuel, p, q, hg, ht, hv, hd, _, _⟩, _⟩, _, _⟩ := h
  obtain rfl := Option.some.inj ((show Tryz.prog.globalNamed "evergreen/code.reduced" = some 3 by kernel_rfl).symm.trans hg)
  obtain rfl := Option.some.inj ((show (Tryz.prog.globals[3]?).map (·.type) = some 280 by kernel_rfl).symm.trans ht)
  obtain ⟨xs, m, _, ex, _, hl, hel⟩ := DataW.trod_array Tryz.underlying280 hd
  have c1 : Tryz.prog.cellsOf 3 = 1 := by kernel_rfl
  rw [red_data6] at ex
  intro r hr
  have hE := hel r hr
  rw [c1, Nat.mul_one, List.getElem?_eq_getElem (by omega)] at hE
  obtain ⟨z, e1, e2, _⟩ := DataW.trod_int Tryz.underlying3 hE
  have hlen : redL.length = 16 := by decide
  have e3 : (xs.map (·.1)) = redL.map fun n : Nat => .lit (.int .i64 (n : Int)) := (DataW.agg.inj (Prod.mk.inj ex).1).symm
  have e4 : (xs.map (·.1))[r]? = (redL.map fun n : Nat => (DataW.lit (.int .i64 (n : Int)) : DataW Unit))[r]? := by rw [e3]
  rw [List.getElem?_map, List.getElem?_map, List.getElem?_eq_getElem (by omega : r < xs.length), List.getElem?_eq_getElem (by omega : r < redL.length), e2] at e4
  have hz : z = ((redL.getD r 0 : Nat) : Int) := by
    simp only [Option.map_some, Option.some.injEq, DataW.lit.injEq, Lit.int.injEq, true_and] at e4
    rw [e4, List.getD, List.getElem?_eq_getElem (by omega : r < redL.length)]; rfl
  rw [World.var?_cell hg hv r, ← hz]
  have : cs.toList[r]? = some (.int .i64 z) := by
    have h0 : ((cs.toList.drop r).take 1)[0]? = some (.int .i64 z) := by rw [e1]; rfl
    simpa using h0
  simpa using this
theorem round_of_laid6 {W : World} (h : laidMetH Tryz.prog laid6 W) : RoundG W := by
  have h1 := (laid6_plain h).tail.tail
  have h2 : laidMet Tryz.prog (("evergreen/digest.round", Lib.tabData .u32 kZ) :: [("evergreen/journal.errDamaged", YtionfblneloaiaaGreatDoor.Rows.laid_evergreen_journal_errDamaged), ("evergreen/custodian.errRecord", YtionfblneloaiaaGreatDoor.Rows.laid_evergreen_custodian_errRecord), ("unicode/utf8.first", YtionfblneloaiaaGreatDoor.Rows.laid_unicode_utf8_first)]) W := by
    rw [← kZ_data]; exact h1
  have hT := Lib.tabIs_of_head (g := 1) (by kernel_rfl) (by kernel_rfl) Tryz.underlying226 Tryz.underlying85 (by kernel_rfl) (by kernel_rfl) h2
  intro i v hv
  have hlen : kZ.length = 64 := by kernel_rfl
  have hi : i < 64 := by
    have := (List.getElem?_eq_some_iff.1 hv).1
    unfold ws at this
    rw [List.length_map] at this
    exact this
  have hc := hT.cell (g := 1) (by kernel_rfl) i (by rw [hlen]; exact hi)
  rw [hc]
  unfold ws at hv
  rw [List.getElem?_map, List.getElem?_eq_getElem (by exact hi)] at hv
  rw [← hv]
  have hk : i < kL.length := hi
  have : kZ.getD i 0 = ((kL[i].toNat : Nat) : Int) := by unfold kZ; simp [hk]
  rw [this]; rfl
theorem err_of_laid6 {W : World} (h : laidMetH Tryz.prog laid6 W) : ∃ a : Addr, ErrG a W := by
  have h1 := (laid6_plain h).tail.tail.tail
  obtain ⟨a, s, hv, hc, -, -⟩ := laid_sentinel (g := 2) h1 (by kernel_rfl) (by kernel_rfl) Tryz.underlying111 err_row Tryz.underlying303 Tryz.underlying325 rfl rfl Tryz.underlying9 (by kernel_rfl) (by kernel_rfl)
  refine ⟨a, ?_⟩
  have := World.var?_cell (g := 2) (by kernel_rfl) hv 0
  simpa [ErrG, errV] using this
theorem cerr_of_laid6 {W : World} (h : laidMetH Tryz.prog laid6 W) : ∃ a : Addr, CErrG a W := by
  have h1 := (laid6_plain h).tail.tail.tail.tail
  obtain ⟨a, s, hv, hc, -, -⟩ := laid_sentinel (g := 0) h1 (by kernel_rfl) (by kernel_rfl) Tryz.underlying111 err_row Tryz.underlying303 Tryz.underlying325 rfl rfl Tryz.underlying9 (by kernel_rfl) (by kernel_rfl)
  refine ⟨a, ?_⟩
  have := World.var?_cell (g := 0) (by kernel_rfl) hv 0
  simpa [CErrG, errV] using this
end Go.Sx
