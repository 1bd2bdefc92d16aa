/- Chapter 17: completed. -/
import Derived.Test.YtfjkdciblblalaaDoorC5
namespace Go.Sx
open Go Go.Proofs
attribute [local irreducible] WC WL WX POp Then Again Fn NX W1 WA WO QL RP RA Yld LoopAt
set_option maxHeartbeats 2000000 in
theorem completed_fn (vf vt : Value) (frs : List ByteArray) (th : List Bool) (k : Int) (_hl : frs.length ≤ 100) (hlt : th.length ≤ 100) (w : World) (hr : Red w) (hRf : Rd w vf (strs frs)) (hRt : Rd w vt (bools th)) :
    Fn Tryd.prog 23 #[vf, vt, .int .i64 k] w fun v w' => ∃ c b, v = .tuple #[c, .bool b] ∧ Ext w w' ∧ (b = true ↔ CompOK frs th k) ∧ (b = true → Rd w' c (strs ((List.range frs.length).map (cOut frs th k.toNat)))) := by
  have hlf : (strs frs).length = frs.length := by simp [strs]
  have hlt' : (bools th).length = th.length := by simp [bools]
  by_cases hC : isC k frs.length ∧ th.length = frs.length
  · obtain ⟨hC, hL⟩ := hC
    obtain ⟨k1, k2, k3⟩ := id hC
    obtain ⟨bf, off, c, rfl, hc, hb0, -⟩ := hRf.at (by intro e; rw [e] at hlf; simp at hlf; omega)
    obtain ⟨bt, offt, ct, rfl, hct, hbt, -⟩ := hRt.at (by intro e; rw [e] at hlt'; simp at hlt'; omega)
    rw [hlf] at hc hRf ⊢
    rw [hlt', hL] at hct hRt ⊢
    obtain ⟨K, rfl⟩ : ∃ K : Nat, k = (K : Int) := ⟨k.toNat, by omega⟩
    refine enter (l := [_, _, _]) rfl Tryd.ntmps23 rfl ?_
    repeat' (first | apply WL.fold | apply WA.fold | apply WL.nil | apply WX.n_then | apply WC.seq | apply WC.region | refine WL.pa ?_ | refine WL.ga rfl ?_ | refine WL.na rfl ?_ | refine WL.nu rfl rfl ?_ | apply WC.block | apply WC.skip | apply WC.exit | apply WC.ret | apply WX.e_block | refine WX.e_other rfl ?_ | apply WX.e_then | apply WX.e_again | apply WX.n_block | apply WX.r_then | apply WX.r_block | apply WX.r_again | refine WC.cond_yes rfl ?_ | refine WC.cond_no rfl ?_ | refine WC.cond rfl (fun hc => ?_) (fun hc => ?_) | refine WC.cond_b rfl (fun hc => ?_) (fun hc => ?_))
    refine WL.call rfl rfl (isCode_fn _ _ _) ?_
    rintro _ w1 ⟨rfl, rfl⟩
    simp only [hC, decide_true]
    repeat' (first | apply WL.fold | apply WA.fold | apply WL.nil | apply WX.n_then | apply WC.seq | apply WC.region | refine WL.pa ?_ | refine WL.ga rfl ?_ | refine WL.na rfl ?_ | refine WL.nu rfl rfl ?_ | apply WC.block | apply WC.skip | apply WC.exit | apply WC.ret | apply WX.e_block | refine WX.e_other rfl ?_ | apply WX.e_then | apply WX.e_again | apply WX.n_block | apply WX.r_then | apply WX.r_block | apply WX.r_again | refine WC.cond_yes rfl ?_ | refine WC.cond_no rfl ?_ | refine WC.cond rfl (fun hc => ?_) (fun hc => ?_) | refine WC.cond_b rfl (fun hc => ?_) (fun hc => ?_))
    refine WC.loop (α := Nat × Value) (fun z => [(0, .slice (some ⟨bf, off, none⟩) frs.length c), (1, .slice (some ⟨bt, offt, none⟩) frs.length ct), (2, iv K), (8, z.2), (30, .slice (some ⟨bt, offt, none⟩) frs.length ct), (31, iv frs.length), (32, iv z.1)])
      (fun z w' => z.1 ≤ frs.length ∧ Ext w w' ∧ w'.ownsRow w.heap.size 3 1 z.2 (tnums th z.1 K).length ((tnums th z.1 K).map iv)) (fun z => frs.length - z.1) (0, .slice none 0 0)
      ⟨rfl, rfl, rfl, rfl, rfl, rfl, rfl, trivial⟩ ⟨by simp, Ext.refl _, by simpa [tnums] using World.ownsRow_nil w w.heap.size 3 1⟩ ?_
    rintro ⟨i, v⟩ w1 ⟨hi, x1, hown⟩
    dsimp only at hi hown ⊢
    obtain ⟨av, cv, rfl⟩ := (Rd.of_owns hown).len
    rw [List.length_map] at hown ⊢
    have hlen1 := tnums_len th i K
    have hlen2 := tnums_len2 th i K
    by_cases hlti : i < frs.length
    · have hcell := (hRt.ext x1).cell (bools_get (i := i) (by omega))
      cases hb : tf th i with
      | false =>
        rw [hb] at hcell
        repeat' (first | apply WL.fold | apply WA.fold | apply WL.nil | apply WX.n_then | apply WC.seq | apply WC.region | refine WL.pa ?_ | refine WL.ga rfl ?_ | refine WL.na rfl ?_ | refine WL.nu rfl rfl ?_ | apply WC.block | apply WC.skip | apply WC.exit | apply WC.ret | apply WX.e_block | refine WX.e_other rfl ?_ | apply WX.e_then | apply WX.e_again | apply WX.n_block | apply WX.r_then | apply WX.r_block | apply WX.r_again | refine WC.cond_yes rfl ?_ | refine WC.cond_no rfl ?_ | refine WC.cond rfl (fun hc => ?_) (fun hc => ?_) | refine WC.cond_b rfl (fun hc => ?_) (fun hc => ?_))
        refine WL.load rfl hcell rfl ?_
        repeat' (first | apply WL.fold | apply WA.fold | apply WL.nil | apply WX.n_then | apply WC.seq | apply WC.region | refine WL.pa ?_ | refine WL.ga rfl ?_ | refine WL.na rfl ?_ | refine WL.nu rfl rfl ?_ | apply WC.block | apply WC.skip | apply WC.exit | apply WC.ret | apply WX.e_block | refine WX.e_other rfl ?_ | apply WX.e_then | apply WX.e_again | apply WX.n_block | apply WX.r_then | apply WX.r_block | apply WX.r_again | refine WC.cond_yes rfl ?_ | refine WC.cond_no rfl ?_ | refine WC.cond rfl (fun hc => ?_) (fun hc => ?_) | refine WC.cond_b rfl (fun hc => ?_) (fun hc => ?_))
        exact WX.again (i + 1, _) ⟨by show i + 1 ≤ _; omega, x1, by show World.ownsRow _ _ _ _ _ _ _; dsimp only; rw [tnums_skip hb]; exact hown⟩ (by show _ - (i + 1) < _ - i; omega) ⟨rfl, rfl, rfl, rfl, rfl, rfl, rfl, trivial⟩
      | true =>
        rw [hb] at hcell
        by_cases hroom : (tnums th i K).length < K
        · repeat' (first | apply WL.fold | apply WA.fold | apply WL.nil | apply WX.n_then | apply WC.seq | apply WC.region | refine WL.pa ?_ | refine WL.ga rfl ?_ | refine WL.na rfl ?_ | refine WL.nu rfl rfl ?_ | apply WC.block | apply WC.skip | apply WC.exit | apply WC.ret | apply WX.e_block | refine WX.e_other rfl ?_ | apply WX.e_then | apply WX.e_again | apply WX.n_block | apply WX.r_then | apply WX.r_block | apply WX.r_again | refine WC.cond_yes rfl ?_ | refine WC.cond_no rfl ?_ | refine WC.cond rfl (fun hc => ?_) (fun hc => ?_) | refine WC.cond_b rfl (fun hc => ?_) (fun hc => ?_))
          refine WL.load rfl hcell rfl ?_
          repeat' (first | apply WL.fold | apply WA.fold | apply WL.nil | apply WX.n_then | apply WC.seq | apply WC.region | refine WL.pa ?_ | refine WL.ga rfl ?_ | refine WL.na rfl ?_ | refine WL.nu rfl rfl ?_ | apply WC.block | apply WC.skip | apply WC.exit | apply WC.ret | apply WX.e_block | refine WX.e_other rfl ?_ | apply WX.e_then | apply WX.e_again | apply WX.n_block | apply WX.r_then | apply WX.r_block | apply WX.r_again | refine WC.cond_yes rfl ?_ | refine WC.cond_no rfl ?_ | refine WC.cond rfl (fun hc => ?_) (fun hc => ?_) | refine WC.cond_b rfl (fun hc => ?_) (fun hc => ?_))
          refine WL.one (W1.lit1' rfl rfl rfl rfl ?_)
          intro b8 w2 e2 s2 x2 k2
          repeat' (first | apply WL.fold | apply WA.fold | apply WL.nil | apply WX.n_then | apply WC.seq | apply WC.region | refine WL.pa ?_ | refine WL.ga rfl ?_ | refine WL.na rfl ?_ | refine WL.nu rfl rfl ?_ | apply WC.block | apply WC.skip | apply WC.exit | apply WC.ret | apply WX.e_block | refine WX.e_other rfl ?_ | apply WX.e_then | apply WX.e_again | apply WX.n_block | apply WX.r_then | apply WX.r_block | apply WX.r_again | refine WC.cond_yes rfl ?_ | refine WC.cond_no rfl ?_ | refine WC.cond rfl (fun hc => ?_) (fun hc => ?_) | refine WC.cond_b rfl (fun hc => ?_) (fun hc => ?_))
          refine WL.one (W1.append1o rfl rfl rfl (ownsRow_ext hown x2) (x1.trans x2) (k2.cell (i := 0) rfl) rfl (by omega) (by decide) rfl ?_)
          intro v' w3 hown' x3 _
          repeat' (first | apply WL.fold | apply WA.fold | apply WL.nil | apply WX.n_then | apply WC.seq | apply WC.region | refine WL.pa ?_ | refine WL.ga rfl ?_ | refine WL.na rfl ?_ | refine WL.nu rfl rfl ?_ | apply WC.block | apply WC.skip | apply WC.exit | apply WC.ret | apply WX.e_block | refine WX.e_other rfl ?_ | apply WX.e_then | apply WX.e_again | apply WX.n_block | apply WX.r_then | apply WX.r_block | apply WX.r_again | refine WC.cond_yes rfl ?_ | refine WC.cond_no rfl ?_ | refine WC.cond rfl (fun hc => ?_) (fun hc => ?_) | refine WC.cond_b rfl (fun hc => ?_) (fun hc => ?_))
          refine WX.again (i + 1, v') ⟨by show i + 1 ≤ _; omega, x3, ?_⟩ (by show _ - (i + 1) < _ - i; omega) ⟨rfl, rfl, rfl, rfl, rfl, rfl, rfl, trivial⟩
          dsimp only
          rw [tnums_add hb hroom, List.length_append, List.map_append]
          exact hown'
        · repeat' (first | apply WL.fold | apply WA.fold | apply WL.nil | apply WX.n_then | apply WC.seq | apply WC.region | refine WL.pa ?_ | refine WL.ga rfl ?_ | refine WL.na rfl ?_ | refine WL.nu rfl rfl ?_ | apply WC.block | apply WC.skip | apply WC.exit | apply WC.ret | apply WX.e_block | refine WX.e_other rfl ?_ | apply WX.e_then | apply WX.e_again | apply WX.n_block | apply WX.r_then | apply WX.r_block | apply WX.r_again | refine WC.cond_yes rfl ?_ | refine WC.cond_no rfl ?_ | refine WC.cond rfl (fun hc => ?_) (fun hc => ?_) | refine WC.cond_b rfl (fun hc => ?_) (fun hc => ?_))
          refine WL.load rfl hcell rfl ?_
          repeat' (first | apply WL.fold | apply WA.fold | apply WL.nil | apply WX.n_then | apply WC.seq | apply WC.region | refine WL.pa ?_ | refine WL.ga rfl ?_ | refine WL.na rfl ?_ | refine WL.nu rfl rfl ?_ | apply WC.block | apply WC.skip | apply WC.exit | apply WC.ret | apply WX.e_block | refine WX.e_other rfl ?_ | apply WX.e_then | apply WX.e_again | apply WX.n_block | apply WX.r_then | apply WX.r_block | apply WX.r_again | refine WC.cond_yes rfl ?_ | refine WC.cond_no rfl ?_ | refine WC.cond rfl (fun hc => ?_) (fun hc => ?_) | refine WC.cond_b rfl (fun hc => ?_) (fun hc => ?_))
          exact WX.again (i + 1, _) ⟨by show i + 1 ≤ _; omega, x1, by show World.ownsRow _ _ _ _ _ _ _; dsimp only; rw [tnums_full hroom]; exact hown⟩ (by show _ - (i + 1) < _ - i; omega) ⟨rfl, rfl, rfl, rfl, rfl, rfl, rfl, trivial⟩
    · obtain rfl : i = frs.length := by omega
      have hcN : tnums th frs.length K = cN th K := by unfold cN; rw [hL]
      rw [hcN] at hown hlen1 ⊢
      have hlenN : ∀ j ∈ cN th K, j < frs.length ∧ tf th j = true := fun j hj => by rw [← hL]; exact tnums_mem hj
      clear hcN
      by_cases hfull : (cN th K).length < K
      · repeat' (first | apply WL.fold | apply WA.fold | apply WL.nil | apply WX.n_then | apply WC.seq | apply WC.region | refine WL.pa ?_ | refine WL.ga rfl ?_ | refine WL.na rfl ?_ | refine WL.nu rfl rfl ?_ | apply WC.block | apply WC.skip | apply WC.exit | apply WC.ret | apply WX.e_block | refine WX.e_other rfl ?_ | apply WX.e_then | apply WX.e_again | apply WX.n_block | apply WX.r_then | apply WX.r_block | apply WX.r_again | refine WC.cond_yes rfl ?_ | refine WC.cond_no rfl ?_ | refine WC.cond rfl (fun hc => ?_) (fun hc => ?_) | refine WC.cond_b rfl (fun hc => ?_) (fun hc => ?_))
        refine WX.ret2 rfl rfl rfl ⟨_, _, rfl, x1, ⟨fun h => (by cases h), fun h => ?_⟩, fun h => (by cases h)⟩
        have := h.2.2.1
        rw [Int.toNat_natCast] at this
        omega
      · have hfl : (cN th K).length = K := by omega
        have hRn := Rd.of_owns hown
        have hneN : cN th K ≠ [] := by intro e; rw [e] at hfl; simp at hfl; omega
        obtain ⟨bn, offn, cn, hve, hcn, hbn, -⟩ := hRn.at (by simpa using hneN)
        rw [List.length_map] at hve hcn
        cases hve
        have hp0 := len_pos hneN
        have hi0 := (hlenN _ (nu_mem hp0)).1
        repeat' (first | apply WL.fold | apply WA.fold | apply WL.nil | apply WX.n_then | apply WC.seq | apply WC.region | refine WL.pa ?_ | refine WL.ga rfl ?_ | refine WL.na rfl ?_ | refine WL.nu rfl rfl ?_ | apply WC.block | apply WC.skip | apply WC.exit | apply WC.ret | apply WX.e_block | refine WX.e_other rfl ?_ | apply WX.e_then | apply WX.e_again | apply WX.n_block | apply WX.r_then | apply WX.r_block | apply WX.r_again | refine WC.cond_yes rfl ?_ | refine WC.cond_no rfl ?_ | refine WC.cond rfl (fun hc => ?_) (fun hc => ?_) | refine WC.cond_b rfl (fun hc => ?_) (fun hc => ?_))
        refine WL.load rfl (hRn.cell (i := 0) (u := iv (nu (cN th K) 0)) (by simp [nu_get hp0])) rfl ?_
        repeat' (first | apply WL.fold | apply WA.fold | apply WL.nil | apply WX.n_then | apply WC.seq | apply WC.region | refine WL.pa ?_ | refine WL.ga rfl ?_ | refine WL.na rfl ?_ | refine WL.nu rfl rfl ?_ | apply WC.block | apply WC.skip | apply WC.exit | apply WC.ret | apply WX.e_block | refine WX.e_other rfl ?_ | apply WX.e_then | apply WX.e_again | apply WX.n_block | apply WX.r_then | apply WX.r_block | apply WX.r_again | refine WC.cond_yes rfl ?_ | refine WC.cond_no rfl ?_ | refine WC.cond rfl (fun hc => ?_) (fun hc => ?_) | refine WC.cond_b rfl (fun hc => ?_) (fun hc => ?_))
        refine WL.load rfl ((hRf.ext x1).cell (strs_get hi0)) rfl ?_
        repeat' (first | apply WL.fold | apply WA.fold | apply WL.nil | apply WX.n_then | apply WC.seq | apply WC.region | refine WL.pa ?_ | refine WL.ga rfl ?_ | refine WL.na rfl ?_ | refine WL.nu rfl rfl ?_ | apply WC.block | apply WC.skip | apply WC.exit | apply WC.ret | apply WX.e_block | refine WX.e_other rfl ?_ | apply WX.e_then | apply WX.e_again | apply WX.n_block | apply WX.r_then | apply WX.r_block | apply WX.r_again | refine WC.cond_yes rfl ?_ | refine WC.cond_no rfl ?_ | refine WC.cond rfl (fun hc => ?_) (fun hc => ?_) | refine WC.cond_b rfl (fun hc => ?_) (fun hc => ?_))
        have hM : (fr frs (nu (cN th K) 0)).size = cM frs th K := rfl
        rw [hM]
        refine WC.loop (α := Nat) (fun i => [(0, .slice (some ⟨bf, off, none⟩) frs.length c), (1, .slice (some ⟨bt, offt, none⟩) frs.length ct), (2, iv K), (8, .slice (some ⟨bn, offn, none⟩) (cN th K).length cv), (11, iv (cM frs th K)),
            (60, .slice (some ⟨bf, off, none⟩) frs.length c), (61, iv frs.length), (62, iv i)])
          (fun i w' => i ≤ frs.length ∧ w1 = w' ∧ ∀ q, q < i → tf th q = true → (fr frs q).size = cM frs th K ∧ cM frs th K ≤ 4096) (fun i => frs.length - i) 0
          ⟨rfl, rfl, rfl, rfl, rfl, rfl, rfl, rfl, trivial⟩ ⟨by omega, rfl, fun q hq => by omega⟩ ?_
        rintro i _ ⟨hi, rfl, hok⟩
        by_cases hlti : i < frs.length
        · have hcell := (hRt.ext x1).cell (bools_get (i := i) (by omega))
          have hcellf := (hRf.ext x1).cell (strs_get hlti)
          have hno : ¬ ((fr frs i).size = cM frs th K ∧ cM frs th K ≤ 4096) → tf th i = true → ¬ CompOK frs th K := fun h1 h2 h3 => h1 (by have := h3.2.2.2.1 i hlti h2; rwa [Int.toNat_natCast] at this)
          have hstep : (tf th i = true → (fr frs i).size = cM frs th K ∧ cM frs th K ≤ 4096) → ∀ q, q < i + 1 → tf th q = true → (fr frs q).size = cM frs th K ∧ cM frs th K ≤ 4096 := fun h q hq ht => by
            by_cases e : q = i
            · subst e; exact h ht
            · exact hok q (by omega) ht
          cases hb : tf th i with
          | false =>
            rw [hb] at hcell hstep
            repeat' (first | apply WL.fold | apply WA.fold | apply WL.nil | apply WX.n_then | apply WC.seq | apply WC.region | refine WL.pa ?_ | refine WL.ga rfl ?_ | refine WL.na rfl ?_ | refine WL.nu rfl rfl ?_ | apply WC.block | apply WC.skip | apply WC.exit | apply WC.ret | apply WX.e_block | refine WX.e_other rfl ?_ | apply WX.e_then | apply WX.e_again | apply WX.n_block | apply WX.r_then | apply WX.r_block | apply WX.r_again | refine WC.cond_yes rfl ?_ | refine WC.cond_no rfl ?_ | refine WC.cond rfl (fun hc => ?_) (fun hc => ?_) | refine WC.cond_b rfl (fun hc => ?_) (fun hc => ?_))
            refine WL.load rfl hcellf rfl ?_
            repeat' (first | apply WL.fold | apply WA.fold | apply WL.nil | apply WX.n_then | apply WC.seq | apply WC.region | refine WL.pa ?_ | refine WL.ga rfl ?_ | refine WL.na rfl ?_ | refine WL.nu rfl rfl ?_ | apply WC.block | apply WC.skip | apply WC.exit | apply WC.ret | apply WX.e_block | refine WX.e_other rfl ?_ | apply WX.e_then | apply WX.e_again | apply WX.n_block | apply WX.r_then | apply WX.r_block | apply WX.r_again | refine WC.cond_yes rfl ?_ | refine WC.cond_no rfl ?_ | refine WC.cond rfl (fun hc => ?_) (fun hc => ?_) | refine WC.cond_b rfl (fun hc => ?_) (fun hc => ?_))
            refine WL.load rfl hcell rfl ?_
            repeat' (first | apply WL.fold | apply WA.fold | apply WL.nil | apply WX.n_then | apply WC.seq | apply WC.region | refine WL.pa ?_ | refine WL.ga rfl ?_ | refine WL.na rfl ?_ | refine WL.nu rfl rfl ?_ | apply WC.block | apply WC.skip | apply WC.exit | apply WC.ret | apply WX.e_block | refine WX.e_other rfl ?_ | apply WX.e_then | apply WX.e_again | apply WX.n_block | apply WX.r_then | apply WX.r_block | apply WX.r_again | refine WC.cond_yes rfl ?_ | refine WC.cond_no rfl ?_ | refine WC.cond rfl (fun hc => ?_) (fun hc => ?_) | refine WC.cond_b rfl (fun hc => ?_) (fun hc => ?_))
            exact WX.again (i + 1) ⟨by omega, rfl, hstep (fun h => by cases h)⟩ (by omega) ⟨rfl, rfl, rfl, rfl, rfl, rfl, rfl, rfl, trivial⟩
          | true =>
            rw [hb] at hcell hstep hno
            by_cases hsz : (fr frs i).size = cM frs th K
            · rw [hsz] at hno hstep
              by_cases h40 : cM frs th K ≤ 4096
              · repeat' (first | apply WL.fold | apply WA.fold | apply WL.nil | apply WX.n_then | apply WC.seq | apply WC.region | refine WL.pa ?_ | refine WL.ga rfl ?_ | refine WL.na rfl ?_ | refine WL.nu rfl rfl ?_ | apply WC.block | apply WC.skip | apply WC.exit | apply WC.ret | apply WX.e_block | refine WX.e_other rfl ?_ | apply WX.e_then | apply WX.e_again | apply WX.n_block | apply WX.r_then | apply WX.r_block | apply WX.r_again | refine WC.cond_yes rfl ?_ | refine WC.cond_no rfl ?_ | refine WC.cond rfl (fun hc => ?_) (fun hc => ?_) | refine WC.cond_b rfl (fun hc => ?_) (fun hc => ?_))
                refine WL.load rfl hcellf rfl ?_
                repeat' (first | apply WL.fold | apply WA.fold | apply WL.nil | apply WX.n_then | apply WC.seq | apply WC.region | refine WL.pa ?_ | refine WL.ga rfl ?_ | refine WL.na rfl ?_ | refine WL.nu rfl rfl ?_ | apply WC.block | apply WC.skip | apply WC.exit | apply WC.ret | apply WX.e_block | refine WX.e_other rfl ?_ | apply WX.e_then | apply WX.e_again | apply WX.n_block | apply WX.r_then | apply WX.r_block | apply WX.r_again | refine WC.cond_yes rfl ?_ | refine WC.cond_no rfl ?_ | refine WC.cond rfl (fun hc => ?_) (fun hc => ?_) | refine WC.cond_b rfl (fun hc => ?_) (fun hc => ?_))
                refine WL.load rfl hcell rfl ?_
                repeat' (first | apply WL.fold | apply WA.fold | apply WL.nil | apply WX.n_then | apply WC.seq | apply WC.region | refine WL.pa ?_ | refine WL.ga rfl ?_ | refine WL.na rfl ?_ | refine WL.nu rfl rfl ?_ | apply WC.block | apply WC.skip | apply WC.exit | apply WC.ret | apply WX.e_block | refine WX.e_other rfl ?_ | apply WX.e_then | apply WX.e_again | apply WX.n_block | apply WX.r_then | apply WX.r_block | apply WX.r_again | refine WC.cond_yes rfl ?_ | refine WC.cond_no rfl ?_ | refine WC.cond rfl (fun hc => ?_) (fun hc => ?_) | refine WC.cond_b rfl (fun hc => ?_) (fun hc => ?_))
                exact WX.again (i + 1) ⟨by omega, rfl, hstep (fun _ => ⟨rfl, h40⟩)⟩ (by omega) ⟨rfl, rfl, rfl, rfl, rfl, rfl, rfl, rfl, trivial⟩
              · repeat' (first | apply WL.fold | apply WA.fold | apply WL.nil | apply WX.n_then | apply WC.seq | apply WC.region | refine WL.pa ?_ | refine WL.ga rfl ?_ | refine WL.na rfl ?_ | refine WL.nu rfl rfl ?_ | apply WC.block | apply WC.skip | apply WC.exit | apply WC.ret | apply WX.e_block | refine WX.e_other rfl ?_ | apply WX.e_then | apply WX.e_again | apply WX.n_block | apply WX.r_then | apply WX.r_block | apply WX.r_again | refine WC.cond_yes rfl ?_ | refine WC.cond_no rfl ?_ | refine WC.cond rfl (fun hc => ?_) (fun hc => ?_) | refine WC.cond_b rfl (fun hc => ?_) (fun hc => ?_))
                refine WL.load rfl hcellf rfl ?_
                repeat' (first | apply WL.fold | apply WA.fold | apply WL.nil | apply WX.n_then | apply WC.seq | apply WC.region | refine WL.pa ?_ | refine WL.ga rfl ?_ | refine WL.na rfl ?_ | refine WL.nu rfl rfl ?_ | apply WC.block | apply WC.skip | apply WC.exit | apply WC.ret | apply WX.e_block | refine WX.e_other rfl ?_ | apply WX.e_then | apply WX.e_again | apply WX.n_block | apply WX.r_then | apply WX.r_block | apply WX.r_again | refine WC.cond_yes rfl ?_ | refine WC.cond_no rfl ?_ | refine WC.cond rfl (fun hc => ?_) (fun hc => ?_) | refine WC.cond_b rfl (fun hc => ?_) (fun hc => ?_))
                refine WL.load rfl hcell rfl ?_
                repeat' (first | apply WL.fold | apply WA.fold | apply WL.nil | apply WX.n_then | apply WC.seq | apply WC.region | refine WL.pa ?_ | refine WL.ga rfl ?_ | refine WL.na rfl ?_ | refine WL.nu rfl rfl ?_ | apply WC.block | apply WC.skip | apply WC.exit | apply WC.ret | apply WX.e_block | refine WX.e_other rfl ?_ | apply WX.e_then | apply WX.e_again | apply WX.n_block | apply WX.r_then | apply WX.r_block | apply WX.r_again | refine WC.cond_yes rfl ?_ | refine WC.cond_no rfl ?_ | refine WC.cond rfl (fun hc => ?_) (fun hc => ?_) | refine WC.cond_b rfl (fun hc => ?_) (fun hc => ?_))
                exact WX.ret2 rfl rfl rfl ⟨_, _, rfl, x1, ⟨fun h => (by cases h), fun h => absurd h (hno (fun h => h40 h.2) rfl)⟩, fun h => (by cases h)⟩
            · repeat' (first | apply WL.fold | apply WA.fold | apply WL.nil | apply WX.n_then | apply WC.seq | apply WC.region | refine WL.pa ?_ | refine WL.ga rfl ?_ | refine WL.na rfl ?_ | refine WL.nu rfl rfl ?_ | apply WC.block | apply WC.skip | apply WC.exit | apply WC.ret | apply WX.e_block | refine WX.e_other rfl ?_ | apply WX.e_then | apply WX.e_again | apply WX.n_block | apply WX.r_then | apply WX.r_block | apply WX.r_again | refine WC.cond_yes rfl ?_ | refine WC.cond_no rfl ?_ | refine WC.cond rfl (fun hc => ?_) (fun hc => ?_) | refine WC.cond_b rfl (fun hc => ?_) (fun hc => ?_))
              refine WL.load rfl hcellf rfl ?_
              repeat' (first | apply WL.fold | apply WA.fold | apply WL.nil | apply WX.n_then | apply WC.seq | apply WC.region | refine WL.pa ?_ | refine WL.ga rfl ?_ | refine WL.na rfl ?_ | refine WL.nu rfl rfl ?_ | apply WC.block | apply WC.skip | apply WC.exit | apply WC.ret | apply WX.e_block | refine WX.e_other rfl ?_ | apply WX.e_then | apply WX.e_again | apply WX.n_block | apply WX.r_then | apply WX.r_block | apply WX.r_again | refine WC.cond_yes rfl ?_ | refine WC.cond_no rfl ?_ | refine WC.cond rfl (fun hc => ?_) (fun hc => ?_) | refine WC.cond_b rfl (fun hc => ?_) (fun hc => ?_))
              refine WL.load rfl hcell rfl ?_
              repeat' (first | apply WL.fold | apply WA.fold | apply WL.nil | apply WX.n_then | apply WC.seq | apply WC.region | refine WL.pa ?_ | refine WL.ga rfl ?_ | refine WL.na rfl ?_ | refine WL.nu rfl rfl ?_ | apply WC.block | apply WC.skip | apply WC.exit | apply WC.ret | apply WX.e_block | refine WX.e_other rfl ?_ | apply WX.e_then | apply WX.e_again | apply WX.n_block | apply WX.r_then | apply WX.r_block | apply WX.r_again | refine WC.cond_yes rfl ?_ | refine WC.cond_no rfl ?_ | refine WC.cond rfl (fun hc => ?_) (fun hc => ?_) | refine WC.cond_b rfl (fun hc => ?_) (fun hc => ?_))
              exact WX.ret2 rfl rfl rfl ⟨_, _, rfl, x1, ⟨fun h => (by cases h), fun h => absurd h (hno (fun h => hsz h.1) rfl)⟩, fun h => (by cases h)⟩
        · obtain rfl : i = frs.length := by omega
          repeat' (first | apply WL.fold | apply WA.fold | apply WL.nil | apply WX.n_then | apply WC.seq | apply WC.region | refine WL.pa ?_ | refine WL.ga rfl ?_ | refine WL.na rfl ?_ | refine WL.nu rfl rfl ?_ | apply WC.block | apply WC.skip | apply WC.exit | apply WC.ret | apply WX.e_block | refine WX.e_other rfl ?_ | apply WX.e_then | apply WX.e_again | apply WX.n_block | apply WX.r_then | apply WX.r_block | apply WX.r_again | refine WC.cond_yes rfl ?_ | refine WC.cond_no rfl ?_ | refine WC.cond rfl (fun hc => ?_) (fun hc => ?_) | refine WC.cond_b rfl (fun hc => ?_) (fun hc => ?_))
          have hnums : ∀ i ∈ cN th K, i < 9 := fun i hi => by have := (hlenN i hi).1; omega
          refine WC.cutT (α := Nat × Nat × Nat) (fun z => [(0, .slice (some ⟨bf, off, none⟩) frs.length c), (1, .slice (some ⟨bt, offt, none⟩) frs.length ct), (2, iv K), (8, .slice (some ⟨bn, offn, none⟩) (cN th K).length cv),
              (14, .slice (some ⟨z.1, 0, none⟩) frs.length frs.length), (15, .func (.func 36) #[] #[.pointer (some ⟨z.2.1, 0, none⟩), .pointer (some ⟨z.2.2, 0, none⟩)])])
            (fun z w' => Ext w1 w' ∧ w1.heap.size ≤ z.1 ∧ Blk w' z.1 (row frs.length fun _ => .string (ByteArray.mk #[])) 9 ∧ Blk w' z.2.1 [.slice (some ⟨bn, offn, none⟩) (cN th K).length cv] 38 ∧ Blk w' z.2.2 (row 9 fun j => iv (belA (cN th K) j)) 48) ?_ ?_
          · refine WC.any rfl (fun w2 x2 _ => ?_)
            refine WA.pa 0 rfl ?_
            refine WA.pa 1 rfl ?_
            refine WA.pa 3 rfl ?_
            refine WA.all [2, 4] (by kernel_rfl) rfl ⟨⟨_, rfl, ?_⟩, ⟨_, rfl, ?_⟩, trivial⟩
            · refine WO.one (W1.make' rfl rfl rfl rfl rfl (Nat.le_refl _) (by omega) (by omega) rfl ?_)
              intro b3 w3 e3 s3 x3 k3
              apply WA.fold
              refine WA.all [4] (by kernel_rfl) rfl ⟨⟨_, rfl, ?_⟩, trivial⟩
              refine WO.one (W1.call rfl rfl (weights_fn _ (cN th K) hneN hnums _ (hr.ext (x1.trans (x2.trans x3))) (by omega) (hRn.ext (x2.trans x3))) ?_)
              rintro _ w4 ⟨b1, b2, rfl, x4, k5, k6⟩
              apply WA.fold
              refine WA.pa 5 rfl ?_
              refine WA.pa 6 rfl ?_
              apply WA.done (by kernel_rfl)
              exact WX.cut (b3, b1, b2) ⟨x2.trans (x3.trans x4), by show _ ≤ b3; have := x2.size; omega, by rw [← row_rep]; exact k3.ext x4, k5, k6⟩ ⟨rfl, rfl, rfl, rfl, rfl, rfl, trivial⟩
            · refine WO.one (W1.call rfl rfl (weights_fn _ (cN th K) hneN hnums _ (hr.ext (x1.trans x2)) (by omega) (hRn.ext x2)) ?_)
              rintro _ w4 ⟨b1, b2, rfl, x4, k5, k6⟩
              apply WA.fold
              refine WA.all [2] (by kernel_rfl) rfl ⟨⟨_, rfl, ?_⟩, trivial⟩
              refine WO.one (W1.make' rfl rfl rfl rfl rfl (Nat.le_refl _) (by omega) (by omega) rfl ?_)
              intro b3 w3 e3 s3 x3 k3
              apply WA.fold
              refine WA.pa 5 rfl ?_
              refine WA.pa 6 rfl ?_
              apply WA.done (by kernel_rfl)
              exact WX.cut (b3, b1, b2) ⟨x2.trans (x4.trans x3), by show _ ≤ b3; have := x2.size; have := x4.size; omega, by rw [← row_rep]; exact k3, k5.ext x3, k6.ext x3⟩ ⟨rfl, rfl, rfl, rfl, rfl, rfl, trivial⟩
          · rintro ⟨bo, b1, b2⟩ w2 ⟨x2, hbo, k3, k5, k6⟩
            dsimp only at hbo k3 k5 k6 ⊢
            have n1 : b1 ≠ bo := k5.ne k3 (by decide)
            have n2 : b2 ≠ bo := k6.ne k3 (by decide)
            have hm40 := (hok _ hi0 (hlenN _ (nu_mem hp0)).2).2
            repeat' (first | apply WL.fold | apply WA.fold | apply WL.nil | apply WX.n_then | apply WC.seq | apply WC.region | refine WL.pa ?_ | refine WL.ga rfl ?_ | refine WL.na rfl ?_ | refine WL.nu rfl rfl ?_ | apply WC.block | apply WC.skip | apply WC.exit | apply WC.ret | apply WX.e_block | refine WX.e_other rfl ?_ | apply WX.e_then | apply WX.e_again | apply WX.n_block | apply WX.r_then | apply WX.r_block | apply WX.r_again | refine WC.cond_yes rfl ?_ | refine WC.cond_no rfl ?_ | refine WC.cond rfl (fun hc => ?_) (fun hc => ?_) | refine WC.cond_b rfl (fun hc => ?_) (fun hc => ?_))
            refine WC.loop (α := Nat) (fun i => [(0, .slice (some ⟨bf, off, none⟩) frs.length c), (1, .slice (some ⟨bt, offt, none⟩) frs.length ct), (2, iv K), (8, .slice (some ⟨bn, offn, none⟩) (cN th K).length cv),
                (14, .slice (some ⟨bo, 0, none⟩) frs.length frs.length), (15, .func (.func 36) #[] #[.pointer (some ⟨b1, 0, none⟩), .pointer (some ⟨b2, 0, none⟩)]), (87, .slice (some ⟨bf, off, none⟩) frs.length c), (88, iv frs.length), (89, iv i)])
              (fun i w' => i ≤ frs.length ∧ Ext w1 w' ∧ Blk w' bo (row frs.length fun q => .string (if q < i then cOut frs th K q else ByteArray.mk #[])) 9 ∧ Blk w' b1 [.slice (some ⟨bn, offn, none⟩) (cN th K).length cv] 38 ∧
                Blk w' b2 (row 9 fun j => iv (belA (cN th K) j)) 48 ∧ ∀ q, q < i → tf th q = true → cOut frs th K q = fr frs q) (fun i => frs.length - i) 0
              ⟨rfl, rfl, rfl, rfl, rfl, rfl, rfl, rfl, rfl, trivial⟩ ⟨by omega, x2, by simpa using k3, k5, k6, fun q hq => by omega⟩ ?_
            clear x2 k3 k5 k6
            rintro i w3 ⟨hi, x3, k3, k5, k6, hmat⟩
            by_cases hlti : i < frs.length
            · have x03 := x1.trans x3
              have hcellf := (hRf.ext x03).cell (strs_get hlti)
              repeat' (first | apply WL.fold | apply WA.fold | apply WL.nil | apply WX.n_then | apply WC.seq | apply WC.region | refine WL.pa ?_ | refine WL.ga rfl ?_ | refine WL.na rfl ?_ | refine WL.nu rfl rfl ?_ | apply WC.block | apply WC.skip | apply WC.exit | apply WC.ret | apply WX.e_block | refine WX.e_other rfl ?_ | apply WX.e_then | apply WX.e_again | apply WX.n_block | apply WX.r_then | apply WX.r_block | apply WX.r_again | refine WC.cond_yes rfl ?_ | refine WC.cond_no rfl ?_ | refine WC.cond rfl (fun hc => ?_) (fun hc => ?_) | refine WC.cond_b rfl (fun hc => ?_) (fun hc => ?_))
              refine WL.load rfl hcellf rfl ?_
              repeat' (first | apply WL.fold | apply WA.fold | apply WL.nil | apply WX.n_then | apply WC.seq | apply WC.region | refine WL.pa ?_ | refine WL.ga rfl ?_ | refine WL.na rfl ?_ | refine WL.nu rfl rfl ?_ | apply WC.block | apply WC.skip | apply WC.exit | apply WC.ret | apply WX.e_block | refine WX.e_other rfl ?_ | apply WX.e_then | apply WX.e_again | apply WX.n_block | apply WX.r_then | apply WX.r_block | apply WX.r_again | refine WC.cond_yes rfl ?_ | refine WC.cond_no rfl ?_ | refine WC.cond rfl (fun hc => ?_) (fun hc => ?_) | refine WC.cond_b rfl (fun hc => ?_) (fun hc => ?_))
              refine WL.one (W1.callv rfl rfl rfl (weightsAt_fn i (by omega) _ (cN th K) hneN hnums _ (hr.ext x03) (by omega) (hRn.ext x3) b1 b2 k5 k6) ?_)
              rintro _ w4 ⟨rfl, x4⟩
              repeat' (first | apply WL.fold | apply WA.fold | apply WL.nil | apply WX.n_then | apply WC.seq | apply WC.region | refine WL.pa ?_ | refine WL.ga rfl ?_ | refine WL.na rfl ?_ | refine WL.nu rfl rfl ?_ | apply WC.block | apply WC.skip | apply WC.exit | apply WC.ret | apply WX.e_block | refine WX.e_other rfl ?_ | apply WX.e_then | apply WX.e_again | apply WX.n_block | apply WX.r_then | apply WX.r_block | apply WX.r_again | refine WC.cond_yes rfl ?_ | refine WC.cond_no rfl ?_ | refine WC.cond rfl (fun hc => ?_) (fun hc => ?_) | refine WC.cond_b rfl (fun hc => ?_) (fun hc => ?_))
              refine WL.call rfl rfl (computed_fn _ _ frs (cN th K) (wgtA (cN th K) i) (cM frs th K) hneN (fun q hq => (hlenN q hq).1) hnums (fun q hq => (hok q (hlenN q hq).1 (hlenN q hq).2).1) hm40 (by omega) ?_ w4 (hr.ext (x03.trans x4)) (hRf.ext (x03.trans x4)) (hRn.ext (x3.trans x4))) ?_
              · intro q; unfold wgtA; split
                · exact wgt_lt _ _ _
                · decide
              rintro _ w5 ⟨rfl, x5⟩
              have hval : cmpStr frs (cN th K) (wgtA (cN th K) i) (cM frs th K) = cOut frs th K i := rfl
              rw [hval]
              repeat' (first | apply WL.fold | apply WA.fold | apply WL.nil | apply WX.n_then | apply WC.seq | apply WC.region | refine WL.pa ?_ | refine WL.ga rfl ?_ | refine WL.na rfl ?_ | refine WL.nu rfl rfl ?_ | apply WC.block | apply WC.skip | apply WC.exit | apply WC.ret | apply WX.e_block | refine WX.e_other rfl ?_ | apply WX.e_then | apply WX.e_again | apply WX.n_block | apply WX.r_then | apply WX.r_block | apply WX.r_again | refine WC.cond_yes rfl ?_ | refine WC.cond_no rfl ?_ | refine WC.cond rfl (fun hc => ?_) (fun hc => ?_) | refine WC.cond_b rfl (fun hc => ?_) (fun hc => ?_))
              have x35 := x4.trans x5
              refine WL.one (W1.store' rfl rfl (by intro _ h; cases h) (by intro _ h; cases h) (k3.ext x35) (by rw [row_len]; omega) fun w6 u6 g3 => ?_)
              rw [row_set] at g3
              have g3' : Blk w6 bo (row frs.length fun q => .string (if q < i + 1 then cOut frs th K q else ByteArray.mk #[])) 9 := by
                refine (congrArg (fun l => Blk w6 bo l _) (row_congr fun q hq => ?_)).mp g3
                by_cases e : q = i
                · subst e; simp
                · have : (q < i + 1) = (q < i) := by simp only [eq_iff_iff]; omega
                  simp only [e, if_false, this]
              have x16 : Ext w1 w6 := u6.ext (x3.trans x35) hbo
              have g5 := (k5.ext x35).keep1 u6 n1
              have g6 := (k6.ext x35).keep1 u6 n2
              have hcell := (hRt.ext (x1.trans x16)).cell (bools_get (i := i) (by omega))
              have hcello : w6.cell? ⟨bo, i, none⟩ = some (.string (cOut frs th K i)) := g3'.cell (by rw [row_get _ hlti]; simp)
              repeat' (first | apply WL.fold | apply WA.fold | apply WL.nil | apply WX.n_then | apply WC.seq | apply WC.region | refine WL.pa ?_ | refine WL.ga rfl ?_ | refine WL.na rfl ?_ | refine WL.nu rfl rfl ?_ | apply WC.block | apply WC.skip | apply WC.exit | apply WC.ret | apply WX.e_block | refine WX.e_other rfl ?_ | apply WX.e_then | apply WX.e_again | apply WX.n_block | apply WX.r_then | apply WX.r_block | apply WX.r_again | refine WC.cond_yes rfl ?_ | refine WC.cond_no rfl ?_ | refine WC.cond rfl (fun hc => ?_) (fun hc => ?_) | refine WC.cond_b rfl (fun hc => ?_) (fun hc => ?_))
              cases hb : tf th i with
              | false =>
                rw [hb] at hcell
                refine WL.load rfl hcell rfl ?_
                repeat' (first | apply WL.fold | apply WA.fold | apply WL.nil | apply WX.n_then | apply WC.seq | apply WC.region | refine WL.pa ?_ | refine WL.ga rfl ?_ | refine WL.na rfl ?_ | refine WL.nu rfl rfl ?_ | apply WC.block | apply WC.skip | apply WC.exit | apply WC.ret | apply WX.e_block | refine WX.e_other rfl ?_ | apply WX.e_then | apply WX.e_again | apply WX.n_block | apply WX.r_then | apply WX.r_block | apply WX.r_again | refine WC.cond_yes rfl ?_ | refine WC.cond_no rfl ?_ | refine WC.cond rfl (fun hc => ?_) (fun hc => ?_) | refine WC.cond_b rfl (fun hc => ?_) (fun hc => ?_))
                refine WX.again (i + 1) ⟨by omega, x16, g3', g5, g6, fun q hq ht => ?_⟩ (by omega) ⟨rfl, rfl, rfl, rfl, rfl, rfl, rfl, rfl, rfl, trivial⟩
                by_cases e : q = i
                · subst e; rw [hb] at ht; cases ht
                · exact hmat q (by omega) ht
              | true =>
                rw [hb] at hcell
                by_cases heq : cOut frs th K i = fr frs i
                · refine WL.load rfl hcell rfl ?_
                  repeat' (first | apply WL.fold | apply WA.fold | apply WL.nil | apply WX.n_then | apply WC.seq | apply WC.region | refine WL.pa ?_ | refine WL.ga rfl ?_ | refine WL.na rfl ?_ | refine WL.nu rfl rfl ?_ | apply WC.block | apply WC.skip | apply WC.exit | apply WC.ret | apply WX.e_block | refine WX.e_other rfl ?_ | apply WX.e_then | apply WX.e_again | apply WX.n_block | apply WX.r_then | apply WX.r_block | apply WX.r_again | refine WC.cond_yes rfl ?_ | refine WC.cond_no rfl ?_ | refine WC.cond rfl (fun hc => ?_) (fun hc => ?_) | refine WC.cond_b rfl (fun hc => ?_) (fun hc => ?_))
                  refine WL.load rfl hcello rfl ?_
                  repeat' (first | apply WL.fold | apply WA.fold | apply WL.nil | apply WX.n_then | apply WC.seq | apply WC.region | refine WL.pa ?_ | refine WL.ga rfl ?_ | refine WL.na rfl ?_ | refine WL.nu rfl rfl ?_ | apply WC.block | apply WC.skip | apply WC.exit | apply WC.ret | apply WX.e_block | refine WX.e_other rfl ?_ | apply WX.e_then | apply WX.e_again | apply WX.n_block | apply WX.r_then | apply WX.r_block | apply WX.r_again | refine WC.cond_yes rfl ?_ | refine WC.cond_no rfl ?_ | refine WC.cond rfl (fun hc => ?_) (fun hc => ?_) | refine WC.cond_b rfl (fun hc => ?_) (fun hc => ?_))
                  · exact absurd heq ‹_›
                  · refine WX.again (i + 1) ⟨by omega, x16, g3', g5, g6, fun q hq ht => ?_⟩ (by omega) ⟨rfl, rfl, rfl, rfl, rfl, rfl, rfl, rfl, rfl, trivial⟩
                    by_cases e : q = i
                    · subst e; exact heq
                    · exact hmat q (by omega) ht
                · refine WL.load rfl hcell rfl ?_
                  repeat' (first | apply WL.fold | apply WA.fold | apply WL.nil | apply WX.n_then | apply WC.seq | apply WC.region | refine WL.pa ?_ | refine WL.ga rfl ?_ | refine WL.na rfl ?_ | refine WL.nu rfl rfl ?_ | apply WC.block | apply WC.skip | apply WC.exit | apply WC.ret | apply WX.e_block | refine WX.e_other rfl ?_ | apply WX.e_then | apply WX.e_again | apply WX.n_block | apply WX.r_then | apply WX.r_block | apply WX.r_again | refine WC.cond_yes rfl ?_ | refine WC.cond_no rfl ?_ | refine WC.cond rfl (fun hc => ?_) (fun hc => ?_) | refine WC.cond_b rfl (fun hc => ?_) (fun hc => ?_))
                  refine WL.load rfl hcello rfl ?_
                  repeat' (first | apply WL.fold | apply WA.fold | apply WL.nil | apply WX.n_then | apply WC.seq | apply WC.region | refine WL.pa ?_ | refine WL.ga rfl ?_ | refine WL.na rfl ?_ | refine WL.nu rfl rfl ?_ | apply WC.block | apply WC.skip | apply WC.exit | apply WC.ret | apply WX.e_block | refine WX.e_other rfl ?_ | apply WX.e_then | apply WX.e_again | apply WX.n_block | apply WX.r_then | apply WX.r_block | apply WX.r_again | refine WC.cond_yes rfl ?_ | refine WC.cond_no rfl ?_ | refine WC.cond rfl (fun hc => ?_) (fun hc => ?_) | refine WC.cond_b rfl (fun hc => ?_) (fun hc => ?_))
                  refine WX.ret2 rfl rfl rfl ⟨_, _, rfl, x1.trans x16, ⟨fun h => (by cases h), fun h => absurd (h.2.2.2.2 i hlti hb) ?_⟩, fun h => (by cases h)⟩
                  rw [Int.toNat_natCast]; exact heq
            · obtain rfl : i = frs.length := by omega
              repeat' (first | apply WL.fold | apply WA.fold | apply WL.nil | apply WX.n_then | apply WC.seq | apply WC.region | refine WL.pa ?_ | refine WL.ga rfl ?_ | refine WL.na rfl ?_ | refine WL.nu rfl rfl ?_ | apply WC.block | apply WC.skip | apply WC.exit | apply WC.ret | apply WX.e_block | refine WX.e_other rfl ?_ | apply WX.e_then | apply WX.e_again | apply WX.n_block | apply WX.r_then | apply WX.r_block | apply WX.r_again | refine WC.cond_yes rfl ?_ | refine WC.cond_no rfl ?_ | refine WC.cond rfl (fun hc => ?_) (fun hc => ?_) | refine WC.cond_b rfl (fun hc => ?_) (fun hc => ?_))
              refine WX.ret2 rfl rfl rfl ⟨_, _, rfl, x1.trans x3, ⟨fun _ => ⟨hC, hL, ?_, ?_, ?_⟩, fun _ => rfl⟩, fun _ => ?_⟩
              · rw [Int.toNat_natCast]; exact hfl
              · rw [Int.toNat_natCast]; exact hok
              · rw [Int.toNat_natCast]; exact hmat
              · rw [Int.toNat_natCast]
                have := Rd.of_row k3 (Nat.le_refl _) (Nat.le_refl _)
                refine (congrArg (Rd w3 _) ?_).mp this
                simp only [strs, List.map_map]
                apply List.map_congr_left
                intro q hq
                simp [List.mem_range.1 hq]
  · have hno : ¬ CompOK frs th k := fun h => hC ⟨h.1, h.2.1⟩
    obtain ⟨af, cf, rfl⟩ := hRf.len
    obtain ⟨at', ct, rfl⟩ := hRt.len
    rw [hlf, hlt']
    refine enter (l := [_, _, _]) rfl Tryd.ntmps23 rfl ?_
    repeat' (first | apply WL.fold | apply WA.fold | apply WL.nil | apply WX.n_then | apply WC.seq | apply WC.region | refine WL.pa ?_ | refine WL.ga rfl ?_ | refine WL.na rfl ?_ | refine WL.nu rfl rfl ?_ | apply WC.block | apply WC.skip | apply WC.exit | apply WC.ret | apply WX.e_block | refine WX.e_other rfl ?_ | apply WX.e_then | apply WX.e_again | apply WX.n_block | apply WX.r_then | apply WX.r_block | apply WX.r_again | refine WC.cond_yes rfl ?_ | refine WC.cond_no rfl ?_ | refine WC.cond rfl (fun hc => ?_) (fun hc => ?_) | refine WC.cond_b rfl (fun hc => ?_) (fun hc => ?_))
    refine WL.call rfl rfl (isCode_fn _ _ _) ?_
    rintro _ w1 ⟨rfl, rfl⟩
    by_cases hC1 : isC k frs.length
    · have hL : ¬ th.length = frs.length := fun h => hC ⟨hC1, h⟩
      simp only [hC1, decide_true]
      repeat' (first | apply WL.fold | apply WA.fold | apply WL.nil | apply WX.n_then | apply WC.seq | apply WC.region | refine WL.pa ?_ | refine WL.ga rfl ?_ | refine WL.na rfl ?_ | refine WL.nu rfl rfl ?_ | apply WC.block | apply WC.skip | apply WC.exit | apply WC.ret | apply WX.e_block | refine WX.e_other rfl ?_ | apply WX.e_then | apply WX.e_again | apply WX.n_block | apply WX.r_then | apply WX.r_block | apply WX.r_again | refine WC.cond_yes rfl ?_ | refine WC.cond_no rfl ?_ | refine WC.cond rfl (fun hc => ?_) (fun hc => ?_) | refine WC.cond_b rfl (fun hc => ?_) (fun hc => ?_))
      exact WX.ret2 rfl rfl rfl ⟨_, _, rfl, Ext.refl _, ⟨fun h => (by cases h), fun h => absurd h hno⟩, fun h => (by cases h)⟩
    · simp only [hC1, decide_false]
      repeat' (first | apply WL.fold | apply WA.fold | apply WL.nil | apply WX.n_then | apply WC.seq | apply WC.region | refine WL.pa ?_ | refine WL.ga rfl ?_ | refine WL.na rfl ?_ | refine WL.nu rfl rfl ?_ | apply WC.block | apply WC.skip | apply WC.exit | apply WC.ret | apply WX.e_block | refine WX.e_other rfl ?_ | apply WX.e_then | apply WX.e_again | apply WX.n_block | apply WX.r_then | apply WX.r_block | apply WX.r_again | refine WC.cond_yes rfl ?_ | refine WC.cond_no rfl ?_ | refine WC.cond rfl (fun hc => ?_) (fun hc => ?_) | refine WC.cond_b rfl (fun hc => ?_) (fun hc => ?_))
      exact WX.ret2 rfl rfl rfl ⟨_, _, rfl, Ext.refl _, ⟨fun h => (by cases h), fun h => absurd h hno⟩, fun h => (by cases h)⟩
end Go.Sx

