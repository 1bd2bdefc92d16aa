/- Chapter 17: Fragment, Join. -/
import Derived.Test.YtfjkdciblblalaaDoorC6
import Derived.Test.YtfjkdciblblalaaDoorGF
import Derived.Test.YtfjkdciblblalaaDoorRow
namespace Go.Sx
open Go Go.Proofs
theorem join_fn (c : Nat) (b off : Nat) (l : List ByteArray) (w : World) (hR : Rd w (.slice (some ⟨b, off, none⟩) l.length c) (strs l)) (hb : b < w.heap.size) (hl : l.length ≤ 100) (hc : l.length ≤ c) (hs : (catS l).size ≤ 1000000) :
    Fn Tryd.prog 24 #[.slice (some ⟨b, off, none⟩) l.length c, .string (ByteArray.mk #[])] w fun v w' => v = .string (catS l) ∧ Ext w w' := by
  have hlen : (Lib.join (l.map (·.data.toList)) (ByteArray.mk #[]).data.toList).length = (catS l).size := by
    rw [← join_empty l]; rfl
  have := Tryd.strings_Join b off c l (ByteArray.mk #[]) w (fun j x hx => hR.cell (by simp [strs, hx])) hb (by omega) hc (by omega)
  refine Calls.mono this ?_
  rintro e w' ⟨rfl, h2⟩
  exact ⟨_, rfl, by rw [join_empty], h2⟩
theorem trim_fn (s : ByteArray) (w : World) (hs : s.size ≤ 1000000) :
    Fn Tryd.prog 25 #[.string s, .string (ByteArray.mk #[0])] w fun v w' => v = .string ⟨(Lib.trimB s.data.toList 0).toArray⟩ ∧ Ext w w' := by
  refine Calls.mono (Tryd.strings_Trim_one s 0 (by decide) w (by omega)) ?_
  rintro e w' ⟨rfl, h2⟩
  refine ⟨_, rfl, rfl, ?_⟩
  rcases h2 with rfl | rfl
  · exact Ext.refl _
  · exact Ext.drew _
attribute [local irreducible] WC WL WX POp Then Again Fn NX W1 WA WO QL RP RA Yld LoopAt
def noStr : ByteArray := ByteArray.mk #[]
theorem fragment_fn (vf vt : Value) (frs : List ByteArray) (th : List Bool) (k which : Int) (hl : frs.length ≤ 100) (hlt : th.length ≤ 100) (w : World) (hr : Red w) (hRf : Rd w vf (strs frs)) (hRt : Rd w vt (bools th)) :
    Fn Tryd.prog 12 #[vf, vt, .int .i64 k, .int .i64 which] w fun v w' => Ext w w' ∧ ((FragOK frs th k which ∧ v = .tuple #[.string (cOut frs th k.toNat which.toNat), .int .i64 0]) ∨ (¬ FragOK frs th k which ∧ v = .tuple #[.string noStr, .int .i64 170])) := by
  refine enter (l := [_, _, _, _]) rfl Tryd.ntmps12 rfl ?_
  repeat' (first | apply WL.fold | apply WA.fold | apply WL.nil | apply WX.n_then | apply WC.seq | apply WC.region | refine WL.pa ?_ | refine WL.ga rfl ?_ | refine WL.na rfl ?_ | refine WL.nu rfl rfl ?_ | apply WC.block | apply WC.skip | apply WC.exit | apply WC.ret | apply WX.e_block | refine WX.e_other rfl ?_ | apply WX.e_then | apply WX.e_again | apply WX.n_block | apply WX.r_then | apply WX.r_block | apply WX.r_again | refine WC.cond_yes rfl ?_ | refine WC.cond_no rfl ?_ | refine WC.cond rfl (fun hc => ?_) (fun hc => ?_) | refine WC.cond_b rfl (fun hc => ?_) (fun hc => ?_))
  refine WL.call rfl rfl (completed_fn _ _ frs th k hl hlt w hr hRf hRt) ?_
  rintro _ w1 ⟨c, b, rfl, x1, hiff, hRd⟩
  cases b with
  | false =>
    have hno : ¬ FragOK frs th k which := fun h => by have := hiff.2 h.1; cases this
    repeat' (first | apply WL.fold | apply WA.fold | apply WL.nil | apply WX.n_then | apply WC.seq | apply WC.region | refine WL.pa ?_ | refine WL.ga rfl ?_ | refine WL.na rfl ?_ | refine WL.nu rfl rfl ?_ | apply WC.block | apply WC.skip | apply WC.exit | apply WC.ret | apply WX.e_block | refine WX.e_other rfl ?_ | apply WX.e_then | apply WX.e_again | apply WX.n_block | apply WX.r_then | apply WX.r_block | apply WX.r_again | refine WC.cond_yes rfl ?_ | refine WC.cond_no rfl ?_ | refine WC.cond rfl (fun hc => ?_) (fun hc => ?_) | refine WC.cond_b rfl (fun hc => ?_) (fun hc => ?_))
    exact WX.ret2 rfl rfl rfl ⟨x1, .inr ⟨hno, rfl⟩⟩
  | true =>
    have hOK := hiff.1 rfl
    have hRd := hRd rfl
    have hlen : (strs ((List.range frs.length).map (cOut frs th k.toNat))).length = frs.length := by simp [strs]
    obtain ⟨bo, off, cc, rfl, hcc, hbo, -⟩ := hRd.at (by intro e; rw [e] at hlen; have := hOK.1.1; have := hOK.1.2.1; simp at hlen; omega)
    rw [hlen] at hRd ⊢
    by_cases h1 : which < 0
    · repeat' (first | apply WL.fold | apply WA.fold | apply WL.nil | apply WX.n_then | apply WC.seq | apply WC.region | refine WL.pa ?_ | refine WL.ga rfl ?_ | refine WL.na rfl ?_ | refine WL.nu rfl rfl ?_ | apply WC.block | apply WC.skip | apply WC.exit | apply WC.ret | apply WX.e_block | refine WX.e_other rfl ?_ | apply WX.e_then | apply WX.e_again | apply WX.n_block | apply WX.r_then | apply WX.r_block | apply WX.r_again | refine WC.cond_yes rfl ?_ | refine WC.cond_no rfl ?_ | refine WC.cond rfl (fun hc => ?_) (fun hc => ?_) | refine WC.cond_b rfl (fun hc => ?_) (fun hc => ?_))
      exact WX.ret2 rfl rfl rfl ⟨x1, .inr ⟨fun h => by have := h.2.1; omega, rfl⟩⟩
    · by_cases h2 : which < frs.length
      · repeat' (first | apply WL.fold | apply WA.fold | apply WL.nil | apply WX.n_then | apply WC.seq | apply WC.region | refine WL.pa ?_ | refine WL.ga rfl ?_ | refine WL.na rfl ?_ | refine WL.nu rfl rfl ?_ | apply WC.block | apply WC.skip | apply WC.exit | apply WC.ret | apply WX.e_block | refine WX.e_other rfl ?_ | apply WX.e_then | apply WX.e_again | apply WX.n_block | apply WX.r_then | apply WX.r_block | apply WX.r_again | refine WC.cond_yes rfl ?_ | refine WC.cond_no rfl ?_ | refine WC.cond rfl (fun hc => ?_) (fun hc => ?_) | refine WC.cond_b rfl (fun hc => ?_) (fun hc => ?_))
        refine WL.load rfl (hRd.cell (i := which.toNat) (u := .string (cOut frs th k.toNat which.toNat)) ?_) rfl ?_
        · have : which.toNat < frs.length := by omega
          simp [strs, this]
        repeat' (first | apply WL.fold | apply WA.fold | apply WL.nil | apply WX.n_then | apply WC.seq | apply WC.region | refine WL.pa ?_ | refine WL.ga rfl ?_ | refine WL.na rfl ?_ | refine WL.nu rfl rfl ?_ | apply WC.block | apply WC.skip | apply WC.exit | apply WC.ret | apply WX.e_block | refine WX.e_other rfl ?_ | apply WX.e_then | apply WX.e_again | apply WX.n_block | apply WX.r_then | apply WX.r_block | apply WX.r_again | refine WC.cond_yes rfl ?_ | refine WC.cond_no rfl ?_ | refine WC.cond rfl (fun hc => ?_) (fun hc => ?_) | refine WC.cond_b rfl (fun hc => ?_) (fun hc => ?_))
        exact WX.ret2 rfl rfl rfl ⟨x1, .inl ⟨⟨hOK, by omega, h2⟩, rfl⟩⟩
      · repeat' (first | apply WL.fold | apply WA.fold | apply WL.nil | apply WX.n_then | apply WC.seq | apply WC.region | refine WL.pa ?_ | refine WL.ga rfl ?_ | refine WL.na rfl ?_ | refine WL.nu rfl rfl ?_ | apply WC.block | apply WC.skip | apply WC.exit | apply WC.ret | apply WX.e_block | refine WX.e_other rfl ?_ | apply WX.e_then | apply WX.e_again | apply WX.n_block | apply WX.r_then | apply WX.r_block | apply WX.r_again | refine WC.cond_yes rfl ?_ | refine WC.cond_no rfl ?_ | refine WC.cond rfl (fun hc => ?_) (fun hc => ?_) | refine WC.cond_b rfl (fun hc => ?_) (fun hc => ?_))
        exact WX.ret2 rfl rfl rfl ⟨x1, .inr ⟨fun h => h2 h.2.2, rfl⟩⟩
set_option maxHeartbeats 2000000 in
theorem codeJoin_fn (vf vt : Value) (frs : List ByteArray) (th : List Bool) (k len : Int) (hl : frs.length ≤ 100) (hlt : th.length ≤ 100) (w : World) (hr : Red w) (hRf : Rd w vf (strs frs)) (hRt : Rd w vt (bools th)) :
    Fn Tryd.prog 10 #[vf, vt, .int .i64 k, .int .i64 len] w fun v w' => Ext w w' ∧ ((JoinOK frs th k len ∧ v = .tuple #[.string ((catO frs th k.toNat).extract 0 len.toNat), .int .i64 0]) ∨ (¬ JoinOK frs th k len ∧ v = .tuple #[.string noStr, .int .i64 170])) := by
  refine enter (l := [_, _, _, _]) rfl Tryd.ntmps10 rfl ?_
  repeat' (first | apply WL.fold | apply WA.fold | apply WL.nil | apply WX.n_then | apply WC.seq | apply WC.region | refine WL.pa ?_ | refine WL.ga rfl ?_ | refine WL.na rfl ?_ | refine WL.nu rfl rfl ?_ | apply WC.block | apply WC.skip | apply WC.exit | apply WC.ret | apply WX.e_block | refine WX.e_other rfl ?_ | apply WX.e_then | apply WX.e_again | apply WX.n_block | apply WX.r_then | apply WX.r_block | apply WX.r_again | refine WC.cond_yes rfl ?_ | refine WC.cond_no rfl ?_ | refine WC.cond rfl (fun hc => ?_) (fun hc => ?_) | refine WC.cond_b rfl (fun hc => ?_) (fun hc => ?_))
  refine WL.call rfl rfl (completed_fn _ _ frs th k hl hlt w hr hRf hRt) ?_
  rintro _ w1 ⟨c, b, rfl, x1, hiff, hRd⟩
  cases b with
  | false =>
    have hno : ¬ JoinOK frs th k len := fun h => by have := hiff.2 h.1; cases this
    repeat' (first | apply WL.fold | apply WA.fold | apply WL.nil | apply WX.n_then | apply WC.seq | apply WC.region | refine WL.pa ?_ | refine WL.ga rfl ?_ | refine WL.na rfl ?_ | refine WL.nu rfl rfl ?_ | apply WC.block | apply WC.skip | apply WC.exit | apply WC.ret | apply WX.e_block | refine WX.e_other rfl ?_ | apply WX.e_then | apply WX.e_again | apply WX.n_block | apply WX.r_then | apply WX.r_block | apply WX.r_again | refine WC.cond_yes rfl ?_ | refine WC.cond_no rfl ?_ | refine WC.cond rfl (fun hc => ?_) (fun hc => ?_) | refine WC.cond_b rfl (fun hc => ?_) (fun hc => ?_))
    apply WC.quiet (by kernel_rfl)
    repeat' (first | refine QL.pa ?_ | refine QL.ga rfl ?_ | refine QL.na rfl ?_ | refine QL.nu rfl ?_)
    refine QL.nil (fun w2 x2 => ?_)
    repeat' (first | apply WL.fold | apply WA.fold | apply WL.nil | apply WX.n_then | apply WC.seq | apply WC.region | refine WL.pa ?_ | refine WL.ga rfl ?_ | refine WL.na rfl ?_ | refine WL.nu rfl rfl ?_ | apply WC.block | apply WC.skip | apply WC.exit | apply WC.ret | apply WX.e_block | refine WX.e_other rfl ?_ | apply WX.e_then | apply WX.e_again | apply WX.n_block | apply WX.r_then | apply WX.r_block | apply WX.r_again | refine WC.cond_yes rfl ?_ | refine WC.cond_no rfl ?_ | refine WC.cond rfl (fun hc => ?_) (fun hc => ?_) | refine WC.cond_b rfl (fun hc => ?_) (fun hc => ?_))
    exact WX.ret2 rfl rfl rfl ⟨x1.trans x2, .inr ⟨hno, rfl⟩⟩
  | true =>
    have hOK := hiff.1 rfl
    have hRd := hRd rfl
    have hlen : (strs ((List.range frs.length).map (cOut frs th k.toNat))).length = frs.length := by simp [strs]
    obtain ⟨bo, off, cc, rfl, hcc, hbo, -⟩ := hRd.at (by intro e; rw [e] at hlen; have := hOK.1.1; have := hOK.1.2.1; simp at hlen; omega)
    rw [hlen] at hRd hcc ⊢
    obtain ⟨k1, k2, k3⟩ := hOK.1
    obtain ⟨K, rfl⟩ : ∃ K : Nat, k = (K : Int) := ⟨k.toNat, by omega⟩
    rw [Int.toNat_natCast] at hRd ⊢
    repeat' (first | apply WL.fold | apply WA.fold | apply WL.nil | apply WX.n_then | apply WC.seq | apply WC.region | refine WL.pa ?_ | refine WL.ga rfl ?_ | refine WL.na rfl ?_ | refine WL.nu rfl rfl ?_ | apply WC.block | apply WC.skip | apply WC.exit | apply WC.ret | apply WX.e_block | refine WX.e_other rfl ?_ | apply WX.e_then | apply WX.e_again | apply WX.n_block | apply WX.r_then | apply WX.r_block | apply WX.r_again | refine WC.cond_yes rfl ?_ | refine WC.cond_no rfl ?_ | refine WC.cond rfl (fun hc => ?_) (fun hc => ?_) | refine WC.cond_b rfl (fun hc => ?_) (fun hc => ?_))
    apply WC.quiet (by kernel_rfl)
    by_cases h1 : len < 0
    · repeat' (first | refine QL.pa ?_ | refine QL.ga rfl ?_ | refine QL.na rfl ?_ | refine QL.nu rfl ?_)
      refine QL.nil (fun w2 x2 => ?_)
      repeat' (first | apply WL.fold | apply WA.fold | apply WL.nil | apply WX.n_then | apply WC.seq | apply WC.region | refine WL.pa ?_ | refine WL.ga rfl ?_ | refine WL.na rfl ?_ | refine WL.nu rfl rfl ?_ | apply WC.block | apply WC.skip | apply WC.exit | apply WC.ret | apply WX.e_block | refine WX.e_other rfl ?_ | apply WX.e_then | apply WX.e_again | apply WX.n_block | apply WX.r_then | apply WX.r_block | apply WX.r_again | refine WC.cond_yes rfl ?_ | refine WC.cond_no rfl ?_ | refine WC.cond rfl (fun hc => ?_) (fun hc => ?_) | refine WC.cond_b rfl (fun hc => ?_) (fun hc => ?_))
      exact WX.ret2 rfl rfl rfl ⟨x1.trans x2, .inr ⟨fun h => by have := h.2.1; omega, rfl⟩⟩
    · by_cases h2 : len ≤ 4096 * K
      · repeat' (first | refine QL.pa ?_ | refine QL.ga rfl ?_ | refine QL.na rfl ?_ | refine QL.nu rfl ?_)
        refine QL.load rfl (hRd.cell (i := 0) (u := .string (cOut frs th K 0)) ?_) rfl ?_
        · have : 0 < frs.length := by omega
          simp [strs, this]
        repeat' (first | refine QL.pa ?_ | refine QL.ga rfl ?_ | refine QL.na rfl ?_ | refine QL.nu rfl ?_)
        refine QL.nil (fun w2 x2 => ?_)
        rw [cOut_size]
        have hpos : 0 < K := by omega
        obtain ⟨n, rfl⟩ : ∃ n : Nat, len = (n : Int) := ⟨len.toNat, by omega⟩
        by_cases h3 : (cM frs th K : Int) = (n + K - 1) / K
        · have hmOf : cM frs th K = mOf n K := by
            have e1 : (n : Int) + K - 1 = ((n + K - 1 : Nat) : Int) := by omega
            rw [e1, ← Int.natCast_ediv] at h3
            exact Int.natCast_inj.1 h3
          have hge : n ≤ K * cM frs th K := by rw [hmOf]; exact mOf_ge n hpos
          have hle := hOK.cM_le
          rw [Int.toNat_natCast] at hle
          have hsz := catO_size frs th K
          have hsm : K * cM frs th K ≤ 36864 := Nat.le_trans (Nat.mul_le_mul (show K ≤ 9 by omega) hle) (by decide)
          repeat' (first | apply WL.fold | apply WA.fold | apply WL.nil | apply WX.n_then | apply WC.seq | apply WC.region | refine WL.pa ?_ | refine WL.ga rfl ?_ | refine WL.na rfl ?_ | refine WL.nu rfl rfl ?_ | apply WC.block | apply WC.skip | apply WC.exit | apply WC.ret | apply WX.e_block | refine WX.e_other rfl ?_ | apply WX.e_then | apply WX.e_again | apply WX.n_block | apply WX.r_then | apply WX.r_block | apply WX.r_again | refine WC.cond_yes rfl ?_ | refine WC.cond_no rfl ?_ | refine WC.cond rfl (fun hc => ?_) (fun hc => ?_) | refine WC.cond_b rfl (fun hc => ?_) (fun hc => ?_))
          rw [Int.toNat_natCast]
          have hlK : ((List.range K).map (cOut frs th K)).length = K := by simp
          have hRK : Rd w2 (.slice (some ⟨bo, off, none⟩) K cc) (strs ((List.range K).map (cOut frs th K))) := by
            have := (hRd.ext x2).take (l := K) (by simp [strs]; omega)
            refine (congrArg (Rd w2 _) ?_).mp this
            simp only [strs]
            rw [← List.map_take, ← List.map_take, List.take_range, Nat.min_eq_left (by omega)]
          have hj := join_fn cc bo off ((List.range K).map (cOut frs th K)) w2 (by rw [hlK]; exact hRK) (Nat.lt_of_lt_of_le hbo x2.size) (by omega) (by omega) (by
            show (catO frs th K).size ≤ _
            omega)
          rw [hlK] at hj
          refine WL.call rfl rfl hj ?_
          rintro _ w3 ⟨rfl, x3⟩
          have hcat : catS ((List.range K).map (cOut frs th K)) = catO frs th K := rfl
          rw [hcat]
          repeat' (first | apply WL.fold | apply WA.fold | apply WL.nil | apply WX.n_then | apply WC.seq | apply WC.region | refine WL.pa ?_ | refine WL.ga rfl ?_ | refine WL.na rfl ?_ | refine WL.nu rfl rfl ?_ | apply WC.block | apply WC.skip | apply WC.exit | apply WC.ret | apply WX.e_block | refine WX.e_other rfl ?_ | apply WX.e_then | apply WX.e_again | apply WX.n_block | apply WX.r_then | apply WX.r_block | apply WX.r_again | refine WC.cond_yes rfl ?_ | refine WC.cond_no rfl ?_ | refine WC.cond rfl (fun hc => ?_) (fun hc => ?_) | refine WC.cond_b rfl (fun hc => ?_) (fun hc => ?_))
          rw [Int.toNat_natCast]
          refine WL.call rfl rfl (trim_fn _ _ ?_) ?_
          · rw [ByteArray.size_extract]; omega
          rintro _ w4 ⟨rfl, x4⟩
          have x04 := x1.trans (x2.trans (x3.trans x4))
          have htz := tail_zero (catO frs th K) n (by omega)
          by_cases htail : (⟨(Lib.trimB ((catO frs th K).extract n (catO frs th K).size).data.toList 0).toArray⟩ : ByteArray) = ByteArray.mk #[]
          · have hz := htz.1 ((trim_nil _ _).1 ((ba_empty _).1 htail))
            repeat' (first | apply WL.fold | apply WA.fold | apply WL.nil | apply WX.n_then | apply WC.seq | apply WC.region | refine WL.pa ?_ | refine WL.ga rfl ?_ | refine WL.na rfl ?_ | refine WL.nu rfl rfl ?_ | apply WC.block | apply WC.skip | apply WC.exit | apply WC.ret | apply WX.e_block | refine WX.e_other rfl ?_ | apply WX.e_then | apply WX.e_again | apply WX.n_block | apply WX.r_then | apply WX.r_block | apply WX.r_again | refine WC.cond_yes rfl ?_ | refine WC.cond_no rfl ?_ | refine WC.cond rfl (fun hc => ?_) (fun hc => ?_) | refine WC.cond_b rfl (fun hc => ?_) (fun hc => ?_))
            · exact absurd htail ‹_›
            · refine WX.ret2 rfl rfl rfl ⟨x04, .inl ⟨⟨hOK, by omega, h2, ?_, ?_⟩, rfl⟩⟩
              · rw [Int.toNat_natCast]; exact h3
              · rw [Int.toNat_natCast, Int.toNat_natCast]; exact hz
          · repeat' (first | apply WL.fold | apply WA.fold | apply WL.nil | apply WX.n_then | apply WC.seq | apply WC.region | refine WL.pa ?_ | refine WL.ga rfl ?_ | refine WL.na rfl ?_ | refine WL.nu rfl rfl ?_ | apply WC.block | apply WC.skip | apply WC.exit | apply WC.ret | apply WX.e_block | refine WX.e_other rfl ?_ | apply WX.e_then | apply WX.e_again | apply WX.n_block | apply WX.r_then | apply WX.r_block | apply WX.r_again | refine WC.cond_yes rfl ?_ | refine WC.cond_no rfl ?_ | refine WC.cond rfl (fun hc => ?_) (fun hc => ?_) | refine WC.cond_b rfl (fun hc => ?_) (fun hc => ?_))
            refine WX.ret2 rfl rfl rfl ⟨x04, .inr ⟨fun h => ?_, rfl⟩⟩
            have h5 := h.2.2.2.2
            rw [Int.toNat_natCast, Int.toNat_natCast] at h5
            exact htail ((ba_empty _).2 ((trim_nil _ _).2 (htz.2 h5)))
        · repeat' (first | apply WL.fold | apply WA.fold | apply WL.nil | apply WX.n_then | apply WC.seq | apply WC.region | refine WL.pa ?_ | refine WL.ga rfl ?_ | refine WL.na rfl ?_ | refine WL.nu rfl rfl ?_ | apply WC.block | apply WC.skip | apply WC.exit | apply WC.ret | apply WX.e_block | refine WX.e_other rfl ?_ | apply WX.e_then | apply WX.e_again | apply WX.n_block | apply WX.r_then | apply WX.r_block | apply WX.r_again | refine WC.cond_yes rfl ?_ | refine WC.cond_no rfl ?_ | refine WC.cond rfl (fun hc => ?_) (fun hc => ?_) | refine WC.cond_b rfl (fun hc => ?_) (fun hc => ?_))
          refine WX.ret2 rfl rfl rfl ⟨x1.trans x2, .inr ⟨fun h => h3 ?_, rfl⟩⟩
          have := h.2.2.2.1
          rwa [Int.toNat_natCast] at this
      · repeat' (first | refine QL.pa ?_ | refine QL.ga rfl ?_ | refine QL.na rfl ?_ | refine QL.nu rfl ?_)
        refine QL.nil (fun w2 x2 => ?_)
        repeat' (first | apply WL.fold | apply WA.fold | apply WL.nil | apply WX.n_then | apply WC.seq | apply WC.region | refine WL.pa ?_ | refine WL.ga rfl ?_ | refine WL.na rfl ?_ | refine WL.nu rfl rfl ?_ | apply WC.block | apply WC.skip | apply WC.exit | apply WC.ret | apply WX.e_block | refine WX.e_other rfl ?_ | apply WX.e_then | apply WX.e_again | apply WX.n_block | apply WX.r_then | apply WX.r_block | apply WX.r_again | refine WC.cond_yes rfl ?_ | refine WC.cond_no rfl ?_ | refine WC.cond rfl (fun hc => ?_) (fun hc => ?_) | refine WC.cond_b rfl (fun hc => ?_) (fun hc => ?_))
        exact WX.ret2 rfl rfl rfl ⟨x1.trans x2, .inr ⟨fun h => h2 h.2.2.1, rfl⟩⟩
end Go.Sx

