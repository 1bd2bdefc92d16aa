/- Chapter 19: SameInts, different, has, Right of the reference. -/
import Derived.Test.YtfjkdciblblalaaGreatDoorR3
import Derived.Test.YtfjkdciblblalaaGreatDoorHx6
namespace Go.Sx
open Go Go.Proofs
attribute [local irreducible] WC WL WX POp Then Again Fn NX W1 WA WO QL RP RA Yld LoopAt HC HL HX HN H1 HA HO HQ A.blk A.grow A.rd A.obj AgainH CutH
theorem take_eq_succ {l m : List Int} {i : Nat} (h1 : i < l.length) (h2 : i < m.length) (h : l.take i = m.take i) (he : at' l i = at' m i) : l.take (i + 1) = m.take (i + 1) := by
  rw [take_at h1, take_at h2, h, he]
theorem same_fn (v u : Value) (l m : List Int) (hl : l.length ≤ 1000000) (_ : m.length ≤ 1000000) (w : World) (hR : Rd w v (ints l)) (hS : Rd w u (ints m)) :
    Fn Tryz.prog 20 #[v, u] w fun x w' => x = .bool (decide (l = m)) ∧ Ext w w' := by
  obtain ⟨a, c, rfl, hc⟩ := hR.isInts
  obtain ⟨a', c', rfl, hc'⟩ := hS.isInts
  refine enterH (l := [_, _]) rfl Tryz.ntmps20 rfl ?_
  by_cases hlen : l.length = m.length
  · have hlen' : (l.length : Int) = m.length := by omega
    repeat' (first | apply HL.fold | apply HA.fold | apply HL.nil | apply HX.n_then | apply HC.seq | apply HC.region | refine HL.pa ?_ | refine HL.ga rfl ?_ | refine HL.na rfl ?_ | refine HL.nu rfl rfl ?_ | apply HC.block | apply HC.skip | apply HC.exit | apply HC.ret | apply HX.e_block | refine HX.e_other rfl ?_ | apply HX.e_then | apply HX.e_again | apply HX.n_block | apply HX.r_then | apply HX.r_block | apply HX.r_again | refine HC.cond_yes rfl ?_ | refine HC.cond_no rfl ?_ | refine HL.one (H1.ldb rfl memA rfl rfl ?_) | refine HC.cond rfl (fun hc => ?_) (fun hc => ?_) | refine HC.cond_b rfl (fun hc => ?_) (fun hc => ?_))
    refine HC.loop (α := Nat) (fun i => [(0, .slice a l.length c), (1, .slice a' m.length c'), (5, .int .i64 (i : Int))]) (fun _ => []) (fun i => i ≤ l.length ∧ l.take i = m.take i) (fun i => l.length - i) 0 ⟨by omega, by simp⟩ esA (by repeat (first | exact Hs.nil _ | (refine Hs.cons pickA ?_))) ?_
    rintro i ⟨hi, hti⟩
    by_cases hlt : i < l.length
    · have hlt' : i < m.length := by omega
      obtain ⟨b, off, rfl, -⟩ := hR.iat (by intro e; rw [e] at hlt; simp at hlt)
      obtain ⟨b', off', rfl, -⟩ := hS.iat (by intro e; rw [e] at hlt'; simp at hlt')
      by_cases he : at' l i = at' m i
      · repeat' (first | apply HL.fold | apply HA.fold | apply HL.nil | apply HX.n_then | apply HC.seq | apply HC.region | refine HL.pa ?_ | refine HL.ga rfl ?_ | refine HL.na rfl ?_ | refine HL.nu rfl rfl ?_ | apply HC.block | apply HC.skip | apply HC.exit | apply HC.ret | apply HX.e_block | refine HX.e_other rfl ?_ | apply HX.e_then | apply HX.e_again | apply HX.n_block | apply HX.r_then | apply HX.r_block | apply HX.r_again | refine HC.cond_yes rfl ?_ | refine HC.cond_no rfl ?_ | refine HL.one (H1.ldb rfl memA rfl rfl ?_) | refine HC.cond rfl (fun hc => ?_) (fun hc => ?_) | refine HC.cond_b rfl (fun hc => ?_) (fun hc => ?_))
        refine HC.quietS [(some 17, [0], []), (some 18, [5], []), (some 19, [17, 18], [0, 1]), (some 20, [19], [2]), (some 21, [1], []), (some 22, [5], []), (some 23, [21, 22], [4, 5]), (some 24, [23], [6]), (some 25, [20, 24], [3, 7])] (by kernel_rfl) (by kernel_rfl) (by kernel_rfl) ?_
        repeat' (first | refine HQ.pa ?_ | refine HQ.ga rfl ?_ | refine HQ.na rfl ?_ | refine HQ.nu rfl ?_ | refine HQ.ldb rfl memA rfl rfl ?_)
        refine HQ.ld rfl (fun _ hM => (hM.rd0 hR).cell (ints_get hlt)) rfl ?_
        repeat' (first | refine HQ.pa ?_ | refine HQ.ga rfl ?_ | refine HQ.na rfl ?_ | refine HQ.nu rfl ?_ | refine HQ.ldb rfl memA rfl rfl ?_)
        refine HQ.ld rfl (fun _ hM => (hM.rd0 hS).cell (ints_get hlt')) rfl ?_
        repeat' (first | refine HQ.pa ?_ | refine HQ.ga rfl ?_ | refine HQ.na rfl ?_ | refine HQ.nu rfl ?_ | refine HQ.ldb rfl memA rfl rfl ?_)
        refine HQ.nil ?_
        repeat' (first | apply HL.fold | apply HA.fold | apply HL.nil | apply HX.n_then | apply HC.seq | apply HC.region | refine HL.pa ?_ | refine HL.ga rfl ?_ | refine HL.na rfl ?_ | refine HL.nu rfl rfl ?_ | apply HC.block | apply HC.skip | apply HC.exit | apply HC.ret | apply HX.e_block | refine HX.e_other rfl ?_ | apply HX.e_then | apply HX.e_again | apply HX.n_block | apply HX.r_then | apply HX.r_block | apply HX.r_again | refine HC.cond_yes rfl ?_ | refine HC.cond_no rfl ?_ | refine HL.one (H1.ldb rfl memA rfl rfl ?_) | refine HC.cond rfl (fun hc => ?_) (fun hc => ?_) | refine HC.cond_b rfl (fun hc => ?_) (fun hc => ?_))
        exact HX.again (i + 1) ⟨by omega, take_eq_succ hlt hlt' hti he⟩ (by omega) esA (by repeat (first | exact Hs.nil _ | (refine Hs.cons pickA ?_)))
      · repeat' (first | apply HL.fold | apply HA.fold | apply HL.nil | apply HX.n_then | apply HC.seq | apply HC.region | refine HL.pa ?_ | refine HL.ga rfl ?_ | refine HL.na rfl ?_ | refine HL.nu rfl rfl ?_ | apply HC.block | apply HC.skip | apply HC.exit | apply HC.ret | apply HX.e_block | refine HX.e_other rfl ?_ | apply HX.e_then | apply HX.e_again | apply HX.n_block | apply HX.r_then | apply HX.r_block | apply HX.r_again | refine HC.cond_yes rfl ?_ | refine HC.cond_no rfl ?_ | refine HL.one (H1.ldb rfl memA rfl rfl ?_) | refine HC.cond rfl (fun hc => ?_) (fun hc => ?_) | refine HC.cond_b rfl (fun hc => ?_) (fun hc => ?_))
        refine HC.quietS [(some 17, [0], []), (some 18, [5], []), (some 19, [17, 18], [0, 1]), (some 20, [19], [2]), (some 21, [1], []), (some 22, [5], []), (some 23, [21, 22], [4, 5]), (some 24, [23], [6]), (some 25, [20, 24], [3, 7])] (by kernel_rfl) (by kernel_rfl) (by kernel_rfl) ?_
        repeat' (first | refine HQ.pa ?_ | refine HQ.ga rfl ?_ | refine HQ.na rfl ?_ | refine HQ.nu rfl ?_ | refine HQ.ldb rfl memA rfl rfl ?_)
        refine HQ.ld rfl (fun _ hM => (hM.rd0 hR).cell (ints_get hlt)) rfl ?_
        repeat' (first | refine HQ.pa ?_ | refine HQ.ga rfl ?_ | refine HQ.na rfl ?_ | refine HQ.nu rfl ?_ | refine HQ.ldb rfl memA rfl rfl ?_)
        refine HQ.ld rfl (fun _ hM => (hM.rd0 hS).cell (ints_get hlt')) rfl ?_
        repeat' (first | refine HQ.pa ?_ | refine HQ.ga rfl ?_ | refine HQ.na rfl ?_ | refine HQ.nu rfl ?_ | refine HQ.ldb rfl memA rfl rfl ?_)
        refine HQ.nil ?_
        repeat' (first | apply HL.fold | apply HA.fold | apply HL.nil | apply HX.n_then | apply HC.seq | apply HC.region | refine HL.pa ?_ | refine HL.ga rfl ?_ | refine HL.na rfl ?_ | refine HL.nu rfl rfl ?_ | apply HC.block | apply HC.skip | apply HC.exit | apply HC.ret | apply HX.e_block | refine HX.e_other rfl ?_ | apply HX.e_then | apply HX.e_again | apply HX.n_block | apply HX.r_then | apply HX.r_block | apply HX.r_again | refine HC.cond_yes rfl ?_ | refine HC.cond_no rfl ?_ | refine HL.one (H1.ldb rfl memA rfl rfl ?_) | refine HC.cond rfl (fun hc => ?_) (fun hc => ?_) | refine HC.cond_b rfl (fun hc => ?_) (fun hc => ?_))
        exact HX.ret1 rfl rfl fun w' hM => ⟨by rw [decide_eq_false fun e => he (by rw [e])], hM.ext⟩
    · obtain rfl : i = l.length := by omega
      rw [List.take_length, hlen, List.take_length] at hti
      repeat' (first | apply HL.fold | apply HA.fold | apply HL.nil | apply HX.n_then | apply HC.seq | apply HC.region | refine HL.pa ?_ | refine HL.ga rfl ?_ | refine HL.na rfl ?_ | refine HL.nu rfl rfl ?_ | apply HC.block | apply HC.skip | apply HC.exit | apply HC.ret | apply HX.e_block | refine HX.e_other rfl ?_ | apply HX.e_then | apply HX.e_again | apply HX.n_block | apply HX.r_then | apply HX.r_block | apply HX.r_again | refine HC.cond_yes rfl ?_ | refine HC.cond_no rfl ?_ | refine HL.one (H1.ldb rfl memA rfl rfl ?_) | refine HC.cond rfl (fun hc => ?_) (fun hc => ?_) | refine HC.cond_b rfl (fun hc => ?_) (fun hc => ?_))
      exact HX.ret1 rfl rfl fun w' hM => ⟨by rw [decide_eq_true hti], hM.ext⟩
  · have hlen' : ¬ (l.length : Int) = m.length := by omega
    repeat' (first | apply HL.fold | apply HA.fold | apply HL.nil | apply HX.n_then | apply HC.seq | apply HC.region | refine HL.pa ?_ | refine HL.ga rfl ?_ | refine HL.na rfl ?_ | refine HL.nu rfl rfl ?_ | apply HC.block | apply HC.skip | apply HC.exit | apply HC.ret | apply HX.e_block | refine HX.e_other rfl ?_ | apply HX.e_then | apply HX.e_again | apply HX.n_block | apply HX.r_then | apply HX.r_block | apply HX.r_again | refine HC.cond_yes rfl ?_ | refine HC.cond_no rfl ?_ | refine HL.one (H1.ldb rfl memA rfl rfl ?_) | refine HC.cond rfl (fun hc => ?_) (fun hc => ?_) | refine HC.cond_b rfl (fun hc => ?_) (fun hc => ?_))
    exact HX.ret1 rfl rfl fun w' hM => ⟨by rw [decide_eq_false fun e => hlen (by rw [e])], hM.ext⟩
end Go.Sx
/- Chapter 19: has and Right of the reference; unique, custodians of the program. -/
namespace Go.Sx
open Go Go.Proofs
theorem any_take {l : List Tr} {i : Nat} (h : i < l.length) (p : Tr → Bool) : (l.take (i + 1)).any p = ((l.take i).any p || p (tr l i)) := by
  rw [tr_take h, List.any_append]; simp
theorem filter_step (p : Nat → Bool) (i : Nat) : ((List.range (i + 1)).filter p).map Int.ofNat = ((List.range i).filter p).map Int.ofNat ++ (if p i = true then [(i : Int)] else []) := by
  rw [List.range_succ, List.filter_append, List.map_append]
  congr 1
  by_cases h : p i = true
  · simp [h]
  · simp [h]
attribute [local irreducible] WC WL WX POp Then Again Fn NX W1 WA WO QL RP RA Yld LoopAt HC HL HX HN H1 HA HO HQ A.blk A.grow A.rd A.obj AgainH CutH
theorem right_no {holders lost : List Int} {width k deadline : Int} (h : ¬ (custs holders ∧ 0 < holders.length ∧ holders.length ≤ 9 ∧ (1 ≤ width ∧ width ≤ 9) ∧ (1 ≤ k ∧ k ≤ holders.length) ∧ (0 ≤ deadline ∧ deadline ≤ 1000))) : ¬ Right holders lost width k deadline :=
  fun r => h ⟨r.cu, r.pos, r.n9, r.w, r.k, r.d⟩
theorem ascTo_succ {n : Int} {lost : List Int} {i : Nat} : ascTo n lost (i + 1) ↔ ascTo n lost i ∧ (0 ≤ at' lost i ∧ at' lost i ≤ n - 1) ∧ (0 < i → at' lost (i - 1) < at' lost i) := by
  constructor
  · intro h
    exact ⟨fun j hj => h j (by omega), (h i (by omega)).1, (h i (by omega)).2⟩
  · rintro ⟨h1, h2, h3⟩ j hj
    by_cases e : j = i
    · subst e; exact ⟨h2, h3⟩
    · exact h1 j (by omega)
theorem ascTo_le {n : Int} {lost : List Int} {i j : Nat} (h : ascTo n lost i) (hj : j ≤ i) : ascTo n lost j := fun q hq => h q (by omega)
end Go.Sx

