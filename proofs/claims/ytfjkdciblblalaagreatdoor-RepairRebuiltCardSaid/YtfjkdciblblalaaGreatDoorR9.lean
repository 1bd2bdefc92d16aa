/- Chapter 19: lists of transfers are the same. -/
import Derived.Test.YtfjkdciblblalaaGreatDoorR6
import Derived.Test.YtfjkdciblblalaaGreatDoorHl
import Derived.Laws.OwnMore
namespace Go.Sx
open Go Go.Proofs
theorem tr_take_eq {l m : List Tr} {i : Nat} (h : i < l.length) (h' : i < m.length) (ht : l.take i = m.take i) (he : tr l i = tr m i) : l.take (i + 1) = m.take (i + 1) := by
  rw [tr_take h, tr_take h', ht, he]
theorem tr_ne {l m : List Tr} {i : Nat} (he : tr l i ≠ tr m i) : l ≠ m := fun e => he (by rw [e])
theorem tr_ext {x y : Tr} (h1 : x.frag = y.frag) (h2 : x.tos = y.tos) (h3 : x.src = y.src) (h4 : x.start = y.start) (h5 : x.stop = y.stop) : x = y := by
  cases x; cases y; simp_all
attribute [local irreducible] WC WL WX POp Then Again Fn NX W1 WA WO QL RP RA Yld LoopAt HC HL HX HN H1 HA HO HQ A.blk A.grow A.rd A.obj AgainH CutH
set_option maxHeartbeats 2000000 in
theorem sameList_fn (v u : Value) (l m : List Tr) (hl : l.length ≤ 1000000) (_ : m.length ≤ 1000000) (hsl : ∀ t ∈ l, t.src.length ≤ 1000000) (hsm : ∀ t ∈ m, t.src.length ≤ 1000000) (w : World) (hR : RdT w v l) (hS : RdT w u m) :
    Fn Tryz.prog 22 #[v, u] w fun x w' => x = .bool (decide (l = m)) ∧ Ext w w' := by
  obtain ⟨a, c, rfl⟩ := hR.shape
  obtain ⟨a', c', rfl⟩ := hS.shape
  refine enterH (l := [_, _]) rfl Tryz.ntmps22 rfl ?_
  by_cases hlen : l.length = m.length
  · have hlen' : (l.length : Int) = m.length := by omega
    repeat' (first | apply HL.fold | apply HA.fold | apply HL.nil | apply HX.n_then | apply HC.seq | apply HC.region | refine HL.pa ?_ | refine HL.ga rfl ?_ | refine HL.na rfl ?_ | refine HL.nu rfl rfl ?_ | apply HC.block | apply HC.skip | apply HC.exit | apply HC.ret | apply HX.e_block | refine HX.e_other rfl ?_ | apply HX.e_then | apply HX.e_again | apply HX.n_block | apply HX.r_then | apply HX.r_block | apply HX.r_again | refine HC.cond_yes rfl ?_ | refine HC.cond_no rfl ?_ | refine HL.one (H1.ldb rfl memA rfl rfl ?_) | refine HC.cond rfl (fun hc => ?_) (fun hc => ?_) | refine HC.cond_b rfl (fun hc => ?_) (fun hc => ?_))
    refine HC.loop (α := Nat) (fun i => [(0, .slice a l.length c), (1, .slice a' m.length c'), (5, .int .i64 (i : Int))]) (fun _ => []) (fun i => i ≤ l.length ∧ l.take i = m.take i) (fun i => l.length - i) 0 ⟨by omega, by simp⟩ esA (by repeat (first | exact Hs.nil _ | (refine Hs.cons pickA ?_))) ?_
    rintro i ⟨hi, hti⟩
    by_cases hlt : i < l.length
    · have hlt' : i < m.length := by omega
      obtain ⟨b, off, h, rfl, hcl, hr⟩ := hR.el hlt
      obtain ⟨b', off', h', rfl, hcl', hr'⟩ := hS.el hlt'
      have hb1 := hsl _ (tr_mem hlt)
      have hb2 := hsm _ (tr_mem hlt')
      generalize hx : tr l i = x at *
      generalize hy : tr m i = y at *
      by_cases e0 : x.src = y.src
      · repeat' (first | apply HL.fold | apply HA.fold | apply HL.nil | apply HX.n_then | apply HC.seq | apply HC.region | refine HL.pa ?_ | refine HL.ga rfl ?_ | refine HL.na rfl ?_ | refine HL.nu rfl rfl ?_ | apply HC.block | apply HC.skip | apply HC.exit | apply HC.ret | apply HX.e_block | refine HX.e_other rfl ?_ | apply HX.e_then | apply HX.e_again | apply HX.n_block | apply HX.r_then | apply HX.r_block | apply HX.r_again | refine HC.cond_yes rfl ?_ | refine HC.cond_no rfl ?_ | refine HL.one (H1.ldb rfl memA rfl rfl ?_) | refine HC.cond rfl (fun hc => ?_) (fun hc => ?_) | refine HC.cond_b rfl (fun hc => ?_) (fun hc => ?_))
        refine HC.any rfl ?_
        refine HA.pa 0 rfl ?_
        refine HA.pa 1 rfl ?_
        refine HA.pa 2 rfl ?_
        refine HA.pa 3 rfl ?_
        refine HA.pa 5 rfl ?_
        refine HA.pa 6 rfl ?_
        refine HA.pa 7 rfl ?_
        refine HA.pa 8 rfl ?_
        refine HA.all [4, 9] (by kernel_rfl) rfl ⟨⟨_, rfl, ?_⟩, ⟨_, rfl, ?_⟩, trivial⟩
        · refine HO.one ?_
          refine H1.ld0 rfl (hcl 2 _ rfl) rfl ?_
          apply HA.fold
          refine HA.all [9] (by kernel_rfl) rfl ⟨⟨_, rfl, ?_⟩, trivial⟩
          refine HO.one ?_
          refine H1.ld0 rfl (hcl' 2 _ rfl) rfl ?_
          apply HA.fold
          refine HA.all [10] (by kernel_rfl) rfl ⟨⟨_, rfl, ?_⟩, trivial⟩
          refine HO.one ?_
          refine H1.callx (vs := [h, h']) rfl rfl (fun w hM => same_fn h h' x.src y.src hb1 hb2 w (hM.rd0 hr) (hM.rd0 hr')) ?_
          rw [decide_eq_true e0]
          apply HA.fold
          refine HA.pa 11 rfl ?_
          refine HA.done (by kernel_rfl) ?_
          by_cases e1 : x.frag = y.frag
          rotate_left
          · have hne : l ≠ m := tr_ne (i := i) (by rw [hx, hy]; intro e; exact e1 (by rw [e]))
            repeat' (first | apply HL.fold | apply HA.fold | apply HL.nil | apply HX.n_then | apply HC.seq | apply HC.region | refine HL.pa ?_ | refine HL.ga rfl ?_ | refine HL.na rfl ?_ | refine HL.nu rfl rfl ?_ | apply HC.block | apply HC.skip | apply HC.exit | apply HC.ret | apply HX.e_block | refine HX.e_other rfl ?_ | apply HX.e_then | apply HX.e_again | apply HX.n_block | apply HX.r_then | apply HX.r_block | apply HX.r_again | refine HC.cond_yes rfl ?_ | refine HC.cond_no rfl ?_ | refine HL.one (H1.ldb rfl memA rfl rfl ?_) | refine HC.cond rfl (fun hc => ?_) (fun hc => ?_) | refine HC.cond_b rfl (fun hc => ?_) (fun hc => ?_))
            refine HC.quietS [(some 29, [6], []), (some 30, [29], [0]), (some 31, [30], [1]), (some 32, [0, 31], [2]), (some 33, [5, 31], [2]), (some 34, [32, 33, 31], [3, 4, 2]), (some 35, [34, 31], [5, 2]), (some 36, [35, 31], [6, 2]), (some 37, [1, 31], [2]), (some 38, [5, 31], [2]), (some 39, [37, 38, 31], [8, 9, 2]), (some 40, [39, 31], [10, 2]), (some 41, [40, 31], [11, 2]), (some 42, [36, 41, 31], [7, 12, 2]), (some 43, [31, 42], [2, 13]), (some 44, [43], [14, 2]), (some 45, [0, 44], [15]), (some 46, [5, 44], [15]), (some 47, [45, 46, 44], [16, 17, 15]), (some 48, [47, 44], [18, 15]), (some 49, [48, 44], [19, 15]), (some 50, [1, 44], [15]), (some 51, [5, 44], [15]), (some 52, [50, 51, 44], [21, 22, 15]), (some 53, [52, 44], [23, 15]), (some 54, [53, 44], [24, 15]), (some 55, [49, 54, 44], [20, 25, 15]), (some 56, [44, 55], [15, 26]), (some 57, [56], [27, 15]), (some 58, [0, 57], [28]), (some 59, [5, 57], [28]), (some 60, [58, 59, 57], [29, 30, 28]), (some 61, [60, 57], [31, 28]), (some 62, [61, 57], [32, 28]), (some 63, [1, 57], [28]), (some 64, [5, 57], [28]), (some 65, [63, 64, 57], [34, 35, 28]), (some 66, [65, 57], [36, 28]), (some 67, [66, 57], [37, 28]), (some 68, [62, 67, 57], [33, 38, 28]), (some 69, [57, 68], [28, 39]), (some 70, [69], [40, 28]), (some 71, [0, 70], [41]), (some 72, [5, 70], [41]), (some 73, [71, 72, 70], [42, 43, 41]), (some 74, [73, 70], [44, 41]), (some 75, [74, 70], [45, 41]), (some 76, [1, 70], [41]), (some 77, [5, 70], [41]), (some 78, [76, 77, 70], [47, 48, 41]), (some 79, [78, 70], [49, 41]), (some 80, [79, 70], [50, 41]), (some 81, [75, 80, 70], [46, 51, 41]), (some 82, [70, 81], [41, 52])] (by kernel_rfl) (by kernel_rfl) (by kernel_rfl) ?_
            repeat' (first | refine HQ.pa ?_ | refine HQ.ga rfl ?_ | refine HQ.na rfl ?_ | refine HQ.nu rfl ?_ | refine HQ.ldb rfl memA rfl rfl ?_)
            refine HQ.ld rfl (fun _ hM => cell_ext hM.ext (hcl 0 _ rfl)) rfl ?_
            repeat' (first | refine HQ.pa ?_ | refine HQ.ga rfl ?_ | refine HQ.na rfl ?_ | refine HQ.nu rfl ?_ | refine HQ.ldb rfl memA rfl rfl ?_)
            refine HQ.ld rfl (fun _ hM => cell_ext hM.ext (hcl' 0 _ rfl)) rfl ?_
            repeat' (first | refine HQ.pa ?_ | refine HQ.ga rfl ?_ | refine HQ.na rfl ?_ | refine HQ.nu rfl ?_ | refine HQ.ldb rfl memA rfl rfl ?_)
            refine HQ.nil ?_
            repeat' (first | apply HL.fold | apply HA.fold | apply HL.nil | apply HX.n_then | apply HC.seq | apply HC.region | refine HL.pa ?_ | refine HL.ga rfl ?_ | refine HL.na rfl ?_ | refine HL.nu rfl rfl ?_ | apply HC.block | apply HC.skip | apply HC.exit | apply HC.ret | apply HX.e_block | refine HX.e_other rfl ?_ | apply HX.e_then | apply HX.e_again | apply HX.n_block | apply HX.r_then | apply HX.r_block | apply HX.r_again | refine HC.cond_yes rfl ?_ | refine HC.cond_no rfl ?_ | refine HL.one (H1.ldb rfl memA rfl rfl ?_) | refine HC.cond rfl (fun hc => ?_) (fun hc => ?_) | refine HC.cond_b rfl (fun hc => ?_) (fun hc => ?_))
            exact HX.ret1 rfl rfl fun w' hM => ⟨by rw [decide_eq_false hne], hM.ext⟩
          by_cases e2 : x.tos = y.tos
          rotate_left
          · have hne : l ≠ m := tr_ne (i := i) (by rw [hx, hy]; intro e; exact e2 (by rw [e]))
            repeat' (first | apply HL.fold | apply HA.fold | apply HL.nil | apply HX.n_then | apply HC.seq | apply HC.region | refine HL.pa ?_ | refine HL.ga rfl ?_ | refine HL.na rfl ?_ | refine HL.nu rfl rfl ?_ | apply HC.block | apply HC.skip | apply HC.exit | apply HC.ret | apply HX.e_block | refine HX.e_other rfl ?_ | apply HX.e_then | apply HX.e_again | apply HX.n_block | apply HX.r_then | apply HX.r_block | apply HX.r_again | refine HC.cond_yes rfl ?_ | refine HC.cond_no rfl ?_ | refine HL.one (H1.ldb rfl memA rfl rfl ?_) | refine HC.cond rfl (fun hc => ?_) (fun hc => ?_) | refine HC.cond_b rfl (fun hc => ?_) (fun hc => ?_))
            refine HC.quietS [(some 29, [6], []), (some 30, [29], [0]), (some 31, [30], [1]), (some 32, [0, 31], [2]), (some 33, [5, 31], [2]), (some 34, [32, 33, 31], [3, 4, 2]), (some 35, [34, 31], [5, 2]), (some 36, [35, 31], [6, 2]), (some 37, [1, 31], [2]), (some 38, [5, 31], [2]), (some 39, [37, 38, 31], [8, 9, 2]), (some 40, [39, 31], [10, 2]), (some 41, [40, 31], [11, 2]), (some 42, [36, 41, 31], [7, 12, 2]), (some 43, [31, 42], [2, 13]), (some 44, [43], [14, 2]), (some 45, [0, 44], [15]), (some 46, [5, 44], [15]), (some 47, [45, 46, 44], [16, 17, 15]), (some 48, [47, 44], [18, 15]), (some 49, [48, 44], [19, 15]), (some 50, [1, 44], [15]), (some 51, [5, 44], [15]), (some 52, [50, 51, 44], [21, 22, 15]), (some 53, [52, 44], [23, 15]), (some 54, [53, 44], [24, 15]), (some 55, [49, 54, 44], [20, 25, 15]), (some 56, [44, 55], [15, 26]), (some 57, [56], [27, 15]), (some 58, [0, 57], [28]), (some 59, [5, 57], [28]), (some 60, [58, 59, 57], [29, 30, 28]), (some 61, [60, 57], [31, 28]), (some 62, [61, 57], [32, 28]), (some 63, [1, 57], [28]), (some 64, [5, 57], [28]), (some 65, [63, 64, 57], [34, 35, 28]), (some 66, [65, 57], [36, 28]), (some 67, [66, 57], [37, 28]), (some 68, [62, 67, 57], [33, 38, 28]), (some 69, [57, 68], [28, 39]), (some 70, [69], [40, 28]), (some 71, [0, 70], [41]), (some 72, [5, 70], [41]), (some 73, [71, 72, 70], [42, 43, 41]), (some 74, [73, 70], [44, 41]), (some 75, [74, 70], [45, 41]), (some 76, [1, 70], [41]), (some 77, [5, 70], [41]), (some 78, [76, 77, 70], [47, 48, 41]), (some 79, [78, 70], [49, 41]), (some 80, [79, 70], [50, 41]), (some 81, [75, 80, 70], [46, 51, 41]), (some 82, [70, 81], [41, 52])] (by kernel_rfl) (by kernel_rfl) (by kernel_rfl) ?_
            repeat' (first | refine HQ.pa ?_ | refine HQ.ga rfl ?_ | refine HQ.na rfl ?_ | refine HQ.nu rfl ?_ | refine HQ.ldb rfl memA rfl rfl ?_)
            refine HQ.ld rfl (fun _ hM => cell_ext hM.ext (hcl 0 _ rfl)) rfl ?_
            repeat' (first | refine HQ.pa ?_ | refine HQ.ga rfl ?_ | refine HQ.na rfl ?_ | refine HQ.nu rfl ?_ | refine HQ.ldb rfl memA rfl rfl ?_)
            refine HQ.ld rfl (fun _ hM => cell_ext hM.ext (hcl' 0 _ rfl)) rfl ?_
            repeat' (first | refine HQ.pa ?_ | refine HQ.ga rfl ?_ | refine HQ.na rfl ?_ | refine HQ.nu rfl ?_ | refine HQ.ldb rfl memA rfl rfl ?_)
            refine HQ.ld rfl (fun _ hM => cell_ext hM.ext (hcl 1 _ rfl)) rfl ?_
            repeat' (first | refine HQ.pa ?_ | refine HQ.ga rfl ?_ | refine HQ.na rfl ?_ | refine HQ.nu rfl ?_ | refine HQ.ldb rfl memA rfl rfl ?_)
            refine HQ.ld rfl (fun _ hM => cell_ext hM.ext (hcl' 1 _ rfl)) rfl ?_
            repeat' (first | refine HQ.pa ?_ | refine HQ.ga rfl ?_ | refine HQ.na rfl ?_ | refine HQ.nu rfl ?_ | refine HQ.ldb rfl memA rfl rfl ?_)
            refine HQ.nil ?_
            repeat' (first | apply HL.fold | apply HA.fold | apply HL.nil | apply HX.n_then | apply HC.seq | apply HC.region | refine HL.pa ?_ | refine HL.ga rfl ?_ | refine HL.na rfl ?_ | refine HL.nu rfl rfl ?_ | apply HC.block | apply HC.skip | apply HC.exit | apply HC.ret | apply HX.e_block | refine HX.e_other rfl ?_ | apply HX.e_then | apply HX.e_again | apply HX.n_block | apply HX.r_then | apply HX.r_block | apply HX.r_again | refine HC.cond_yes rfl ?_ | refine HC.cond_no rfl ?_ | refine HL.one (H1.ldb rfl memA rfl rfl ?_) | refine HC.cond rfl (fun hc => ?_) (fun hc => ?_) | refine HC.cond_b rfl (fun hc => ?_) (fun hc => ?_))
            exact HX.ret1 rfl rfl fun w' hM => ⟨by rw [decide_eq_false hne], hM.ext⟩
          by_cases e3 : x.start = y.start
          rotate_left
          · have hne : l ≠ m := tr_ne (i := i) (by rw [hx, hy]; intro e; exact e3 (by rw [e]))
            repeat' (first | apply HL.fold | apply HA.fold | apply HL.nil | apply HX.n_then | apply HC.seq | apply HC.region | refine HL.pa ?_ | refine HL.ga rfl ?_ | refine HL.na rfl ?_ | refine HL.nu rfl rfl ?_ | apply HC.block | apply HC.skip | apply HC.exit | apply HC.ret | apply HX.e_block | refine HX.e_other rfl ?_ | apply HX.e_then | apply HX.e_again | apply HX.n_block | apply HX.r_then | apply HX.r_block | apply HX.r_again | refine HC.cond_yes rfl ?_ | refine HC.cond_no rfl ?_ | refine HL.one (H1.ldb rfl memA rfl rfl ?_) | refine HC.cond rfl (fun hc => ?_) (fun hc => ?_) | refine HC.cond_b rfl (fun hc => ?_) (fun hc => ?_))
            refine HC.quietS [(some 29, [6], []), (some 30, [29], [0]), (some 31, [30], [1]), (some 32, [0, 31], [2]), (some 33, [5, 31], [2]), (some 34, [32, 33, 31], [3, 4, 2]), (some 35, [34, 31], [5, 2]), (some 36, [35, 31], [6, 2]), (some 37, [1, 31], [2]), (some 38, [5, 31], [2]), (some 39, [37, 38, 31], [8, 9, 2]), (some 40, [39, 31], [10, 2]), (some 41, [40, 31], [11, 2]), (some 42, [36, 41, 31], [7, 12, 2]), (some 43, [31, 42], [2, 13]), (some 44, [43], [14, 2]), (some 45, [0, 44], [15]), (some 46, [5, 44], [15]), (some 47, [45, 46, 44], [16, 17, 15]), (some 48, [47, 44], [18, 15]), (some 49, [48, 44], [19, 15]), (some 50, [1, 44], [15]), (some 51, [5, 44], [15]), (some 52, [50, 51, 44], [21, 22, 15]), (some 53, [52, 44], [23, 15]), (some 54, [53, 44], [24, 15]), (some 55, [49, 54, 44], [20, 25, 15]), (some 56, [44, 55], [15, 26]), (some 57, [56], [27, 15]), (some 58, [0, 57], [28]), (some 59, [5, 57], [28]), (some 60, [58, 59, 57], [29, 30, 28]), (some 61, [60, 57], [31, 28]), (some 62, [61, 57], [32, 28]), (some 63, [1, 57], [28]), (some 64, [5, 57], [28]), (some 65, [63, 64, 57], [34, 35, 28]), (some 66, [65, 57], [36, 28]), (some 67, [66, 57], [37, 28]), (some 68, [62, 67, 57], [33, 38, 28]), (some 69, [57, 68], [28, 39]), (some 70, [69], [40, 28]), (some 71, [0, 70], [41]), (some 72, [5, 70], [41]), (some 73, [71, 72, 70], [42, 43, 41]), (some 74, [73, 70], [44, 41]), (some 75, [74, 70], [45, 41]), (some 76, [1, 70], [41]), (some 77, [5, 70], [41]), (some 78, [76, 77, 70], [47, 48, 41]), (some 79, [78, 70], [49, 41]), (some 80, [79, 70], [50, 41]), (some 81, [75, 80, 70], [46, 51, 41]), (some 82, [70, 81], [41, 52])] (by kernel_rfl) (by kernel_rfl) (by kernel_rfl) ?_
            repeat' (first | refine HQ.pa ?_ | refine HQ.ga rfl ?_ | refine HQ.na rfl ?_ | refine HQ.nu rfl ?_ | refine HQ.ldb rfl memA rfl rfl ?_)
            refine HQ.ld rfl (fun _ hM => cell_ext hM.ext (hcl 0 _ rfl)) rfl ?_
            repeat' (first | refine HQ.pa ?_ | refine HQ.ga rfl ?_ | refine HQ.na rfl ?_ | refine HQ.nu rfl ?_ | refine HQ.ldb rfl memA rfl rfl ?_)
            refine HQ.ld rfl (fun _ hM => cell_ext hM.ext (hcl' 0 _ rfl)) rfl ?_
            repeat' (first | refine HQ.pa ?_ | refine HQ.ga rfl ?_ | refine HQ.na rfl ?_ | refine HQ.nu rfl ?_ | refine HQ.ldb rfl memA rfl rfl ?_)
            refine HQ.ld rfl (fun _ hM => cell_ext hM.ext (hcl 1 _ rfl)) rfl ?_
            repeat' (first | refine HQ.pa ?_ | refine HQ.ga rfl ?_ | refine HQ.na rfl ?_ | refine HQ.nu rfl ?_ | refine HQ.ldb rfl memA rfl rfl ?_)
            refine HQ.ld rfl (fun _ hM => cell_ext hM.ext (hcl' 1 _ rfl)) rfl ?_
            repeat' (first | refine HQ.pa ?_ | refine HQ.ga rfl ?_ | refine HQ.na rfl ?_ | refine HQ.nu rfl ?_ | refine HQ.ldb rfl memA rfl rfl ?_)
            refine HQ.ld rfl (fun _ hM => cell_ext hM.ext (hcl 3 _ rfl)) rfl ?_
            repeat' (first | refine HQ.pa ?_ | refine HQ.ga rfl ?_ | refine HQ.na rfl ?_ | refine HQ.nu rfl ?_ | refine HQ.ldb rfl memA rfl rfl ?_)
            refine HQ.ld rfl (fun _ hM => cell_ext hM.ext (hcl' 3 _ rfl)) rfl ?_
            repeat' (first | refine HQ.pa ?_ | refine HQ.ga rfl ?_ | refine HQ.na rfl ?_ | refine HQ.nu rfl ?_ | refine HQ.ldb rfl memA rfl rfl ?_)
            refine HQ.nil ?_
            repeat' (first | apply HL.fold | apply HA.fold | apply HL.nil | apply HX.n_then | apply HC.seq | apply HC.region | refine HL.pa ?_ | refine HL.ga rfl ?_ | refine HL.na rfl ?_ | refine HL.nu rfl rfl ?_ | apply HC.block | apply HC.skip | apply HC.exit | apply HC.ret | apply HX.e_block | refine HX.e_other rfl ?_ | apply HX.e_then | apply HX.e_again | apply HX.n_block | apply HX.r_then | apply HX.r_block | apply HX.r_again | refine HC.cond_yes rfl ?_ | refine HC.cond_no rfl ?_ | refine HL.one (H1.ldb rfl memA rfl rfl ?_) | refine HC.cond rfl (fun hc => ?_) (fun hc => ?_) | refine HC.cond_b rfl (fun hc => ?_) (fun hc => ?_))
            exact HX.ret1 rfl rfl fun w' hM => ⟨by rw [decide_eq_false hne], hM.ext⟩
          by_cases e4 : x.stop = y.stop
          rotate_left
          · have hne : l ≠ m := tr_ne (i := i) (by rw [hx, hy]; intro e; exact e4 (by rw [e]))
            repeat' (first | apply HL.fold | apply HA.fold | apply HL.nil | apply HX.n_then | apply HC.seq | apply HC.region | refine HL.pa ?_ | refine HL.ga rfl ?_ | refine HL.na rfl ?_ | refine HL.nu rfl rfl ?_ | apply HC.block | apply HC.skip | apply HC.exit | apply HC.ret | apply HX.e_block | refine HX.e_other rfl ?_ | apply HX.e_then | apply HX.e_again | apply HX.n_block | apply HX.r_then | apply HX.r_block | apply HX.r_again | refine HC.cond_yes rfl ?_ | refine HC.cond_no rfl ?_ | refine HL.one (H1.ldb rfl memA rfl rfl ?_) | refine HC.cond rfl (fun hc => ?_) (fun hc => ?_) | refine HC.cond_b rfl (fun hc => ?_) (fun hc => ?_))
            refine HC.quietS [(some 29, [6], []), (some 30, [29], [0]), (some 31, [30], [1]), (some 32, [0, 31], [2]), (some 33, [5, 31], [2]), (some 34, [32, 33, 31], [3, 4, 2]), (some 35, [34, 31], [5, 2]), (some 36, [35, 31], [6, 2]), (some 37, [1, 31], [2]), (some 38, [5, 31], [2]), (some 39, [37, 38, 31], [8, 9, 2]), (some 40, [39, 31], [10, 2]), (some 41, [40, 31], [11, 2]), (some 42, [36, 41, 31], [7, 12, 2]), (some 43, [31, 42], [2, 13]), (some 44, [43], [14, 2]), (some 45, [0, 44], [15]), (some 46, [5, 44], [15]), (some 47, [45, 46, 44], [16, 17, 15]), (some 48, [47, 44], [18, 15]), (some 49, [48, 44], [19, 15]), (some 50, [1, 44], [15]), (some 51, [5, 44], [15]), (some 52, [50, 51, 44], [21, 22, 15]), (some 53, [52, 44], [23, 15]), (some 54, [53, 44], [24, 15]), (some 55, [49, 54, 44], [20, 25, 15]), (some 56, [44, 55], [15, 26]), (some 57, [56], [27, 15]), (some 58, [0, 57], [28]), (some 59, [5, 57], [28]), (some 60, [58, 59, 57], [29, 30, 28]), (some 61, [60, 57], [31, 28]), (some 62, [61, 57], [32, 28]), (some 63, [1, 57], [28]), (some 64, [5, 57], [28]), (some 65, [63, 64, 57], [34, 35, 28]), (some 66, [65, 57], [36, 28]), (some 67, [66, 57], [37, 28]), (some 68, [62, 67, 57], [33, 38, 28]), (some 69, [57, 68], [28, 39]), (some 70, [69], [40, 28]), (some 71, [0, 70], [41]), (some 72, [5, 70], [41]), (some 73, [71, 72, 70], [42, 43, 41]), (some 74, [73, 70], [44, 41]), (some 75, [74, 70], [45, 41]), (some 76, [1, 70], [41]), (some 77, [5, 70], [41]), (some 78, [76, 77, 70], [47, 48, 41]), (some 79, [78, 70], [49, 41]), (some 80, [79, 70], [50, 41]), (some 81, [75, 80, 70], [46, 51, 41]), (some 82, [70, 81], [41, 52])] (by kernel_rfl) (by kernel_rfl) (by kernel_rfl) ?_
            repeat' (first | refine HQ.pa ?_ | refine HQ.ga rfl ?_ | refine HQ.na rfl ?_ | refine HQ.nu rfl ?_ | refine HQ.ldb rfl memA rfl rfl ?_)
            refine HQ.ld rfl (fun _ hM => cell_ext hM.ext (hcl 0 _ rfl)) rfl ?_
            repeat' (first | refine HQ.pa ?_ | refine HQ.ga rfl ?_ | refine HQ.na rfl ?_ | refine HQ.nu rfl ?_ | refine HQ.ldb rfl memA rfl rfl ?_)
            refine HQ.ld rfl (fun _ hM => cell_ext hM.ext (hcl' 0 _ rfl)) rfl ?_
            repeat' (first | refine HQ.pa ?_ | refine HQ.ga rfl ?_ | refine HQ.na rfl ?_ | refine HQ.nu rfl ?_ | refine HQ.ldb rfl memA rfl rfl ?_)
            refine HQ.ld rfl (fun _ hM => cell_ext hM.ext (hcl 1 _ rfl)) rfl ?_
            repeat' (first | refine HQ.pa ?_ | refine HQ.ga rfl ?_ | refine HQ.na rfl ?_ | refine HQ.nu rfl ?_ | refine HQ.ldb rfl memA rfl rfl ?_)
            refine HQ.ld rfl (fun _ hM => cell_ext hM.ext (hcl' 1 _ rfl)) rfl ?_
            repeat' (first | refine HQ.pa ?_ | refine HQ.ga rfl ?_ | refine HQ.na rfl ?_ | refine HQ.nu rfl ?_ | refine HQ.ldb rfl memA rfl rfl ?_)
            refine HQ.ld rfl (fun _ hM => cell_ext hM.ext (hcl 3 _ rfl)) rfl ?_
            repeat' (first | refine HQ.pa ?_ | refine HQ.ga rfl ?_ | refine HQ.na rfl ?_ | refine HQ.nu rfl ?_ | refine HQ.ldb rfl memA rfl rfl ?_)
            refine HQ.ld rfl (fun _ hM => cell_ext hM.ext (hcl' 3 _ rfl)) rfl ?_
            repeat' (first | refine HQ.pa ?_ | refine HQ.ga rfl ?_ | refine HQ.na rfl ?_ | refine HQ.nu rfl ?_ | refine HQ.ldb rfl memA rfl rfl ?_)
            refine HQ.ld rfl (fun _ hM => cell_ext hM.ext (hcl 4 _ rfl)) rfl ?_
            repeat' (first | refine HQ.pa ?_ | refine HQ.ga rfl ?_ | refine HQ.na rfl ?_ | refine HQ.nu rfl ?_ | refine HQ.ldb rfl memA rfl rfl ?_)
            refine HQ.ld rfl (fun _ hM => cell_ext hM.ext (hcl' 4 _ rfl)) rfl ?_
            repeat' (first | refine HQ.pa ?_ | refine HQ.ga rfl ?_ | refine HQ.na rfl ?_ | refine HQ.nu rfl ?_ | refine HQ.ldb rfl memA rfl rfl ?_)
            refine HQ.nil ?_
            repeat' (first | apply HL.fold | apply HA.fold | apply HL.nil | apply HX.n_then | apply HC.seq | apply HC.region | refine HL.pa ?_ | refine HL.ga rfl ?_ | refine HL.na rfl ?_ | refine HL.nu rfl rfl ?_ | apply HC.block | apply HC.skip | apply HC.exit | apply HC.ret | apply HX.e_block | refine HX.e_other rfl ?_ | apply HX.e_then | apply HX.e_again | apply HX.n_block | apply HX.r_then | apply HX.r_block | apply HX.r_again | refine HC.cond_yes rfl ?_ | refine HC.cond_no rfl ?_ | refine HL.one (H1.ldb rfl memA rfl rfl ?_) | refine HC.cond rfl (fun hc => ?_) (fun hc => ?_) | refine HC.cond_b rfl (fun hc => ?_) (fun hc => ?_))
            exact HX.ret1 rfl rfl fun w' hM => ⟨by rw [decide_eq_false hne], hM.ext⟩
          repeat' (first | apply HL.fold | apply HA.fold | apply HL.nil | apply HX.n_then | apply HC.seq | apply HC.region | refine HL.pa ?_ | refine HL.ga rfl ?_ | refine HL.na rfl ?_ | refine HL.nu rfl rfl ?_ | apply HC.block | apply HC.skip | apply HC.exit | apply HC.ret | apply HX.e_block | refine HX.e_other rfl ?_ | apply HX.e_then | apply HX.e_again | apply HX.n_block | apply HX.r_then | apply HX.r_block | apply HX.r_again | refine HC.cond_yes rfl ?_ | refine HC.cond_no rfl ?_ | refine HL.one (H1.ldb rfl memA rfl rfl ?_) | refine HC.cond rfl (fun hc => ?_) (fun hc => ?_) | refine HC.cond_b rfl (fun hc => ?_) (fun hc => ?_))
          refine HC.quietS [(some 29, [6], []), (some 30, [29], [0]), (some 31, [30], [1]), (some 32, [0, 31], [2]), (some 33, [5, 31], [2]), (some 34, [32, 33, 31], [3, 4, 2]), (some 35, [34, 31], [5, 2]), (some 36, [35, 31], [6, 2]), (some 37, [1, 31], [2]), (some 38, [5, 31], [2]), (some 39, [37, 38, 31], [8, 9, 2]), (some 40, [39, 31], [10, 2]), (some 41, [40, 31], [11, 2]), (some 42, [36, 41, 31], [7, 12, 2]), (some 43, [31, 42], [2, 13]), (some 44, [43], [14, 2]), (some 45, [0, 44], [15]), (some 46, [5, 44], [15]), (some 47, [45, 46, 44], [16, 17, 15]), (some 48, [47, 44], [18, 15]), (some 49, [48, 44], [19, 15]), (some 50, [1, 44], [15]), (some 51, [5, 44], [15]), (some 52, [50, 51, 44], [21, 22, 15]), (some 53, [52, 44], [23, 15]), (some 54, [53, 44], [24, 15]), (some 55, [49, 54, 44], [20, 25, 15]), (some 56, [44, 55], [15, 26]), (some 57, [56], [27, 15]), (some 58, [0, 57], [28]), (some 59, [5, 57], [28]), (some 60, [58, 59, 57], [29, 30, 28]), (some 61, [60, 57], [31, 28]), (some 62, [61, 57], [32, 28]), (some 63, [1, 57], [28]), (some 64, [5, 57], [28]), (some 65, [63, 64, 57], [34, 35, 28]), (some 66, [65, 57], [36, 28]), (some 67, [66, 57], [37, 28]), (some 68, [62, 67, 57], [33, 38, 28]), (some 69, [57, 68], [28, 39]), (some 70, [69], [40, 28]), (some 71, [0, 70], [41]), (some 72, [5, 70], [41]), (some 73, [71, 72, 70], [42, 43, 41]), (some 74, [73, 70], [44, 41]), (some 75, [74, 70], [45, 41]), (some 76, [1, 70], [41]), (some 77, [5, 70], [41]), (some 78, [76, 77, 70], [47, 48, 41]), (some 79, [78, 70], [49, 41]), (some 80, [79, 70], [50, 41]), (some 81, [75, 80, 70], [46, 51, 41]), (some 82, [70, 81], [41, 52])] (by kernel_rfl) (by kernel_rfl) (by kernel_rfl) ?_
          repeat' (first | refine HQ.pa ?_ | refine HQ.ga rfl ?_ | refine HQ.na rfl ?_ | refine HQ.nu rfl ?_ | refine HQ.ldb rfl memA rfl rfl ?_)
          refine HQ.ld rfl (fun _ hM => cell_ext hM.ext (hcl 0 _ rfl)) rfl ?_
          repeat' (first | refine HQ.pa ?_ | refine HQ.ga rfl ?_ | refine HQ.na rfl ?_ | refine HQ.nu rfl ?_ | refine HQ.ldb rfl memA rfl rfl ?_)
          refine HQ.ld rfl (fun _ hM => cell_ext hM.ext (hcl' 0 _ rfl)) rfl ?_
          repeat' (first | refine HQ.pa ?_ | refine HQ.ga rfl ?_ | refine HQ.na rfl ?_ | refine HQ.nu rfl ?_ | refine HQ.ldb rfl memA rfl rfl ?_)
          refine HQ.ld rfl (fun _ hM => cell_ext hM.ext (hcl 1 _ rfl)) rfl ?_
          repeat' (first | refine HQ.pa ?_ | refine HQ.ga rfl ?_ | refine HQ.na rfl ?_ | refine HQ.nu rfl ?_ | refine HQ.ldb rfl memA rfl rfl ?_)
          refine HQ.ld rfl (fun _ hM => cell_ext hM.ext (hcl' 1 _ rfl)) rfl ?_
          repeat' (first | refine HQ.pa ?_ | refine HQ.ga rfl ?_ | refine HQ.na rfl ?_ | refine HQ.nu rfl ?_ | refine HQ.ldb rfl memA rfl rfl ?_)
          refine HQ.ld rfl (fun _ hM => cell_ext hM.ext (hcl 3 _ rfl)) rfl ?_
          repeat' (first | refine HQ.pa ?_ | refine HQ.ga rfl ?_ | refine HQ.na rfl ?_ | refine HQ.nu rfl ?_ | refine HQ.ldb rfl memA rfl rfl ?_)
          refine HQ.ld rfl (fun _ hM => cell_ext hM.ext (hcl' 3 _ rfl)) rfl ?_
          repeat' (first | refine HQ.pa ?_ | refine HQ.ga rfl ?_ | refine HQ.na rfl ?_ | refine HQ.nu rfl ?_ | refine HQ.ldb rfl memA rfl rfl ?_)
          refine HQ.ld rfl (fun _ hM => cell_ext hM.ext (hcl 4 _ rfl)) rfl ?_
          repeat' (first | refine HQ.pa ?_ | refine HQ.ga rfl ?_ | refine HQ.na rfl ?_ | refine HQ.nu rfl ?_ | refine HQ.ldb rfl memA rfl rfl ?_)
          refine HQ.ld rfl (fun _ hM => cell_ext hM.ext (hcl' 4 _ rfl)) rfl ?_
          repeat' (first | refine HQ.pa ?_ | refine HQ.ga rfl ?_ | refine HQ.na rfl ?_ | refine HQ.nu rfl ?_ | refine HQ.ldb rfl memA rfl rfl ?_)
          refine HQ.nil ?_
          repeat' (first | apply HL.fold | apply HA.fold | apply HL.nil | apply HX.n_then | apply HC.seq | apply HC.region | refine HL.pa ?_ | refine HL.ga rfl ?_ | refine HL.na rfl ?_ | refine HL.nu rfl rfl ?_ | apply HC.block | apply HC.skip | apply HC.exit | apply HC.ret | apply HX.e_block | refine HX.e_other rfl ?_ | apply HX.e_then | apply HX.e_again | apply HX.n_block | apply HX.r_then | apply HX.r_block | apply HX.r_again | refine HC.cond_yes rfl ?_ | refine HC.cond_no rfl ?_ | refine HL.one (H1.ldb rfl memA rfl rfl ?_) | refine HC.cond rfl (fun hc => ?_) (fun hc => ?_) | refine HC.cond_b rfl (fun hc => ?_) (fun hc => ?_))
          exact HX.again (i + 1) ⟨by omega, tr_take_eq hlt hlt' hti (by rw [hx, hy]; exact tr_ext e1 e2 e0 e3 e4)⟩ (by omega) esA (by repeat (first | exact Hs.nil _ | (refine Hs.cons pickA ?_)))
        · refine HO.one ?_
          refine H1.ld0 rfl (hcl' 2 _ rfl) rfl ?_
          apply HA.fold
          refine HA.all [4] (by kernel_rfl) rfl ⟨⟨_, rfl, ?_⟩, trivial⟩
          refine HO.one ?_
          refine H1.ld0 rfl (hcl 2 _ rfl) rfl ?_
          apply HA.fold
          refine HA.all [10] (by kernel_rfl) rfl ⟨⟨_, rfl, ?_⟩, trivial⟩
          refine HO.one ?_
          refine H1.callx (vs := [h, h']) rfl rfl (fun w hM => same_fn h h' x.src y.src hb1 hb2 w (hM.rd0 hr) (hM.rd0 hr')) ?_
          rw [decide_eq_true e0]
          apply HA.fold
          refine HA.pa 11 rfl ?_
          refine HA.done (by kernel_rfl) ?_
          by_cases e1 : x.frag = y.frag
          rotate_left
          · have hne : l ≠ m := tr_ne (i := i) (by rw [hx, hy]; intro e; exact e1 (by rw [e]))
            repeat' (first | apply HL.fold | apply HA.fold | apply HL.nil | apply HX.n_then | apply HC.seq | apply HC.region | refine HL.pa ?_ | refine HL.ga rfl ?_ | refine HL.na rfl ?_ | refine HL.nu rfl rfl ?_ | apply HC.block | apply HC.skip | apply HC.exit | apply HC.ret | apply HX.e_block | refine HX.e_other rfl ?_ | apply HX.e_then | apply HX.e_again | apply HX.n_block | apply HX.r_then | apply HX.r_block | apply HX.r_again | refine HC.cond_yes rfl ?_ | refine HC.cond_no rfl ?_ | refine HL.one (H1.ldb rfl memA rfl rfl ?_) | refine HC.cond rfl (fun hc => ?_) (fun hc => ?_) | refine HC.cond_b rfl (fun hc => ?_) (fun hc => ?_))
            refine HC.quietS [(some 29, [6], []), (some 30, [29], [0]), (some 31, [30], [1]), (some 32, [0, 31], [2]), (some 33, [5, 31], [2]), (some 34, [32, 33, 31], [3, 4, 2]), (some 35, [34, 31], [5, 2]), (some 36, [35, 31], [6, 2]), (some 37, [1, 31], [2]), (some 38, [5, 31], [2]), (some 39, [37, 38, 31], [8, 9, 2]), (some 40, [39, 31], [10, 2]), (some 41, [40, 31], [11, 2]), (some 42, [36, 41, 31], [7, 12, 2]), (some 43, [31, 42], [2, 13]), (some 44, [43], [14, 2]), (some 45, [0, 44], [15]), (some 46, [5, 44], [15]), (some 47, [45, 46, 44], [16, 17, 15]), (some 48, [47, 44], [18, 15]), (some 49, [48, 44], [19, 15]), (some 50, [1, 44], [15]), (some 51, [5, 44], [15]), (some 52, [50, 51, 44], [21, 22, 15]), (some 53, [52, 44], [23, 15]), (some 54, [53, 44], [24, 15]), (some 55, [49, 54, 44], [20, 25, 15]), (some 56, [44, 55], [15, 26]), (some 57, [56], [27, 15]), (some 58, [0, 57], [28]), (some 59, [5, 57], [28]), (some 60, [58, 59, 57], [29, 30, 28]), (some 61, [60, 57], [31, 28]), (some 62, [61, 57], [32, 28]), (some 63, [1, 57], [28]), (some 64, [5, 57], [28]), (some 65, [63, 64, 57], [34, 35, 28]), (some 66, [65, 57], [36, 28]), (some 67, [66, 57], [37, 28]), (some 68, [62, 67, 57], [33, 38, 28]), (some 69, [57, 68], [28, 39]), (some 70, [69], [40, 28]), (some 71, [0, 70], [41]), (some 72, [5, 70], [41]), (some 73, [71, 72, 70], [42, 43, 41]), (some 74, [73, 70], [44, 41]), (some 75, [74, 70], [45, 41]), (some 76, [1, 70], [41]), (some 77, [5, 70], [41]), (some 78, [76, 77, 70], [47, 48, 41]), (some 79, [78, 70], [49, 41]), (some 80, [79, 70], [50, 41]), (some 81, [75, 80, 70], [46, 51, 41]), (some 82, [70, 81], [41, 52])] (by kernel_rfl) (by kernel_rfl) (by kernel_rfl) ?_
            repeat' (first | refine HQ.pa ?_ | refine HQ.ga rfl ?_ | refine HQ.na rfl ?_ | refine HQ.nu rfl ?_ | refine HQ.ldb rfl memA rfl rfl ?_)
            refine HQ.ld rfl (fun _ hM => cell_ext hM.ext (hcl 0 _ rfl)) rfl ?_
            repeat' (first | refine HQ.pa ?_ | refine HQ.ga rfl ?_ | refine HQ.na rfl ?_ | refine HQ.nu rfl ?_ | refine HQ.ldb rfl memA rfl rfl ?_)
            refine HQ.ld rfl (fun _ hM => cell_ext hM.ext (hcl' 0 _ rfl)) rfl ?_
            repeat' (first | refine HQ.pa ?_ | refine HQ.ga rfl ?_ | refine HQ.na rfl ?_ | refine HQ.nu rfl ?_ | refine HQ.ldb rfl memA rfl rfl ?_)
            refine HQ.nil ?_
            repeat' (first | apply HL.fold | apply HA.fold | apply HL.nil | apply HX.n_then | apply HC.seq | apply HC.region | refine HL.pa ?_ | refine HL.ga rfl ?_ | refine HL.na rfl ?_ | refine HL.nu rfl rfl ?_ | apply HC.block | apply HC.skip | apply HC.exit | apply HC.ret | apply HX.e_block | refine HX.e_other rfl ?_ | apply HX.e_then | apply HX.e_again | apply HX.n_block | apply HX.r_then | apply HX.r_block | apply HX.r_again | refine HC.cond_yes rfl ?_ | refine HC.cond_no rfl ?_ | refine HL.one (H1.ldb rfl memA rfl rfl ?_) | refine HC.cond rfl (fun hc => ?_) (fun hc => ?_) | refine HC.cond_b rfl (fun hc => ?_) (fun hc => ?_))
            exact HX.ret1 rfl rfl fun w' hM => ⟨by rw [decide_eq_false hne], hM.ext⟩
          by_cases e2 : x.tos = y.tos
          rotate_left
          · have hne : l ≠ m := tr_ne (i := i) (by rw [hx, hy]; intro e; exact e2 (by rw [e]))
            repeat' (first | apply HL.fold | apply HA.fold | apply HL.nil | apply HX.n_then | apply HC.seq | apply HC.region | refine HL.pa ?_ | refine HL.ga rfl ?_ | refine HL.na rfl ?_ | refine HL.nu rfl rfl ?_ | apply HC.block | apply HC.skip | apply HC.exit | apply HC.ret | apply HX.e_block | refine HX.e_other rfl ?_ | apply HX.e_then | apply HX.e_again | apply HX.n_block | apply HX.r_then | apply HX.r_block | apply HX.r_again | refine HC.cond_yes rfl ?_ | refine HC.cond_no rfl ?_ | refine HL.one (H1.ldb rfl memA rfl rfl ?_) | refine HC.cond rfl (fun hc => ?_) (fun hc => ?_) | refine HC.cond_b rfl (fun hc => ?_) (fun hc => ?_))
            refine HC.quietS [(some 29, [6], []), (some 30, [29], [0]), (some 31, [30], [1]), (some 32, [0, 31], [2]), (some 33, [5, 31], [2]), (some 34, [32, 33, 31], [3, 4, 2]), (some 35, [34, 31], [5, 2]), (some 36, [35, 31], [6, 2]), (some 37, [1, 31], [2]), (some 38, [5, 31], [2]), (some 39, [37, 38, 31], [8, 9, 2]), (some 40, [39, 31], [10, 2]), (some 41, [40, 31], [11, 2]), (some 42, [36, 41, 31], [7, 12, 2]), (some 43, [31, 42], [2, 13]), (some 44, [43], [14, 2]), (some 45, [0, 44], [15]), (some 46, [5, 44], [15]), (some 47, [45, 46, 44], [16, 17, 15]), (some 48, [47, 44], [18, 15]), (some 49, [48, 44], [19, 15]), (some 50, [1, 44], [15]), (some 51, [5, 44], [15]), (some 52, [50, 51, 44], [21, 22, 15]), (some 53, [52, 44], [23, 15]), (some 54, [53, 44], [24, 15]), (some 55, [49, 54, 44], [20, 25, 15]), (some 56, [44, 55], [15, 26]), (some 57, [56], [27, 15]), (some 58, [0, 57], [28]), (some 59, [5, 57], [28]), (some 60, [58, 59, 57], [29, 30, 28]), (some 61, [60, 57], [31, 28]), (some 62, [61, 57], [32, 28]), (some 63, [1, 57], [28]), (some 64, [5, 57], [28]), (some 65, [63, 64, 57], [34, 35, 28]), (some 66, [65, 57], [36, 28]), (some 67, [66, 57], [37, 28]), (some 68, [62, 67, 57], [33, 38, 28]), (some 69, [57, 68], [28, 39]), (some 70, [69], [40, 28]), (some 71, [0, 70], [41]), (some 72, [5, 70], [41]), (some 73, [71, 72, 70], [42, 43, 41]), (some 74, [73, 70], [44, 41]), (some 75, [74, 70], [45, 41]), (some 76, [1, 70], [41]), (some 77, [5, 70], [41]), (some 78, [76, 77, 70], [47, 48, 41]), (some 79, [78, 70], [49, 41]), (some 80, [79, 70], [50, 41]), (some 81, [75, 80, 70], [46, 51, 41]), (some 82, [70, 81], [41, 52])] (by kernel_rfl) (by kernel_rfl) (by kernel_rfl) ?_
            repeat' (first | refine HQ.pa ?_ | refine HQ.ga rfl ?_ | refine HQ.na rfl ?_ | refine HQ.nu rfl ?_ | refine HQ.ldb rfl memA rfl rfl ?_)
            refine HQ.ld rfl (fun _ hM => cell_ext hM.ext (hcl 0 _ rfl)) rfl ?_
            repeat' (first | refine HQ.pa ?_ | refine HQ.ga rfl ?_ | refine HQ.na rfl ?_ | refine HQ.nu rfl ?_ | refine HQ.ldb rfl memA rfl rfl ?_)
            refine HQ.ld rfl (fun _ hM => cell_ext hM.ext (hcl' 0 _ rfl)) rfl ?_
            repeat' (first | refine HQ.pa ?_ | refine HQ.ga rfl ?_ | refine HQ.na rfl ?_ | refine HQ.nu rfl ?_ | refine HQ.ldb rfl memA rfl rfl ?_)
            refine HQ.ld rfl (fun _ hM => cell_ext hM.ext (hcl 1 _ rfl)) rfl ?_
            repeat' (first | refine HQ.pa ?_ | refine HQ.ga rfl ?_ | refine HQ.na rfl ?_ | refine HQ.nu rfl ?_ | refine HQ.ldb rfl memA rfl rfl ?_)
            refine HQ.ld rfl (fun _ hM => cell_ext hM.ext (hcl' 1 _ rfl)) rfl ?_
            repeat' (first | refine HQ.pa ?_ | refine HQ.ga rfl ?_ | refine HQ.na rfl ?_ | refine HQ.nu rfl ?_ | refine HQ.ldb rfl memA rfl rfl ?_)
            refine HQ.nil ?_
            repeat' (first | apply HL.fold | apply HA.fold | apply HL.nil | apply HX.n_then | apply HC.seq | apply HC.region | refine HL.pa ?_ | refine HL.ga rfl ?_ | refine HL.na rfl ?_ | refine HL.nu rfl rfl ?_ | apply HC.block | apply HC.skip | apply HC.exit | apply HC.ret | apply HX.e_block | refine HX.e_other rfl ?_ | apply HX.e_then | apply HX.e_again | apply HX.n_block | apply HX.r_then | apply HX.r_block | apply HX.r_again | refine HC.cond_yes rfl ?_ | refine HC.cond_no rfl ?_ | refine HL.one (H1.ldb rfl memA rfl rfl ?_) | refine HC.cond rfl (fun hc => ?_) (fun hc => ?_) | refine HC.cond_b rfl (fun hc => ?_) (fun hc => ?_))
            exact HX.ret1 rfl rfl fun w' hM => ⟨by rw [decide_eq_false hne], hM.ext⟩
          by_cases e3 : x.start = y.start
          rotate_left
          · have hne : l ≠ m := tr_ne (i := i) (by rw [hx, hy]; intro e; exact e3 (by rw [e]))
            repeat' (first | apply HL.fold | apply HA.fold | apply HL.nil | apply HX.n_then | apply HC.seq | apply HC.region | refine HL.pa ?_ | refine HL.ga rfl ?_ | refine HL.na rfl ?_ | refine HL.nu rfl rfl ?_ | apply HC.block | apply HC.skip | apply HC.exit | apply HC.ret | apply HX.e_block | refine HX.e_other rfl ?_ | apply HX.e_then | apply HX.e_again | apply HX.n_block | apply HX.r_then | apply HX.r_block | apply HX.r_again | refine HC.cond_yes rfl ?_ | refine HC.cond_no rfl ?_ | refine HL.one (H1.ldb rfl memA rfl rfl ?_) | refine HC.cond rfl (fun hc => ?_) (fun hc => ?_) | refine HC.cond_b rfl (fun hc => ?_) (fun hc => ?_))
            refine HC.quietS [(some 29, [6], []), (some 30, [29], [0]), (some 31, [30], [1]), (some 32, [0, 31], [2]), (some 33, [5, 31], [2]), (some 34, [32, 33, 31], [3, 4, 2]), (some 35, [34, 31], [5, 2]), (some 36, [35, 31], [6, 2]), (some 37, [1, 31], [2]), (some 38, [5, 31], [2]), (some 39, [37, 38, 31], [8, 9, 2]), (some 40, [39, 31], [10, 2]), (some 41, [40, 31], [11, 2]), (some 42, [36, 41, 31], [7, 12, 2]), (some 43, [31, 42], [2, 13]), (some 44, [43], [14, 2]), (some 45, [0, 44], [15]), (some 46, [5, 44], [15]), (some 47, [45, 46, 44], [16, 17, 15]), (some 48, [47, 44], [18, 15]), (some 49, [48, 44], [19, 15]), (some 50, [1, 44], [15]), (some 51, [5, 44], [15]), (some 52, [50, 51, 44], [21, 22, 15]), (some 53, [52, 44], [23, 15]), (some 54, [53, 44], [24, 15]), (some 55, [49, 54, 44], [20, 25, 15]), (some 56, [44, 55], [15, 26]), (some 57, [56], [27, 15]), (some 58, [0, 57], [28]), (some 59, [5, 57], [28]), (some 60, [58, 59, 57], [29, 30, 28]), (some 61, [60, 57], [31, 28]), (some 62, [61, 57], [32, 28]), (some 63, [1, 57], [28]), (some 64, [5, 57], [28]), (some 65, [63, 64, 57], [34, 35, 28]), (some 66, [65, 57], [36, 28]), (some 67, [66, 57], [37, 28]), (some 68, [62, 67, 57], [33, 38, 28]), (some 69, [57, 68], [28, 39]), (some 70, [69], [40, 28]), (some 71, [0, 70], [41]), (some 72, [5, 70], [41]), (some 73, [71, 72, 70], [42, 43, 41]), (some 74, [73, 70], [44, 41]), (some 75, [74, 70], [45, 41]), (some 76, [1, 70], [41]), (some 77, [5, 70], [41]), (some 78, [76, 77, 70], [47, 48, 41]), (some 79, [78, 70], [49, 41]), (some 80, [79, 70], [50, 41]), (some 81, [75, 80, 70], [46, 51, 41]), (some 82, [70, 81], [41, 52])] (by kernel_rfl) (by kernel_rfl) (by kernel_rfl) ?_
            repeat' (first | refine HQ.pa ?_ | refine HQ.ga rfl ?_ | refine HQ.na rfl ?_ | refine HQ.nu rfl ?_ | refine HQ.ldb rfl memA rfl rfl ?_)
            refine HQ.ld rfl (fun _ hM => cell_ext hM.ext (hcl 0 _ rfl)) rfl ?_
            repeat' (first | refine HQ.pa ?_ | refine HQ.ga rfl ?_ | refine HQ.na rfl ?_ | refine HQ.nu rfl ?_ | refine HQ.ldb rfl memA rfl rfl ?_)
            refine HQ.ld rfl (fun _ hM => cell_ext hM.ext (hcl' 0 _ rfl)) rfl ?_
            repeat' (first | refine HQ.pa ?_ | refine HQ.ga rfl ?_ | refine HQ.na rfl ?_ | refine HQ.nu rfl ?_ | refine HQ.ldb rfl memA rfl rfl ?_)
            refine HQ.ld rfl (fun _ hM => cell_ext hM.ext (hcl 1 _ rfl)) rfl ?_
            repeat' (first | refine HQ.pa ?_ | refine HQ.ga rfl ?_ | refine HQ.na rfl ?_ | refine HQ.nu rfl ?_ | refine HQ.ldb rfl memA rfl rfl ?_)
            refine HQ.ld rfl (fun _ hM => cell_ext hM.ext (hcl' 1 _ rfl)) rfl ?_
            repeat' (first | refine HQ.pa ?_ | refine HQ.ga rfl ?_ | refine HQ.na rfl ?_ | refine HQ.nu rfl ?_ | refine HQ.ldb rfl memA rfl rfl ?_)
            refine HQ.ld rfl (fun _ hM => cell_ext hM.ext (hcl 3 _ rfl)) rfl ?_
            repeat' (first | refine HQ.pa ?_ | refine HQ.ga rfl ?_ | refine HQ.na rfl ?_ | refine HQ.nu rfl ?_ | refine HQ.ldb rfl memA rfl rfl ?_)
            refine HQ.ld rfl (fun _ hM => cell_ext hM.ext (hcl' 3 _ rfl)) rfl ?_
            repeat' (first | refine HQ.pa ?_ | refine HQ.ga rfl ?_ | refine HQ.na rfl ?_ | refine HQ.nu rfl ?_ | refine HQ.ldb rfl memA rfl rfl ?_)
            refine HQ.nil ?_
            repeat' (first | apply HL.fold | apply HA.fold | apply HL.nil | apply HX.n_then | apply HC.seq | apply HC.region | refine HL.pa ?_ | refine HL.ga rfl ?_ | refine HL.na rfl ?_ | refine HL.nu rfl rfl ?_ | apply HC.block | apply HC.skip | apply HC.exit | apply HC.ret | apply HX.e_block | refine HX.e_other rfl ?_ | apply HX.e_then | apply HX.e_again | apply HX.n_block | apply HX.r_then | apply HX.r_block | apply HX.r_again | refine HC.cond_yes rfl ?_ | refine HC.cond_no rfl ?_ | refine HL.one (H1.ldb rfl memA rfl rfl ?_) | refine HC.cond rfl (fun hc => ?_) (fun hc => ?_) | refine HC.cond_b rfl (fun hc => ?_) (fun hc => ?_))
            exact HX.ret1 rfl rfl fun w' hM => ⟨by rw [decide_eq_false hne], hM.ext⟩
          by_cases e4 : x.stop = y.stop
          rotate_left
          · have hne : l ≠ m := tr_ne (i := i) (by rw [hx, hy]; intro e; exact e4 (by rw [e]))
            repeat' (first | apply HL.fold | apply HA.fold | apply HL.nil | apply HX.n_then | apply HC.seq | apply HC.region | refine HL.pa ?_ | refine HL.ga rfl ?_ | refine HL.na rfl ?_ | refine HL.nu rfl rfl ?_ | apply HC.block | apply HC.skip | apply HC.exit | apply HC.ret | apply HX.e_block | refine HX.e_other rfl ?_ | apply HX.e_then | apply HX.e_again | apply HX.n_block | apply HX.r_then | apply HX.r_block | apply HX.r_again | refine HC.cond_yes rfl ?_ | refine HC.cond_no rfl ?_ | refine HL.one (H1.ldb rfl memA rfl rfl ?_) | refine HC.cond rfl (fun hc => ?_) (fun hc => ?_) | refine HC.cond_b rfl (fun hc => ?_) (fun hc => ?_))
            refine HC.quietS [(some 29, [6], []), (some 30, [29], [0]), (some 31, [30], [1]), (some 32, [0, 31], [2]), (some 33, [5, 31], [2]), (some 34, [32, 33, 31], [3, 4, 2]), (some 35, [34, 31], [5, 2]), (some 36, [35, 31], [6, 2]), (some 37, [1, 31], [2]), (some 38, [5, 31], [2]), (some 39, [37, 38, 31], [8, 9, 2]), (some 40, [39, 31], [10, 2]), (some 41, [40, 31], [11, 2]), (some 42, [36, 41, 31], [7, 12, 2]), (some 43, [31, 42], [2, 13]), (some 44, [43], [14, 2]), (some 45, [0, 44], [15]), (some 46, [5, 44], [15]), (some 47, [45, 46, 44], [16, 17, 15]), (some 48, [47, 44], [18, 15]), (some 49, [48, 44], [19, 15]), (some 50, [1, 44], [15]), (some 51, [5, 44], [15]), (some 52, [50, 51, 44], [21, 22, 15]), (some 53, [52, 44], [23, 15]), (some 54, [53, 44], [24, 15]), (some 55, [49, 54, 44], [20, 25, 15]), (some 56, [44, 55], [15, 26]), (some 57, [56], [27, 15]), (some 58, [0, 57], [28]), (some 59, [5, 57], [28]), (some 60, [58, 59, 57], [29, 30, 28]), (some 61, [60, 57], [31, 28]), (some 62, [61, 57], [32, 28]), (some 63, [1, 57], [28]), (some 64, [5, 57], [28]), (some 65, [63, 64, 57], [34, 35, 28]), (some 66, [65, 57], [36, 28]), (some 67, [66, 57], [37, 28]), (some 68, [62, 67, 57], [33, 38, 28]), (some 69, [57, 68], [28, 39]), (some 70, [69], [40, 28]), (some 71, [0, 70], [41]), (some 72, [5, 70], [41]), (some 73, [71, 72, 70], [42, 43, 41]), (some 74, [73, 70], [44, 41]), (some 75, [74, 70], [45, 41]), (some 76, [1, 70], [41]), (some 77, [5, 70], [41]), (some 78, [76, 77, 70], [47, 48, 41]), (some 79, [78, 70], [49, 41]), (some 80, [79, 70], [50, 41]), (some 81, [75, 80, 70], [46, 51, 41]), (some 82, [70, 81], [41, 52])] (by kernel_rfl) (by kernel_rfl) (by kernel_rfl) ?_
            repeat' (first | refine HQ.pa ?_ | refine HQ.ga rfl ?_ | refine HQ.na rfl ?_ | refine HQ.nu rfl ?_ | refine HQ.ldb rfl memA rfl rfl ?_)
            refine HQ.ld rfl (fun _ hM => cell_ext hM.ext (hcl 0 _ rfl)) rfl ?_
            repeat' (first | refine HQ.pa ?_ | refine HQ.ga rfl ?_ | refine HQ.na rfl ?_ | refine HQ.nu rfl ?_ | refine HQ.ldb rfl memA rfl rfl ?_)
            refine HQ.ld rfl (fun _ hM => cell_ext hM.ext (hcl' 0 _ rfl)) rfl ?_
            repeat' (first | refine HQ.pa ?_ | refine HQ.ga rfl ?_ | refine HQ.na rfl ?_ | refine HQ.nu rfl ?_ | refine HQ.ldb rfl memA rfl rfl ?_)
            refine HQ.ld rfl (fun _ hM => cell_ext hM.ext (hcl 1 _ rfl)) rfl ?_
            repeat' (first | refine HQ.pa ?_ | refine HQ.ga rfl ?_ | refine HQ.na rfl ?_ | refine HQ.nu rfl ?_ | refine HQ.ldb rfl memA rfl rfl ?_)
            refine HQ.ld rfl (fun _ hM => cell_ext hM.ext (hcl' 1 _ rfl)) rfl ?_
            repeat' (first | refine HQ.pa ?_ | refine HQ.ga rfl ?_ | refine HQ.na rfl ?_ | refine HQ.nu rfl ?_ | refine HQ.ldb rfl memA rfl rfl ?_)
            refine HQ.ld rfl (fun _ hM => cell_ext hM.ext (hcl 3 _ rfl)) rfl ?_
            repeat' (first | refine HQ.pa ?_ | refine HQ.ga rfl ?_ | refine HQ.na rfl ?_ | refine HQ.nu rfl ?_ | refine HQ.ldb rfl memA rfl rfl ?_)
            refine HQ.ld rfl (fun _ hM => cell_ext hM.ext (hcl' 3 _ rfl)) rfl ?_
            repeat' (first | refine HQ.pa ?_ | refine HQ.ga rfl ?_ | refine HQ.na rfl ?_ | refine HQ.nu rfl ?_ | refine HQ.ldb rfl memA rfl rfl ?_)
            refine HQ.ld rfl (fun _ hM => cell_ext hM.ext (hcl 4 _ rfl)) rfl ?_
            repeat' (first | refine HQ.pa ?_ | refine HQ.ga rfl ?_ | refine HQ.na rfl ?_ | refine HQ.nu rfl ?_ | refine HQ.ldb rfl memA rfl rfl ?_)
            refine HQ.ld rfl (fun _ hM => cell_ext hM.ext (hcl' 4 _ rfl)) rfl ?_
            repeat' (first | refine HQ.pa ?_ | refine HQ.ga rfl ?_ | refine HQ.na rfl ?_ | refine HQ.nu rfl ?_ | refine HQ.ldb rfl memA rfl rfl ?_)
            refine HQ.nil ?_
            repeat' (first | apply HL.fold | apply HA.fold | apply HL.nil | apply HX.n_then | apply HC.seq | apply HC.region | refine HL.pa ?_ | refine HL.ga rfl ?_ | refine HL.na rfl ?_ | refine HL.nu rfl rfl ?_ | apply HC.block | apply HC.skip | apply HC.exit | apply HC.ret | apply HX.e_block | refine HX.e_other rfl ?_ | apply HX.e_then | apply HX.e_again | apply HX.n_block | apply HX.r_then | apply HX.r_block | apply HX.r_again | refine HC.cond_yes rfl ?_ | refine HC.cond_no rfl ?_ | refine HL.one (H1.ldb rfl memA rfl rfl ?_) | refine HC.cond rfl (fun hc => ?_) (fun hc => ?_) | refine HC.cond_b rfl (fun hc => ?_) (fun hc => ?_))
            exact HX.ret1 rfl rfl fun w' hM => ⟨by rw [decide_eq_false hne], hM.ext⟩
          repeat' (first | apply HL.fold | apply HA.fold | apply HL.nil | apply HX.n_then | apply HC.seq | apply HC.region | refine HL.pa ?_ | refine HL.ga rfl ?_ | refine HL.na rfl ?_ | refine HL.nu rfl rfl ?_ | apply HC.block | apply HC.skip | apply HC.exit | apply HC.ret | apply HX.e_block | refine HX.e_other rfl ?_ | apply HX.e_then | apply HX.e_again | apply HX.n_block | apply HX.r_then | apply HX.r_block | apply HX.r_again | refine HC.cond_yes rfl ?_ | refine HC.cond_no rfl ?_ | refine HL.one (H1.ldb rfl memA rfl rfl ?_) | refine HC.cond rfl (fun hc => ?_) (fun hc => ?_) | refine HC.cond_b rfl (fun hc => ?_) (fun hc => ?_))
          refine HC.quietS [(some 29, [6], []), (some 30, [29], [0]), (some 31, [30], [1]), (some 32, [0, 31], [2]), (some 33, [5, 31], [2]), (some 34, [32, 33, 31], [3, 4, 2]), (some 35, [34, 31], [5, 2]), (some 36, [35, 31], [6, 2]), (some 37, [1, 31], [2]), (some 38, [5, 31], [2]), (some 39, [37, 38, 31], [8, 9, 2]), (some 40, [39, 31], [10, 2]), (some 41, [40, 31], [11, 2]), (some 42, [36, 41, 31], [7, 12, 2]), (some 43, [31, 42], [2, 13]), (some 44, [43], [14, 2]), (some 45, [0, 44], [15]), (some 46, [5, 44], [15]), (some 47, [45, 46, 44], [16, 17, 15]), (some 48, [47, 44], [18, 15]), (some 49, [48, 44], [19, 15]), (some 50, [1, 44], [15]), (some 51, [5, 44], [15]), (some 52, [50, 51, 44], [21, 22, 15]), (some 53, [52, 44], [23, 15]), (some 54, [53, 44], [24, 15]), (some 55, [49, 54, 44], [20, 25, 15]), (some 56, [44, 55], [15, 26]), (some 57, [56], [27, 15]), (some 58, [0, 57], [28]), (some 59, [5, 57], [28]), (some 60, [58, 59, 57], [29, 30, 28]), (some 61, [60, 57], [31, 28]), (some 62, [61, 57], [32, 28]), (some 63, [1, 57], [28]), (some 64, [5, 57], [28]), (some 65, [63, 64, 57], [34, 35, 28]), (some 66, [65, 57], [36, 28]), (some 67, [66, 57], [37, 28]), (some 68, [62, 67, 57], [33, 38, 28]), (some 69, [57, 68], [28, 39]), (some 70, [69], [40, 28]), (some 71, [0, 70], [41]), (some 72, [5, 70], [41]), (some 73, [71, 72, 70], [42, 43, 41]), (some 74, [73, 70], [44, 41]), (some 75, [74, 70], [45, 41]), (some 76, [1, 70], [41]), (some 77, [5, 70], [41]), (some 78, [76, 77, 70], [47, 48, 41]), (some 79, [78, 70], [49, 41]), (some 80, [79, 70], [50, 41]), (some 81, [75, 80, 70], [46, 51, 41]), (some 82, [70, 81], [41, 52])] (by kernel_rfl) (by kernel_rfl) (by kernel_rfl) ?_
          repeat' (first | refine HQ.pa ?_ | refine HQ.ga rfl ?_ | refine HQ.na rfl ?_ | refine HQ.nu rfl ?_ | refine HQ.ldb rfl memA rfl rfl ?_)
          refine HQ.ld rfl (fun _ hM => cell_ext hM.ext (hcl 0 _ rfl)) rfl ?_
          repeat' (first | refine HQ.pa ?_ | refine HQ.ga rfl ?_ | refine HQ.na rfl ?_ | refine HQ.nu rfl ?_ | refine HQ.ldb rfl memA rfl rfl ?_)
          refine HQ.ld rfl (fun _ hM => cell_ext hM.ext (hcl' 0 _ rfl)) rfl ?_
          repeat' (first | refine HQ.pa ?_ | refine HQ.ga rfl ?_ | refine HQ.na rfl ?_ | refine HQ.nu rfl ?_ | refine HQ.ldb rfl memA rfl rfl ?_)
          refine HQ.ld rfl (fun _ hM => cell_ext hM.ext (hcl 1 _ rfl)) rfl ?_
          repeat' (first | refine HQ.pa ?_ | refine HQ.ga rfl ?_ | refine HQ.na rfl ?_ | refine HQ.nu rfl ?_ | refine HQ.ldb rfl memA rfl rfl ?_)
          refine HQ.ld rfl (fun _ hM => cell_ext hM.ext (hcl' 1 _ rfl)) rfl ?_
          repeat' (first | refine HQ.pa ?_ | refine HQ.ga rfl ?_ | refine HQ.na rfl ?_ | refine HQ.nu rfl ?_ | refine HQ.ldb rfl memA rfl rfl ?_)
          refine HQ.ld rfl (fun _ hM => cell_ext hM.ext (hcl 3 _ rfl)) rfl ?_
          repeat' (first | refine HQ.pa ?_ | refine HQ.ga rfl ?_ | refine HQ.na rfl ?_ | refine HQ.nu rfl ?_ | refine HQ.ldb rfl memA rfl rfl ?_)
          refine HQ.ld rfl (fun _ hM => cell_ext hM.ext (hcl' 3 _ rfl)) rfl ?_
          repeat' (first | refine HQ.pa ?_ | refine HQ.ga rfl ?_ | refine HQ.na rfl ?_ | refine HQ.nu rfl ?_ | refine HQ.ldb rfl memA rfl rfl ?_)
          refine HQ.ld rfl (fun _ hM => cell_ext hM.ext (hcl 4 _ rfl)) rfl ?_
          repeat' (first | refine HQ.pa ?_ | refine HQ.ga rfl ?_ | refine HQ.na rfl ?_ | refine HQ.nu rfl ?_ | refine HQ.ldb rfl memA rfl rfl ?_)
          refine HQ.ld rfl (fun _ hM => cell_ext hM.ext (hcl' 4 _ rfl)) rfl ?_
          repeat' (first | refine HQ.pa ?_ | refine HQ.ga rfl ?_ | refine HQ.na rfl ?_ | refine HQ.nu rfl ?_ | refine HQ.ldb rfl memA rfl rfl ?_)
          refine HQ.nil ?_
          repeat' (first | apply HL.fold | apply HA.fold | apply HL.nil | apply HX.n_then | apply HC.seq | apply HC.region | refine HL.pa ?_ | refine HL.ga rfl ?_ | refine HL.na rfl ?_ | refine HL.nu rfl rfl ?_ | apply HC.block | apply HC.skip | apply HC.exit | apply HC.ret | apply HX.e_block | refine HX.e_other rfl ?_ | apply HX.e_then | apply HX.e_again | apply HX.n_block | apply HX.r_then | apply HX.r_block | apply HX.r_again | refine HC.cond_yes rfl ?_ | refine HC.cond_no rfl ?_ | refine HL.one (H1.ldb rfl memA rfl rfl ?_) | refine HC.cond rfl (fun hc => ?_) (fun hc => ?_) | refine HC.cond_b rfl (fun hc => ?_) (fun hc => ?_))
          exact HX.again (i + 1) ⟨by omega, tr_take_eq hlt hlt' hti (by rw [hx, hy]; exact tr_ext e1 e2 e0 e3 e4)⟩ (by omega) esA (by repeat (first | exact Hs.nil _ | (refine Hs.cons pickA ?_)))
      · have hne : l ≠ m := tr_ne (i := i) (by rw [hx, hy]; intro e; exact e0 (by rw [e]))
        repeat' (first | apply HL.fold | apply HA.fold | apply HL.nil | apply HX.n_then | apply HC.seq | apply HC.region | refine HL.pa ?_ | refine HL.ga rfl ?_ | refine HL.na rfl ?_ | refine HL.nu rfl rfl ?_ | apply HC.block | apply HC.skip | apply HC.exit | apply HC.ret | apply HX.e_block | refine HX.e_other rfl ?_ | apply HX.e_then | apply HX.e_again | apply HX.n_block | apply HX.r_then | apply HX.r_block | apply HX.r_again | refine HC.cond_yes rfl ?_ | refine HC.cond_no rfl ?_ | refine HL.one (H1.ldb rfl memA rfl rfl ?_) | refine HC.cond rfl (fun hc => ?_) (fun hc => ?_) | refine HC.cond_b rfl (fun hc => ?_) (fun hc => ?_))
        refine HC.any rfl ?_
        refine HA.pa 0 rfl ?_
        refine HA.pa 1 rfl ?_
        refine HA.pa 2 rfl ?_
        refine HA.pa 3 rfl ?_
        refine HA.pa 5 rfl ?_
        refine HA.pa 6 rfl ?_
        refine HA.pa 7 rfl ?_
        refine HA.pa 8 rfl ?_
        refine HA.all [4, 9] (by kernel_rfl) rfl ⟨⟨_, rfl, ?_⟩, ⟨_, rfl, ?_⟩, trivial⟩
        · refine HO.one ?_
          refine H1.ld0 rfl (hcl 2 _ rfl) rfl ?_
          apply HA.fold
          refine HA.all [9] (by kernel_rfl) rfl ⟨⟨_, rfl, ?_⟩, trivial⟩
          refine HO.one ?_
          refine H1.ld0 rfl (hcl' 2 _ rfl) rfl ?_
          apply HA.fold
          refine HA.all [10] (by kernel_rfl) rfl ⟨⟨_, rfl, ?_⟩, trivial⟩
          refine HO.one ?_
          refine H1.callx (vs := [h, h']) rfl rfl (fun w hM => same_fn h h' x.src y.src hb1 hb2 w (hM.rd0 hr) (hM.rd0 hr')) ?_
          rw [decide_eq_false e0]
          apply HA.fold
          refine HA.pa 11 rfl ?_
          refine HA.done (by kernel_rfl) ?_
          repeat' (first | apply HL.fold | apply HA.fold | apply HL.nil | apply HX.n_then | apply HC.seq | apply HC.region | refine HL.pa ?_ | refine HL.ga rfl ?_ | refine HL.na rfl ?_ | refine HL.nu rfl rfl ?_ | apply HC.block | apply HC.skip | apply HC.exit | apply HC.ret | apply HX.e_block | refine HX.e_other rfl ?_ | apply HX.e_then | apply HX.e_again | apply HX.n_block | apply HX.r_then | apply HX.r_block | apply HX.r_again | refine HC.cond_yes rfl ?_ | refine HC.cond_no rfl ?_ | refine HL.one (H1.ldb rfl memA rfl rfl ?_) | refine HC.cond rfl (fun hc => ?_) (fun hc => ?_) | refine HC.cond_b rfl (fun hc => ?_) (fun hc => ?_))
          refine HC.quietS [(some 29, [6], []), (some 30, [29], [0]), (some 31, [30], [1]), (some 32, [0, 31], [2]), (some 33, [5, 31], [2]), (some 34, [32, 33, 31], [3, 4, 2]), (some 35, [34, 31], [5, 2]), (some 36, [35, 31], [6, 2]), (some 37, [1, 31], [2]), (some 38, [5, 31], [2]), (some 39, [37, 38, 31], [8, 9, 2]), (some 40, [39, 31], [10, 2]), (some 41, [40, 31], [11, 2]), (some 42, [36, 41, 31], [7, 12, 2]), (some 43, [31, 42], [2, 13]), (some 44, [43], [14, 2]), (some 45, [0, 44], [15]), (some 46, [5, 44], [15]), (some 47, [45, 46, 44], [16, 17, 15]), (some 48, [47, 44], [18, 15]), (some 49, [48, 44], [19, 15]), (some 50, [1, 44], [15]), (some 51, [5, 44], [15]), (some 52, [50, 51, 44], [21, 22, 15]), (some 53, [52, 44], [23, 15]), (some 54, [53, 44], [24, 15]), (some 55, [49, 54, 44], [20, 25, 15]), (some 56, [44, 55], [15, 26]), (some 57, [56], [27, 15]), (some 58, [0, 57], [28]), (some 59, [5, 57], [28]), (some 60, [58, 59, 57], [29, 30, 28]), (some 61, [60, 57], [31, 28]), (some 62, [61, 57], [32, 28]), (some 63, [1, 57], [28]), (some 64, [5, 57], [28]), (some 65, [63, 64, 57], [34, 35, 28]), (some 66, [65, 57], [36, 28]), (some 67, [66, 57], [37, 28]), (some 68, [62, 67, 57], [33, 38, 28]), (some 69, [57, 68], [28, 39]), (some 70, [69], [40, 28]), (some 71, [0, 70], [41]), (some 72, [5, 70], [41]), (some 73, [71, 72, 70], [42, 43, 41]), (some 74, [73, 70], [44, 41]), (some 75, [74, 70], [45, 41]), (some 76, [1, 70], [41]), (some 77, [5, 70], [41]), (some 78, [76, 77, 70], [47, 48, 41]), (some 79, [78, 70], [49, 41]), (some 80, [79, 70], [50, 41]), (some 81, [75, 80, 70], [46, 51, 41]), (some 82, [70, 81], [41, 52])] (by kernel_rfl) (by kernel_rfl) (by kernel_rfl) ?_
          repeat' (first | refine HQ.pa ?_ | refine HQ.ga rfl ?_ | refine HQ.na rfl ?_ | refine HQ.nu rfl ?_ | refine HQ.ldb rfl memA rfl rfl ?_)
          refine HQ.nil ?_
          repeat' (first | apply HL.fold | apply HA.fold | apply HL.nil | apply HX.n_then | apply HC.seq | apply HC.region | refine HL.pa ?_ | refine HL.ga rfl ?_ | refine HL.na rfl ?_ | refine HL.nu rfl rfl ?_ | apply HC.block | apply HC.skip | apply HC.exit | apply HC.ret | apply HX.e_block | refine HX.e_other rfl ?_ | apply HX.e_then | apply HX.e_again | apply HX.n_block | apply HX.r_then | apply HX.r_block | apply HX.r_again | refine HC.cond_yes rfl ?_ | refine HC.cond_no rfl ?_ | refine HL.one (H1.ldb rfl memA rfl rfl ?_) | refine HC.cond rfl (fun hc => ?_) (fun hc => ?_) | refine HC.cond_b rfl (fun hc => ?_) (fun hc => ?_))
          exact HX.ret1 rfl rfl fun w' hM => ⟨by rw [decide_eq_false hne], hM.ext⟩
        · refine HO.one ?_
          refine H1.ld0 rfl (hcl' 2 _ rfl) rfl ?_
          apply HA.fold
          refine HA.all [4] (by kernel_rfl) rfl ⟨⟨_, rfl, ?_⟩, trivial⟩
          refine HO.one ?_
          refine H1.ld0 rfl (hcl 2 _ rfl) rfl ?_
          apply HA.fold
          refine HA.all [10] (by kernel_rfl) rfl ⟨⟨_, rfl, ?_⟩, trivial⟩
          refine HO.one ?_
          refine H1.callx (vs := [h, h']) rfl rfl (fun w hM => same_fn h h' x.src y.src hb1 hb2 w (hM.rd0 hr) (hM.rd0 hr')) ?_
          rw [decide_eq_false e0]
          apply HA.fold
          refine HA.pa 11 rfl ?_
          refine HA.done (by kernel_rfl) ?_
          repeat' (first | apply HL.fold | apply HA.fold | apply HL.nil | apply HX.n_then | apply HC.seq | apply HC.region | refine HL.pa ?_ | refine HL.ga rfl ?_ | refine HL.na rfl ?_ | refine HL.nu rfl rfl ?_ | apply HC.block | apply HC.skip | apply HC.exit | apply HC.ret | apply HX.e_block | refine HX.e_other rfl ?_ | apply HX.e_then | apply HX.e_again | apply HX.n_block | apply HX.r_then | apply HX.r_block | apply HX.r_again | refine HC.cond_yes rfl ?_ | refine HC.cond_no rfl ?_ | refine HL.one (H1.ldb rfl memA rfl rfl ?_) | refine HC.cond rfl (fun hc => ?_) (fun hc => ?_) | refine HC.cond_b rfl (fun hc => ?_) (fun hc => ?_))
          refine HC.quietS [(some 29, [6], []), (some 30, [29], [0]), (some 31, [30], [1]), (some 32, [0, 31], [2]), (some 33, [5, 31], [2]), (some 34, [32, 33, 31], [3, 4, 2]), (some 35, [34, 31], [5, 2]), (some 36, [35, 31], [6, 2]), (some 37, [1, 31], [2]), (some 38, [5, 31], [2]), (some 39, [37, 38, 31], [8, 9, 2]), (some 40, [39, 31], [10, 2]), (some 41, [40, 31], [11, 2]), (some 42, [36, 41, 31], [7, 12, 2]), (some 43, [31, 42], [2, 13]), (some 44, [43], [14, 2]), (some 45, [0, 44], [15]), (some 46, [5, 44], [15]), (some 47, [45, 46, 44], [16, 17, 15]), (some 48, [47, 44], [18, 15]), (some 49, [48, 44], [19, 15]), (some 50, [1, 44], [15]), (some 51, [5, 44], [15]), (some 52, [50, 51, 44], [21, 22, 15]), (some 53, [52, 44], [23, 15]), (some 54, [53, 44], [24, 15]), (some 55, [49, 54, 44], [20, 25, 15]), (some 56, [44, 55], [15, 26]), (some 57, [56], [27, 15]), (some 58, [0, 57], [28]), (some 59, [5, 57], [28]), (some 60, [58, 59, 57], [29, 30, 28]), (some 61, [60, 57], [31, 28]), (some 62, [61, 57], [32, 28]), (some 63, [1, 57], [28]), (some 64, [5, 57], [28]), (some 65, [63, 64, 57], [34, 35, 28]), (some 66, [65, 57], [36, 28]), (some 67, [66, 57], [37, 28]), (some 68, [62, 67, 57], [33, 38, 28]), (some 69, [57, 68], [28, 39]), (some 70, [69], [40, 28]), (some 71, [0, 70], [41]), (some 72, [5, 70], [41]), (some 73, [71, 72, 70], [42, 43, 41]), (some 74, [73, 70], [44, 41]), (some 75, [74, 70], [45, 41]), (some 76, [1, 70], [41]), (some 77, [5, 70], [41]), (some 78, [76, 77, 70], [47, 48, 41]), (some 79, [78, 70], [49, 41]), (some 80, [79, 70], [50, 41]), (some 81, [75, 80, 70], [46, 51, 41]), (some 82, [70, 81], [41, 52])] (by kernel_rfl) (by kernel_rfl) (by kernel_rfl) ?_
          repeat' (first | refine HQ.pa ?_ | refine HQ.ga rfl ?_ | refine HQ.na rfl ?_ | refine HQ.nu rfl ?_ | refine HQ.ldb rfl memA rfl rfl ?_)
          refine HQ.nil ?_
          repeat' (first | apply HL.fold | apply HA.fold | apply HL.nil | apply HX.n_then | apply HC.seq | apply HC.region | refine HL.pa ?_ | refine HL.ga rfl ?_ | refine HL.na rfl ?_ | refine HL.nu rfl rfl ?_ | apply HC.block | apply HC.skip | apply HC.exit | apply HC.ret | apply HX.e_block | refine HX.e_other rfl ?_ | apply HX.e_then | apply HX.e_again | apply HX.n_block | apply HX.r_then | apply HX.r_block | apply HX.r_again | refine HC.cond_yes rfl ?_ | refine HC.cond_no rfl ?_ | refine HL.one (H1.ldb rfl memA rfl rfl ?_) | refine HC.cond rfl (fun hc => ?_) (fun hc => ?_) | refine HC.cond_b rfl (fun hc => ?_) (fun hc => ?_))
          exact HX.ret1 rfl rfl fun w' hM => ⟨by rw [decide_eq_false hne], hM.ext⟩
    · obtain rfl : i = l.length := by omega
      have e : l = m := by rwa [List.take_length, hlen, List.take_length] at hti
      repeat' (first | apply HL.fold | apply HA.fold | apply HL.nil | apply HX.n_then | apply HC.seq | apply HC.region | refine HL.pa ?_ | refine HL.ga rfl ?_ | refine HL.na rfl ?_ | refine HL.nu rfl rfl ?_ | apply HC.block | apply HC.skip | apply HC.exit | apply HC.ret | apply HX.e_block | refine HX.e_other rfl ?_ | apply HX.e_then | apply HX.e_again | apply HX.n_block | apply HX.r_then | apply HX.r_block | apply HX.r_again | refine HC.cond_yes rfl ?_ | refine HC.cond_no rfl ?_ | refine HL.one (H1.ldb rfl memA rfl rfl ?_) | refine HC.cond rfl (fun hc => ?_) (fun hc => ?_) | refine HC.cond_b rfl (fun hc => ?_) (fun hc => ?_))
      exact HX.ret1 rfl rfl fun w' hM => ⟨by rw [decide_eq_true e], hM.ext⟩
  · have hlen' : ¬ (l.length : Int) = m.length := by omega
    repeat' (first | apply HL.fold | apply HA.fold | apply HL.nil | apply HX.n_then | apply HC.seq | apply HC.region | refine HL.pa ?_ | refine HL.ga rfl ?_ | refine HL.na rfl ?_ | refine HL.nu rfl rfl ?_ | apply HC.block | apply HC.skip | apply HC.exit | apply HC.ret | apply HX.e_block | refine HX.e_other rfl ?_ | apply HX.e_then | apply HX.e_again | apply HX.n_block | apply HX.r_then | apply HX.r_block | apply HX.r_again | refine HC.cond_yes rfl ?_ | refine HC.cond_no rfl ?_ | refine HL.one (H1.ldb rfl memA rfl rfl ?_) | refine HC.cond rfl (fun hc => ?_) (fun hc => ?_) | refine HC.cond_b rfl (fun hc => ?_) (fun hc => ?_))
    exact HX.ret1 rfl rfl fun w' hM => ⟨by rw [decide_eq_false fun e => hlen (by rw [e])], hM.ext⟩
end Go.Sx
/- Append of a list that may be nil; few. -/
namespace Go.Sx
open Go Go.Proofs
theorem POp.cut_hn {P : Program} {N : Nat} {ds : List Deferred} {E : Env} {t ty : TypeId} {x hi : Operand} {k' : IntKind} {n : Int} {e : TypeId} {l c : Nat} {z : Value} {sz bb : Nat} [h : UTy P t (.slice e)] [hi' : ITy P e z sz bb]
    (hx : Env.ev E x = some (.slice none l c)) (hh : Env.ev E hi = some (.int k' n)) (h1 : 0 ≤ n) (h2 : n ≤ c) :
    POp P N ds E (.slice t x none (some hi) none) ty (.slice none n.toNat c) := fun a ha d pos af g w => by
  by_cases hc : c = 0
  · subst hc
    simp [execOp, ha.ev hx, ha.ev hh, Instr.sliceAt, Instr.slice, run_underlying h.is, Instr.sliceBounds, run_bound h1 (show n ≤ ((0 : Nat) : Int) from h2), Sem.run_bind, run_sizeOf]
  · simp [execOp, ha.ev hx, ha.ev hh, Instr.sliceAt, Instr.slice, run_underlying h.is, Instr.sliceBounds, run_bound h1 h2, Sem.run_bind, run_sizeOf, hc]
theorem POp.cut_hs {P : Program} {N : Nat} {ds : List Deferred} {E : Env} {t ty : TypeId} {x hi : Operand} {k' : IntKind} {n : Int} {e : TypeId} {ad : Addr} {l c : Nat} {z : Value} {sz bb : Nat} [h : UTy P t (.slice e)] [hi' : ITy P e z sz bb]
    (hx : Env.ev E x = some (.slice (some ad) l c)) (hh : Env.ev E hi = some (.int k' n)) (h1 : 0 ≤ n) (h2 : n ≤ c) :
    POp P N ds E (.slice t x none (some hi) none) ty (.slice (some ad) n.toNat c) := fun a ha d pos af g w => by
  have e0 : ad.add 0 = ad := rfl
  by_cases hc : c = 0
  · subst hc
    simp [execOp, ha.ev hx, ha.ev hh, Instr.sliceAt, Instr.slice, run_underlying h.is, Instr.sliceBounds, run_bound h1 (show n ≤ ((0 : Nat) : Int) from h2), Sem.run_bind, run_sizeOf]
  · simp [execOp, ha.ev hx, ha.ev hh, Instr.sliceAt, Instr.slice, run_underlying h.is, Instr.sliceBounds, run_bound h1 h2, Sem.run_bind, run_sizeOf, hc, e0]
theorem POp.cut_hi {P : Program} {N : Nat} {ds : List Deferred} {E : Env} {t ty : TypeId} {x hi : Operand} {k' : IntKind} {n : Int} {e : TypeId} {l c : Nat} {z : Value} {sz bb : Nat} {w0 : World} {a : Option Addr} {vs : List Value} [h : UTy P t (.slice e)] [hi' : ITy P e z sz bb]
    (hR : Rd w0 (.slice a l c) vs) (hx : Env.ev E x = some (.slice a l c)) (hh : Env.ev E hi = some (.int k' n)) (h1 : 0 ≤ n) (h2 : n ≤ c) :
    POp P N ds E (.slice t x none (some hi) none) ty (.slice a n.toNat c) := by
  obtain ⟨a', c', e1, e2, h3⟩ := hR
  cases e1
  cases a with
  | none => exact POp.cut_hn hx hh h1 h2
  | some ad =>
    rcases h3 with h3 | ⟨b, off, h3, -, -⟩
    · exact POp.cut_hs hx hh h1 h2
    · cases h3; exact POp.cut_h hx hh h1 h2
theorem Rd.itake {w : World} {a : Option Addr} {c k : Nat} {l : List Int} (h : Rd w (.slice a l.length c) (ints l)) (hk : k ≤ l.length) : Rd w (.slice a k c) (ints (l.take k)) := by
  obtain ⟨a', c', h1, h2, h3⟩ := h
  rw [ints_len] at h1 h2
  cases h1
  have e1 : (ints (l.take k)).length = k := by rw [ints_len, List.length_take]; omega
  refine ⟨a, c, by rw [e1], by omega, ?_⟩
  rcases h3 with h3 | ⟨b, off, h3, h4, h5⟩
  · left
    have : l = [] := by have := congrArg List.length h3; rw [ints_len] at this; exact List.eq_nil_of_length_eq_zero this
    subst this; simp [ints]
  · refine .inr ⟨b, off, h3, h4, fun i u hu => h5 i u ?_⟩
    have : ints (l.take k) = (ints l).take k := by simp [ints, List.map_take]
    rw [this] at hu
    rw [List.getElem?_take] at hu
    by_cases hik : i < k
    · rwa [if_pos hik] at hu
    · rw [if_neg hik] at hu; cases hu
attribute [local irreducible] WC WL WX POp Then Again Fn NX W1 WA WO QL RP RA Yld LoopAt HC HL HX HN H1 HA HO HQ A.blk A.grow A.rd A.obj AgainH CutH
end Go.Sx
/- Chapter 19: After of the reference. -/
namespace Go.Sx
open Go Go.Proofs
/-- Where fragment i is, by the transfers that have ended. -/
def backT (l : List Tr) (i : Nat) (day : Int) : Int := match l.find? fun t => decide (t.frag = (i : Int) ∧ t.stop ≤ day) with
  | some t => t.tos
  | none => -1
def afterI (holders lost : List Int) (l : List Tr) (day : Int) (i : Nat) : Int := if (i : Int) ∈ lost then backT l i day else at' holders i
def afterS (holders lost : List Int) (l : List Tr) (day : Int) : List Int := (List.range holders.length).map (afterI holders lost l day)
theorem ints_row (f : Nat → Int) (n : Nat) : ints ((List.range n).map f) = row n fun q => zv (f q) := by
  simp [ints, row, List.map_map]
theorem range_at (l : List Int) : (List.range l.length).map (at' l) = l := by
  apply List.ext_getElem
  · simp
  · intro i h1 h2
    simp [at', List.getD_eq_getElem?_getD]
    rw [List.getElem?_eq_getElem h2]; rfl
theorem back_drop {l : List Tr} {j : Nat} (hj : j < l.length) (i : Nat) (day : Int) : backT (l.drop j) i day = if (tr l j).frag = i ∧ (tr l j).stop ≤ day then (tr l j).tos else backT (l.drop (j + 1)) i day := by
  have : l.drop j = tr l j :: l.drop (j + 1) := by rw [List.drop_eq_getElem_cons hj]; simp [tr, hj]
  unfold backT
  rw [this, List.find?_cons]
  by_cases h : (tr l j).frag = i ∧ (tr l j).stop ≤ day
  · rw [decide_eq_true h, if_pos h]
  · rw [decide_eq_false h, if_neg h]
attribute [local irreducible] WC WL WX POp Then Again Fn NX W1 WA WO QL RP RA Yld LoopAt HC HL HX HN H1 HA HO HQ A.blk A.grow A.rd A.obj AgainH CutH
end Go.Sx

