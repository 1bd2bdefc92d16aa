/- Plan of the reference. -/
import Derived.Test.YtcnjfccbfdoacaaSG
namespace Go.Sx
open Go Go.Proofs
attribute [local irreducible] WC WL WX POp Then Again Fn NX W1 WA WO QL RP RA Yld LoopAt HC HL HX HN H1 HA HO HQ HB HP A.blk A.grow A.rd A.obj A.mp AgainH CutH
set_option maxHeartbeats 4000000 in
theorem rplan_fn (v u t : Value) (holders lost to : List Int) (width k deadline : Int) (hh : holders.length ≤ 1000000) (hl : lost.length ≤ 1000000) (ht : to.length ≤ 1000000) (w : World) (hR : Rd w v (ints holders)) (hS : Rd w u (ints lost)) (hT : Rd w t (ints to)) :
    Fn Try.prog 14 #[v, u, t, .int .i64 width, .int .i64 k, .int .i64 deadline] w fun x w' => ∃ z : List (Option Addr × Nat) × Option Addr × Nat, z.1.length = (planR holders lost to width k deadline).length ∧
      x = .tuple #[.slice z.2.1 (planR holders lost to width k deadline).length z.2.2, .int .i64 (if planB holders lost to width k deadline = true then 0 else 190)] ∧
      Mm w (A.grow 52 5 z.2.1 z.2.2 (planR holders lost to width k deadline).length (tcells (planR holders lost to width k deadline) z.1) :: srcAts (planR holders lost to width k deadline) z.1) w' := by
  obtain ⟨a, c, rfl, hc⟩ := hR.isInts
  obtain ⟨a', c', rfl, hc'⟩ := hS.isInts
  obtain ⟨a2, c2, rfl, hc2⟩ := hT.isInts
  refine enterH (l := [_, _, _, _, _, _]) rfl Try.ntmps14 rfl ?_
  repeat' (first | apply HL.fold | apply HA.fold | apply HL.nil | apply HX.n_then | apply HC.seq | apply HC.region | refine HL.pa ?_ | refine HL.ga rfl ?_ | refine HL.na rfl ?_ | refine HL.nu rfl rfl ?_ | apply HC.block | apply HC.skip | apply HC.exit | apply HC.ret | apply HX.e_block | refine HX.e_other rfl ?_ | apply HX.e_then | apply HX.e_again | apply HX.n_block | apply HX.r_then | apply HX.r_block | apply HX.r_again | refine HC.cond_yes rfl ?_ | refine HC.cond_no rfl ?_ | refine HL.one (H1.ldb rfl memA rfl rfl ?_) | refine HC.cond rfl (fun hc => ?_) (fun hc => ?_) | refine HC.cond_b rfl (fun hc => ?_) (fun hc => ?_))
  refine HL.one (H1.callz1 (vs := [.slice a holders.length c, .slice a' lost.length c', .int .i64 width, .int .i64 k, .int .i64 deadline]) rfl rfl (fun w' hM => rright_fn _ _ holders lost width k deadline hh (by omega) w' (hM.rd0 hR) (hM.rd0 hS)) ?_)
  rintro ⟨asz, csz⟩ -
  dsimp only
  repeat' (first | apply HL.fold | apply HA.fold | apply HL.nil | apply HX.n_then | apply HC.seq | apply HC.region | refine HL.pa ?_ | refine HL.ga rfl ?_ | refine HL.na rfl ?_ | refine HL.nu rfl rfl ?_ | apply HC.block | apply HC.skip | apply HC.exit | apply HC.ret | apply HX.e_block | refine HX.e_other rfl ?_ | apply HX.e_then | apply HX.e_again | apply HX.n_block | apply HX.r_then | apply HX.r_block | apply HX.r_again | refine HC.cond_yes rfl ?_ | refine HC.cond_no rfl ?_ | refine HL.one (H1.ldb rfl memA rfl rfl ?_) | refine HC.cond rfl (fun hc => ?_) (fun hc => ?_) | refine HC.cond_b rfl (fun hc => ?_) (fun hc => ?_))
  refine HL.one (H1.callp (α := Bool) (V := fun b => .tuple #[.bool (decide (custs to)), .bool b]) (I := fun _ => True) rfl rfl (fun w' hM => (different_fn _ to ht w' (hM.rd0 hT)).mono fun x w'' ⟨⟨b, h1, _⟩, h3⟩ => ⟨b, trivial, h1, h3⟩) ?_)
  rintro sm -
  by_cases hr : Right holders lost width k deadline
  rotate_left
  · have hb : planB holders lost to width k deadline = false := by unfold planB goodB; rw [rightB_no hr]; rfl
    rw [rightB_no hr]
    repeat' (first | apply HL.fold | apply HA.fold | apply HL.nil | apply HX.n_then | apply HC.seq | apply HC.region | refine HL.pa ?_ | refine HL.ga rfl ?_ | refine HL.na rfl ?_ | refine HL.nu rfl rfl ?_ | apply HC.block | apply HC.skip | apply HC.exit | apply HC.ret | apply HX.e_block | refine HX.e_other rfl ?_ | apply HX.e_then | apply HX.e_again | apply HX.n_block | apply HX.r_then | apply HX.r_block | apply HX.r_again | refine HC.cond_yes rfl ?_ | refine HC.cond_no rfl ?_ | refine HL.one (H1.ldb rfl memA rfl rfl ?_) | refine HC.cond rfl (fun hc => ?_) (fun hc => ?_) | refine HC.cond_b rfl (fun hc => ?_) (fun hc => ?_))
    exact HX.ret2 rfl rfl rfl fun w' hM => plan_none hb hM.ext
  have e : rsurv holders lost width k deadline = survS holders lost := by unfold rsurv; rw [rightB_yes hr]; rfl
  rw [rightB_yes hr, e]
  by_cases hcu : custs to
  rotate_left
  · have hb : planB holders lost to width k deadline = false := by unfold planB goodB; rw [decide_eq_false hcu]; simp
    rw [decide_eq_false hcu]
    repeat' (first | apply HL.fold | apply HA.fold | apply HL.nil | apply HX.n_then | apply HC.seq | apply HC.region | refine HL.pa ?_ | refine HL.ga rfl ?_ | refine HL.na rfl ?_ | refine HL.nu rfl rfl ?_ | apply HC.block | apply HC.skip | apply HC.exit | apply HC.ret | apply HX.e_block | refine HX.e_other rfl ?_ | apply HX.e_then | apply HX.e_again | apply HX.n_block | apply HX.r_then | apply HX.r_block | apply HX.r_again | refine HC.cond_yes rfl ?_ | refine HC.cond_no rfl ?_ | refine HL.one (H1.ldb rfl memA rfl rfl ?_) | refine HC.cond rfl (fun hc => ?_) (fun hc => ?_) | refine HC.cond_b rfl (fun hc => ?_) (fun hc => ?_))
    exact HX.ret2 rfl rfl rfl fun w' hM => plan_none hb hM.ext
  rw [decide_eq_true hcu]
  by_cases htl : to.length = lost.length
  rotate_left
  · have hb : planB holders lost to width k deadline = false := by unfold planB goodB; rw [decide_eq_false htl]; simp
    repeat' (first | apply HL.fold | apply HA.fold | apply HL.nil | apply HX.n_then | apply HC.seq | apply HC.region | refine HL.pa ?_ | refine HL.ga rfl ?_ | refine HL.na rfl ?_ | refine HL.nu rfl rfl ?_ | apply HC.block | apply HC.skip | apply HC.exit | apply HC.ret | apply HX.e_block | refine HX.e_other rfl ?_ | apply HX.e_then | apply HX.e_again | apply HX.n_block | apply HX.r_then | apply HX.r_block | apply HX.r_again | refine HC.cond_yes rfl ?_ | refine HC.cond_no rfl ?_ | refine HL.one (H1.ldb rfl memA rfl rfl ?_) | refine HC.cond rfl (fun hc => ?_) (fun hc => ?_) | refine HC.cond_b rfl (fun hc => ?_) (fun hc => ?_))
    exact HX.ret2 rfl rfl rfl fun w' hM => plan_none hb hM.ext
  have hsl := survS_len holders lost
  have hh9 := hr.n9
  have hl9 := asc_len hr.asc
  obtain ⟨wd, rfl⟩ : ∃ n : Nat, width = (n : Int) := ⟨width.toNat, by have := hr.w; omega⟩
  obtain ⟨kk, rfl⟩ : ∃ n : Nat, k = (n : Int) := ⟨k.toNat, by have := hr.k; omega⟩
  have hw9 := hr.w
  have hk9 := hr.k
  by_cases hsk : 0 < lost.length ∧ ((survS holders lost).length : Int) < (kk : Int)
  · obtain ⟨h0, h1⟩ := hsk
    have hb : planB holders lost to wd kk deadline = false := by unfold planB goodB; rw [decide_eq_true h0, decide_eq_true h1]; simp
    repeat' (first | apply HL.fold | apply HA.fold | apply HL.nil | apply HX.n_then | apply HC.seq | apply HC.region | refine HL.pa ?_ | refine HL.ga rfl ?_ | refine HL.na rfl ?_ | refine HL.nu rfl rfl ?_ | apply HC.block | apply HC.skip | apply HC.exit | apply HC.ret | apply HX.e_block | refine HX.e_other rfl ?_ | apply HX.e_then | apply HX.e_again | apply HX.n_block | apply HX.r_then | apply HX.r_block | apply HX.r_again | refine HC.cond_yes rfl ?_ | refine HC.cond_no rfl ?_ | refine HL.one (H1.ldb rfl memA rfl rfl ?_) | refine HC.cond rfl (fun hc => ?_) (fun hc => ?_) | refine HC.cond_b rfl (fun hc => ?_) (fun hc => ?_))
    exact HX.ret2 rfl rfl rfl fun w' hM => plan_none hb hM.ext
  have hin : ∀ i, i < to.length → at' to i ∈ survS holders lost → planB holders lost to wd kk deadline = false := fun i hi h => by
    have : (to.any fun c => (survS holders lost).contains c) = true := List.any_eq_true.2 ⟨_, at_mem hi, by simpa using h⟩
    unfold planB goodB; rw [this]; simp
  have hgood : (∀ x ∈ to, x ∉ survS holders lost) → goodB holders lost to wd kk deadline = true := fun h => by
    have h1 : (to.any fun c => (survS holders lost).contains c) = false := by
      rw [List.any_eq_false]; intro x hx; simpa using h x hx
    have h2 : (decide (0 < lost.length) && decide (((survS holders lost).length : Int) < (kk : Int))) = false := by
      rw [Bool.and_eq_false_iff, decide_eq_false_iff_not, decide_eq_false_iff_not]
      exact Classical.or_iff_not_imp_left.2 fun h3 h4 => hsk ⟨Classical.not_not.1 h3, h4⟩
    unfold goodB; rw [rightB_yes hr, decide_eq_true htl, decide_eq_true hcu, h1, h2]; rfl
  have hpd : planD holders lost to wd kk deadline = planAt (survS holders lost) lost to wd kk deadline.toNat := rfl
  have hhas := fun hoff d => plan_hasR (width := wd) (k := kk) htl hr.cu hcu hoff d
  have hsk1 : 0 < lost.length → (kk : Int) ≤ ((survS holders lost).length : Int) := fun h => Int.not_lt.1 fun h2 => hsk ⟨h, h2⟩
  clear hsk
  generalize survS holders lost = surv at *
  repeat' (first | apply HL.fold | apply HA.fold | apply HL.nil | apply HX.n_then | apply HC.seq | apply HC.region | refine HL.pa ?_ | refine HL.ga rfl ?_ | refine HL.na rfl ?_ | refine HL.nu rfl rfl ?_ | apply HC.block | apply HC.skip | apply HC.exit | apply HC.ret | apply HX.e_block | refine HX.e_other rfl ?_ | apply HX.e_then | apply HX.e_again | apply HX.n_block | apply HX.r_then | apply HX.r_block | apply HX.r_again | refine HC.cond_yes rfl ?_ | refine HC.cond_no rfl ?_ | refine HL.one (H1.ldb rfl memA rfl rfl ?_) | refine HC.cond rfl (fun hc => ?_) (fun hc => ?_) | refine HC.cond_b rfl (fun hc => ?_) (fun hc => ?_))
  refine HL.cut (α := Bool) (fun z => [(1, .slice a' lost.length c'), (2, .slice a2 to.length c2), (3, .int .i64 (wd : Int)), (4, .int .i64 (kk : Int)), (5, .int .i64 deadline), (15, .slice asz surv.length csz), (64, .bool z)]) (fun _ => [A.grow 3 1 asz csz surv.length (ints surv)]) (fun z => z = false) ?_ ?_
  · by_cases h0 : 0 < lost.length
    · have h1 := hsk1 h0
      repeat' (first | apply HL.fold | apply HA.fold | apply HL.nil | apply HX.n_then | apply HC.seq | apply HC.region | refine HL.pa ?_ | refine HL.ga rfl ?_ | refine HL.na rfl ?_ | refine HL.nu rfl rfl ?_ | apply HC.block | apply HC.skip | apply HC.exit | apply HC.ret | apply HX.e_block | refine HX.e_other rfl ?_ | apply HX.e_then | apply HX.e_again | apply HX.n_block | apply HX.r_then | apply HX.r_block | apply HX.r_again | refine HC.cond_yes rfl ?_ | refine HC.cond_no rfl ?_ | refine HL.one (H1.ldb rfl memA rfl rfl ?_) | refine HC.cond rfl (fun hc => ?_) (fun hc => ?_) | refine HC.cond_b rfl (fun hc => ?_) (fun hc => ?_))
      exact HX.cut (decide ((surv.length : Int) < (kk : Int))) (decide_eq_false (by omega)) esA (by repeat (first | exact Hs.nil _ | (refine Hs.cons pickA ?_)))
    · repeat' (first | apply HL.fold | apply HA.fold | apply HL.nil | apply HX.n_then | apply HC.seq | apply HC.region | refine HL.pa ?_ | refine HL.ga rfl ?_ | refine HL.na rfl ?_ | refine HL.nu rfl rfl ?_ | apply HC.block | apply HC.skip | apply HC.exit | apply HC.ret | apply HX.e_block | refine HX.e_other rfl ?_ | apply HX.e_then | apply HX.e_again | apply HX.n_block | apply HX.r_then | apply HX.r_block | apply HX.r_again | refine HC.cond_yes rfl ?_ | refine HC.cond_no rfl ?_ | refine HL.one (H1.ldb rfl memA rfl rfl ?_) | refine HC.cond rfl (fun hc => ?_) (fun hc => ?_) | refine HC.cond_b rfl (fun hc => ?_) (fun hc => ?_))
      exact HX.cut false rfl esA (by repeat (first | exact Hs.nil _ | (refine Hs.cons pickA ?_)))
  rintro z rfl
  repeat' (first | apply HL.fold | apply HA.fold | apply HL.nil | apply HX.n_then | apply HC.seq | apply HC.region | refine HL.pa ?_ | refine HL.ga rfl ?_ | refine HL.na rfl ?_ | refine HL.nu rfl rfl ?_ | apply HC.block | apply HC.skip | apply HC.exit | apply HC.ret | apply HX.e_block | refine HX.e_other rfl ?_ | apply HX.e_then | apply HX.e_again | apply HX.n_block | apply HX.r_then | apply HX.r_block | apply HX.r_again | refine HC.cond_yes rfl ?_ | refine HC.cond_no rfl ?_ | refine HL.one (H1.ldb rfl memA rfl rfl ?_) | refine HC.cond rfl (fun hc => ?_) (fun hc => ?_) | refine HC.cond_b rfl (fun hc => ?_) (fun hc => ?_))
  refine HC.loop (α := Nat) (fun i => [(1, .slice a' lost.length c'), (2, .slice a2 to.length c2), (3, .int .i64 (wd : Int)), (4, .int .i64 (kk : Int)), (5, .int .i64 deadline), (15, .slice asz surv.length csz), (18, .int .i64 (i : Int))]) (fun _ => [A.grow 3 1 asz csz surv.length (ints surv)]) (fun i => i ≤ to.length ∧ ∀ j, j < i → at' to j ∉ surv) (fun i => to.length - i) 0 ⟨Nat.zero_le _, fun j hj => absurd hj (Nat.not_lt_zero j)⟩ esA (by repeat (first | exact Hs.nil _ | (refine Hs.cons pickA ?_))) ?_
  rintro i ⟨hi, hoffT⟩
  by_cases hlt : i < to.length
  · obtain ⟨bT, offT, rfl, -⟩ := hT.iat (by intro e; rw [e] at hlt; simp at hlt)
    repeat' (first | apply HL.fold | apply HA.fold | apply HL.nil | apply HX.n_then | apply HC.seq | apply HC.region | refine HL.pa ?_ | refine HL.ga rfl ?_ | refine HL.na rfl ?_ | refine HL.nu rfl rfl ?_ | apply HC.block | apply HC.skip | apply HC.exit | apply HC.ret | apply HX.e_block | refine HX.e_other rfl ?_ | apply HX.e_then | apply HX.e_again | apply HX.n_block | apply HX.r_then | apply HX.r_block | apply HX.r_again | refine HC.cond_yes rfl ?_ | refine HC.cond_no rfl ?_ | refine HL.one (H1.ldb rfl memA rfl rfl ?_) | refine HC.cond rfl (fun hc => ?_) (fun hc => ?_) | refine HC.cond_b rfl (fun hc => ?_) (fun hc => ?_))
    refine HL.one (H1.ld0 rfl (hT.cell (ints_get hlt)) rfl ?_)
    repeat' (first | apply HL.fold | apply HA.fold | apply HL.nil | apply HX.n_then | apply HC.seq | apply HC.region | refine HL.pa ?_ | refine HL.ga rfl ?_ | refine HL.na rfl ?_ | refine HL.nu rfl rfl ?_ | apply HC.block | apply HC.skip | apply HC.exit | apply HC.ret | apply HX.e_block | refine HX.e_other rfl ?_ | apply HX.e_then | apply HX.e_again | apply HX.n_block | apply HX.r_then | apply HX.r_block | apply HX.r_again | refine HC.cond_yes rfl ?_ | refine HC.cond_no rfl ?_ | refine HL.one (H1.ldb rfl memA rfl rfl ?_) | refine HC.cond rfl (fun hc => ?_) (fun hc => ?_) | refine HC.cond_b rfl (fun hc => ?_) (fun hc => ?_))
    refine HL.one (H1.call0 (vs := [.slice asz surv.length csz, .int .i64 (at' to i)]) rfl rfl (fun w' hM => rin_fn _ surv (at' to i) (by omega) w' (hM.gr memA)) ?_)
    by_cases hi2 : at' to i ∈ surv
    · have hb := hin i hlt hi2
      rw [decide_eq_true hi2]
      repeat' (first | apply HL.fold | apply HA.fold | apply HL.nil | apply HX.n_then | apply HC.seq | apply HC.region | refine HL.pa ?_ | refine HL.ga rfl ?_ | refine HL.na rfl ?_ | refine HL.nu rfl rfl ?_ | apply HC.block | apply HC.skip | apply HC.exit | apply HC.ret | apply HX.e_block | refine HX.e_other rfl ?_ | apply HX.e_then | apply HX.e_again | apply HX.n_block | apply HX.r_then | apply HX.r_block | apply HX.r_again | refine HC.cond_yes rfl ?_ | refine HC.cond_no rfl ?_ | refine HL.one (H1.ldb rfl memA rfl rfl ?_) | refine HC.cond rfl (fun hc => ?_) (fun hc => ?_) | refine HC.cond_b rfl (fun hc => ?_) (fun hc => ?_))
      exact HX.ret2 rfl rfl rfl fun w' hM => plan_none hb hM.ext
    · rw [decide_eq_false hi2]
      repeat' (first | apply HL.fold | apply HA.fold | apply HL.nil | apply HX.n_then | apply HC.seq | apply HC.region | refine HL.pa ?_ | refine HL.ga rfl ?_ | refine HL.na rfl ?_ | refine HL.nu rfl rfl ?_ | apply HC.block | apply HC.skip | apply HC.exit | apply HC.ret | apply HX.e_block | refine HX.e_other rfl ?_ | apply HX.e_then | apply HX.e_again | apply HX.n_block | apply HX.r_then | apply HX.r_block | apply HX.r_again | refine HC.cond_yes rfl ?_ | refine HC.cond_no rfl ?_ | refine HL.one (H1.ldb rfl memA rfl rfl ?_) | refine HC.cond rfl (fun hc => ?_) (fun hc => ?_) | refine HC.cond_b rfl (fun hc => ?_) (fun hc => ?_))
      refine HX.again (i + 1) ⟨by omega, fun j hj => ?_⟩ (by omega) esA (by repeat (first | exact Hs.nil _ | (refine Hs.cons pickA ?_)))
      by_cases e : j = i
      · subst e; exact hi2
      · exact hoffT j (by omega)
  have hoff : ∀ x ∈ to, x ∉ surv := fun x hx => by obtain ⟨q, hq, rfl⟩ := mem_at hx; exact hoffT q (by omega)
  have hg := hgood hoff
  have hhas2 := hhas hoff
  repeat' (first | apply HL.fold | apply HA.fold | apply HL.nil | apply HX.n_then | apply HC.seq | apply HC.region | refine HL.pa ?_ | refine HL.ga rfl ?_ | refine HL.na rfl ?_ | refine HL.nu rfl rfl ?_ | apply HC.block | apply HC.skip | apply HC.exit | apply HC.ret | apply HX.e_block | refine HX.e_other rfl ?_ | apply HX.e_then | apply HX.e_again | apply HX.n_block | apply HX.r_then | apply HX.r_block | apply HX.r_again | refine HC.cond_yes rfl ?_ | refine HC.cond_no rfl ?_ | refine HL.one (H1.ldb rfl memA rfl rfl ?_) | refine HC.cond rfl (fun hc => ?_) (fun hc => ?_) | refine HC.cond_b rfl (fun hc => ?_) (fun hc => ?_))
  clear hin hgood hhas hoffT
  refine HC.grow0 52 5 ?_
  refine HC.loop (α := St) (fun z => [(1, .slice a' lost.length c'), (2, .slice a2 to.length c2), (3, .int .i64 (wd : Int)), (4, .int .i64 (kk : Int)), (5, .int .i64 deadline), (15, .slice asz surv.length csz), (19, .slice z.a (planAt surv lost to wd kk z.d).length z.c), (20, .int .i64 (z.d : Int))])
    (fun z => A.grow 3 1 asz csz surv.length (ints surv) :: A.grow 52 5 z.a z.c (planAt surv lost to wd kk z.d).length (tcells (planAt surv lost to wd kk z.d) z.zs) :: srcAts (planAt surv lost to wd kk z.d) z.zs)
    (fun z => z.zs.length = (planAt surv lost to wd kk z.d).length ∧ (z.d : Int) ≤ deadline) (fun z => deadline.toNat - z.d) ⟨0, [], none, 0⟩ ⟨rfl, hr.d.1⟩ esA (Hs.cons (Pick.there Pick.here) (Hs.cons Pick.here (Hs.nil _))) ?_
  rintro ⟨d, zs, ao, co⟩ ⟨hz, hd⟩
  dsimp only at hz hd ⊢
  have hple := plan_len_le (surv := surv) (lost := lost) (to := to) (width := wd) (k := kk) d
  have hfull := fun h => plan_full (surv := surv) (lost := lost) (to := to) (width := wd) (k := kk) (d := d) h
  have hH := hhas2 d
  have hstep : planAt surv lost to wd kk (d + 1) = planAt surv lost to wd kk d ++ (List.range (dayN (hasL surv (planAt surv lost to wd kk d) d).length wd kk lost.length (planAt surv lost to wd kk d).length)).map (newT (hasL surv (planAt surv lost to wd kk d) d) lost to kk (planAt surv lost to wd kk d).length d) := rfl
  have hm : (hasL surv (planAt surv lost to wd kk d) d).length = surv.length + (planAt surv lost to wd kk d).length := plan_has_len d
  have hsrt : (hasL surv (planAt surv lost to wd kk d) d).Pairwise (· ≤ ·) := srt_pw _
  generalize hO : planAt surv lost to wd kk d = O at *
  by_cases hlt : O.length < lost.length
  rotate_left
  · have hP : planD holders lost to wd kk deadline = O := by rw [hpd, hfull (by omega) _ (by omega)]
    have hb : planB holders lost to wd kk deadline = true := by unfold planB; rw [hP, hg, decide_eq_true (by omega)]; rfl
    have hR' : planR holders lost to wd kk deadline = O := by unfold planR; rw [if_pos hb, hP]
    repeat' (first | apply HL.fold | apply HA.fold | apply HL.nil | apply HX.n_then | apply HC.seq | apply HC.region | refine HL.pa ?_ | refine HL.ga rfl ?_ | refine HL.na rfl ?_ | refine HL.nu rfl rfl ?_ | apply HC.block | apply HC.skip | apply HC.exit | apply HC.ret | apply HX.e_block | refine HX.e_other rfl ?_ | apply HX.e_then | apply HX.e_again | apply HX.n_block | apply HX.r_then | apply HX.r_block | apply HX.r_again | refine HC.cond_yes rfl ?_ | refine HC.cond_no rfl ?_ | refine HL.one (H1.ldb rfl memA rfl rfl ?_) | refine HC.cond rfl (fun hc => ?_) (fun hc => ?_) | refine HC.cond_b rfl (fun hc => ?_) (fun hc => ?_))
    refine HX.ret2 rfl rfl rfl fun w' hM => ⟨(zs, ao, co), ?_, ?_, ?_⟩
    · rw [hR']; exact hz
    · rw [hR', if_pos hb]
    · rw [hR']; exact hM.tail
  by_cases hdd : (d : Int) < deadline
  rotate_left
  · have hP : planD holders lost to wd kk deadline = O := by rw [hpd, show deadline.toNat = d by omega]; exact hO
    have hb : planB holders lost to wd kk deadline = false := by unfold planB; rw [hP, decide_eq_false (by omega), Bool.and_false]
    repeat' (first | apply HL.fold | apply HA.fold | apply HL.nil | apply HX.n_then | apply HC.seq | apply HC.region | refine HL.pa ?_ | refine HL.ga rfl ?_ | refine HL.na rfl ?_ | refine HL.nu rfl rfl ?_ | apply HC.block | apply HC.skip | apply HC.exit | apply HC.ret | apply HX.e_block | refine HX.e_other rfl ?_ | apply HX.e_then | apply HX.e_again | apply HX.n_block | apply HX.r_then | apply HX.r_block | apply HX.r_again | refine HC.cond_yes rfl ?_ | refine HC.cond_no rfl ?_ | refine HL.one (H1.ldb rfl memA rfl rfl ?_) | refine HC.cond rfl (fun hc => ?_) (fun hc => ?_) | refine HC.cond_b rfl (fun hc => ?_) (fun hc => ?_))
    exact HX.ret2 rfl rfl rfl fun w' hM => plan_none hb hM.ext
  repeat' (first | apply HL.fold | apply HA.fold | apply HL.nil | apply HX.n_then | apply HC.seq | apply HC.region | refine HL.pa ?_ | refine HL.ga rfl ?_ | refine HL.na rfl ?_ | refine HL.nu rfl rfl ?_ | apply HC.block | apply HC.skip | apply HC.exit | apply HC.ret | apply HX.e_block | refine HX.e_other rfl ?_ | apply HX.e_then | apply HX.e_again | apply HX.n_block | apply HX.r_then | apply HX.r_block | apply HX.r_again | refine HC.cond_yes rfl ?_ | refine HC.cond_no rfl ?_ | refine HL.one (H1.ldb rfl memA rfl rfl ?_) | refine HC.cond rfl (fun hc => ?_) (fun hc => ?_) | refine HC.cond_b rfl (fun hc => ?_) (fun hc => ?_))
  refine HL.one (H1.callz1 (V := fun z : Option Addr × Nat => .slice z.1 (hasL surv O d).length z.2) (An := fun z : Option Addr × Nat => A.grow 3 1 z.1 z.2 (hasL surv O d).length (ints (hasL surv O d))) (I := fun _ => True) (vs := [.slice asz surv.length csz, .slice ao O.length co, .int .i64 (d : Int)]) rfl rfl (fun w' hM => by
    have := rhas_fn (.slice asz surv.length csz) (.slice ao O.length co) surv O (d : Int) (by omega) (by omega) w' (hM.gr memA) (hM.tl hz memA (fun x hx => by repeat (first | exact hx | apply List.Mem.tail)))
    rw [hH] at this
    exact this) ?_)
  rintro ⟨ah, ch⟩ -
  dsimp only
  have hmp : 0 < (hasL surv O d).length := by have := hsk1 (by omega); omega
  clear hH hhas2 hfull
  generalize hasL surv O d = h at *
  have hd1000 : (d : Int) ≤ 1000 := by have := hr.d; omega
  have hmul : (h.length : Int) * (wd : Int) = ((h.length * wd : Nat) : Int) := by push_cast; rfl
  have hmul9 : h.length * wd ≤ 18 * 9 := Nat.mul_le_mul (by omega) (by omega)
  have hmin : min ((h.length : Int) * (wd : Int) / (kk : Int)) ((lost.length : Int) - (O.length : Int)) = ((dayN h.length wd kk lost.length O.length : Nat) : Int) := by
    unfold dayN
    rw [hmul, ← Int.natCast_ediv]
    omega
  generalize dayN h.length wd kk lost.length O.length = nn at *
  replace hstep : planAt surv lost to wd kk (d + 1) = dayO O h lost to kk d nn := hstep
  repeat' (first | apply HL.fold | apply HA.fold | apply HL.nil | apply HX.n_then | apply HC.seq | apply HC.region | refine HL.pa ?_ | refine HL.ga rfl ?_ | refine HL.na rfl ?_ | refine HL.nu rfl rfl ?_ | apply HC.block | apply HC.skip | apply HC.exit | apply HC.ret | apply HX.e_block | refine HX.e_other rfl ?_ | apply HX.e_then | apply HX.e_again | apply HX.n_block | apply HX.r_then | apply HX.r_block | apply HX.r_again | refine HC.cond_yes rfl ?_ | refine HC.cond_no rfl ?_ | refine HL.one (H1.ldb rfl memA rfl rfl ?_) | refine HC.cond rfl (fun hc => ?_) (fun hc => ?_) | refine HC.cond_b rfl (fun hc => ?_) (fun hc => ?_))
  refine HC.openg (e := 3) (xs := ints h) memA (by omega) ?_
  rintro bh rfl
  refine HC.loop (α := Nat × List (Option Addr × Nat) × Option Addr × Nat) (fun z => [(1, .slice a' lost.length c'), (2, .slice a2 to.length c2), (3, .int .i64 (wd : Int)), (4, .int .i64 (kk : Int)), (5, .int .i64 deadline), (15, .slice asz surv.length csz), (19, .slice z.2.2.1 (dayO O h lost to kk d z.1).length z.2.2.2), (20, .int .i64 (d : Int)), (21, .slice (some ⟨bh, 0, none⟩) h.length ch), (22, .int .i64 (O.length : Int)), (23, .int .i64 (z.1 : Int))])
    (fun z => A.grow 3 1 (some ⟨bh, 0, none⟩) ch h.length (ints h) :: A.grow 3 1 asz csz surv.length (ints surv) :: A.grow 52 5 z.2.2.1 z.2.2.2 (dayO O h lost to kk d z.1).length (tcells (dayO O h lost to kk d z.1) z.2.1) :: srcAts (dayO O h lost to kk d z.1) z.2.1)
    (fun z => z.1 ≤ nn ∧ z.2.1.length = (dayO O h lost to kk d z.1).length) (fun z => nn - z.1) (0, zs, ao, co) ⟨Nat.zero_le _, by rw [dayO_zero]; exact hz⟩ (by simp only [dayO_zero]; repeat (first | exact trivial | refine ⟨rfl, ?_⟩)) (by simp only [dayO_zero]; exact Hs.refl _) ?_
  rintro ⟨j, zj, aj, cj⟩ ⟨hj, hzj⟩
  dsimp only at hj hzj ⊢
  have hXl := dayO_len O h lost to kk d j
  have hXs := dayO_step O h lost to kk d j
  by_cases hjn : j < nn
  rotate_left
  · obtain rfl : j = nn := by omega
    by_cases hc1 : (j : Int) < (h.length : Int) * (wd : Int) / (kk : Int)
    · have hc2 : ¬ ((O.length : Int) + (j : Int) < (lost.length : Int)) := by omega
      repeat' (first | apply HL.fold | apply HA.fold | apply HL.nil | apply HX.n_then | apply HC.seq | apply HC.region | refine HL.pa ?_ | refine HL.ga rfl ?_ | refine HL.na rfl ?_ | refine HL.nu rfl rfl ?_ | apply HC.block | apply HC.skip | apply HC.exit | apply HC.ret | apply HX.e_block | refine HX.e_other rfl ?_ | apply HX.e_then | apply HX.e_again | apply HX.n_block | apply HX.r_then | apply HX.r_block | apply HX.r_again | refine HC.cond_yes rfl ?_ | refine HC.cond_no rfl ?_ | refine HL.one (H1.ldb rfl memA rfl rfl ?_) | refine HC.cond rfl (fun hc => ?_) (fun hc => ?_) | refine HC.cond_b rfl (fun hc => ?_) (fun hc => ?_))
      refine HX.again ⟨d + 1, zj, aj, cj⟩ ⟨?_, by show ((d + 1 : Nat) : Int) ≤ deadline; omega⟩ (by show deadline.toNat - (d + 1) < deadline.toNat - d; omega) (by dsimp only; rw [hstep]; repeat (first | exact trivial | refine ⟨rfl, ?_⟩)) (by dsimp only; rw [hstep]; exact ⟨[A.grow 3 1 (some ⟨bh, 0, none⟩) ch h.length (ints h)], List.perm_append_comm (l₁ := [A.grow 3 1 (some ⟨bh, 0, none⟩) ch h.length (ints h)])⟩)
      dsimp only; rw [hstep]; exact hzj
    · repeat' (first | apply HL.fold | apply HA.fold | apply HL.nil | apply HX.n_then | apply HC.seq | apply HC.region | refine HL.pa ?_ | refine HL.ga rfl ?_ | refine HL.na rfl ?_ | refine HL.nu rfl rfl ?_ | apply HC.block | apply HC.skip | apply HC.exit | apply HC.ret | apply HX.e_block | refine HX.e_other rfl ?_ | apply HX.e_then | apply HX.e_again | apply HX.n_block | apply HX.r_then | apply HX.r_block | apply HX.r_again | refine HC.cond_yes rfl ?_ | refine HC.cond_no rfl ?_ | refine HL.one (H1.ldb rfl memA rfl rfl ?_) | refine HC.cond rfl (fun hc => ?_) (fun hc => ?_) | refine HC.cond_b rfl (fun hc => ?_) (fun hc => ?_))
      refine HX.again ⟨d + 1, zj, aj, cj⟩ ⟨?_, by show ((d + 1 : Nat) : Int) ≤ deadline; omega⟩ (by show deadline.toNat - (d + 1) < deadline.toNat - d; omega) (by dsimp only; rw [hstep]; repeat (first | exact trivial | refine ⟨rfl, ?_⟩)) (by dsimp only; rw [hstep]; exact ⟨[A.grow 3 1 (some ⟨bh, 0, none⟩) ch h.length (ints h)], List.perm_append_comm (l₁ := [A.grow 3 1 (some ⟨bh, 0, none⟩) ch h.length (ints h)])⟩)
      dsimp only; rw [hstep]; exact hzj
  have hc1 : (j : Int) < (h.length : Int) * (wd : Int) / (kk : Int) := by omega
  have hlo : O.length + j < lost.length := by omega
  have hnT : newT h lost to kk O.length d j = ⟨at' lost (O.length + j), at' to (O.length + j), srt (fromI h kk j kk), (d : Int), (d : Int) + 1⟩ := rfl
  rw [hnT, ← segT_eq hmp hsrt] at hXs
  generalize dayO O h lost to kk d j = X at *
  have hjk : (j : Int) * (kk : Int) = ((j * kk : Nat) : Int) := by push_cast; rfl
  have hjk9 : j * kk ≤ 9 * 9 := Nat.mul_le_mul (by omega) (by omega)
  have hto : O.length + j < to.length := by omega
  obtain ⟨bS, offS, rfl, -⟩ := hS.iat (by intro e; rw [e] at hlo; simp at hlo)
  obtain ⟨bT, offT, rfl, -⟩ := hT.iat (by intro e; rw [e] at hto; simp at hto)
  repeat' (first | apply HL.fold | apply HA.fold | apply HL.nil | apply HX.n_then | apply HC.seq | apply HC.region | refine HL.pa ?_ | refine HL.ga rfl ?_ | refine HL.na rfl ?_ | refine HL.nu rfl rfl ?_ | apply HC.block | apply HC.skip | apply HC.exit | apply HC.ret | apply HX.e_block | refine HX.e_other rfl ?_ | apply HX.e_then | apply HX.e_again | apply HX.n_block | apply HX.r_then | apply HX.r_block | apply HX.r_again | refine HC.cond_yes rfl ?_ | refine HC.cond_no rfl ?_ | refine HL.one (H1.ldb rfl memA rfl rfl ?_) | refine HC.cond rfl (fun hc => ?_) (fun hc => ?_) | refine HC.cond_b rfl (fun hc => ?_) (fun hc => ?_))
  refine HC.cut (α := Nat) (fun b24 => [(1, .slice (some ⟨bS, offS, none⟩) lost.length c'), (2, .slice (some ⟨bT, offT, none⟩) to.length c2), (3, .int .i64 (wd : Int)), (4, .int .i64 (kk : Int)), (5, .int .i64 deadline), (15, .slice asz surv.length csz), (19, .slice aj X.length cj), (20, .int .i64 (d : Int)), (21, .slice (some ⟨bh, 0, none⟩) h.length ch), (22, .int .i64 (O.length : Int)), (23, .int .i64 (j : Int)), (24, .pointer (some ⟨b24, 0, none⟩))]) (fun b24 => A.blk b24 [.int .i64 (at' lost (O.length + j)), .int .i64 (at' to (O.length + j)), .slice none 0 0, .int .i64 (d : Int), .int .i64 ((d : Int) + 1)] 52 :: A.grow 3 1 (some ⟨bh, 0, none⟩) ch h.length (ints h) :: A.grow 3 1 asz csz surv.length (ints surv) :: A.grow 52 5 aj cj X.length (tcells X zj) :: srcAts X zj) (fun _ => True) ?_ ?_
  · have hgS := hS.cell (ints_get hlo)
    have hgT := hT.cell (ints_get hto)
    refine HC.anyC ([(⟨bS, offS + (O.length + j), none⟩, zv (at' lost (O.length + j))), (⟨bT, offT + (O.length + j), none⟩, zv (at' to (O.length + j)))]) rfl ?_
    refine HB.pa 0 rfl ?_
    refine HB.pa 1 rfl ?_
    refine HB.pa 2 rfl ?_
    refine HB.pa (v := .int .i64 ((O.length + j : Nat) : Int)) 3 rfl ?_ (by rw [show ((O.length + j : Nat) : Int) = (O.length : Int) + (j : Int) from by push_cast; rfl]; exact POp.add rfl rfl (by omega) (by omega))
    refine HB.pa 4 rfl ?_
    refine HB.ld 5 rfl rfl memD ?_
    refine HB.pa 6 rfl ?_
    refine HB.pa 7 rfl ?_
    refine HB.pa 8 rfl ?_
    refine HB.pa (v := .int .i64 ((O.length + j : Nat) : Int)) 9 rfl ?_ (by rw [show ((O.length + j : Nat) : Int) = (O.length : Int) + (j : Int) from by push_cast; rfl]; exact POp.add rfl rfl (by omega) (by omega))
    refine HB.pa 10 rfl ?_
    refine HB.ld 11 rfl rfl memD ?_
    refine HB.pa 12 rfl ?_
    refine HB.pa 13 rfl ?_
    refine HB.pa 14 rfl ?_
    refine HB.pa (v := .agg #[.int .i64 (at' lost (O.length + j)), .int .i64 (at' to (O.length + j)), .slice none 0 0, .int .i64 (d : Int), .int .i64 ((d : Int) + 1)]) 15 rfl ?_ (POp.build (cs := [.int .i64 (at' lost (O.length + j)), .int .i64 (at' to (O.length + j)), .slice none 0 0, .int .i64 (d : Int), .int .i64 ((d : Int) + 1)]) rfl rfl)
    refine HB.all (by repeat (first | exact Keep.nil | refine Keep.blk (by (repeat (first | exact List.Mem.head _ | apply List.Mem.tail)); done) rfl ?_ | refine Keep.grow (by (repeat (first | exact List.Mem.head _ | apply List.Mem.tail)); done) (by assumption) ?_ | refine Keep.base (by assumption) ?_)) [16] (by kernel_rfl) rfl ⟨⟨_, rfl, ?_⟩, trivial⟩
    refine HP.one ?_
    refine H1.alloc (cs := tcell trz (.slice none 0 0)) rfl rfl (fun b24 => ?_)
    apply HB.fold
    refine HB.all (by repeat (first | exact Keep.nil | refine Keep.blk (by (repeat (first | exact List.Mem.head _ | apply List.Mem.tail)); done) rfl ?_ | refine Keep.grow (by (repeat (first | exact List.Mem.head _ | apply List.Mem.tail)); done) (by assumption) ?_ | refine Keep.base (by assumption) ?_)) [17] (by kernel_rfl) rfl ⟨⟨_, rfl, ?_⟩, trivial⟩
    refine HP.one ?_
    refine H1.stAgg (cs := tcell trz (.slice none 0 0)) (vs := [.int .i64 (at' lost (O.length + j)), .int .i64 (at' to (O.length + j)), .slice none 0 0, .int .i64 (d : Int), .int .i64 ((d : Int) + 1)]) rfl rfl rfl (by intro v hv; simp only [List.mem_cons, List.not_mem_nil, or_false] at hv; rcases hv with rfl | rfl | rfl | rfl | rfl <;> rfl) rplA rfl ?_
    apply HB.fold
    refine HB.done (by repeat (first | exact Keep.nil | refine Keep.blk (by (repeat (first | exact List.Mem.head _ | apply List.Mem.tail)); done) rfl ?_ | refine Keep.grow (by (repeat (first | exact List.Mem.head _ | apply List.Mem.tail)); done) (by assumption) ?_ | refine Keep.base (by assumption) ?_)) (by kernel_rfl) ?_
    exact HX.cut b24 trivial esA (by repeat (first | exact Hs.nil _ | (refine Hs.cons pickA ?_)); exact Hs.refl _)
  rintro b24 -
  repeat' (first | apply HL.fold | apply HA.fold | apply HL.nil | apply HX.n_then | apply HC.seq | apply HC.region | refine HL.pa ?_ | refine HL.ga rfl ?_ | refine HL.na rfl ?_ | refine HL.nu rfl rfl ?_ | apply HC.block | apply HC.skip | apply HC.exit | apply HC.ret | apply HX.e_block | refine HX.e_other rfl ?_ | apply HX.e_then | apply HX.e_again | apply HX.n_block | apply HX.r_then | apply HX.r_block | apply HX.r_again | refine HC.cond_yes rfl ?_ | refine HC.cond_no rfl ?_ | refine HL.one (H1.ldb rfl memA rfl rfl ?_) | refine HC.cond rfl (fun hc => ?_) (fun hc => ?_) | refine HC.cond_b rfl (fun hc => ?_) (fun hc => ?_))
  refine HC.grow0 3 1 ?_
  refine HC.loop (α := Nat × Option Addr × Nat) (fun z => [(1, .slice (some ⟨bS, offS, none⟩) lost.length c'), (2, .slice (some ⟨bT, offT, none⟩) to.length c2), (3, .int .i64 (wd : Int)), (4, .int .i64 (kk : Int)), (5, .int .i64 deadline), (15, .slice asz surv.length csz), (19, .slice aj X.length cj), (20, .int .i64 (d : Int)), (21, .slice (some ⟨bh, 0, none⟩) h.length ch), (22, .int .i64 (O.length : Int)), (23, .int .i64 (j : Int)), (24, .pointer (some ⟨b24, 0, none⟩)), (25, .int .i64 (z.1 : Int))])
    (fun z => A.blk b24 [.int .i64 (at' lost (O.length + j)), .int .i64 (at' to (O.length + j)), .slice z.2.1 (segT h kk j z.1).length z.2.2, .int .i64 (d : Int), .int .i64 ((d : Int) + 1)] 52 :: A.grow 3 1 z.2.1 z.2.2 (segT h kk j z.1).length (ints (segT h kk j z.1)) :: A.grow 3 1 (some ⟨bh, 0, none⟩) ch h.length (ints h) :: A.grow 3 1 asz csz surv.length (ints surv) :: A.grow 52 5 aj cj X.length (tcells X zj) :: srcAts X zj)
    (fun z => z.1 ≤ h.length) (fun z => h.length - z.1) (0, none, 0) (Nat.zero_le _) esA (Hs.cons (Pick.there Pick.here) (Hs.cons Pick.here (Hs.refl _))) ?_
  rintro ⟨p, ai, ci⟩ hp
  dsimp only at hp ⊢
  have hTl := segT_len h kk j p
  have hpk9 : p * kk ≤ 18 * 9 := Nat.mul_le_mul (by omega) (by omega)
  by_cases hpl : p < h.length
  rotate_left
  · obtain rfl : p = h.length := by omega
    generalize segT h kk j h.length = G at *
    repeat' (first | apply HL.fold | apply HA.fold | apply HL.nil | apply HX.n_then | apply HC.seq | apply HC.region | refine HL.pa ?_ | refine HL.ga rfl ?_ | refine HL.na rfl ?_ | refine HL.nu rfl rfl ?_ | apply HC.block | apply HC.skip | apply HC.exit | apply HC.ret | apply HX.e_block | refine HX.e_other rfl ?_ | apply HX.e_then | apply HX.e_again | apply HX.n_block | apply HX.r_then | apply HX.r_block | apply HX.r_again | refine HC.cond_yes rfl ?_ | refine HC.cond_no rfl ?_ | refine HL.one (H1.ldb rfl memA rfl rfl ?_) | refine HC.cond rfl (fun hc => ?_) (fun hc => ?_) | refine HC.cond_b rfl (fun hc => ?_) (fun hc => ?_))
    refine HL.one (H1.ldAgg (vs := [.int .i64 (at' lost (O.length + j)), .int .i64 (at' to (O.length + j)), .slice ai G.length ci, .int .i64 (d : Int), .int .i64 ((d : Int) + 1)]) rfl memA rfl (fun i v hv => by rw [Nat.zero_add]; exact hv) rfl ?_)
    repeat' (first | apply HL.fold | apply HA.fold | apply HL.nil | apply HX.n_then | apply HC.seq | apply HC.region | refine HL.pa ?_ | refine HL.ga rfl ?_ | refine HL.na rfl ?_ | refine HL.nu rfl rfl ?_ | apply HC.block | apply HC.skip | apply HC.exit | apply HC.ret | apply HX.e_block | refine HX.e_other rfl ?_ | apply HX.e_then | apply HX.e_again | apply HX.n_block | apply HX.r_then | apply HX.r_block | apply HX.r_again | refine HC.cond_yes rfl ?_ | refine HC.cond_no rfl ?_ | refine HL.one (H1.ldb rfl memA rfl rfl ?_) | refine HC.cond rfl (fun hc => ?_) (fun hc => ?_) | refine HC.cond_b rfl (fun hc => ?_) (fun hc => ?_))
    refine HL.one (H1.lit (cs := [.int .i64 (at' lost (O.length + j)), .int .i64 (at' to (O.length + j)), .slice ai G.length ci, .int .i64 (d : Int), .int .i64 ((d : Int) + 1)]) rfl rfl rfl rfl rfl rfl (fun b5 => ?_))
    repeat' (first | apply HL.fold | apply HA.fold | apply HL.nil | apply HX.n_then | apply HC.seq | apply HC.region | refine HL.pa ?_ | refine HL.ga rfl ?_ | refine HL.na rfl ?_ | refine HL.nu rfl rfl ?_ | apply HC.block | apply HC.skip | apply HC.exit | apply HC.ret | apply HX.e_block | refine HX.e_other rfl ?_ | apply HX.e_then | apply HX.e_again | apply HX.n_block | apply HX.r_then | apply HX.r_block | apply HX.r_again | refine HC.cond_yes rfl ?_ | refine HC.cond_no rfl ?_ | refine HL.one (H1.ldb rfl memA rfl rfl ?_) | refine HC.cond rfl (fun hc => ?_) (fun hc => ?_) | refine HC.cond_b rfl (fun hc => ?_) (fun hc => ?_))
    refine HL.one (H1.app (e := 52) (sz := 5) (m := 1) (news := [.int .i64 (at' lost (O.length + j)), .int .i64 (at' to (O.length + j)), .slice ai G.length ci, .int .i64 (d : Int), .int .i64 ((d : Int) + 1)]) rfl (by decide) rfl rfl (fun _ _ => by first | ((repeat (first | with_reducible exact Rpl.here | with_reducible apply Rpl.there)); done) | (repeat (first | exact Rpl.here | apply Rpl.there))) rfl (fun w hM k u hk => by rw [add_lit, Nat.zero_add]; exact (hM.blk memA).cell hk) (by intro v hv; simp only [List.mem_cons, List.not_mem_nil, or_false] at hv; rcases hv with rfl | rfl | rfl | rfl | rfl <;> rfl) (by omega) (by decide) rfl (fun a6 c6 ha6 => ?_))
    repeat' (first | apply HL.fold | apply HA.fold | apply HL.nil | apply HX.n_then | apply HC.seq | apply HC.region | refine HL.pa ?_ | refine HL.ga rfl ?_ | refine HL.na rfl ?_ | refine HL.nu rfl rfl ?_ | apply HC.block | apply HC.skip | apply HC.exit | apply HC.ret | apply HX.e_block | refine HX.e_other rfl ?_ | apply HX.e_then | apply HX.e_again | apply HX.n_block | apply HX.r_then | apply HX.r_block | apply HX.r_again | refine HC.cond_yes rfl ?_ | refine HC.cond_no rfl ?_ | refine HL.one (H1.ldb rfl memA rfl rfl ?_) | refine HC.cond rfl (fun hc => ?_) (fun hc => ?_) | refine HC.cond_b rfl (fun hc => ?_) (fun hc => ?_))
    have e1 : tcell ⟨at' lost (O.length + j), at' to (O.length + j), G, (d : Int), (d : Int) + 1⟩ (hval ⟨at' lost (O.length + j), at' to (O.length + j), G, (d : Int), (d : Int) + 1⟩ (ai, ci)) = [.int .i64 (at' lost (O.length + j)), .int .i64 (at' to (O.length + j)), .slice ai G.length ci, .int .i64 (d : Int), .int .i64 ((d : Int) + 1)] := by simp [tcell, hval]
    have e2 : srcA (⟨at' lost (O.length + j), at' to (O.length + j), G, (d : Int), (d : Int) + 1⟩, (ai, ci)) = A.grow 3 1 ai ci G.length (ints G) := by simp [srcA]
    refine HX.again (j + 1, zj ++ [(ai, ci)], a6, c6) ⟨by show j + 1 ≤ nn; omega, ?_⟩ (by show nn - (j + 1) < nn - j; omega) (by dsimp only; rw [hXs, List.length_append]; repeat (first | exact trivial | refine ⟨rfl, ?_⟩)) ?_
    · dsimp only
      rw [hXs, List.length_append, List.length_append, hzj]; rfl
    · dsimp only
      rw [hXs, List.length_append, tcells_snoc hzj, srcAts_snoc hzj, e1, e2]
      repeat (first | exact Hs.nil _ | (refine Hs.cons pickA ?_))
      exact Hs.end2
  have hTs := segT_step h kk j p
  have hgp := ints_get hpl
  repeat' (first | apply HL.fold | apply HA.fold | apply HL.nil | apply HX.n_then | apply HC.seq | apply HC.region | refine HL.pa ?_ | refine HL.ga rfl ?_ | refine HL.na rfl ?_ | refine HL.nu rfl rfl ?_ | apply HC.block | apply HC.skip | apply HC.exit | apply HC.ret | apply HX.e_block | refine HX.e_other rfl ?_ | apply HX.e_then | apply HX.e_again | apply HX.n_block | apply HX.r_then | apply HX.r_block | apply HX.r_again | refine HC.cond_yes rfl ?_ | refine HC.cond_no rfl ?_ | refine HL.one (H1.ldb rfl memA rfl rfl ?_) | refine HC.cond rfl (fun hc => ?_) (fun hc => ?_) | refine HC.cond_b rfl (fun hc => ?_) (fun hc => ?_))
  refine HC.loop (α := Nat × Option Addr × Nat) (fun z => [(1, .slice (some ⟨bS, offS, none⟩) lost.length c'), (2, .slice (some ⟨bT, offT, none⟩) to.length c2), (3, .int .i64 (wd : Int)), (4, .int .i64 (kk : Int)), (5, .int .i64 deadline), (15, .slice asz surv.length csz), (19, .slice aj X.length cj), (20, .int .i64 (d : Int)), (21, .slice (some ⟨bh, 0, none⟩) h.length ch), (22, .int .i64 (O.length : Int)), (23, .int .i64 (j : Int)), (24, .pointer (some ⟨b24, 0, none⟩)), (25, .int .i64 (p : Int)), (26, .int .i64 (z.1 : Int))])
    (fun z => A.blk b24 [.int .i64 (at' lost (O.length + j)), .int .i64 (at' to (O.length + j)), .slice z.2.1 (segT h kk j p ++ segS h kk j p z.1).length z.2.2, .int .i64 (d : Int), .int .i64 ((d : Int) + 1)] 52 :: A.grow 3 1 z.2.1 z.2.2 (segT h kk j p ++ segS h kk j p z.1).length (ints (segT h kk j p ++ segS h kk j p z.1)) :: A.grow 3 1 (some ⟨bh, 0, none⟩) ch h.length (ints h) :: A.grow 3 1 asz csz surv.length (ints surv) :: A.grow 52 5 aj cj X.length (tcells X zj) :: srcAts X zj)
    (fun z => z.1 ≤ kk) (fun z => kk - z.1) (0, ai, ci) (Nat.zero_le _) esA (by dsimp only; rw [show segS h kk j p 0 = [] from rfl, List.append_nil]; exact Hs.refl _) ?_
  rintro ⟨i, ai2, ci2⟩ hik
  dsimp only at hik ⊢
  have hSl := segS_len h kk j p i
  have hSs := segS_step h kk j p i
  by_cases hikk : i < kk
  rotate_left
  · obtain rfl : i = kk := by omega
    rw [← hTs]
    repeat' (first | apply HL.fold | apply HA.fold | apply HL.nil | apply HX.n_then | apply HC.seq | apply HC.region | refine HL.pa ?_ | refine HL.ga rfl ?_ | refine HL.na rfl ?_ | refine HL.nu rfl rfl ?_ | apply HC.block | apply HC.skip | apply HC.exit | apply HC.ret | apply HX.e_block | refine HX.e_other rfl ?_ | apply HX.e_then | apply HX.e_again | apply HX.n_block | apply HX.r_then | apply HX.r_block | apply HX.r_again | refine HC.cond_yes rfl ?_ | refine HC.cond_no rfl ?_ | refine HL.one (H1.ldb rfl memA rfl rfl ?_) | refine HC.cond rfl (fun hc => ?_) (fun hc => ?_) | refine HC.cond_b rfl (fun hc => ?_) (fun hc => ?_))
    exact HX.again (p + 1, ai2, ci2) (by show p + 1 ≤ _; omega) (by show h.length - (p + 1) < h.length - p; omega) esA (Hs.refl _)
  have hqi : ((j : Int) * (kk : Int) + (i : Int)) % (h.length : Int) = (((j * kk + i) % h.length : Nat) : Int) := by push_cast; rfl
  have hFs : segT h kk j p ++ segS h kk j p (i + 1) = (segT h kk j p ++ segS h kk j p i) ++ (if (j * kk + i) % h.length = p then [at' h p] else []) := by rw [hSs, List.append_assoc]
  have hFl : (segT h kk j p ++ segS h kk j p i).length ≤ 1000 := by rw [List.length_append]; omega
  generalize segT h kk j p ++ segS h kk j p i = F at *
  generalize (j * kk + i) % h.length = q at *
  by_cases hqp : q = p
  · subst hqp
    rw [if_pos rfl] at hFs
    repeat' (first | apply HL.fold | apply HA.fold | apply HL.nil | apply HX.n_then | apply HC.seq | apply HC.region | refine HL.pa ?_ | refine HL.ga rfl ?_ | refine HL.na rfl ?_ | refine HL.nu rfl rfl ?_ | apply HC.block | apply HC.skip | apply HC.exit | apply HC.ret | apply HX.e_block | refine HX.e_other rfl ?_ | apply HX.e_then | apply HX.e_again | apply HX.n_block | apply HX.r_then | apply HX.r_block | apply HX.r_again | refine HC.cond_yes rfl ?_ | refine HC.cond_no rfl ?_ | refine HL.one (H1.ldb rfl memA rfl rfl ?_) | refine HC.cond rfl (fun hc => ?_) (fun hc => ?_) | refine HC.cond_b rfl (fun hc => ?_) (fun hc => ?_))
    refine HC.anyC ([(⟨bh, q, none⟩, zv (at' h q))]) rfl ?_
    refine HB.pa 0 rfl ?_
    refine HB.pa 2 rfl ?_
    refine HB.pa 3 rfl ?_
    refine HB.pa 4 rfl ?_
    refine HB.ld 5 rfl rfl memD ?_
    refine HB.all (by repeat (first | exact Keep.nil | refine Keep.blk (by (repeat (first | exact List.Mem.head _ | apply List.Mem.tail)); done) rfl ?_ | refine Keep.grow (by (repeat (first | exact List.Mem.head _ | apply List.Mem.tail)); done) (by assumption) ?_ | refine Keep.base (by assumption) ?_)) [1, 6] (by kernel_rfl) rfl ⟨⟨_, rfl, ?_⟩, ⟨_, rfl, ?_⟩, trivial⟩
    · refine HP.one ?_
      refine H1.ldb rfl memA rfl rfl ?_
      apply HB.fold
      refine HB.all (by repeat (first | exact Keep.nil | refine Keep.blk (by (repeat (first | exact List.Mem.head _ | apply List.Mem.tail)); done) rfl ?_ | refine Keep.grow (by (repeat (first | exact List.Mem.head _ | apply List.Mem.tail)); done) (by assumption) ?_ | refine Keep.base (by assumption) ?_)) [6] (by kernel_rfl) rfl ⟨⟨_, rfl, ?_⟩, trivial⟩
      refine HP.one ?_
      refine H1.lit (cs := [.int .i64 (at' h q)]) rfl rfl rfl rfl rfl rfl (fun b4 => ?_)
      apply HB.fold
      refine HB.all (by repeat (first | exact Keep.nil | refine Keep.blk (by (repeat (first | exact List.Mem.head _ | apply List.Mem.tail)); done) rfl ?_ | refine Keep.grow (by (repeat (first | exact List.Mem.head _ | apply List.Mem.tail)); done) (by assumption) ?_ | refine Keep.base (by assumption) ?_)) [7] (by kernel_rfl) rfl ⟨⟨_, rfl, ?_⟩, trivial⟩
      refine HP.one ?_
      refine H1.app1 (u := .int .i64 (at' h q)) rfl rfl (fun _ _ => by first | ((repeat (first | with_reducible exact Rpl.here | with_reducible apply Rpl.there)); done) | (repeat (first | exact Rpl.here | apply Rpl.there))) (by repeat (first | exact mem_hd | apply mem_tl)) rfl rfl (by omega) rfl rfl (fun a4 c4 => ?_)
      apply HB.fold
      refine HB.pa 8 rfl ?_
      refine HB.all (by repeat (first | exact Keep.nil | refine Keep.blk (by (repeat (first | exact List.Mem.head _ | apply List.Mem.tail)); done) rfl ?_ | refine Keep.grow (by (repeat (first | exact List.Mem.head _ | apply List.Mem.tail)); done) (by assumption) ?_ | refine Keep.base (by assumption) ?_)) [9] (by kernel_rfl) rfl ⟨⟨_, rfl, ?_⟩, trivial⟩
      refine HP.one ?_
      refine H1.st rfl rfl (by intro _ h; cases h) (by intro _ h; cases h) rplA (by show 2 < 5; decide) ?_
      apply HB.fold
      refine HB.done (by repeat (first | exact Keep.nil | refine Keep.blk (by (repeat (first | exact List.Mem.head _ | apply List.Mem.tail)); done) rfl ?_ | refine Keep.grow (by (repeat (first | exact List.Mem.head _ | apply List.Mem.tail)); done) (by assumption) ?_ | refine Keep.base (by assumption) ?_)) (by kernel_rfl) ?_
      repeat' (first | apply HL.fold | apply HA.fold | apply HL.nil | apply HX.n_then | apply HC.seq | apply HC.region | refine HL.pa ?_ | refine HL.ga rfl ?_ | refine HL.na rfl ?_ | refine HL.nu rfl rfl ?_ | apply HC.block | apply HC.skip | apply HC.exit | apply HC.ret | apply HX.e_block | refine HX.e_other rfl ?_ | apply HX.e_then | apply HX.e_again | apply HX.n_block | apply HX.r_then | apply HX.r_block | apply HX.r_again | refine HC.cond_yes rfl ?_ | refine HC.cond_no rfl ?_ | refine HL.one (H1.ldb rfl memA rfl rfl ?_) | refine HC.cond rfl (fun hc => ?_) (fun hc => ?_) | refine HC.cond_b rfl (fun hc => ?_) (fun hc => ?_))
      refine HX.again (i + 1, some ⟨a4, 0, none⟩, c4) (by show i + 1 ≤ kk; omega) (by show kk - (i + 1) < kk - i; omega) esA ?_
      dsimp only
      rw [hFs, List.length_append, ints_app]
      exact Hs.cons (Pick.there Pick.here) (Hs.cons (Pick.there Pick.here) Hs.skip)
    · refine HP.one ?_
      refine H1.lit (cs := [.int .i64 (at' h q)]) rfl rfl rfl rfl rfl rfl (fun b4 => ?_)
      apply HB.fold
      refine HB.all (by repeat (first | exact Keep.nil | refine Keep.blk (by (repeat (first | exact List.Mem.head _ | apply List.Mem.tail)); done) rfl ?_ | refine Keep.grow (by (repeat (first | exact List.Mem.head _ | apply List.Mem.tail)); done) (by assumption) ?_ | refine Keep.base (by assumption) ?_)) [1] (by kernel_rfl) rfl ⟨⟨_, rfl, ?_⟩, trivial⟩
      refine HP.one ?_
      refine H1.ldb rfl memA rfl rfl ?_
      apply HB.fold
      refine HB.all (by repeat (first | exact Keep.nil | refine Keep.blk (by (repeat (first | exact List.Mem.head _ | apply List.Mem.tail)); done) rfl ?_ | refine Keep.grow (by (repeat (first | exact List.Mem.head _ | apply List.Mem.tail)); done) (by assumption) ?_ | refine Keep.base (by assumption) ?_)) [7] (by kernel_rfl) rfl ⟨⟨_, rfl, ?_⟩, trivial⟩
      refine HP.one ?_
      refine H1.app1 (u := .int .i64 (at' h q)) rfl rfl (fun _ _ => by first | ((repeat (first | with_reducible exact Rpl.here | with_reducible apply Rpl.there)); done) | (repeat (first | exact Rpl.here | apply Rpl.there))) (by repeat (first | exact mem_hd | apply mem_tl)) rfl rfl (by omega) rfl rfl (fun a4 c4 => ?_)
      apply HB.fold
      refine HB.pa 8 rfl ?_
      refine HB.all (by repeat (first | exact Keep.nil | refine Keep.blk (by (repeat (first | exact List.Mem.head _ | apply List.Mem.tail)); done) rfl ?_ | refine Keep.grow (by (repeat (first | exact List.Mem.head _ | apply List.Mem.tail)); done) (by assumption) ?_ | refine Keep.base (by assumption) ?_)) [9] (by kernel_rfl) rfl ⟨⟨_, rfl, ?_⟩, trivial⟩
      refine HP.one ?_
      refine H1.st rfl rfl (by intro _ h; cases h) (by intro _ h; cases h) rplA (by show 2 < 5; decide) ?_
      apply HB.fold
      refine HB.done (by repeat (first | exact Keep.nil | refine Keep.blk (by (repeat (first | exact List.Mem.head _ | apply List.Mem.tail)); done) rfl ?_ | refine Keep.grow (by (repeat (first | exact List.Mem.head _ | apply List.Mem.tail)); done) (by assumption) ?_ | refine Keep.base (by assumption) ?_)) (by kernel_rfl) ?_
      repeat' (first | apply HL.fold | apply HA.fold | apply HL.nil | apply HX.n_then | apply HC.seq | apply HC.region | refine HL.pa ?_ | refine HL.ga rfl ?_ | refine HL.na rfl ?_ | refine HL.nu rfl rfl ?_ | apply HC.block | apply HC.skip | apply HC.exit | apply HC.ret | apply HX.e_block | refine HX.e_other rfl ?_ | apply HX.e_then | apply HX.e_again | apply HX.n_block | apply HX.r_then | apply HX.r_block | apply HX.r_again | refine HC.cond_yes rfl ?_ | refine HC.cond_no rfl ?_ | refine HL.one (H1.ldb rfl memA rfl rfl ?_) | refine HC.cond rfl (fun hc => ?_) (fun hc => ?_) | refine HC.cond_b rfl (fun hc => ?_) (fun hc => ?_))
      refine HX.again (i + 1, some ⟨a4, 0, none⟩, c4) (by show i + 1 ≤ kk; omega) (by show kk - (i + 1) < kk - i; omega) esA ?_
      dsimp only
      rw [hFs, List.length_append, ints_app]
      exact Hs.cons (Pick.there Pick.here) (Hs.cons (Pick.there Pick.here) Hs.skip)
  · rw [if_neg hqp, List.append_nil] at hFs
    have hqp2 : ¬ ((q : Int) = (p : Int)) := by omega
    repeat' (first | apply HL.fold | apply HA.fold | apply HL.nil | apply HX.n_then | apply HC.seq | apply HC.region | refine HL.pa ?_ | refine HL.ga rfl ?_ | refine HL.na rfl ?_ | refine HL.nu rfl rfl ?_ | apply HC.block | apply HC.skip | apply HC.exit | apply HC.ret | apply HX.e_block | refine HX.e_other rfl ?_ | apply HX.e_then | apply HX.e_again | apply HX.n_block | apply HX.r_then | apply HX.r_block | apply HX.r_again | refine HC.cond_yes rfl ?_ | refine HC.cond_no rfl ?_ | refine HL.one (H1.ldb rfl memA rfl rfl ?_) | refine HC.cond rfl (fun hc => ?_) (fun hc => ?_) | refine HC.cond_b rfl (fun hc => ?_) (fun hc => ?_))
    refine HX.again (i + 1, ai2, ci2) (by show i + 1 ≤ kk; omega) (by show kk - (i + 1) < kk - i; omega) esA ?_
    dsimp only
    rw [hFs]
    exact Hs.refl _
end Go.Sx

