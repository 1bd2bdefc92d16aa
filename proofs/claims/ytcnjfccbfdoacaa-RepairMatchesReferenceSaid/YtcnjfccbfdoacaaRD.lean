/- has of the program: who has a fragment on a day. -/
import Derived.Test.YtcnjfccbfdoacaaRC
namespace Go.Sx
open Go Go.Proofs
def endTo (l : List Tr) (day : Int) : List Int := (l.filter fun t => decide (t.stop ≤ day)).map Tr.to
def hasL (surv : List Int) (l : List Tr) (day : Int) : List Int := srt (surv ++ endTo l day)
theorem endTo_len (l : List Tr) (day : Int) : (endTo l day).length ≤ l.length := by
  unfold endTo; rw [List.length_map]; exact List.length_filter_le _ _
theorem endTo_step {l : List Tr} {i : Nat} (h : i < l.length) (day : Int) : endTo (l.take (i + 1)) day = endTo (l.take i) day ++ if (tr l i).stop ≤ day then [(tr l i).to] else [] := by
  unfold endTo
  rw [tr_take h, List.filter_append, List.map_append]
  congr 1
  by_cases e : (tr l i).stop ≤ day
  · simp [e]
  · simp [e]
theorem sort_nil (ar : Option Addr) (cr : Nat) (w : World) : Fn Try.prog 41 #[.slice ar 0 cr] w fun v w' => v = .tuple #[] ∧ w' = w := by
  refine Calls.mono (Try.slices_Sort_int_none ar cr w) ?_
  rintro e w' ⟨rfl, rfl⟩
  exact ⟨_, rfl, rfl, rfl⟩
attribute [local irreducible] WC WL WX POp Then Again Fn NX W1 WA WO QL RP RA Yld LoopAt HC HL HX HN H1 HA HO HQ A.blk A.grow A.rd A.obj AgainH CutH
theorem has_fn (sv lv v : Value) (surv : List Int) (l : List Tr) (width k deadline day : Int) (hs : surv.length ≤ 100000) (hl : l.length ≤ 100000) (w : World) (hR : Rd w sv (ints surv)) (hT : RdT w v l) :
    Fn Try.prog 45 #[.agg #[sv, lv, zv width, zv k, zv deadline], v, .int .i64 day] w fun x w' => ∃ z : Option Addr × Nat, True ∧ x = .slice z.1 (hasL surv l day).length z.2 ∧ Mm w [A.grow 3 1 z.1 z.2 (hasL surv l day).length (ints (hasL surv l day))] w' := by
  obtain ⟨a, c, rfl, hc⟩ := hR.isInts
  obtain ⟨a2, c2, rfl⟩ := hT.shape
  refine enterH (l := [_, _, _]) rfl Try.ntmps45 rfl ?_
  repeat' (first | apply HL.fold | apply HA.fold | apply HL.nil | apply HX.n_then | apply HC.seq | apply HC.region | refine HL.pa ?_ | refine HL.ga rfl ?_ | refine HL.na rfl ?_ | refine HL.nu rfl rfl ?_ | apply HC.block | apply HC.skip | apply HC.exit | apply HC.ret | apply HX.e_block | refine HX.e_other rfl ?_ | apply HX.e_then | apply HX.e_again | apply HX.n_block | apply HX.r_then | apply HX.r_block | apply HX.r_again | refine HC.cond_yes rfl ?_ | refine HC.cond_no rfl ?_ | refine HL.one (H1.ldb rfl memA rfl rfl ?_) | refine HC.cond rfl (fun hc => ?_) (fun hc => ?_) | refine HC.cond_b rfl (fun hc => ?_) (fun hc => ?_))
  refine HL.one (H1.boxAgg (cs := [.slice a surv.length c, lv, .int .i64 width, .int .i64 k, .int .i64 deadline]) rfl rfl (fun b => ?_))
  repeat' (first | apply HL.fold | apply HA.fold | apply HL.nil | apply HX.n_then | apply HC.seq | apply HC.region | refine HL.pa ?_ | refine HL.ga rfl ?_ | refine HL.na rfl ?_ | refine HL.nu rfl rfl ?_ | apply HC.block | apply HC.skip | apply HC.exit | apply HC.ret | apply HX.e_block | refine HX.e_other rfl ?_ | apply HX.e_then | apply HX.e_again | apply HX.n_block | apply HX.r_then | apply HX.r_block | apply HX.r_again | refine HC.cond_yes rfl ?_ | refine HC.cond_no rfl ?_ | refine HL.one (H1.ldb rfl memA rfl rfl ?_) | refine HC.cond rfl (fun hc => ?_) (fun hc => ?_) | refine HC.cond_b rfl (fun hc => ?_) (fun hc => ?_))
  refine HL.one (H1.callz1 (vs := [.slice a surv.length c]) rfl rfl (fun w' hM => clone_fn _ surv (by omega) w' (hM.rd0 hR)) ?_)
  rintro ⟨a3, c3⟩ ha3
  dsimp only at ha3 ⊢
  repeat' (first | apply HL.fold | apply HA.fold | apply HL.nil | apply HX.n_then | apply HC.seq | apply HC.region | refine HL.pa ?_ | refine HL.ga rfl ?_ | refine HL.na rfl ?_ | refine HL.nu rfl rfl ?_ | apply HC.block | apply HC.skip | apply HC.exit | apply HC.ret | apply HX.e_block | refine HX.e_other rfl ?_ | apply HX.e_then | apply HX.e_again | apply HX.n_block | apply HX.r_then | apply HX.r_block | apply HX.r_again | refine HC.cond_yes rfl ?_ | refine HC.cond_no rfl ?_ | refine HL.one (H1.ldb rfl memA rfl rfl ?_) | refine HC.cond rfl (fun hc => ?_) (fun hc => ?_) | refine HC.cond_b rfl (fun hc => ?_) (fun hc => ?_))
  refine HC.loop (α := Nat × Option Addr × Nat) (fun z => [(2, .int .i64 day), (7, .slice z.2.1 (surv ++ endTo (l.take z.1) day).length z.2.2), (13, .slice a2 l.length c2), (14, .int .i64 l.length), (15, .int .i64 (z.1 : Int))])
    (fun z => [A.grow 3 1 z.2.1 z.2.2 (surv ++ endTo (l.take z.1) day).length (ints (surv ++ endTo (l.take z.1) day))]) (fun z => z.1 ≤ l.length ∧ ((surv ++ endTo (l.take z.1) day).length = 0 ∨ ∃ b, z.2.1 = some ⟨b, 0, none⟩)) (fun z => l.length - z.1) (0, a3, c3) ⟨Nat.zero_le _, by simpa [endTo] using ha3⟩
    ⟨rfl, by simp [endTo]; rfl, rfl, rfl, rfl, trivial⟩ (by simp only [List.take_zero, endTo, List.filter_nil, List.map_nil, List.append_nil]; repeat (first | exact Hs.nil _ | (refine Hs.cons pickA ?_))) ?_
  rintro ⟨i, ar, cr⟩ ⟨hi, har⟩
  dsimp only at hi har ⊢
  have hX : (surv ++ endTo (l.take i) day).length ≤ surv.length + l.length := by
    have := endTo_len (l.take i) day
    rw [List.length_take] at this
    rw [List.length_append]; omega
  by_cases hlt : i < l.length
  · have hstep : surv ++ endTo (l.take (i + 1)) day = (surv ++ endTo (l.take i) day) ++ if (tr l i).stop ≤ day then [(tr l i).to] else [] := by rw [endTo_step hlt, List.append_assoc]
    generalize surv ++ endTo (l.take i) day = X at *
    obtain ⟨b2, off, h, rfl, hcl, hsrc⟩ := hT.el hlt
    obtain ⟨ah, ch, rfl, -⟩ := hsrc.isInts
    by_cases hd : (tr l i).stop ≤ day
    · rw [if_pos hd] at hstep
      repeat' (first | apply HL.fold | apply HA.fold | apply HL.nil | apply HX.n_then | apply HC.seq | apply HC.region | refine HL.pa ?_ | refine HL.ga rfl ?_ | refine HL.na rfl ?_ | refine HL.nu rfl rfl ?_ | apply HC.block | apply HC.skip | apply HC.exit | apply HC.ret | apply HX.e_block | refine HX.e_other rfl ?_ | apply HX.e_then | apply HX.e_again | apply HX.n_block | apply HX.r_then | apply HX.r_block | apply HX.r_again | refine HC.cond_yes rfl ?_ | refine HC.cond_no rfl ?_ | refine HL.one (H1.ldb rfl memA rfl rfl ?_) | refine HC.cond rfl (fun hc => ?_) (fun hc => ?_) | refine HC.cond_b rfl (fun hc => ?_) (fun hc => ?_))
      refine HL.one (H1.ldAggw (vs := tcell (tr l i) (.slice ah (tr l i).src.length ch)) rfl rfl (fun w hM j v hj => cell_ext hM.ext (hcl j v hj)) rfl ?_)
      repeat' (first | apply HL.fold | apply HA.fold | apply HL.nil | apply HX.n_then | apply HC.seq | apply HC.region | refine HL.pa ?_ | refine HL.ga rfl ?_ | refine HL.na rfl ?_ | refine HL.nu rfl rfl ?_ | apply HC.block | apply HC.skip | apply HC.exit | apply HC.ret | apply HX.e_block | refine HX.e_other rfl ?_ | apply HX.e_then | apply HX.e_again | apply HX.n_block | apply HX.r_then | apply HX.r_block | apply HX.r_again | refine HC.cond_yes rfl ?_ | refine HC.cond_no rfl ?_ | refine HL.one (H1.ldb rfl memA rfl rfl ?_) | refine HC.cond rfl (fun hc => ?_) (fun hc => ?_) | refine HC.cond_b rfl (fun hc => ?_) (fun hc => ?_))
      refine HL.one (H1.alloc (cs := tcell trz (.slice none 0 0)) rfl rfl (fun b3 => ?_))
      repeat' (first | apply HL.fold | apply HA.fold | apply HL.nil | apply HX.n_then | apply HC.seq | apply HC.region | refine HL.pa ?_ | refine HL.ga rfl ?_ | refine HL.na rfl ?_ | refine HL.nu rfl rfl ?_ | apply HC.block | apply HC.skip | apply HC.exit | apply HC.ret | apply HX.e_block | refine HX.e_other rfl ?_ | apply HX.e_then | apply HX.e_again | apply HX.n_block | apply HX.r_then | apply HX.r_block | apply HX.r_again | refine HC.cond_yes rfl ?_ | refine HC.cond_no rfl ?_ | refine HL.one (H1.ldb rfl memA rfl rfl ?_) | refine HC.cond rfl (fun hc => ?_) (fun hc => ?_) | refine HC.cond_b rfl (fun hc => ?_) (fun hc => ?_))
      refine HL.one (H1.stAgg (cs := tcell trz (.slice none 0 0)) (vs := tcell (tr l i) (.slice ah (tr l i).src.length ch)) rfl rfl rfl (by intro v hv; simp only [tcell, List.mem_cons, List.not_mem_nil, or_false] at hv; rcases hv with rfl | rfl | rfl | rfl | rfl <;> rfl) rplA rfl ?_)
      repeat' (first | apply HL.fold | apply HA.fold | apply HL.nil | apply HX.n_then | apply HC.seq | apply HC.region | refine HL.pa ?_ | refine HL.ga rfl ?_ | refine HL.na rfl ?_ | refine HL.nu rfl rfl ?_ | apply HC.block | apply HC.skip | apply HC.exit | apply HC.ret | apply HX.e_block | refine HX.e_other rfl ?_ | apply HX.e_then | apply HX.e_again | apply HX.n_block | apply HX.r_then | apply HX.r_block | apply HX.r_again | refine HC.cond_yes rfl ?_ | refine HC.cond_no rfl ?_ | refine HL.one (H1.ldb rfl memA rfl rfl ?_) | refine HC.cond rfl (fun hc => ?_) (fun hc => ?_) | refine HC.cond_b rfl (fun hc => ?_) (fun hc => ?_))
      refine HL.one (H1.lit (cs := [.int .i64 (tr l i).to]) rfl rfl rfl rfl rfl rfl (fun b4 => ?_))
      repeat' (first | apply HL.fold | apply HA.fold | apply HL.nil | apply HX.n_then | apply HC.seq | apply HC.region | refine HL.pa ?_ | refine HL.ga rfl ?_ | refine HL.na rfl ?_ | refine HL.nu rfl rfl ?_ | apply HC.block | apply HC.skip | apply HC.exit | apply HC.ret | apply HX.e_block | refine HX.e_other rfl ?_ | apply HX.e_then | apply HX.e_again | apply HX.n_block | apply HX.r_then | apply HX.r_block | apply HX.r_again | refine HC.cond_yes rfl ?_ | refine HC.cond_no rfl ?_ | refine HL.one (H1.ldb rfl memA rfl rfl ?_) | refine HC.cond rfl (fun hc => ?_) (fun hc => ?_) | refine HC.cond_b rfl (fun hc => ?_) (fun hc => ?_))
      refine HL.one (H1.app1 (u := .int .i64 (tr l i).to) rfl rfl (fun _ _ => by first | ((repeat (first | with_reducible exact Rpl.here | with_reducible apply Rpl.there)); done) | (repeat (first | exact Rpl.here | apply Rpl.there))) memA rfl rfl (by omega) rfl rfl (fun a4 c4 => ?_))
      repeat' (first | apply HL.fold | apply HA.fold | apply HL.nil | apply HX.n_then | apply HC.seq | apply HC.region | refine HL.pa ?_ | refine HL.ga rfl ?_ | refine HL.na rfl ?_ | refine HL.nu rfl rfl ?_ | apply HC.block | apply HC.skip | apply HC.exit | apply HC.ret | apply HX.e_block | refine HX.e_other rfl ?_ | apply HX.e_then | apply HX.e_again | apply HX.n_block | apply HX.r_then | apply HX.r_block | apply HX.r_again | refine HC.cond_yes rfl ?_ | refine HC.cond_no rfl ?_ | refine HL.one (H1.ldb rfl memA rfl rfl ?_) | refine HC.cond rfl (fun hc => ?_) (fun hc => ?_) | refine HC.cond_b rfl (fun hc => ?_) (fun hc => ?_))
      refine HX.again (i + 1, some ⟨a4, 0, none⟩, c4) ⟨by show i + 1 ≤ _; omega, .inr ⟨a4, rfl⟩⟩ (by show l.length - (i + 1) < l.length - i; omega) ⟨rfl, ?_, rfl, rfl, rfl, trivial⟩ ?_
      · show _ = some (Value.slice (some ⟨a4, 0, none⟩) _ c4)
        rw [hstep, List.length_append]; rfl
      · show Hs _ [A.grow _ _ (some ⟨a4, 0, none⟩) c4 _ _]
        rw [hstep, List.length_append, ints_app]
        exact Hs.cons (Pick.there (Pick.there Pick.here)) (Hs.nil _)
    · rw [if_neg hd, List.append_nil] at hstep
      repeat' (first | apply HL.fold | apply HA.fold | apply HL.nil | apply HX.n_then | apply HC.seq | apply HC.region | refine HL.pa ?_ | refine HL.ga rfl ?_ | refine HL.na rfl ?_ | refine HL.nu rfl rfl ?_ | apply HC.block | apply HC.skip | apply HC.exit | apply HC.ret | apply HX.e_block | refine HX.e_other rfl ?_ | apply HX.e_then | apply HX.e_again | apply HX.n_block | apply HX.r_then | apply HX.r_block | apply HX.r_again | refine HC.cond_yes rfl ?_ | refine HC.cond_no rfl ?_ | refine HL.one (H1.ldb rfl memA rfl rfl ?_) | refine HC.cond rfl (fun hc => ?_) (fun hc => ?_) | refine HC.cond_b rfl (fun hc => ?_) (fun hc => ?_))
      refine HL.one (H1.ldAggw (vs := tcell (tr l i) (.slice ah (tr l i).src.length ch)) rfl rfl (fun w hM j v hj => cell_ext hM.ext (hcl j v hj)) rfl ?_)
      repeat' (first | apply HL.fold | apply HA.fold | apply HL.nil | apply HX.n_then | apply HC.seq | apply HC.region | refine HL.pa ?_ | refine HL.ga rfl ?_ | refine HL.na rfl ?_ | refine HL.nu rfl rfl ?_ | apply HC.block | apply HC.skip | apply HC.exit | apply HC.ret | apply HX.e_block | refine HX.e_other rfl ?_ | apply HX.e_then | apply HX.e_again | apply HX.n_block | apply HX.r_then | apply HX.r_block | apply HX.r_again | refine HC.cond_yes rfl ?_ | refine HC.cond_no rfl ?_ | refine HL.one (H1.ldb rfl memA rfl rfl ?_) | refine HC.cond rfl (fun hc => ?_) (fun hc => ?_) | refine HC.cond_b rfl (fun hc => ?_) (fun hc => ?_))
      refine HL.one (H1.alloc (cs := tcell trz (.slice none 0 0)) rfl rfl (fun b3 => ?_))
      repeat' (first | apply HL.fold | apply HA.fold | apply HL.nil | apply HX.n_then | apply HC.seq | apply HC.region | refine HL.pa ?_ | refine HL.ga rfl ?_ | refine HL.na rfl ?_ | refine HL.nu rfl rfl ?_ | apply HC.block | apply HC.skip | apply HC.exit | apply HC.ret | apply HX.e_block | refine HX.e_other rfl ?_ | apply HX.e_then | apply HX.e_again | apply HX.n_block | apply HX.r_then | apply HX.r_block | apply HX.r_again | refine HC.cond_yes rfl ?_ | refine HC.cond_no rfl ?_ | refine HL.one (H1.ldb rfl memA rfl rfl ?_) | refine HC.cond rfl (fun hc => ?_) (fun hc => ?_) | refine HC.cond_b rfl (fun hc => ?_) (fun hc => ?_))
      refine HL.one (H1.stAgg (cs := tcell trz (.slice none 0 0)) (vs := tcell (tr l i) (.slice ah (tr l i).src.length ch)) rfl rfl rfl (by intro v hv; simp only [tcell, List.mem_cons, List.not_mem_nil, or_false] at hv; rcases hv with rfl | rfl | rfl | rfl | rfl <;> rfl) rplA rfl ?_)
      repeat' (first | apply HL.fold | apply HA.fold | apply HL.nil | apply HX.n_then | apply HC.seq | apply HC.region | refine HL.pa ?_ | refine HL.ga rfl ?_ | refine HL.na rfl ?_ | refine HL.nu rfl rfl ?_ | apply HC.block | apply HC.skip | apply HC.exit | apply HC.ret | apply HX.e_block | refine HX.e_other rfl ?_ | apply HX.e_then | apply HX.e_again | apply HX.n_block | apply HX.r_then | apply HX.r_block | apply HX.r_again | refine HC.cond_yes rfl ?_ | refine HC.cond_no rfl ?_ | refine HL.one (H1.ldb rfl memA rfl rfl ?_) | refine HC.cond rfl (fun hc => ?_) (fun hc => ?_) | refine HC.cond_b rfl (fun hc => ?_) (fun hc => ?_))
      refine HX.again (i + 1, ar, cr) ⟨by show i + 1 ≤ _; omega, by show (surv ++ endTo (l.take (i + 1)) day).length = 0 ∨ _; rw [hstep]; exact har⟩ (by show l.length - (i + 1) < l.length - i; omega) ⟨rfl, ?_, rfl, rfl, rfl, trivial⟩ ?_
      · show _ = some (Value.slice ar _ cr)
        rw [hstep]; rfl
      · show Hs _ [A.grow _ _ ar cr _ _]
        rw [hstep]; repeat (first | exact Hs.nil _ | (refine Hs.cons pickA ?_))
  · obtain rfl : i = l.length := by omega
    rw [List.take_length] at *
    repeat' (first | apply HL.fold | apply HA.fold | apply HL.nil | apply HX.n_then | apply HC.seq | apply HC.region | refine HL.pa ?_ | refine HL.ga rfl ?_ | refine HL.na rfl ?_ | refine HL.nu rfl rfl ?_ | apply HC.block | apply HC.skip | apply HC.exit | apply HC.ret | apply HX.e_block | refine HX.e_other rfl ?_ | apply HX.e_then | apply HX.e_again | apply HX.n_block | apply HX.r_then | apply HX.r_block | apply HX.r_again | refine HC.cond_yes rfl ?_ | refine HC.cond_no rfl ?_ | refine HL.one (H1.ldb rfl memA rfl rfl ?_) | refine HC.cond rfl (fun hc => ?_) (fun hc => ?_) | refine HC.cond_b rfl (fun hc => ?_) (fun hc => ?_))
    generalize hXe : surv ++ endTo l day = X at *
    have hrs : hasL surv l day = srt X := by unfold hasL; rw [hXe]
    have hrl : (srt X).length = X.length := by unfold srt; exact List.length_mergeSort X
    rw [hrs, hrl]
    refine HL.one (H1.callm (α := Unit) (V := fun _ => .tuple #[]) (I := fun _ => True) (H' := fun _ => [A.grow 3 1 ar cr X.length (ints (srt X))]) (vs := [.slice ar X.length cr]) rfl rfl (fun w' hM => ?_) ?_)
    · by_cases h0 : X = []
      · subst h0
        rw [List.length_nil]
        refine (sort_nil ar cr w').mono ?_
        rintro v w'' ⟨rfl, rfl⟩
        exact ⟨(), trivial, rfl, by simpa [srt] using hM⟩
      · obtain ⟨b2, rfl⟩ := har.resolve_left fun h => h0 (List.eq_nil_of_length_eq_zero h)
        exact (sort_own hM rplA (by omega)).mono fun x w'' ⟨h1, h2⟩ => ⟨(), trivial, h1, h2⟩
    · rintro - -
      repeat' (first | apply HL.fold | apply HA.fold | apply HL.nil | apply HX.n_then | apply HC.seq | apply HC.region | refine HL.pa ?_ | refine HL.ga rfl ?_ | refine HL.na rfl ?_ | refine HL.nu rfl rfl ?_ | apply HC.block | apply HC.skip | apply HC.exit | apply HC.ret | apply HX.e_block | refine HX.e_other rfl ?_ | apply HX.e_then | apply HX.e_again | apply HX.n_block | apply HX.r_then | apply HX.r_block | apply HX.r_again | refine HC.cond_yes rfl ?_ | refine HC.cond_no rfl ?_ | refine HL.one (H1.ldb rfl memA rfl rfl ?_) | refine HC.cond rfl (fun hc => ?_) (fun hc => ?_) | refine HC.cond_b rfl (fun hc => ?_) (fun hc => ?_))
      exact HX.ret1 rfl rfl fun w' hM => ⟨(ar, cr), trivial, rfl, hM⟩
end Go.Sx

