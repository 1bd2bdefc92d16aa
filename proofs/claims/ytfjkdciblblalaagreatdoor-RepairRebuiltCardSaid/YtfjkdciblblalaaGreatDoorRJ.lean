/- Valid of the program. -/
import Derived.Test.YtfjkdciblblalaaGreatDoorRI
import Derived.Test.YtfjkdciblblalaaGreatDoorHm
import Derived.Test.YtfjkdciblblalaaGreatDoorHv
namespace Go.Sx
open Go Go.Proofs
structure PreOK (k deadline : Int) (t : Tr) : Prop where
  s : 0 ≤ t.start ∧ t.start ≤ deadline - 1
  e : t.stop = t.start + 1
  n : (t.src.length : Int) = k
  so : sortedI t.src
  nd : t.src.Nodup
def cntP (l : List Tr) (s c : Int) : Nat := (l.filter fun t => decide (t.start = s ∧ c ∈ t.src)).length
def StepOK (surv : List Int) (l : List Tr) (width : Int) (i : Nat) : Prop := ∀ c ∈ (tr l i).src, (cntP (l.take (i + 1)) (tr l i).start c : Int) ≤ width ∧ c ∈ hasL surv l (tr l i).start
structure ValidP (holders lost : List Int) (width k deadline : Int) (l : List Tr) : Prop where
  r : Right holders lost width k deadline
  ok : ∀ i, i < l.length → PreOK k deadline (tr l i) ∧ StepOK (survS holders lost) l width i
  fr : srt (l.map Tr.frag) = lost
  len : l.length = lost.length
  cu : custs (l.map Tr.tos)
  off : ∀ c ∈ l.map Tr.tos, c ∉ survS holders lost
noncomputable def validB (holders lost : List Int) (width k deadline : Int) (l : List Tr) : Bool := @decide (ValidP holders lost width k deadline l) (Classical.propDecidable _)
theorem validB_no {holders lost : List Int} {width k deadline : Int} {l : List Tr} (h : ¬ ValidP holders lost width k deadline l) : validB holders lost width k deadline l = false := by unfold validB; exact @decide_eq_false _ (Classical.propDecidable _) h
theorem validB_yes {holders lost : List Int} {width k deadline : Int} {l : List Tr} (h : ValidP holders lost width k deadline l) : validB holders lost width k deadline l = true := by unfold validB; exact @decide_eq_true _ (Classical.propDecidable _) h
theorem cntP_len (l : List Tr) (s c : Int) : cntP l s c ≤ l.length := List.length_filter_le _ _
theorem cntP_step {l : List Tr} {i : Nat} (h : i < l.length) (s c : Int) : cntP (l.take (i + 1)) s c = cntP (l.take i) s c + if (tr l i).start = s ∧ c ∈ (tr l i).src then 1 else 0 := by
  unfold cntP
  rw [tr_take h, List.filter_append, List.length_append]
  congr 1
  by_cases e : (tr l i).start = s ∧ c ∈ (tr l i).src
  · rw [if_pos e]; simp [e]
  · rw [if_neg e, List.filter_cons_of_neg (by simpa using e)]; rfl
/-- The counts when p sources of transfer i are counted. -/
def gAt (l : List Tr) (i p : Nat) : Int → Int → Int := fun s c => (cntP (l.take i) s c : Int) + if s = (tr l i).start ∧ c ∈ (tr l i).src.take p then 1 else 0
theorem gAt_zero (l : List Tr) (i : Nat) : gAt l i 0 = fun s c => (cntP (l.take i) s c : Int) := by
  funext s c
  unfold gAt
  rw [if_neg (by simp)]; omega
theorem gAt_end {l : List Tr} {i : Nat} (h : i < l.length) : gAt l i (tr l i).src.length = fun s c => (cntP (l.take (i + 1)) s c : Int) := by
  funext s c
  unfold gAt
  rw [cntP_step h, List.take_length]
  by_cases e : s = (tr l i).start ∧ c ∈ (tr l i).src
  · rw [if_pos e, if_pos ⟨e.1.symm, e.2⟩]; omega
  · rw [if_neg e, if_neg fun h2 => e ⟨h2.1.symm, h2.2⟩]; omega
theorem gAt_at {l : List Tr} {i p : Nat} (hp : p < (tr l i).src.length) (hn : (tr l i).src.Nodup) : gAt l i p (tr l i).start (at' (tr l i).src p) = (cntP (l.take i) (tr l i).start (at' (tr l i).src p) : Int) := by
  unfold gAt
  rw [if_neg, Int.add_zero]
  rintro ⟨-, h⟩
  obtain ⟨q, hq, e⟩ := List.getElem_of_mem h
  rw [List.length_take] at hq
  rw [List.getElem_take] at e
  have e2 : at' (tr l i).src p = (tr l i).src[p] := by simp [at', hp]
  rw [e2] at e
  have := (List.getElem_inj hn).1 e
  omega
theorem gAt_step {l : List Tr} {i p : Nat} (hp : p < (tr l i).src.length) (hn : (tr l i).src.Nodup) : upd2 (gAt l i p) (tr l i).start (at' (tr l i).src p) (gAt l i p (tr l i).start (at' (tr l i).src p) + 1) = gAt l i (p + 1) := by
  funext s c
  unfold upd2
  by_cases e : s = (tr l i).start ∧ c = at' (tr l i).src p
  · obtain ⟨rfl, rfl⟩ := e
    rw [if_pos ⟨rfl, rfl⟩, gAt_at hp hn]
    unfold gAt
    rw [if_pos ⟨rfl, by rw [take_at hp]; simp⟩]
  · rw [if_neg e]
    unfold gAt
    congr 1
    have : (s = (tr l i).start ∧ c ∈ (tr l i).src.take (p + 1)) ↔ (s = (tr l i).start ∧ c ∈ (tr l i).src.take p) := by
      rw [take_at hp, List.mem_append, List.mem_singleton]
      constructor
      · rintro ⟨h1, h2 | h2⟩
        · exact ⟨h1, h2⟩
        · exact absurd ⟨h1, h2⟩ e
      · rintro ⟨h1, h2⟩
        exact ⟨h1, .inl h2⟩
    by_cases h3 : s = (tr l i).start ∧ c ∈ (tr l i).src.take p
    · rw [if_pos h3, if_pos (this.2 h3)]
    · rw [if_neg h3, if_neg fun h4 => h3 (this.1 h4)]
theorem map_take {β : Type} (f : Tr → β) {l : List Tr} {i : Nat} (h : i < l.length) : (l.take (i + 1)).map f = (l.take i).map f ++ [f (tr l i)] := by rw [tr_take h, List.map_append]; rfl
attribute [local irreducible] WC WL WX POp Then Again Fn NX W1 WA WO QL RP RA Yld LoopAt HC HL HX HN H1 HA HO HQ HB HP A.blk A.grow A.rd A.obj A.mp AgainH CutH
set_option maxHeartbeats 2000000 in
theorem valid0_fn (v u t : Value) (holders lost : List Int) (width k deadline : Int) (l : List Tr) (hh : holders.length ≤ 1000000) (hl : lost.length ≤ 100000) (ht : l.length ≤ 100000) (w : World) (hR : Rd w v (ints holders)) (hS : Rd w u (ints lost)) (hT : RdT w t l) :
    Fn Tryz.prog 23 #[v, u, .int .i64 width, .int .i64 k, .int .i64 deadline, t] w fun x w' => x = .bool (validB holders lost width k deadline l) ∧ Ext w w' := by
  obtain ⟨a, c, rfl, hc⟩ := hR.isInts
  obtain ⟨a', c', rfl, hc'⟩ := hS.isInts
  obtain ⟨at_, ct, rfl⟩ := hT.shape
  refine enterH (l := [_, _, _, _, _, _]) rfl Tryz.ntmps23 rfl ?_
  repeat' (first | apply HC.label | apply HX.r_scope | apply HL.fold | apply HA.fold | apply HL.nil | apply HX.n_then | apply HC.seq | apply HC.region | refine HL.pa ?_ | refine HL.ga rfl ?_ | refine HL.na rfl ?_ | refine HL.nu rfl rfl ?_ | apply HC.block | apply HC.skip | apply HC.exit | apply HC.ret | apply HX.e_block | refine HX.e_other rfl ?_ | apply HX.e_then | apply HX.e_again | apply HX.n_block | apply HX.r_then | apply HX.r_block | apply HX.r_again | refine HC.cond_yes rfl ?_ | refine HC.cond_no rfl ?_ | refine HL.one (H1.ldb rfl memA rfl rfl ?_) | refine HC.cond rfl (fun hc => ?_) (fun hc => ?_) | refine HC.cond_b rfl (fun hc => ?_) (fun hc => ?_))
  apply HC.scope
  repeat' (first | apply HC.label | apply HX.r_scope | apply HL.fold | apply HA.fold | apply HL.nil | apply HX.n_then | apply HC.seq | apply HC.region | refine HL.pa ?_ | refine HL.ga rfl ?_ | refine HL.na rfl ?_ | refine HL.nu rfl rfl ?_ | apply HC.block | apply HC.skip | apply HC.exit | apply HC.ret | apply HX.e_block | refine HX.e_other rfl ?_ | apply HX.e_then | apply HX.e_again | apply HX.n_block | apply HX.r_then | apply HX.r_block | apply HX.r_again | refine HC.cond_yes rfl ?_ | refine HC.cond_no rfl ?_ | refine HL.one (H1.ldb rfl memA rfl rfl ?_) | refine HC.cond rfl (fun hc => ?_) (fun hc => ?_) | refine HC.cond_b rfl (fun hc => ?_) (fun hc => ?_))
  refine HL.one (H1.callz1 (vs := [.slice a holders.length c, .slice a' lost.length c', .int .i64 width, .int .i64 k, .int .i64 deadline]) rfl rfl (fun w' hM => of_fn _ _ holders lost width k deadline hh (by omega) w' (hM.rd0 hR) (hM.rd0 hS)) ?_)
  rintro ⟨asz, csz⟩ -
  dsimp only
  by_cases hr : Right holders lost width k deadline
  rotate_left
  · have hb := validB_no (l := l) fun h => hr h.r
    rw [rightB_no hr]
    repeat' (first | apply HC.label | apply HX.r_scope | apply HL.fold | apply HA.fold | apply HL.nil | apply HX.n_then | apply HC.seq | apply HC.region | refine HL.pa ?_ | refine HL.ga rfl ?_ | refine HL.na rfl ?_ | refine HL.nu rfl rfl ?_ | apply HC.block | apply HC.skip | apply HC.exit | apply HC.ret | apply HX.e_block | refine HX.e_other rfl ?_ | apply HX.e_then | apply HX.e_again | apply HX.n_block | apply HX.r_then | apply HX.r_block | apply HX.r_again | refine HC.cond_yes rfl ?_ | refine HC.cond_no rfl ?_ | refine HL.one (H1.ldb rfl memA rfl rfl ?_) | refine HC.cond rfl (fun hc => ?_) (fun hc => ?_) | refine HC.cond_b rfl (fun hc => ?_) (fun hc => ?_))
    refine HL.one (H1.alloc (cs := [.slice none 0 0, .slice none 0 0, .int .i64 0, .int .i64 0, .int .i64 0]) rfl rfl (fun b13 => ?_))
    repeat' (first | apply HC.label | apply HX.r_scope | apply HL.fold | apply HA.fold | apply HL.nil | apply HX.n_then | apply HC.seq | apply HC.region | refine HL.pa ?_ | refine HL.ga rfl ?_ | refine HL.na rfl ?_ | refine HL.nu rfl rfl ?_ | apply HC.block | apply HC.skip | apply HC.exit | apply HC.ret | apply HX.e_block | refine HX.e_other rfl ?_ | apply HX.e_then | apply HX.e_again | apply HX.n_block | apply HX.r_then | apply HX.r_block | apply HX.r_again | refine HC.cond_yes rfl ?_ | refine HC.cond_no rfl ?_ | refine HL.one (H1.ldb rfl memA rfl rfl ?_) | refine HC.cond rfl (fun hc => ?_) (fun hc => ?_) | refine HC.cond_b rfl (fun hc => ?_) (fun hc => ?_))
    refine HL.one (H1.stAgg (cs := [.slice none 0 0, .slice none 0 0, .int .i64 0, .int .i64 0, .int .i64 0]) (vs := [.slice asz (rsurv holders lost width k deadline).length csz, .slice a' lost.length c', .int .i64 width, .int .i64 k, .int .i64 deadline]) rfl rfl rfl (by intro v hv; simp only [List.mem_cons, List.not_mem_nil, or_false] at hv; rcases hv with rfl | rfl | rfl | rfl | rfl <;> rfl) rplA rfl ?_)
    repeat' (first | apply HC.label | apply HX.r_scope | apply HL.fold | apply HA.fold | apply HL.nil | apply HX.n_then | apply HC.seq | apply HC.region | refine HL.pa ?_ | refine HL.ga rfl ?_ | refine HL.na rfl ?_ | refine HL.nu rfl rfl ?_ | apply HC.block | apply HC.skip | apply HC.exit | apply HC.ret | apply HX.e_block | refine HX.e_other rfl ?_ | apply HX.e_then | apply HX.e_again | apply HX.n_block | apply HX.r_then | apply HX.r_block | apply HX.r_again | refine HC.cond_yes rfl ?_ | refine HC.cond_no rfl ?_ | refine HL.one (H1.ldb rfl memA rfl rfl ?_) | refine HC.cond rfl (fun hc => ?_) (fun hc => ?_) | refine HC.cond_b rfl (fun hc => ?_) (fun hc => ?_))
    exact HX.ret1 rfl rfl fun w' hM => ⟨by rw [hb], hM.ext⟩
  have e : rsurv holders lost width k deadline = survS holders lost := by unfold rsurv; rw [rightB_yes hr]; rfl
  have hsl := survS_len holders lost
  have hh9 := hr.n9
  have hd := hr.d
  have hk := hr.k
  rw [rightB_yes hr, e]
  have hVr := fun h : ValidP holders lost width k deadline l => h.ok
  have hVf : ValidP holders lost width k deadline l ↔ ((∀ i, i < l.length → PreOK k deadline (tr l i) ∧ StepOK (survS holders lost) l width i) ∧ (srt (l.map Tr.frag) = lost ∧ (l.length = lost.length ∧ (custs (l.map Tr.tos) ∧ ∀ c ∈ l.map Tr.tos, c ∉ survS holders lost)))) :=
    ⟨fun h => ⟨h.ok, h.fr, h.len, h.cu, h.off⟩, fun h => ⟨hr, h.1, h.2.1, h.2.2.1, h.2.2.2.1, h.2.2.2.2⟩⟩
  generalize survS holders lost = surv at *
  repeat' (first | apply HC.label | apply HX.r_scope | apply HL.fold | apply HA.fold | apply HL.nil | apply HX.n_then | apply HC.seq | apply HC.region | refine HL.pa ?_ | refine HL.ga rfl ?_ | refine HL.na rfl ?_ | refine HL.nu rfl rfl ?_ | apply HC.block | apply HC.skip | apply HC.exit | apply HC.ret | apply HX.e_block | refine HX.e_other rfl ?_ | apply HX.e_then | apply HX.e_again | apply HX.n_block | apply HX.r_then | apply HX.r_block | apply HX.r_again | refine HC.cond_yes rfl ?_ | refine HC.cond_no rfl ?_ | refine HL.one (H1.ldb rfl memA rfl rfl ?_) | refine HC.cond rfl (fun hc => ?_) (fun hc => ?_) | refine HC.cond_b rfl (fun hc => ?_) (fun hc => ?_))
  refine HL.one (H1.alloc (cs := [.slice none 0 0, .slice none 0 0, .int .i64 0, .int .i64 0, .int .i64 0]) rfl rfl (fun b13 => ?_))
  repeat' (first | apply HC.label | apply HX.r_scope | apply HL.fold | apply HA.fold | apply HL.nil | apply HX.n_then | apply HC.seq | apply HC.region | refine HL.pa ?_ | refine HL.ga rfl ?_ | refine HL.na rfl ?_ | refine HL.nu rfl rfl ?_ | apply HC.block | apply HC.skip | apply HC.exit | apply HC.ret | apply HX.e_block | refine HX.e_other rfl ?_ | apply HX.e_then | apply HX.e_again | apply HX.n_block | apply HX.r_then | apply HX.r_block | apply HX.r_again | refine HC.cond_yes rfl ?_ | refine HC.cond_no rfl ?_ | refine HL.one (H1.ldb rfl memA rfl rfl ?_) | refine HC.cond rfl (fun hc => ?_) (fun hc => ?_) | refine HC.cond_b rfl (fun hc => ?_) (fun hc => ?_))
  refine HL.one (H1.stAgg (cs := [.slice none 0 0, .slice none 0 0, .int .i64 0, .int .i64 0, .int .i64 0]) (vs := [.slice asz surv.length csz, .slice a' lost.length c', .int .i64 width, .int .i64 k, .int .i64 deadline]) rfl rfl rfl (by intro v hv; simp only [List.mem_cons, List.not_mem_nil, or_false] at hv; rcases hv with rfl | rfl | rfl | rfl | rfl <;> rfl) rplA rfl ?_)
  repeat' (first | apply HC.label | apply HX.r_scope | apply HL.fold | apply HA.fold | apply HL.nil | apply HX.n_then | apply HC.seq | apply HC.region | refine HL.pa ?_ | refine HL.ga rfl ?_ | refine HL.na rfl ?_ | refine HL.nu rfl rfl ?_ | apply HC.block | apply HC.skip | apply HC.exit | apply HC.ret | apply HX.e_block | refine HX.e_other rfl ?_ | apply HX.e_then | apply HX.e_again | apply HX.n_block | apply HX.r_then | apply HX.r_block | apply HX.r_again | refine HC.cond_yes rfl ?_ | refine HC.cond_no rfl ?_ | refine HL.one (H1.ldb rfl memA rfl rfl ?_) | refine HC.cond rfl (fun hc => ?_) (fun hc => ?_) | refine HC.cond_b rfl (fun hc => ?_) (fun hc => ?_))
  refine HL.one (H1.mkmap2 rfl (fun bm => ?_))
  repeat' (first | apply HC.label | apply HX.r_scope | apply HL.fold | apply HA.fold | apply HL.nil | apply HX.n_then | apply HC.seq | apply HC.region | refine HL.pa ?_ | refine HL.ga rfl ?_ | refine HL.na rfl ?_ | refine HL.nu rfl rfl ?_ | apply HC.block | apply HC.skip | apply HC.exit | apply HC.ret | apply HX.e_block | refine HX.e_other rfl ?_ | apply HX.e_then | apply HX.e_again | apply HX.n_block | apply HX.r_then | apply HX.r_block | apply HX.r_again | refine HC.cond_yes rfl ?_ | refine HC.cond_no rfl ?_ | refine HL.one (H1.ldb rfl memA rfl rfl ?_) | refine HC.cond rfl (fun hc => ?_) (fun hc => ?_) | refine HC.cond_b rfl (fun hc => ?_) (fun hc => ?_))
  refine HC.grow0 3 1 ?_
  refine HC.grow0 3 1 ?_
  refine HC.loop (α := Nat × (Option Addr × Nat) × (Option Addr × Nat)) (fun z => [(1, .slice a' lost.length c'), (2, .int .i64 width), (3, .int .i64 k), (4, .int .i64 deadline), (5, .slice at_ l.length ct), (13, .pointer (some ⟨b13, 0, none⟩)), (15, .slice z.2.1.1 ((l.take z.1).map Tr.frag).length z.2.1.2), (16, .slice z.2.2.1 ((l.take z.1).map Tr.tos).length z.2.2.2), (17, .map (some bm)), (35, .slice at_ l.length ct), (36, .int .i64 l.length), (37, .int .i64 (z.1 : Int))])
    (fun z => [A.grow 3 1 z.2.1.1 z.2.1.2 ((l.take z.1).map Tr.frag).length (ints ((l.take z.1).map Tr.frag)), A.grow 3 1 z.2.2.1 z.2.2.2 ((l.take z.1).map Tr.tos).length (ints ((l.take z.1).map Tr.tos)), A.m2 bm (fun s c => (cntP (l.take z.1) s c : Int)), A.blk b13 [.slice asz surv.length csz, .slice a' lost.length c', .int .i64 width, .int .i64 k, .int .i64 deadline] 99, A.grow 3 1 asz csz surv.length (ints surv)])
    (fun z => z.1 ≤ l.length ∧ (∀ i, i < z.1 → PreOK k deadline (tr l i) ∧ StepOK surv l width i) ∧ (z.1 = 0 ∨ ∃ b, z.2.1.1 = some ⟨b, 0, none⟩)) (fun z => l.length - z.1) (0, (none, 0), (none, 0)) ⟨Nat.zero_le _, (fun i hi => absurd hi (Nat.not_lt_zero i)), .inl rfl⟩ esA (by repeat (first | exact Hs.nil _ | (refine Hs.cons pickA ?_))) ?_
  rintro ⟨i, ⟨aF, cF⟩, ⟨aT, cT⟩⟩ ⟨hi, hok, haF⟩
  dsimp only at hi hok haF ⊢
  have hFl : ((l.take i).map Tr.frag).length = i := by rw [List.length_map, List.length_take]; omega
  have hTl : ((l.take i).map Tr.tos).length = i := by rw [List.length_map, List.length_take]; omega
  by_cases hlt : i < l.length
  · have hstepF := map_take Tr.frag hlt
    have hstepT := map_take Tr.tos hlt
    have hg0 := gAt_zero l i
    have hgE := gAt_end hlt
    have hno : ∀ {p : Prop}, (PreOK k deadline (tr l i) ∧ StepOK surv l width i → p) → ¬ p → validB holders lost width k deadline l = false := fun hp hn => validB_no fun h => hn (hp ((hVf.1 h).1 i hlt))
    generalize (l.take i).map Tr.frag = F at *
    generalize (l.take i).map Tr.tos = T at *
    rw [← hg0]
    obtain ⟨bt, offt, h, rfl, hcl, hsrc⟩ := hT.el hlt
    obtain ⟨ah, ch, rfl, -⟩ := hsrc.isInts
    repeat' (first | apply HC.label | apply HX.r_scope | apply HL.fold | apply HA.fold | apply HL.nil | apply HX.n_then | apply HC.seq | apply HC.region | refine HL.pa ?_ | refine HL.ga rfl ?_ | refine HL.na rfl ?_ | refine HL.nu rfl rfl ?_ | apply HC.block | apply HC.skip | apply HC.exit | apply HC.ret | apply HX.e_block | refine HX.e_other rfl ?_ | apply HX.e_then | apply HX.e_again | apply HX.n_block | apply HX.r_then | apply HX.r_block | apply HX.r_again | refine HC.cond_yes rfl ?_ | refine HC.cond_no rfl ?_ | refine HL.one (H1.ldb rfl memA rfl rfl ?_) | refine HC.cond rfl (fun hc => ?_) (fun hc => ?_) | refine HC.cond_b rfl (fun hc => ?_) (fun hc => ?_))
    refine HL.one (H1.ldAggw (vs := [.int .i64 (tr l i).frag, .int .i64 (tr l i).tos, .slice ah (tr l i).src.length ch, .int .i64 (tr l i).start, .int .i64 (tr l i).stop]) rfl rfl (fun w hM j v hj => cell_ext hM.ext (hcl j v hj)) rfl ?_)
    repeat' (first | apply HC.label | apply HX.r_scope | apply HL.fold | apply HA.fold | apply HL.nil | apply HX.n_then | apply HC.seq | apply HC.region | refine HL.pa ?_ | refine HL.ga rfl ?_ | refine HL.na rfl ?_ | refine HL.nu rfl rfl ?_ | apply HC.block | apply HC.skip | apply HC.exit | apply HC.ret | apply HX.e_block | refine HX.e_other rfl ?_ | apply HX.e_then | apply HX.e_again | apply HX.n_block | apply HX.r_then | apply HX.r_block | apply HX.r_again | refine HC.cond_yes rfl ?_ | refine HC.cond_no rfl ?_ | refine HL.one (H1.ldb rfl memA rfl rfl ?_) | refine HC.cond rfl (fun hc => ?_) (fun hc => ?_) | refine HC.cond_b rfl (fun hc => ?_) (fun hc => ?_))
    refine HL.one (H1.alloc (cs := tcell trz (.slice none 0 0)) rfl rfl (fun b19 => ?_))
    repeat' (first | apply HC.label | apply HX.r_scope | apply HL.fold | apply HA.fold | apply HL.nil | apply HX.n_then | apply HC.seq | apply HC.region | refine HL.pa ?_ | refine HL.ga rfl ?_ | refine HL.na rfl ?_ | refine HL.nu rfl rfl ?_ | apply HC.block | apply HC.skip | apply HC.exit | apply HC.ret | apply HX.e_block | refine HX.e_other rfl ?_ | apply HX.e_then | apply HX.e_again | apply HX.n_block | apply HX.r_then | apply HX.r_block | apply HX.r_again | refine HC.cond_yes rfl ?_ | refine HC.cond_no rfl ?_ | refine HL.one (H1.ldb rfl memA rfl rfl ?_) | refine HC.cond rfl (fun hc => ?_) (fun hc => ?_) | refine HC.cond_b rfl (fun hc => ?_) (fun hc => ?_))
    refine HL.one (H1.stAgg (cs := tcell trz (.slice none 0 0)) (vs := [.int .i64 (tr l i).frag, .int .i64 (tr l i).tos, .slice ah (tr l i).src.length ch, .int .i64 (tr l i).start, .int .i64 (tr l i).stop]) rfl rfl rfl (by intro v hv; simp only [List.mem_cons, List.not_mem_nil, or_false] at hv; rcases hv with rfl | rfl | rfl | rfl | rfl <;> rfl) rplA rfl ?_)
    repeat' (first | apply HC.label | apply HX.r_scope | apply HL.fold | apply HA.fold | apply HL.nil | apply HX.n_then | apply HC.seq | apply HC.region | refine HL.pa ?_ | refine HL.ga rfl ?_ | refine HL.na rfl ?_ | refine HL.nu rfl rfl ?_ | apply HC.block | apply HC.skip | apply HC.exit | apply HC.ret | apply HX.e_block | refine HX.e_other rfl ?_ | apply HX.e_then | apply HX.e_again | apply HX.n_block | apply HX.r_then | apply HX.r_block | apply HX.r_again | refine HC.cond_yes rfl ?_ | refine HC.cond_no rfl ?_ | refine HL.one (H1.ldb rfl memA rfl rfl ?_) | refine HC.cond rfl (fun hc => ?_) (fun hc => ?_) | refine HC.cond_b rfl (fun hc => ?_) (fun hc => ?_))
    refine HC.cut (α := (Option Addr × Nat) × (Option Addr × Nat)) (fun z => [(1, .slice a' lost.length c'), (2, .int .i64 width), (3, .int .i64 k), (4, .int .i64 deadline), (5, .slice (some ⟨bt, offt, none⟩) l.length ct), (13, .pointer (some ⟨b13, 0, none⟩)), (15, .slice z.1.1 (F.length + 1) z.1.2), (16, .slice z.2.1 (T.length + 1) z.2.2), (17, .map (some bm)), (19, .pointer (some ⟨b19, 0, none⟩)), (35, .slice (some ⟨bt, offt, none⟩) l.length ct), (36, .int .i64 l.length), (37, .int .i64 (i : Int))])
      (fun z => [A.grow 3 1 z.1.1 z.1.2 (F.length + 1) (ints F ++ [.int .i64 (tr l i).frag]), A.grow 3 1 z.2.1 z.2.2 (T.length + 1) (ints T ++ [.int .i64 (tr l i).tos]), A.blk b19 [.int .i64 (tr l i).frag, .int .i64 (tr l i).tos, .slice ah (tr l i).src.length ch, .int .i64 (tr l i).start, .int .i64 (tr l i).stop] 37, A.m2 bm (gAt l i 0), A.blk b13 [.slice asz surv.length csz, .slice a' lost.length c', .int .i64 width, .int .i64 k, .int .i64 deadline] 99, A.grow 3 1 asz csz surv.length (ints surv)]) (fun z => ∃ b, z.1.1 = some ⟨b, 0, none⟩) ?_ ?_
    · refine HC.anyC ([(⟨b19, 0, none⟩, .int .i64 (tr l i).frag), (⟨b19, 1, none⟩, .int .i64 (tr l i).tos)]) rfl ?_
      refine HB.pa 0 rfl ?_
      refine HB.pa 1 rfl ?_
      refine HB.ld 2 rfl rfl memD ?_
      refine HB.pa 5 rfl ?_
      refine HB.pa 6 rfl ?_
      refine HB.ld 7 rfl rfl memD ?_
      refine HB.all (by repeat (first | exact Keep.nil | refine Keep.blk (by (repeat (first | exact List.Mem.head _ | apply List.Mem.tail)); done) rfl ?_ | refine Keep.grow (by (repeat (first | exact List.Mem.head _ | apply List.Mem.tail)); done) (by assumption) ?_ | refine Keep.base (by assumption) ?_)) [3, 8] (by kernel_rfl) rfl ⟨⟨_, rfl, ?_⟩, ⟨_, rfl, ?_⟩, trivial⟩
      · refine HP.one ?_
        refine H1.lit (cs := [.int .i64 (tr l i).frag]) rfl rfl rfl rfl rfl rfl (fun b3 => ?_)
        apply HB.fold
        refine HB.all (by repeat (first | exact Keep.nil | refine Keep.blk (by (repeat (first | exact List.Mem.head _ | apply List.Mem.tail)); done) rfl ?_ | refine Keep.grow (by (repeat (first | exact List.Mem.head _ | apply List.Mem.tail)); done) (by assumption) ?_ | refine Keep.base (by assumption) ?_)) [4, 8] (by kernel_rfl) rfl ⟨⟨_, rfl, ?_⟩, ⟨_, rfl, ?_⟩, trivial⟩
        · refine HP.one ?_
          refine H1.app1 (u := .int .i64 (tr l i).frag) rfl rfl (fun _ _ => by first | ((repeat (first | with_reducible exact Rpl.here | with_reducible apply Rpl.there)); done) | (repeat (first | exact Rpl.here | apply Rpl.there))) memA rfl rfl (by omega) rfl rfl (fun a4 c4 => ?_)
          apply HB.fold
          refine HB.all (by repeat (first | exact Keep.nil | refine Keep.blk (by (repeat (first | exact List.Mem.head _ | apply List.Mem.tail)); done) rfl ?_ | refine Keep.grow (by (repeat (first | exact List.Mem.head _ | apply List.Mem.tail)); done) (by assumption) ?_ | refine Keep.base (by assumption) ?_)) [8] (by kernel_rfl) rfl ⟨⟨_, rfl, ?_⟩, trivial⟩
          refine HP.one ?_
          refine H1.lit (cs := [.int .i64 (tr l i).tos]) rfl rfl rfl rfl rfl rfl (fun b5 => ?_)
          apply HB.fold
          refine HB.all (by repeat (first | exact Keep.nil | refine Keep.blk (by (repeat (first | exact List.Mem.head _ | apply List.Mem.tail)); done) rfl ?_ | refine Keep.grow (by (repeat (first | exact List.Mem.head _ | apply List.Mem.tail)); done) (by assumption) ?_ | refine Keep.base (by assumption) ?_)) [9] (by kernel_rfl) rfl ⟨⟨_, rfl, ?_⟩, trivial⟩
          refine HP.one ?_
          refine H1.app1 (u := .int .i64 (tr l i).tos) rfl rfl (fun _ _ => by first | ((repeat (first | with_reducible exact Rpl.here | with_reducible apply Rpl.there)); done) | (repeat (first | exact Rpl.here | apply Rpl.there))) memA rfl rfl (by omega) rfl rfl (fun a6 c6 => ?_)
          apply HB.fold
          refine HB.pa 10 rfl ?_
          refine HB.pa 11 rfl ?_
          refine HB.done (by repeat (first | exact Keep.nil | refine Keep.blk (by (repeat (first | exact List.Mem.head _ | apply List.Mem.tail)); done) rfl ?_ | refine Keep.grow (by (repeat (first | exact List.Mem.head _ | apply List.Mem.tail)); done) (by assumption) ?_ | refine Keep.base (by assumption) ?_)) (by kernel_rfl) ?_
          exact HX.cut ((some ⟨a4, 0, none⟩, c4), (some ⟨a6, 0, none⟩, c6)) ⟨a4, rfl⟩ esA (by repeat (first | exact Hs.nil _ | (refine Hs.cons pickA ?_)))
        · refine HP.one ?_
          refine H1.lit (cs := [.int .i64 (tr l i).tos]) rfl rfl rfl rfl rfl rfl (fun b5 => ?_)
          apply HB.fold
          refine HB.all (by repeat (first | exact Keep.nil | refine Keep.blk (by (repeat (first | exact List.Mem.head _ | apply List.Mem.tail)); done) rfl ?_ | refine Keep.grow (by (repeat (first | exact List.Mem.head _ | apply List.Mem.tail)); done) (by assumption) ?_ | refine Keep.base (by assumption) ?_)) [4] (by kernel_rfl) rfl ⟨⟨_, rfl, ?_⟩, trivial⟩
          refine HP.one ?_
          refine H1.app1 (u := .int .i64 (tr l i).frag) rfl rfl (fun _ _ => by first | ((repeat (first | with_reducible exact Rpl.here | with_reducible apply Rpl.there)); done) | (repeat (first | exact Rpl.here | apply Rpl.there))) memA rfl rfl (by omega) rfl rfl (fun a4 c4 => ?_)
          apply HB.fold
          refine HB.all (by repeat (first | exact Keep.nil | refine Keep.blk (by (repeat (first | exact List.Mem.head _ | apply List.Mem.tail)); done) rfl ?_ | refine Keep.grow (by (repeat (first | exact List.Mem.head _ | apply List.Mem.tail)); done) (by assumption) ?_ | refine Keep.base (by assumption) ?_)) [9] (by kernel_rfl) rfl ⟨⟨_, rfl, ?_⟩, trivial⟩
          refine HP.one ?_
          refine H1.app1 (u := .int .i64 (tr l i).tos) rfl rfl (fun _ _ => by first | ((repeat (first | with_reducible exact Rpl.here | with_reducible apply Rpl.there)); done) | (repeat (first | exact Rpl.here | apply Rpl.there))) memA rfl rfl (by omega) rfl rfl (fun a6 c6 => ?_)
          apply HB.fold
          refine HB.pa 10 rfl ?_
          refine HB.pa 11 rfl ?_
          refine HB.done (by repeat (first | exact Keep.nil | refine Keep.blk (by (repeat (first | exact List.Mem.head _ | apply List.Mem.tail)); done) rfl ?_ | refine Keep.grow (by (repeat (first | exact List.Mem.head _ | apply List.Mem.tail)); done) (by assumption) ?_ | refine Keep.base (by assumption) ?_)) (by kernel_rfl) ?_
          exact HX.cut ((some ⟨a4, 0, none⟩, c4), (some ⟨a6, 0, none⟩, c6)) ⟨a4, rfl⟩ esA (by repeat (first | exact Hs.nil _ | (refine Hs.cons pickA ?_)))
      · refine HP.one ?_
        refine H1.lit (cs := [.int .i64 (tr l i).tos]) rfl rfl rfl rfl rfl rfl (fun b5 => ?_)
        apply HB.fold
        refine HB.all (by repeat (first | exact Keep.nil | refine Keep.blk (by (repeat (first | exact List.Mem.head _ | apply List.Mem.tail)); done) rfl ?_ | refine Keep.grow (by (repeat (first | exact List.Mem.head _ | apply List.Mem.tail)); done) (by assumption) ?_ | refine Keep.base (by assumption) ?_)) [3] (by kernel_rfl) rfl ⟨⟨_, rfl, ?_⟩, trivial⟩
        refine HP.one ?_
        refine H1.lit (cs := [.int .i64 (tr l i).frag]) rfl rfl rfl rfl rfl rfl (fun b3 => ?_)
        apply HB.fold
        refine HB.all (by repeat (first | exact Keep.nil | refine Keep.blk (by (repeat (first | exact List.Mem.head _ | apply List.Mem.tail)); done) rfl ?_ | refine Keep.grow (by (repeat (first | exact List.Mem.head _ | apply List.Mem.tail)); done) (by assumption) ?_ | refine Keep.base (by assumption) ?_)) [4] (by kernel_rfl) rfl ⟨⟨_, rfl, ?_⟩, trivial⟩
        refine HP.one ?_
        refine H1.app1 (u := .int .i64 (tr l i).frag) rfl rfl (fun _ _ => by first | ((repeat (first | with_reducible exact Rpl.here | with_reducible apply Rpl.there)); done) | (repeat (first | exact Rpl.here | apply Rpl.there))) memA rfl rfl (by omega) rfl rfl (fun a4 c4 => ?_)
        apply HB.fold
        refine HB.all (by repeat (first | exact Keep.nil | refine Keep.blk (by (repeat (first | exact List.Mem.head _ | apply List.Mem.tail)); done) rfl ?_ | refine Keep.grow (by (repeat (first | exact List.Mem.head _ | apply List.Mem.tail)); done) (by assumption) ?_ | refine Keep.base (by assumption) ?_)) [9] (by kernel_rfl) rfl ⟨⟨_, rfl, ?_⟩, trivial⟩
        refine HP.one ?_
        refine H1.app1 (u := .int .i64 (tr l i).tos) rfl rfl (fun _ _ => by first | ((repeat (first | with_reducible exact Rpl.here | with_reducible apply Rpl.there)); done) | (repeat (first | exact Rpl.here | apply Rpl.there))) memA rfl rfl (by omega) rfl rfl (fun a6 c6 => ?_)
        apply HB.fold
        refine HB.pa 10 rfl ?_
        refine HB.pa 11 rfl ?_
        refine HB.done (by repeat (first | exact Keep.nil | refine Keep.blk (by (repeat (first | exact List.Mem.head _ | apply List.Mem.tail)); done) rfl ?_ | refine Keep.grow (by (repeat (first | exact List.Mem.head _ | apply List.Mem.tail)); done) (by assumption) ?_ | refine Keep.base (by assumption) ?_)) (by kernel_rfl) ?_
        exact HX.cut ((some ⟨a4, 0, none⟩, c4), (some ⟨a6, 0, none⟩, c6)) ⟨a4, rfl⟩ esA (by repeat (first | exact Hs.nil _ | (refine Hs.cons pickA ?_)))
    rintro ⟨⟨aF2, cF2⟩, ⟨aT2, cT2⟩⟩ haF2
    dsimp only at haF2 ⊢
    clear hcl
    repeat' (first | apply HC.label | apply HX.r_scope | apply HL.fold | apply HA.fold | apply HL.nil | apply HX.n_then | apply HC.seq | apply HC.region | refine HL.pa ?_ | refine HL.ga rfl ?_ | refine HL.na rfl ?_ | refine HL.nu rfl rfl ?_ | apply HC.block | apply HC.skip | apply HC.exit | apply HC.ret | apply HX.e_block | refine HX.e_other rfl ?_ | apply HX.e_then | apply HX.e_again | apply HX.n_block | apply HX.r_then | apply HX.r_block | apply HX.r_again | refine HC.cond_yes rfl ?_ | refine HC.cond_no rfl ?_ | refine HL.one (H1.ldb rfl memA rfl rfl ?_) | refine HC.cond rfl (fun hc => ?_) (fun hc => ?_) | refine HC.cond_b rfl (fun hc => ?_) (fun hc => ?_))
    refine HL.one (H1.call0 rfl rfl (fun w _ => within_fn _ _ _ w) ?_)
    by_cases h1 : 0 ≤ (tr l i).start ∧ (tr l i).start ≤ deadline - 1
    rotate_left
    · have hb := hno (fun h => h.1.s) h1
      rw [decide_eq_false h1]
      repeat' (first | apply HC.label | apply HX.r_scope | apply HL.fold | apply HA.fold | apply HL.nil | apply HX.n_then | apply HC.seq | apply HC.region | refine HL.pa ?_ | refine HL.ga rfl ?_ | refine HL.na rfl ?_ | refine HL.nu rfl rfl ?_ | apply HC.block | apply HC.skip | apply HC.exit | apply HC.ret | apply HX.e_block | refine HX.e_other rfl ?_ | apply HX.e_then | apply HX.e_again | apply HX.n_block | apply HX.r_then | apply HX.r_block | apply HX.r_again | refine HC.cond_yes rfl ?_ | refine HC.cond_no rfl ?_ | refine HL.one (H1.ldb rfl memA rfl rfl ?_) | refine HC.cond rfl (fun hc => ?_) (fun hc => ?_) | refine HC.cond_b rfl (fun hc => ?_) (fun hc => ?_))
      exact HX.ret1 rfl rfl fun w' hM => ⟨by rw [hb], hM.ext⟩
    rw [decide_eq_true h1]
    by_cases h2 : (tr l i).stop = (tr l i).start + 1
    rotate_left
    · have hb := hno (fun h => h.1.e) h2
      repeat' (first | apply HC.label | apply HX.r_scope | apply HL.fold | apply HA.fold | apply HL.nil | apply HX.n_then | apply HC.seq | apply HC.region | refine HL.pa ?_ | refine HL.ga rfl ?_ | refine HL.na rfl ?_ | refine HL.nu rfl rfl ?_ | apply HC.block | apply HC.skip | apply HC.exit | apply HC.ret | apply HX.e_block | refine HX.e_other rfl ?_ | apply HX.e_then | apply HX.e_again | apply HX.n_block | apply HX.r_then | apply HX.r_block | apply HX.r_again | refine HC.cond_yes rfl ?_ | refine HC.cond_no rfl ?_ | refine HL.one (H1.ldb rfl memA rfl rfl ?_) | refine HC.cond rfl (fun hc => ?_) (fun hc => ?_) | refine HC.cond_b rfl (fun hc => ?_) (fun hc => ?_))
      exact HX.ret1 rfl rfl fun w' hM => ⟨by rw [hb], hM.ext⟩
    by_cases h3 : ((tr l i).src.length : Int) = k
    rotate_left
    · have hb := hno (fun h => h.1.n) h3
      repeat' (first | apply HC.label | apply HX.r_scope | apply HL.fold | apply HA.fold | apply HL.nil | apply HX.n_then | apply HC.seq | apply HC.region | refine HL.pa ?_ | refine HL.ga rfl ?_ | refine HL.na rfl ?_ | refine HL.nu rfl rfl ?_ | apply HC.block | apply HC.skip | apply HC.exit | apply HC.ret | apply HX.e_block | refine HX.e_other rfl ?_ | apply HX.e_then | apply HX.e_again | apply HX.n_block | apply HX.r_then | apply HX.r_block | apply HX.r_again | refine HC.cond_yes rfl ?_ | refine HC.cond_no rfl ?_ | refine HL.one (H1.ldb rfl memA rfl rfl ?_) | refine HC.cond rfl (fun hc => ?_) (fun hc => ?_) | refine HC.cond_b rfl (fun hc => ?_) (fun hc => ?_))
      exact HX.ret1 rfl rfl fun w' hM => ⟨by rw [hb], hM.ext⟩
    obtain ⟨bs, offs, rfl, -⟩ := hsrc.iat (by intro e; rw [e] at h3; simp at h3; omega)
    have hsl2 : (tr l i).src.length ≤ 1000000 := by omega
    repeat' (first | apply HC.label | apply HX.r_scope | apply HL.fold | apply HA.fold | apply HL.nil | apply HX.n_then | apply HC.seq | apply HC.region | refine HL.pa ?_ | refine HL.ga rfl ?_ | refine HL.na rfl ?_ | refine HL.nu rfl rfl ?_ | apply HC.block | apply HC.skip | apply HC.exit | apply HC.ret | apply HX.e_block | refine HX.e_other rfl ?_ | apply HX.e_then | apply HX.e_again | apply HX.n_block | apply HX.r_then | apply HX.r_block | apply HX.r_again | refine HC.cond_yes rfl ?_ | refine HC.cond_no rfl ?_ | refine HL.one (H1.ldb rfl memA rfl rfl ?_) | refine HC.cond rfl (fun hc => ?_) (fun hc => ?_) | refine HC.cond_b rfl (fun hc => ?_) (fun hc => ?_))
    refine HL.one (H1.callx (vs := [.slice (some ⟨bs, offs, none⟩) (tr l i).src.length ch]) rfl rfl (fun w' hM => isSorted_fn _ (tr l i).src hsl2 w' (hM.rd0 hsrc)) ?_)
    by_cases h4 : sortedI (tr l i).src
    rotate_left
    · have hb := hno (fun h => h.1.so) h4
      rw [sortedB_no h4]
      repeat' (first | apply HC.label | apply HX.r_scope | apply HL.fold | apply HA.fold | apply HL.nil | apply HX.n_then | apply HC.seq | apply HC.region | refine HL.pa ?_ | refine HL.ga rfl ?_ | refine HL.na rfl ?_ | refine HL.nu rfl rfl ?_ | apply HC.block | apply HC.skip | apply HC.exit | apply HC.ret | apply HX.e_block | refine HX.e_other rfl ?_ | apply HX.e_then | apply HX.e_again | apply HX.n_block | apply HX.r_then | apply HX.r_block | apply HX.r_again | refine HC.cond_yes rfl ?_ | refine HC.cond_no rfl ?_ | refine HL.one (H1.ldb rfl memA rfl rfl ?_) | refine HC.cond rfl (fun hc => ?_) (fun hc => ?_) | refine HC.cond_b rfl (fun hc => ?_) (fun hc => ?_))
      exact HX.ret1 rfl rfl fun w' hM => ⟨by rw [hb], hM.ext⟩
    rw [sortedB_yes h4]
    repeat' (first | apply HC.label | apply HX.r_scope | apply HL.fold | apply HA.fold | apply HL.nil | apply HX.n_then | apply HC.seq | apply HC.region | refine HL.pa ?_ | refine HL.ga rfl ?_ | refine HL.na rfl ?_ | refine HL.nu rfl rfl ?_ | apply HC.block | apply HC.skip | apply HC.exit | apply HC.ret | apply HX.e_block | refine HX.e_other rfl ?_ | apply HX.e_then | apply HX.e_again | apply HX.n_block | apply HX.r_then | apply HX.r_block | apply HX.r_again | refine HC.cond_yes rfl ?_ | refine HC.cond_no rfl ?_ | refine HL.one (H1.ldb rfl memA rfl rfl ?_) | refine HC.cond rfl (fun hc => ?_) (fun hc => ?_) | refine HC.cond_b rfl (fun hc => ?_) (fun hc => ?_))
    refine HL.one (H1.callx (vs := [.slice (some ⟨bs, offs, none⟩) (tr l i).src.length ch]) rfl rfl (fun w' hM => unique_fn _ (tr l i).src hsl2 w' (hM.rd0 hsrc)) ?_)
    by_cases h5 : (tr l i).src.Nodup
    rotate_left
    · have hb := hno (fun h => h.1.nd) h5
      rw [decide_eq_false h5]
      repeat' (first | apply HC.label | apply HX.r_scope | apply HL.fold | apply HA.fold | apply HL.nil | apply HX.n_then | apply HC.seq | apply HC.region | refine HL.pa ?_ | refine HL.ga rfl ?_ | refine HL.na rfl ?_ | refine HL.nu rfl rfl ?_ | apply HC.block | apply HC.skip | apply HC.exit | apply HC.ret | apply HX.e_block | refine HX.e_other rfl ?_ | apply HX.e_then | apply HX.e_again | apply HX.n_block | apply HX.r_then | apply HX.r_block | apply HX.r_again | refine HC.cond_yes rfl ?_ | refine HC.cond_no rfl ?_ | refine HL.one (H1.ldb rfl memA rfl rfl ?_) | refine HC.cond rfl (fun hc => ?_) (fun hc => ?_) | refine HC.cond_b rfl (fun hc => ?_) (fun hc => ?_))
      exact HX.ret1 rfl rfl fun w' hM => ⟨by rw [hb], hM.ext⟩
    rw [decide_eq_true h5]
    have hpre : PreOK k deadline (tr l i) := ⟨h1, h2, h3, h4, h5⟩
    repeat' (first | apply HC.label | apply HX.r_scope | apply HL.fold | apply HA.fold | apply HL.nil | apply HX.n_then | apply HC.seq | apply HC.region | refine HL.pa ?_ | refine HL.ga rfl ?_ | refine HL.na rfl ?_ | refine HL.nu rfl rfl ?_ | apply HC.block | apply HC.skip | apply HC.exit | apply HC.ret | apply HX.e_block | refine HX.e_other rfl ?_ | apply HX.e_then | apply HX.e_again | apply HX.n_block | apply HX.r_then | apply HX.r_block | apply HX.r_again | refine HC.cond_yes rfl ?_ | refine HC.cond_no rfl ?_ | refine HL.one (H1.ldb rfl memA rfl rfl ?_) | refine HC.cond rfl (fun hc => ?_) (fun hc => ?_) | refine HC.cond_b rfl (fun hc => ?_) (fun hc => ?_))
    refine HL.one (H1.ldAgg (vs := [.slice asz surv.length csz, .slice a' lost.length c', .int .i64 width, .int .i64 k, .int .i64 deadline]) rfl memA rfl (fun i v hv => by rw [show 0 + i = i from Nat.zero_add i]; exact hv) rfl ?_)
    repeat' (first | apply HC.label | apply HX.r_scope | apply HL.fold | apply HA.fold | apply HL.nil | apply HX.n_then | apply HC.seq | apply HC.region | refine HL.pa ?_ | refine HL.ga rfl ?_ | refine HL.na rfl ?_ | refine HL.nu rfl rfl ?_ | apply HC.block | apply HC.skip | apply HC.exit | apply HC.ret | apply HX.e_block | refine HX.e_other rfl ?_ | apply HX.e_then | apply HX.e_again | apply HX.n_block | apply HX.r_then | apply HX.r_block | apply HX.r_again | refine HC.cond_yes rfl ?_ | refine HC.cond_no rfl ?_ | refine HL.one (H1.ldb rfl memA rfl rfl ?_) | refine HC.cond rfl (fun hc => ?_) (fun hc => ?_) | refine HC.cond_b rfl (fun hc => ?_) (fun hc => ?_))
    refine HL.one (H1.callz1 (vs := [.agg #[.slice asz surv.length csz, .slice a' lost.length c', .int .i64 width, .int .i64 k, .int .i64 deadline], .slice (some ⟨bt, offt, none⟩) l.length ct, .int .i64 (tr l i).start]) rfl rfl (fun w' hM => has_fn _ _ _ surv l width k deadline (tr l i).start (by omega) (by omega) w' (hM.gr memA) (hT.ext hM.ext)) ?_)
    rintro ⟨aH, cH⟩ -
    dsimp only
    repeat' (first | apply HC.label | apply HX.r_scope | apply HL.fold | apply HA.fold | apply HL.nil | apply HX.n_then | apply HC.seq | apply HC.region | refine HL.pa ?_ | refine HL.ga rfl ?_ | refine HL.na rfl ?_ | refine HL.nu rfl rfl ?_ | apply HC.block | apply HC.skip | apply HC.exit | apply HC.ret | apply HX.e_block | refine HX.e_other rfl ?_ | apply HX.e_then | apply HX.e_again | apply HX.n_block | apply HX.r_then | apply HX.r_block | apply HX.r_again | refine HC.cond_yes rfl ?_ | refine HC.cond_no rfl ?_ | refine HL.one (H1.ldb rfl memA rfl rfl ?_) | refine HC.cond rfl (fun hc => ?_) (fun hc => ?_) | refine HC.cond_b rfl (fun hc => ?_) (fun hc => ?_))
    have hmn : 0 < (tr l i).src.length := by omega
    refine HC.loop (α := Nat) (fun p => [(1, .slice a' lost.length c'), (2, .int .i64 width), (3, .int .i64 k), (4, .int .i64 deadline), (5, .slice (some ⟨bt, offt, none⟩) l.length ct), (13, .pointer (some ⟨b13, 0, none⟩)), (15, .slice aF2 (F.length + 1) cF2), (16, .slice aT2 (T.length + 1) cT2), (17, .map (some bm)), (19, .pointer (some ⟨b19, 0, none⟩)), (20, .slice aH (hasL surv l (tr l i).start).length cH), (35, .slice (some ⟨bt, offt, none⟩) l.length ct), (36, .int .i64 l.length), (37, .int .i64 (i : Int)), (90, .slice (some ⟨bs, offs, none⟩) (tr l i).src.length ch), (91, .int .i64 (tr l i).src.length), (92, .int .i64 (p : Int))]) (fun p => [A.grow 3 1 aH cH (hasL surv l (tr l i).start).length (ints (hasL surv l (tr l i).start)), A.grow 3 1 aF2 cF2 (F.length + 1) (ints F ++ [.int .i64 (tr l i).frag]), A.grow 3 1 aT2 cT2 (T.length + 1) (ints T ++ [.int .i64 (tr l i).tos]), A.blk b19 [.int .i64 (tr l i).frag, .int .i64 (tr l i).tos, .slice (some ⟨bs, offs, none⟩) (tr l i).src.length ch, .int .i64 (tr l i).start, .int .i64 (tr l i).stop] 37, A.m2 bm (gAt l i p), A.blk b13 [.slice asz surv.length csz, .slice a' lost.length c', .int .i64 width, .int .i64 k, .int .i64 deadline] 99, A.grow 3 1 asz csz surv.length (ints surv)]) (fun p => p < (tr l i).src.length ∧ ∀ q, q < p → (cntP (l.take (i + 1)) (tr l i).start (at' (tr l i).src q) : Int) ≤ width ∧ at' (tr l i).src q ∈ hasL surv l (tr l i).start) (fun p => (tr l i).src.length - p) 0 ⟨hmn, fun q hq => absurd hq (Nat.not_lt_zero q)⟩ esA (by repeat (first | exact Hs.nil _ | (refine Hs.cons pickA ?_))) ?_
    rintro p ⟨hp, hq⟩
    have hgc := cntP_step hlt (tr l i).start (at' (tr l i).src p)
    rw [if_pos ⟨rfl, at_mem hp⟩] at hgc
    have hga := gAt_at hp h5
    have hgs := gAt_step hp h5
    have hgl := cntP_len (l.take i) (tr l i).start (at' (tr l i).src p)
    rw [List.length_take] at hgl
    have hV : gAt l i (p + 1) (tr l i).start (at' (tr l i).src p) = (cntP (l.take (i + 1)) (tr l i).start (at' (tr l i).src p) : Int) := by
      rw [← hgs]; unfold upd2; rw [if_pos ⟨rfl, rfl⟩, hga, hgc]; push_cast; rfl
    have hgb : 0 ≤ gAt l i p (tr l i).start (at' (tr l i).src p) ∧ gAt l i p (tr l i).start (at' (tr l i).src p) ≤ 100000 := by rw [hga]; omega
    have hgcell := hsrc.cell (ints_get hp)
    repeat' (first | apply HC.label | apply HX.r_scope | apply HL.fold | apply HA.fold | apply HL.nil | apply HX.n_then | apply HC.seq | apply HC.region | refine HL.pa ?_ | refine HL.ga rfl ?_ | refine HL.na rfl ?_ | refine HL.nu rfl rfl ?_ | apply HC.block | apply HC.skip | apply HC.exit | apply HC.ret | apply HX.e_block | refine HX.e_other rfl ?_ | apply HX.e_then | apply HX.e_again | apply HX.n_block | apply HX.r_then | apply HX.r_block | apply HX.r_again | refine HC.cond_yes rfl ?_ | refine HC.cond_no rfl ?_ | refine HL.one (H1.ldb rfl memA rfl rfl ?_) | refine HC.cond rfl (fun hc => ?_) (fun hc => ?_) | refine HC.cond_b rfl (fun hc => ?_) (fun hc => ?_))
    refine HL.one (H1.ld0 rfl hgcell rfl ?_)
    repeat' (first | apply HC.label | apply HX.r_scope | apply HL.fold | apply HA.fold | apply HL.nil | apply HX.n_then | apply HC.seq | apply HC.region | refine HL.pa ?_ | refine HL.ga rfl ?_ | refine HL.na rfl ?_ | refine HL.nu rfl rfl ?_ | apply HC.block | apply HC.skip | apply HC.exit | apply HC.ret | apply HX.e_block | refine HX.e_other rfl ?_ | apply HX.e_then | apply HX.e_again | apply HX.n_block | apply HX.r_then | apply HX.r_block | apply HX.r_again | refine HC.cond_yes rfl ?_ | refine HC.cond_no rfl ?_ | refine HL.one (H1.ldb rfl memA rfl rfl ?_) | refine HC.cond rfl (fun hc => ?_) (fun hc => ?_) | refine HC.cond_b rfl (fun hc => ?_) (fun hc => ?_))
    refine HC.cut (α := Unit) (fun _ => [(1, .slice a' lost.length c'), (2, .int .i64 width), (3, .int .i64 k), (4, .int .i64 deadline), (5, .slice (some ⟨bt, offt, none⟩) l.length ct), (13, .pointer (some ⟨b13, 0, none⟩)), (15, .slice aF2 (F.length + 1) cF2), (16, .slice aT2 (T.length + 1) cT2), (17, .map (some bm)), (19, .pointer (some ⟨b19, 0, none⟩)), (20, .slice aH (hasL surv l (tr l i).start).length cH), (35, .slice (some ⟨bt, offt, none⟩) l.length ct), (36, .int .i64 l.length), (37, .int .i64 (i : Int)), (90, .slice (some ⟨bs, offs, none⟩) (tr l i).src.length ch), (91, .int .i64 (tr l i).src.length), (92, .int .i64 (p : Int)), (22, .int .i64 (at' (tr l i).src p))]) (fun _ => [A.grow 3 1 aH cH (hasL surv l (tr l i).start).length (ints (hasL surv l (tr l i).start)), A.grow 3 1 aF2 cF2 (F.length + 1) (ints F ++ [.int .i64 (tr l i).frag]), A.grow 3 1 aT2 cT2 (T.length + 1) (ints T ++ [.int .i64 (tr l i).tos]), A.blk b19 [.int .i64 (tr l i).frag, .int .i64 (tr l i).tos, .slice (some ⟨bs, offs, none⟩) (tr l i).src.length ch, .int .i64 (tr l i).start, .int .i64 (tr l i).stop] 37, A.m2 bm (gAt l i (p + 1)), A.blk b13 [.slice asz surv.length csz, .slice a' lost.length c', .int .i64 width, .int .i64 k, .int .i64 deadline] 99, A.grow 3 1 asz csz surv.length (ints surv)]) (fun _ => True) ?_ ?_
    · refine HC.anyC ([(⟨b19, 3, none⟩, .int .i64 (tr l i).start)]) rfl ?_
      refine HB.pa 0 rfl ?_
      refine HB.pa 1 rfl ?_
      refine HB.ld 2 rfl rfl memD ?_
      refine HB.pa 3 rfl ?_
      refine HB.pa (v := kv (tr l i).start (at' (tr l i).src p)) 4 rfl ?_ (POp.build (cs := [.int .i64 (tr l i).start, .int .i64 (at' (tr l i).src p)]) rfl rfl)
      refine HB.all (by repeat (first | exact Keep.nil | refine Keep.blk (by (repeat (first | exact List.Mem.head _ | apply List.Mem.tail)); done) rfl ?_ | refine Keep.grow (by (repeat (first | exact List.Mem.head _ | apply List.Mem.tail)); done) (by assumption) ?_ | refine Keep.base (by assumption) ?_)) [5, 7] (by kernel_rfl) rfl ⟨⟨_, rfl, ?_⟩, ⟨_, rfl, ?_⟩, trivial⟩
      · refine HP.one ?_
        first | refine H1.lookup2 (f := gAt l i p) (m := (tr l i).start) (n := at' (tr l i).src p) rfl rfl (.tail _ (.tail _ (.tail _ (.tail _ (.head _))))) rfl ?_ | refine H1.lookup2e (f := gAt l i p) (m := (tr l i).start) (n := at' (tr l i).src p) rfl rfl (.tail _ (.tail _ (.tail _ (.tail _ (.head _))))) rfl ?_
        apply HB.fold
        refine HB.pa 6 rfl ?_
        refine HB.all (by repeat (first | exact Keep.nil | refine Keep.blk (by (repeat (first | exact List.Mem.head _ | apply List.Mem.tail)); done) rfl ?_ | refine Keep.grow (by (repeat (first | exact List.Mem.head _ | apply List.Mem.tail)); done) (by assumption) ?_ | refine Keep.base (by assumption) ?_)) [7] (by kernel_rfl) rfl ⟨⟨_, rfl, ?_⟩, trivial⟩
        refine HP.one ?_
        refine H1.mapEntry2 (f := gAt l i p) (m := (tr l i).start) (n := at' (tr l i).src p) rfl rfl (fun _ => by first | ((repeat (first | with_reducible exact Rpl.here | with_reducible apply Rpl.there)); done) | (repeat (first | exact Rpl.here | apply Rpl.there))) rfl (fun st => ?_)
        apply HB.fold
        refine HB.pa 8 rfl ?_
        refine HB.all (by repeat (first | exact Keep.nil | refine Keep.blk (by (repeat (first | exact List.Mem.head _ | apply List.Mem.tail)); done) rfl ?_ | refine Keep.grow (by (repeat (first | exact List.Mem.head _ | apply List.Mem.tail)); done) (by assumption) ?_ | refine Keep.base (by assumption) ?_)) [9] (by kernel_rfl) rfl ⟨⟨_, rfl, ?_⟩, trivial⟩
        refine HP.one ?_
        refine H1.entryStore2 (f := gAt l i p) (m := (tr l i).start) (n := at' (tr l i).src p) rfl rfl rfl rplA ?_
        rw [hgs]
        apply HB.fold
        refine HB.done (by repeat (first | exact Keep.nil | refine Keep.blk (by (repeat (first | exact List.Mem.head _ | apply List.Mem.tail)); done) rfl ?_ | refine Keep.grow (by (repeat (first | exact List.Mem.head _ | apply List.Mem.tail)); done) (by assumption) ?_ | refine Keep.base (by assumption) ?_)) (by kernel_rfl) ?_
        exact HX.cut () trivial esA (by repeat (first | exact Hs.nil _ | (refine Hs.cons pickA ?_)))
      · refine HP.one ?_
        refine H1.mapEntry2 (f := gAt l i p) (m := (tr l i).start) (n := at' (tr l i).src p) rfl rfl (fun _ => by first | ((repeat (first | with_reducible exact Rpl.here | with_reducible apply Rpl.there)); done) | (repeat (first | exact Rpl.here | apply Rpl.there))) rfl (fun st => ?_)
        apply HB.fold
        refine HB.pa 8 rfl ?_
        refine HB.all (by repeat (first | exact Keep.nil | refine Keep.blk (by (repeat (first | exact List.Mem.head _ | apply List.Mem.tail)); done) rfl ?_ | refine Keep.grow (by (repeat (first | exact List.Mem.head _ | apply List.Mem.tail)); done) (by assumption) ?_ | refine Keep.base (by assumption) ?_)) [5] (by kernel_rfl) rfl ⟨⟨_, rfl, ?_⟩, trivial⟩
        refine HP.one ?_
        first | refine H1.lookup2 (f := gAt l i p) (m := (tr l i).start) (n := at' (tr l i).src p) rfl rfl (.tail _ (.tail _ (.tail _ (.tail _ (.head _))))) rfl ?_ | refine H1.lookup2e (f := gAt l i p) (m := (tr l i).start) (n := at' (tr l i).src p) rfl rfl (.tail _ (.tail _ (.tail _ (.tail _ (.head _))))) rfl ?_
        apply HB.fold
        refine HB.pa 6 rfl ?_
        refine HB.all (by repeat (first | exact Keep.nil | refine Keep.blk (by (repeat (first | exact List.Mem.head _ | apply List.Mem.tail)); done) rfl ?_ | refine Keep.grow (by (repeat (first | exact List.Mem.head _ | apply List.Mem.tail)); done) (by assumption) ?_ | refine Keep.base (by assumption) ?_)) [9] (by kernel_rfl) rfl ⟨⟨_, rfl, ?_⟩, trivial⟩
        refine HP.one ?_
        refine H1.entryStore2 (f := gAt l i p) (m := (tr l i).start) (n := at' (tr l i).src p) rfl rfl rfl rplA ?_
        rw [hgs]
        apply HB.fold
        refine HB.done (by repeat (first | exact Keep.nil | refine Keep.blk (by (repeat (first | exact List.Mem.head _ | apply List.Mem.tail)); done) rfl ?_ | refine Keep.grow (by (repeat (first | exact List.Mem.head _ | apply List.Mem.tail)); done) (by assumption) ?_ | refine Keep.base (by assumption) ?_)) (by kernel_rfl) ?_
        exact HX.cut () trivial esA (by repeat (first | exact Hs.nil _ | (refine Hs.cons pickA ?_)))
    rintro - -
    have hlast := hsrc.cell (ints_get (show (tr l i).src.length - 1 < (tr l i).src.length by omega))
    have hlast2 : w.cell? ⟨bs, offs + (((tr l i).src.length : Int) - 1).toNat, none⟩ = some (zv (at' (tr l i).src ((tr l i).src.length - 1))) := by
      rw [show (((tr l i).src.length : Int) - 1).toNat = (tr l i).src.length - 1 by omega]; exact hlast
    repeat' (first | apply HC.label | apply HX.r_scope | apply HL.fold | apply HA.fold | apply HL.nil | apply HX.n_then | apply HC.seq | apply HC.region | refine HL.pa ?_ | refine HL.ga rfl ?_ | refine HL.na rfl ?_ | refine HL.nu rfl rfl ?_ | apply HC.block | apply HC.skip | apply HC.exit | apply HC.ret | apply HX.e_block | refine HX.e_other rfl ?_ | apply HX.e_then | apply HX.e_again | apply HX.n_block | apply HX.r_then | apply HX.r_block | apply HX.r_again | refine HC.cond_yes rfl ?_ | refine HC.cond_no rfl ?_ | refine HL.one (H1.ldb rfl memA rfl rfl ?_) | refine HC.cond rfl (fun hc => ?_) (fun hc => ?_) | refine HC.cond_b rfl (fun hc => ?_) (fun hc => ?_))
    refine HL.build (cs := [.int .i64 (tr l i).start, .int .i64 (at' (tr l i).src p)]) rfl rfl rfl ?_
    refine HL.one (H1.lookup2 (f := gAt l i (p + 1)) (m := (tr l i).start) (n := at' (tr l i).src p) rfl rfl memA rfl ?_)
    rw [hV]
    by_cases h6 : (cntP (l.take (i + 1)) (tr l i).start (at' (tr l i).src p) : Int) ≤ width
    rotate_left
    · have hb := hno (fun h => (h.2 _ (at_mem hp)).1) h6
      repeat' (first | apply HC.label | apply HX.r_scope | apply HL.fold | apply HA.fold | apply HL.nil | apply HX.n_then | apply HC.seq | apply HC.region | refine HL.pa ?_ | refine HL.ga rfl ?_ | refine HL.na rfl ?_ | refine HL.nu rfl rfl ?_ | apply HC.block | apply HC.skip | apply HC.exit | apply HC.ret | apply HX.e_block | refine HX.e_other rfl ?_ | apply HX.e_then | apply HX.e_again | apply HX.n_block | apply HX.r_then | apply HX.r_block | apply HX.r_again | refine HC.cond_yes rfl ?_ | refine HC.cond_no rfl ?_ | refine HL.one (H1.ldb rfl memA rfl rfl ?_) | refine HC.cond rfl (fun hc => ?_) (fun hc => ?_) | refine HC.cond_b rfl (fun hc => ?_) (fun hc => ?_))
      exact HX.ret1 rfl rfl fun w' hM => ⟨by rw [hb], hM.ext⟩
    repeat' (first | apply HC.label | apply HX.r_scope | apply HL.fold | apply HA.fold | apply HL.nil | apply HX.n_then | apply HC.seq | apply HC.region | refine HL.pa ?_ | refine HL.ga rfl ?_ | refine HL.na rfl ?_ | refine HL.nu rfl rfl ?_ | apply HC.block | apply HC.skip | apply HC.exit | apply HC.ret | apply HX.e_block | refine HX.e_other rfl ?_ | apply HX.e_then | apply HX.e_again | apply HX.n_block | apply HX.r_then | apply HX.r_block | apply HX.r_again | refine HC.cond_yes rfl ?_ | refine HC.cond_no rfl ?_ | refine HL.one (H1.ldb rfl memA rfl rfl ?_) | refine HC.cond rfl (fun hc => ?_) (fun hc => ?_) | refine HC.cond_b rfl (fun hc => ?_) (fun hc => ?_))
    refine HL.one (H1.call0 (vs := [.slice aH (hasL surv l (tr l i).start).length cH, zv (at' (tr l i).src p)]) rfl rfl (fun w hM => contains_fn _ (hasL surv l (tr l i).start) (at' (tr l i).src p) (by rw [hasL_len]; have := endTo_len l (tr l i).start; omega) w (hM.gr memA)) ?_)
    by_cases h7 : at' (tr l i).src p ∈ hasL surv l (tr l i).start
    rotate_left
    · have hb := hno (fun h => (h.2 _ (at_mem hp)).2) h7
      rw [show (hasL surv l (tr l i).start).contains (at' (tr l i).src p) = false by
        cases hcn : (hasL surv l (tr l i).start).contains (at' (tr l i).src p) with
        | false => rfl
        | true => exact absurd (List.contains_iff_mem.1 hcn) h7]
      repeat' (first | apply HC.label | apply HX.r_scope | apply HL.fold | apply HA.fold | apply HL.nil | apply HX.n_then | apply HC.seq | apply HC.region | refine HL.pa ?_ | refine HL.ga rfl ?_ | refine HL.na rfl ?_ | refine HL.nu rfl rfl ?_ | apply HC.block | apply HC.skip | apply HC.exit | apply HC.ret | apply HX.e_block | refine HX.e_other rfl ?_ | apply HX.e_then | apply HX.e_again | apply HX.n_block | apply HX.r_then | apply HX.r_block | apply HX.r_again | refine HC.cond_yes rfl ?_ | refine HC.cond_no rfl ?_ | refine HL.one (H1.ldb rfl memA rfl rfl ?_) | refine HC.cond rfl (fun hc => ?_) (fun hc => ?_) | refine HC.cond_b rfl (fun hc => ?_) (fun hc => ?_))
      exact HX.ret1 rfl rfl fun w' hM => ⟨by rw [hb], hM.ext⟩
    rw [List.contains_iff_mem.2 h7]
    have hq2 : ∀ q, q < p + 1 → (cntP (l.take (i + 1)) (tr l i).start (at' (tr l i).src q) : Int) ≤ width ∧ at' (tr l i).src q ∈ hasL surv l (tr l i).start := fun q hq' => by
      by_cases e : q = p
      · subst e; exact ⟨h6, h7⟩
      · exact hq q (by omega)
    by_cases hpe : p + 1 = (tr l i).src.length
    · have hps : (tr l i).src.length - 1 = p := by omega
      rw [hps] at hlast2
      repeat' (first | apply HC.label | apply HX.r_scope | apply HL.fold | apply HA.fold | apply HL.nil | apply HX.n_then | apply HC.seq | apply HC.region | refine HL.pa ?_ | refine HL.ga rfl ?_ | refine HL.na rfl ?_ | refine HL.nu rfl rfl ?_ | apply HC.block | apply HC.skip | apply HC.exit | apply HC.ret | apply HX.e_block | refine HX.e_other rfl ?_ | apply HX.e_then | apply HX.e_again | apply HX.n_block | apply HX.r_then | apply HX.r_block | apply HX.r_again | refine HC.cond_yes rfl ?_ | refine HC.cond_no rfl ?_ | refine HL.one (H1.ldb rfl memA rfl rfl ?_) | refine HC.cond rfl (fun hc => ?_) (fun hc => ?_) | refine HC.cond_b rfl (fun hc => ?_) (fun hc => ?_))
      refine HL.one (H1.ld0 rfl hlast2 rfl ?_)
      repeat' (first | apply HC.label | apply HX.r_scope | apply HL.fold | apply HA.fold | apply HL.nil | apply HX.n_then | apply HC.seq | apply HC.region | refine HL.pa ?_ | refine HL.ga rfl ?_ | refine HL.na rfl ?_ | refine HL.nu rfl rfl ?_ | apply HC.block | apply HC.skip | apply HC.exit | apply HC.ret | apply HX.e_block | refine HX.e_other rfl ?_ | apply HX.e_then | apply HX.e_again | apply HX.n_block | apply HX.r_then | apply HX.r_block | apply HX.r_again | refine HC.cond_yes rfl ?_ | refine HC.cond_no rfl ?_ | refine HL.one (H1.ldb rfl memA rfl rfl ?_) | refine HC.cond rfl (fun hc => ?_) (fun hc => ?_) | refine HC.cond_b rfl (fun hc => ?_) (fun hc => ?_))
      have hst : StepOK surv l width i := fun c hc => by
        obtain ⟨q, hq3, rfl⟩ := mem_at hc
        exact hq2 q (by omega)
      refine HX.again (i + 1, (aF2, cF2), (aT2, cT2)) ⟨by show i + 1 ≤ _; omega, fun j hj => ?_, .inr haF2⟩ (by show l.length - (i + 1) < l.length - i; omega) ?_ ?_
      · by_cases e : j = i
        · subst e; exact ⟨hpre, hst⟩
        · exact hok j (by dsimp only at hj; omega)
      · dsimp only
        rw [hstepF, hstepT, List.length_append, List.length_append]
        repeat (first | exact trivial | refine ⟨rfl, ?_⟩)
      · dsimp only
        rw [hstepF, hstepT, List.length_append, List.length_append, ints_app, ints_app, ← hgE, ← hpe]
        repeat (first | exact Hs.nil _ | (refine Hs.cons pickA ?_))
    · have hne : ¬ at' (tr l i).src p = at' (tr l i).src ((tr l i).src.length - 1) := fun e => by
        have := nodup_at.1 h5 _ _ hp (by omega) e
        omega
      repeat' (first | apply HC.label | apply HX.r_scope | apply HL.fold | apply HA.fold | apply HL.nil | apply HX.n_then | apply HC.seq | apply HC.region | refine HL.pa ?_ | refine HL.ga rfl ?_ | refine HL.na rfl ?_ | refine HL.nu rfl rfl ?_ | apply HC.block | apply HC.skip | apply HC.exit | apply HC.ret | apply HX.e_block | refine HX.e_other rfl ?_ | apply HX.e_then | apply HX.e_again | apply HX.n_block | apply HX.r_then | apply HX.r_block | apply HX.r_again | refine HC.cond_yes rfl ?_ | refine HC.cond_no rfl ?_ | refine HL.one (H1.ldb rfl memA rfl rfl ?_) | refine HC.cond rfl (fun hc => ?_) (fun hc => ?_) | refine HC.cond_b rfl (fun hc => ?_) (fun hc => ?_))
      refine HL.one (H1.ld0 rfl hlast2 rfl ?_)
      repeat' (first | apply HC.label | apply HX.r_scope | apply HL.fold | apply HA.fold | apply HL.nil | apply HX.n_then | apply HC.seq | apply HC.region | refine HL.pa ?_ | refine HL.ga rfl ?_ | refine HL.na rfl ?_ | refine HL.nu rfl rfl ?_ | apply HC.block | apply HC.skip | apply HC.exit | apply HC.ret | apply HX.e_block | refine HX.e_other rfl ?_ | apply HX.e_then | apply HX.e_again | apply HX.n_block | apply HX.r_then | apply HX.r_block | apply HX.r_again | refine HC.cond_yes rfl ?_ | refine HC.cond_no rfl ?_ | refine HL.one (H1.ldb rfl memA rfl rfl ?_) | refine HC.cond rfl (fun hc => ?_) (fun hc => ?_) | refine HC.cond_b rfl (fun hc => ?_) (fun hc => ?_))
      exact HX.again (p + 1) ⟨by omega, hq2⟩ (by omega) esA (by repeat (first | exact Hs.nil _ | (refine Hs.cons pickA ?_)))
  · obtain rfl : i = l.length := by omega
    rw [List.take_length] at *
    have hFs : srt (l.map Tr.frag) = srt (l.map Tr.frag) := rfl
    have hsr : (srt (l.map Tr.frag)).length = (l.map Tr.frag).length := srt_len _
    have hVf2 : ValidP holders lost width k deadline l ↔ (srt (l.map Tr.frag) = lost ∧ (l.length = lost.length ∧ (custs (l.map Tr.tos) ∧ ∀ c ∈ l.map Tr.tos, c ∉ surv))) := ⟨fun h => (hVf.1 h).2, fun h => hVf.2 ⟨hok, h⟩⟩
    generalize l.map Tr.frag = F at *
    generalize l.map Tr.tos = T at *
    repeat' (first | apply HC.label | apply HX.r_scope | apply HL.fold | apply HA.fold | apply HL.nil | apply HX.n_then | apply HC.seq | apply HC.region | refine HL.pa ?_ | refine HL.ga rfl ?_ | refine HL.na rfl ?_ | refine HL.nu rfl rfl ?_ | apply HC.block | apply HC.skip | apply HC.exit | apply HC.ret | apply HX.e_block | refine HX.e_other rfl ?_ | apply HX.e_then | apply HX.e_again | apply HX.n_block | apply HX.r_then | apply HX.r_block | apply HX.r_again | refine HC.cond_yes rfl ?_ | refine HC.cond_no rfl ?_ | refine HL.one (H1.ldb rfl memA rfl rfl ?_) | refine HC.cond rfl (fun hc => ?_) (fun hc => ?_) | refine HC.cond_b rfl (fun hc => ?_) (fun hc => ?_))
    refine HL.one (H1.callm (α := Unit) (V := fun _ => .tuple #[]) (I := fun _ => True) (H' := fun _ => [A.grow 3 1 aF cF F.length (ints (srt F)), A.grow 3 1 aT cT T.length (ints T), A.m2 bm (fun s c => (cntP l s c : Int)), A.blk b13 [.slice asz surv.length csz, .slice a' lost.length c', .int .i64 width, .int .i64 k, .int .i64 deadline] 99, A.grow 3 1 asz csz surv.length (ints surv)]) (vs := [.slice aF F.length cF]) rfl rfl (fun w' hM => ?_) ?_)
    · by_cases h0 : F = []
      · subst h0
        rw [List.length_nil]
        refine (sort_nil aF cF w').mono ?_
        rintro v w'' ⟨rfl, rfl⟩
        exact ⟨(), trivial, rfl, by simpa [srt] using hM⟩
      · obtain ⟨b2, rfl⟩ := haF.resolve_left fun h => h0 (List.eq_nil_of_length_eq_zero (by omega))
        exact (sort_own hM rplA (by omega)).mono fun x w'' ⟨h1, h2⟩ => ⟨(), trivial, h1, h2⟩
    rintro - -
    repeat' (first | apply HC.label | apply HX.r_scope | apply HL.fold | apply HA.fold | apply HL.nil | apply HX.n_then | apply HC.seq | apply HC.region | refine HL.pa ?_ | refine HL.ga rfl ?_ | refine HL.na rfl ?_ | refine HL.nu rfl rfl ?_ | apply HC.block | apply HC.skip | apply HC.exit | apply HC.ret | apply HX.e_block | refine HX.e_other rfl ?_ | apply HX.e_then | apply HX.e_again | apply HX.n_block | apply HX.r_then | apply HX.r_block | apply HX.r_again | refine HC.cond_yes rfl ?_ | refine HC.cond_no rfl ?_ | refine HL.one (H1.ldb rfl memA rfl rfl ?_) | refine HC.cond rfl (fun hc => ?_) (fun hc => ?_) | refine HC.cond_b rfl (fun hc => ?_) (fun hc => ?_))
    refine HL.one (H1.callx (vs := [.slice aF F.length cF, .slice a' lost.length c']) rfl rfl (fun w' hM => equal_fn _ _ (srt F) lost (by omega) (by omega) w' (hM.gr (e := 3) (a := aF) (c := cF) (n := F.length) (xs := ints (srt F)) memA) (hM.rd0 hS)) ?_)
    by_cases h1 : srt F = lost
    · rw [decide_eq_true h1]
      repeat' (first | apply HC.label | apply HX.r_scope | apply HL.fold | apply HA.fold | apply HL.nil | apply HX.n_then | apply HC.seq | apply HC.region | refine HL.pa ?_ | refine HL.ga rfl ?_ | refine HL.na rfl ?_ | refine HL.nu rfl rfl ?_ | apply HC.block | apply HC.skip | apply HC.exit | apply HC.ret | apply HX.e_block | refine HX.e_other rfl ?_ | apply HX.e_then | apply HX.e_again | apply HX.n_block | apply HX.r_then | apply HX.r_block | apply HX.r_again | refine HC.cond_yes rfl ?_ | refine HC.cond_no rfl ?_ | refine HL.one (H1.ldb rfl memA rfl rfl ?_) | refine HC.cond rfl (fun hc => ?_) (fun hc => ?_) | refine HC.cond_b rfl (fun hc => ?_) (fun hc => ?_))
      refine HL.one (H1.ldAgg (vs := [.slice asz surv.length csz, .slice a' lost.length c', .int .i64 width, .int .i64 k, .int .i64 deadline]) rfl memA rfl (fun i v hv => by rw [show 0 + i = i from Nat.zero_add i]; exact hv) rfl ?_)
      repeat' (first | apply HC.label | apply HX.r_scope | apply HL.fold | apply HA.fold | apply HL.nil | apply HX.n_then | apply HC.seq | apply HC.region | refine HL.pa ?_ | refine HL.ga rfl ?_ | refine HL.na rfl ?_ | refine HL.nu rfl rfl ?_ | apply HC.block | apply HC.skip | apply HC.exit | apply HC.ret | apply HX.e_block | refine HX.e_other rfl ?_ | apply HX.e_then | apply HX.e_again | apply HX.n_block | apply HX.r_then | apply HX.r_block | apply HX.r_again | refine HC.cond_yes rfl ?_ | refine HC.cond_no rfl ?_ | refine HL.one (H1.ldb rfl memA rfl rfl ?_) | refine HC.cond rfl (fun hc => ?_) (fun hc => ?_) | refine HC.cond_b rfl (fun hc => ?_) (fun hc => ?_))
      refine HL.one (H1.callx (vs := [.agg #[.slice asz surv.length csz, .slice a' lost.length c', .int .i64 width, .int .i64 k, .int .i64 deadline], .slice aT T.length cT]) rfl rfl (fun w' hM => places_fn _ _ _ surv lost T width k deadline (by omega) (by omega) (by omega) w' (hM.gr memA) (hM.rd0 hS) (hM.gr memA)) ?_)
      repeat' (first | apply HC.label | apply HX.r_scope | apply HL.fold | apply HA.fold | apply HL.nil | apply HX.n_then | apply HC.seq | apply HC.region | refine HL.pa ?_ | refine HL.ga rfl ?_ | refine HL.na rfl ?_ | refine HL.nu rfl rfl ?_ | apply HC.block | apply HC.skip | apply HC.exit | apply HC.ret | apply HX.e_block | refine HX.e_other rfl ?_ | apply HX.e_then | apply HX.e_again | apply HX.n_block | apply HX.r_then | apply HX.r_block | apply HX.r_again | refine HC.cond_yes rfl ?_ | refine HC.cond_no rfl ?_ | refine HL.one (H1.ldb rfl memA rfl rfl ?_) | refine HC.cond rfl (fun hc => ?_) (fun hc => ?_) | refine HC.cond_b rfl (fun hc => ?_) (fun hc => ?_))
      refine HX.ret1 rfl rfl fun w' hM => ⟨?_, hM.ext⟩
      congr 1
      by_cases h2 : T.length = lost.length
      · by_cases h3 : custs T
        · by_cases h4 : ∀ c ∈ T, c ∉ surv
          · rw [validB_yes (hVf2.2 ⟨h1, by omega, h3, h4⟩), decide_eq_true h2, decide_eq_true h3]
            have : (T.any fun c => surv.contains c) = false := by
              rw [List.any_eq_false]; intro x hx hc; exact h4 x hx (List.contains_iff_mem.1 hc)
            rw [this]; rfl
          · rw [validB_no fun h => h4 (hVf2.1 h).2.2.2, decide_eq_true h2, decide_eq_true h3]
            cases hc : (T.any fun c => surv.contains c) with
            | true => rfl
            | false =>
              rw [List.any_eq_false] at hc
              exact absurd (fun c hc2 hc3 => hc c hc2 (List.contains_iff_mem.2 hc3)) h4
        · rw [validB_no fun h => h3 (hVf2.1 h).2.2.1, decide_eq_false h3, Bool.false_and, Bool.and_false]
      · rw [validB_no fun h => h2 (by have := (hVf2.1 h).2.1; omega), decide_eq_false h2, Bool.false_and]
    · rw [decide_eq_false h1]
      have hb := validB_no fun h => h1 (hVf2.1 h).1
      repeat' (first | apply HC.label | apply HX.r_scope | apply HL.fold | apply HA.fold | apply HL.nil | apply HX.n_then | apply HC.seq | apply HC.region | refine HL.pa ?_ | refine HL.ga rfl ?_ | refine HL.na rfl ?_ | refine HL.nu rfl rfl ?_ | apply HC.block | apply HC.skip | apply HC.exit | apply HC.ret | apply HX.e_block | refine HX.e_other rfl ?_ | apply HX.e_then | apply HX.e_again | apply HX.n_block | apply HX.r_then | apply HX.r_block | apply HX.r_again | refine HC.cond_yes rfl ?_ | refine HC.cond_no rfl ?_ | refine HL.one (H1.ldb rfl memA rfl rfl ?_) | refine HC.cond rfl (fun hc => ?_) (fun hc => ?_) | refine HC.cond_b rfl (fun hc => ?_) (fun hc => ?_))
      exact HX.ret1 rfl rfl fun w' hM => ⟨by rw [hb], hM.ext⟩
theorem valid_fn (v u t : Value) (holders lost : List Int) (width k deadline : Int) (l : List Tr) (hh : holders.length ≤ 1000000) (hl : lost.length ≤ 100000) (ht : l.length ≤ 100000) (_ : ∀ t ∈ l, t.src.length ≤ 1000000) (w : World) (hR : Rd w v (ints holders)) (hS : Rd w u (ints lost)) (hT : RdT w t l) :
    Fn Tryz.prog 23 #[v, u, .int .i64 width, .int .i64 k, .int .i64 deadline, t] w fun x w' => x = .bool (validB holders lost width k deadline l) ∧ Ext w w' := valid0_fn v u t holders lost width k deadline l hh hl ht w hR hS hT
end Go.Sx

