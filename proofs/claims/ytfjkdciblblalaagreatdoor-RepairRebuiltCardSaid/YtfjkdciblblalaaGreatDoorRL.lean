/- Plain: sorting; the fixed examples. -/
import Derived.Test.YtfjkdciblblalaaGreatDoorRJ
import Derived.Test.YtfjkdciblblalaaGreatDoorRH
import Derived.Test.YtfjkdciblblalaaGreatDoorRG
import Derived.Test.YtfjkdciblblalaaGreatDoorR9
namespace Go.Sx
open Go Go.Proofs
theorem srt_pw (l : List Int) : (srt l).Pairwise (· ≤ ·) := by
  unfold srt
  have := List.pairwise_mergeSort (le := fun x y : Int => decide (x ≤ y)) (by intro a b c h1 h2; simp only [decide_eq_true_eq] at *; omega) (by intro a b; simp only [Bool.or_eq_true, decide_eq_true_eq]; omega) l
  exact this.imp fun {_ _} h => by simpa using h
theorem srt_perm (l : List Int) : (srt l).Perm l := by unfold srt; exact List.mergeSort_perm l _
theorem srt_eq {l m : List Int} (h : m.Pairwise (· ≤ ·)) (hp : l.Perm m) : srt l = m :=
  List.Perm.eq_of_pairwise (le := (· ≤ ·)) (fun _ _ _ _ h1 h2 => Int.le_antisymm h1 h2) (srt_pw l) h ((srt_perm l).trans hp)
def insI (x : Int) : List Int → List Int
  | [] => [x]
  | y :: l => if x ≤ y then x :: y :: l else y :: insI x l
def isort : List Int → List Int
  | [] => []
  | x :: l => insI x (isort l)
theorem insI_perm (x : Int) : ∀ l : List Int, (x :: l).Perm (insI x l)
  | [] => List.Perm.refl _
  | y :: l => by
    unfold insI
    split
    · exact List.Perm.refl _
    · exact (List.Perm.swap _ _ _).trans (List.Perm.cons _ (insI_perm x l))
theorem insI_pw (x : Int) : ∀ l : List Int, l.Pairwise (· ≤ ·) → (insI x l).Pairwise (· ≤ ·)
  | [], _ => by simp [insI]
  | y :: l, h => by
    unfold insI
    rw [List.pairwise_cons] at h
    split
    · rename_i hxy
      rw [List.pairwise_cons]
      refine ⟨fun z hz => ?_, List.pairwise_cons.2 h⟩
      rcases List.mem_cons.1 hz with rfl | hz
      · exact hxy
      · exact Int.le_trans hxy (h.1 z hz)
    · rename_i hxy
      rw [List.pairwise_cons]
      refine ⟨fun z hz => ?_, insI_pw x l h.2⟩
      rcases List.mem_cons.1 ((insI_perm x l).mem_iff.2 hz) with rfl | hz
      · omega
      · exact h.1 z hz
theorem isort_perm : ∀ l : List Int, l.Perm (isort l)
  | [] => List.Perm.refl _
  | x :: l => ((isort_perm l).cons x).trans (insI_perm x _)
theorem isort_pw : ∀ l : List Int, (isort l).Pairwise (· ≤ ·)
  | [] => List.Pairwise.nil
  | x :: l => insI_pw x _ (isort_pw l)
theorem srt_is : srt = isort := funext fun l => srt_eq (isort_pw l) (isort_perm l)
/- the fixed examples -/
def sH : List Int := [0, 1, 2, 3, 4]
def sL : List Int := [0, 3]
def sT : List Int := [5, 6]
def sOne : List Tr := [⟨0, 5, [1, 2], 0, 1⟩, ⟨3, 6, [1, 2], 1, 2⟩]
def sTwo : List Tr := [⟨0, 5, [1, 2], 0, 1⟩, ⟨3, 6, [1, 4], 0, 1⟩]
theorem sRight {w k d : Int} (hw : 1 ≤ w ∧ w ≤ 9) (hk : 1 ≤ k ∧ k ≤ 5) (hd : 0 ≤ d ∧ d ≤ 1000) : Right sH sL w k d := ⟨by decide, by decide, by decide, hw, hk, hd, by unfold ascTo; decide⟩
theorem sRight0 : Right sH [] 1 2 9 := ⟨by decide, by decide, by decide, by decide, by decide, by decide, by unfold ascTo; decide⟩
theorem sSurv : survS sH sL = [1, 2, 4] := by decide
theorem sSurv0 : survS sH [] = [0, 1, 2, 3, 4] := by decide
theorem p1_1 : planAt [1, 2, 4] sL sT 1 2 1 = [⟨0, 5, [1, 2], 0, 1⟩] := by
  simp only [planAt, stepP, hasL, srt_is]; delta newT; simp only [srt_is]; decide
theorem p1_2 : planAt [1, 2, 4] sL sT 1 2 2 = sOne := by
  rw [planAt, p1_1]; simp only [stepP, hasL, srt_is]; delta newT; simp only [srt_is]; decide
theorem p2_1 : planAt [1, 2, 4] sL sT 2 2 1 = sTwo := by
  simp only [planAt, stepP, hasL, srt_is]; delta newT; simp only [srt_is]; decide
theorem pD1 : planD sH sL sT 1 2 9 = sOne := by
  unfold planD; rw [sSurv]; exact (plan_full (d := 2) (by show _ ≤ (planAt [1, 2, 4] sL sT 1 2 2).length; rw [p1_2]; decide) 9 (by decide)).trans p1_2
theorem pD2 : planD sH sL sT 2 2 9 = sTwo := by
  unfold planD; rw [sSurv]; exact (plan_full (d := 1) (by show _ ≤ (planAt [1, 2, 4] sL sT 2 2 1).length; rw [p2_1]; decide) 9 (by decide)).trans p2_1
theorem pD3 : planD sH sL sT 1 2 1 = [⟨0, 5, [1, 2], 0, 1⟩] := by unfold planD; rw [sSurv]; exact p1_1
theorem pB1 : planB sH sL sT 1 2 9 = true := by unfold planB goodB; rw [rightB_yes (sRight (by decide) (by decide) (by decide)), pD1]; decide
theorem pB2 : planB sH sL sT 2 2 9 = true := by unfold planB goodB; rw [rightB_yes (sRight (by decide) (by decide) (by decide)), pD2]; decide
theorem pB3 : planB sH sL sT 1 2 1 = false := by unfold planB goodB; rw [rightB_yes (sRight (by decide) (by decide) (by decide)), pD3]; decide
theorem pB4 : planB sH sL sT 1 4 9 = false := by
  have : goodB sH sL sT 1 4 9 = false := by unfold goodB; rw [rightB_yes (sRight (by decide) (by decide) (by decide))]; decide
  unfold planB; rw [this]; rfl
theorem pR1 : planR sH sL sT 1 2 9 = sOne := by unfold planR; rw [if_pos pB1, pD1]
theorem pR2 : planR sH sL sT 2 2 9 = sTwo := by unfold planR; rw [if_pos pB2, pD2]
theorem pR3 : planR sH sL sT 1 2 1 = [] := by unfold planR; rw [if_neg (by rw [pB3]; decide)]
theorem pR4 : planR sH sL sT 1 4 9 = [] := by unfold planR; rw [if_neg (by rw [pB4]; decide)]
theorem sAfter1 : afterS sH sL sOne 1 = [5, 1, 2, -1, 4] := by decide
theorem sAfter2 : afterS sH sL sOne 2 = [5, 1, 2, 6, 4] := by decide
theorem sSo : sortedI [1, 2] := fun i h0 hi => by
  have h2 : i = 1 := by simp at hi; omega
  subst h2; decide
theorem sValid1 : validB sH sL 1 2 9 sOne = true := validB_yes ⟨sRight (by decide) (by decide) (by decide), by
  intro i hi
  match i, hi with
  | 0, _ => exact ⟨⟨by decide, by decide, by decide, sSo, by decide⟩, by unfold StepOK hasL; rw [sSurv, srt_is]; decide⟩
  | 1, _ => exact ⟨⟨by decide, by decide, by decide, sSo, by decide⟩, by unfold StepOK hasL; rw [sSurv, srt_is]; decide⟩, by rw [srt_is]; decide, by decide, by decide, by rw [sSurv]; decide⟩
theorem sValid2 : validB sH sL 1 2 9 sTwo = false := validB_no fun h => by
  have := (h.ok 1 (by decide)).2 1 (by decide)
  exact absurd this.1 (by decide)
theorem sValid0 : validB sH [] 1 2 9 [] = true := validB_yes ⟨sRight0, (by intro i hi; cases hi), (by rw [srt_is]; decide), by decide, by decide, by decide⟩
end Go.Sx
/- The fixed examples of the laws: sane. -/
namespace Go.Sx
open Go Go.Proofs
/-- Transfers of the call's own, as one atom. -/
def A.ts (a : Option Addr) (c : Nat) (l : List Tr) (zs : List (Option Addr × Nat)) : Atom := A.all (A.grow 37 5 a c l.length (tcells l zs) :: srcAts l zs)
theorem tl_of {w : World} {a : Option Addr} {c : Nat} {l : List Tr} {zs : List (Option Addr × Nat)} (h : ∀ x ∈ A.grow 37 5 a c l.length (tcells l zs) :: srcAts l zs, x.p w) (hz : zs.length = l.length) : RdT w (.slice a l.length c) l := by
  have hown : w.ownsRow 0 37 5 (.slice a l.length c) l.length (tcells l zs) := h _ (List.Mem.head _)
  refine ⟨a, c, fun i => hval (tr l i) (zs.getD i (none, 0)), rfl, ?_, ?_, fun i hi => ?_⟩
  · rcases hown.2 with ⟨hv, h0⟩ | ⟨g, cap, cur, hv, -, -, hnc, -⟩
    · omega
    · cases hv; exact hnc
  · by_cases h0 : l = []
    · exact .inl h0
    · right
      have hne : l.length ≠ 0 := fun e => h0 (List.eq_nil_of_length_eq_zero e)
      rcases hown.2 with ⟨hv, h3⟩ | ⟨g, cap, cur, hv, hbg, hg, rest⟩
      · exact absurd h3 hne
      · cases hv
        refine ⟨g, 0, rfl, (Array.getElem?_eq_some_iff.1 hg).1, fun i j u hi hu => ?_⟩
        have := tcells_get hz hi hu
        rw [Nat.zero_add]
        exact ownsRow_cell hown this
  · have h1 : w.ownsRow 0 3 1 (hval (tr l i) (zs.getD i (none, 0))) (tr l i).src.length (ints (tr l i).src) := h _ (List.Mem.tail _ (srcAts_mem hz hi))
    exact Rd.of_owns h1
theorem Mm.ts {w0 w : World} {H : List Atom} {a : Option Addr} {c : Nat} {l : List Tr} {zs : List (Option Addr × Nat)} (hM : Mm w0 H w) (hm : A.ts a c l zs ∈ H) (hz : zs.length = l.length) : RdT w (.slice a l.length c) l :=
  tl_of (hM.all _ hm) hz
theorem blk_rd {w : World} {b : Nat} {l : List Int} {e : TypeId} (h : Blk w b (ints l) e) : Rd w (.slice (some ⟨b, 0, none⟩) l.length l.length) (ints l) := by
  refine ⟨_, _, by rw [ints_len], by rw [ints_len]; exact Nat.le_refl _, .inr ⟨b, 0, rfl, h.lt, fun i u hu => ?_⟩⟩
  rw [Nat.zero_add]; exact h.cell hu
theorem two_rd {w : World} {b : Nat} {t0 t1 : Tr} {h0 h1 : Value} {e : TypeId} (h : Blk w b (tcell t0 h0 ++ tcell t1 h1) e) (hr0 : Rd w h0 (ints t0.src)) (hr1 : Rd w h1 (ints t1.src)) : RdT w (.slice (some ⟨b, 0, none⟩) 2 2) [t0, t1] := by
  refine ⟨_, _, fun i => if i = 0 then h0 else h1, rfl, by simp, .inr ⟨b, 0, rfl, h.lt, fun i j u hi hu => ?_⟩, fun i hi => ?_⟩
  · have hj : j < 5 := by
      have := (List.getElem?_eq_some_iff.1 hu).1
      simpa [tcell] using this
    match i, hi with
    | 0, _ =>
      rw [show 0 + 0 * 5 + j = j by omega]
      refine h.cell ?_
      rw [List.getElem?_append_left (by simpa [tcell] using hj)]
      exact hu
    | 1, _ =>
      refine h.cell ?_
      rw [List.getElem?_append_right (by simp [tcell])]
      have e : 0 + 1 * 5 + j - (tcell t0 h0).length = j := by simp [tcell]
      rw [e]
      exact hu
  · match i, hi with
    | 0, _ => exact hr0
    | 1, _ => exact hr1
theorem rd_none {w : World} : Rd w (.slice none 0 0) (ints []) := ⟨none, 0, rfl, Nat.le_refl _, .inl rfl⟩
theorem rdt_none {w : World} : RdT w (.slice none 0 0) [] := ⟨none, 0, fun _ => undef, rfl, Nat.le_refl _, .inl rfl, fun i hi => by cases hi⟩
theorem plan_ok {v u t : Value} {holders lost tos : List Int} {width k deadline : Int} {l : List Tr} (hb : planB holders lost tos width k deadline = true) (he : planR holders lost tos width k deadline = l) (hh : holders.length ≤ 1000000) (hl : lost.length ≤ 1000000) (ht : tos.length ≤ 1000000) (w : World) (hR : Rd w v (ints holders)) (hS : Rd w u (ints lost)) (hT : Rd w t (ints tos)) :
    Fn Tryz.prog 19 #[v, u, t, .int .i64 width, .int .i64 k, .int .i64 deadline] w fun x w' => ∃ z : List (Option Addr × Nat) × Option Addr × Nat, z.1.length = l.length ∧
      x = .tuple #[.slice z.2.1 l.length z.2.2, .int .i64 0] ∧ Mm w [A.ts z.2.1 z.2.2 l z.1] w' := by
  refine (plan_fn v u t holders lost tos width k deadline hh hl ht w hR hS hT).mono ?_
  rintro x w' ⟨z, h1, h2, h3⟩
  rw [he] at h1 h2 h3
  rw [if_pos hb] at h2
  exact ⟨z, h1, h2, h3.pack1⟩
theorem plan_bad {v u t : Value} {holders lost tos : List Int} {width k deadline : Int} (hb : planB holders lost tos width k deadline = false) (hh : holders.length ≤ 1000000) (hl : lost.length ≤ 1000000) (ht : tos.length ≤ 1000000) (w : World) (hR : Rd w v (ints holders)) (hS : Rd w u (ints lost)) (hT : Rd w t (ints tos)) :
    Fn Tryz.prog 19 #[v, u, t, .int .i64 width, .int .i64 k, .int .i64 deadline] w fun x w' => ∃ z : Option Addr × Nat, True ∧ x = .tuple #[.slice z.1 0 z.2, .int .i64 190] ∧ Ext w w' := by
  refine (plan_fn v u t holders lost tos width k deadline hh hl ht w hR hS hT).mono ?_
  rintro x w' ⟨z, h1, h2, h3⟩
  have he : planR holders lost tos width k deadline = [] := by unfold planR; rw [if_neg (by rw [hb]; simp)]
  rw [he] at h2
  rw [if_neg (by rw [hb]; simp)] at h2
  exact ⟨z.2, trivial, h2, h3.ext⟩
attribute [local irreducible] WC WL WX POp Then Again Fn NX W1 WA WO QL RP RA Yld LoopAt HC HL HX HN H1 HA HO HQ HB HP A.blk A.grow A.rd A.obj A.mp AgainH CutH
attribute [local irreducible] A.all A.ts
set_option maxHeartbeats 2000000 in
theorem sane_fn (w : World) : Fn Tryz.prog 5 #[] w fun x w' => x = .bool true ∧ Ext w w' := by
  refine enterH (l := []) rfl Tryz.ntmps5 rfl ?_
  repeat' (first | apply HL.fold | apply HA.fold | apply HL.nil | apply HX.n_then | apply HC.seq | apply HC.region | refine HL.pa ?_ | refine HL.ga rfl ?_ | refine HL.na rfl ?_ | refine HL.nu rfl rfl ?_ | apply HC.block | apply HC.skip | apply HC.exit | apply HC.ret | apply HX.e_block | refine HX.e_other rfl ?_ | apply HX.e_then | apply HX.e_again | apply HX.n_block | apply HX.r_then | apply HX.r_block | apply HX.r_again | refine HC.cond_yes rfl ?_ | refine HC.cond_no rfl ?_ | refine HL.one (H1.ldb rfl memA rfl rfl ?_) | refine HC.cond rfl (fun hc => ?_) (fun hc => ?_) | refine HC.cond_b rfl (fun hc => ?_) (fun hc => ?_))
  refine HL.one (H1.lit (cs := ints sH) rfl rfl rfl rfl rfl rfl (fun bh => ?_))
  repeat' (first | apply HL.fold | apply HA.fold | apply HL.nil | apply HX.n_then | apply HC.seq | apply HC.region | refine HL.pa ?_ | refine HL.ga rfl ?_ | refine HL.na rfl ?_ | refine HL.nu rfl rfl ?_ | apply HC.block | apply HC.skip | apply HC.exit | apply HC.ret | apply HX.e_block | refine HX.e_other rfl ?_ | apply HX.e_then | apply HX.e_again | apply HX.n_block | apply HX.r_then | apply HX.r_block | apply HX.r_again | refine HC.cond_yes rfl ?_ | refine HC.cond_no rfl ?_ | refine HL.one (H1.ldb rfl memA rfl rfl ?_) | refine HC.cond rfl (fun hc => ?_) (fun hc => ?_) | refine HC.cond_b rfl (fun hc => ?_) (fun hc => ?_))
  refine HL.one (H1.lit (cs := ints sL) rfl rfl rfl rfl rfl rfl (fun bl => ?_))
  repeat' (first | apply HL.fold | apply HA.fold | apply HL.nil | apply HX.n_then | apply HC.seq | apply HC.region | refine HL.pa ?_ | refine HL.ga rfl ?_ | refine HL.na rfl ?_ | refine HL.nu rfl rfl ?_ | apply HC.block | apply HC.skip | apply HC.exit | apply HC.ret | apply HX.e_block | refine HX.e_other rfl ?_ | apply HX.e_then | apply HX.e_again | apply HX.n_block | apply HX.r_then | apply HX.r_block | apply HX.r_again | refine HC.cond_yes rfl ?_ | refine HC.cond_no rfl ?_ | refine HL.one (H1.ldb rfl memA rfl rfl ?_) | refine HC.cond rfl (fun hc => ?_) (fun hc => ?_) | refine HC.cond_b rfl (fun hc => ?_) (fun hc => ?_))
  refine HL.one (H1.lit (cs := ints sT) rfl rfl rfl rfl rfl rfl (fun bt => ?_))
  repeat' (first | apply HL.fold | apply HA.fold | apply HL.nil | apply HX.n_then | apply HC.seq | apply HC.region | refine HL.pa ?_ | refine HL.ga rfl ?_ | refine HL.na rfl ?_ | refine HL.nu rfl rfl ?_ | apply HC.block | apply HC.skip | apply HC.exit | apply HC.ret | apply HX.e_block | refine HX.e_other rfl ?_ | apply HX.e_then | apply HX.e_again | apply HX.n_block | apply HX.r_then | apply HX.r_block | apply HX.r_again | refine HC.cond_yes rfl ?_ | refine HC.cond_no rfl ?_ | refine HL.one (H1.ldb rfl memA rfl rfl ?_) | refine HC.cond rfl (fun hc => ?_) (fun hc => ?_) | refine HC.cond_b rfl (fun hc => ?_) (fun hc => ?_))
  refine HL.one (H1.callz1 (An := (fun z : List (Option Addr × Nat) × Option Addr × Nat => A.ts z.2.1 z.2.2 sOne z.1)) (vs := [.slice (some ⟨bh, 0, none⟩) 5 5, .slice (some ⟨bl, 0, none⟩) 2 2, .slice (some ⟨bt, 0, none⟩) 2 2, .int .i64 1, .int .i64 2, .int .i64 9]) rfl rfl (fun w' hM => plan_ok pB1 pR1 (by decide) (by decide) (by decide) w' (blk_rd (l := sH) (hM.blk memD)) (blk_rd (l := sL) (hM.blk memD)) (blk_rd (l := sT) (hM.blk memD))) ?_)
  rintro ⟨z1, a1, c1⟩ hz1
  dsimp only at hz1 ⊢
  repeat' (first | apply HL.fold | apply HA.fold | apply HL.nil | apply HX.n_then | apply HC.seq | apply HC.region | refine HL.pa ?_ | refine HL.ga rfl ?_ | refine HL.na rfl ?_ | refine HL.nu rfl rfl ?_ | apply HC.block | apply HC.skip | apply HC.exit | apply HC.ret | apply HX.e_block | refine HX.e_other rfl ?_ | apply HX.e_then | apply HX.e_again | apply HX.n_block | apply HX.r_then | apply HX.r_block | apply HX.r_again | refine HC.cond_yes rfl ?_ | refine HC.cond_no rfl ?_ | refine HL.one (H1.ldb rfl memA rfl rfl ?_) | refine HC.cond rfl (fun hc => ?_) (fun hc => ?_) | refine HC.cond_b rfl (fun hc => ?_) (fun hc => ?_))
  refine HL.one (H1.callz1 (An := (fun z : List (Option Addr × Nat) × Option Addr × Nat => A.ts z.2.1 z.2.2 sTwo z.1)) (vs := [.slice (some ⟨bh, 0, none⟩) 5 5, .slice (some ⟨bl, 0, none⟩) 2 2, .slice (some ⟨bt, 0, none⟩) 2 2, .int .i64 2, .int .i64 2, .int .i64 9]) rfl rfl (fun w' hM => plan_ok pB2 pR2 (by decide) (by decide) (by decide) w' (blk_rd (l := sH) (hM.blk memD)) (blk_rd (l := sL) (hM.blk memD)) (blk_rd (l := sT) (hM.blk memD))) ?_)
  rintro ⟨z2, a2, c2⟩ hz2
  dsimp only at hz2 ⊢
  repeat' (first | apply HL.fold | apply HA.fold | apply HL.nil | apply HX.n_then | apply HC.seq | apply HC.region | refine HL.pa ?_ | refine HL.ga rfl ?_ | refine HL.na rfl ?_ | refine HL.nu rfl rfl ?_ | apply HC.block | apply HC.skip | apply HC.exit | apply HC.ret | apply HX.e_block | refine HX.e_other rfl ?_ | apply HX.e_then | apply HX.e_again | apply HX.n_block | apply HX.r_then | apply HX.r_block | apply HX.r_again | refine HC.cond_yes rfl ?_ | refine HC.cond_no rfl ?_ | refine HL.one (H1.ldb rfl memA rfl rfl ?_) | refine HC.cond rfl (fun hc => ?_) (fun hc => ?_) | refine HC.cond_b rfl (fun hc => ?_) (fun hc => ?_))
  refine HL.one (H1.callp (vs := [.slice (some ⟨bh, 0, none⟩) 5 5, .slice (some ⟨bl, 0, none⟩) 2 2, .slice (some ⟨bt, 0, none⟩) 2 2, .int .i64 1, .int .i64 2, .int .i64 1]) rfl rfl (fun w' hM => plan_bad pB3 (by decide) (by decide) (by decide) w' (blk_rd (l := sH) (hM.blk memD)) (blk_rd (l := sL) (hM.blk memD)) (blk_rd (l := sT) (hM.blk memD))) ?_)
  rintro ⟨a3, c3⟩ -
  dsimp only
  repeat' (first | apply HL.fold | apply HA.fold | apply HL.nil | apply HX.n_then | apply HC.seq | apply HC.region | refine HL.pa ?_ | refine HL.ga rfl ?_ | refine HL.na rfl ?_ | refine HL.nu rfl rfl ?_ | apply HC.block | apply HC.skip | apply HC.exit | apply HC.ret | apply HX.e_block | refine HX.e_other rfl ?_ | apply HX.e_then | apply HX.e_again | apply HX.n_block | apply HX.r_then | apply HX.r_block | apply HX.r_again | refine HC.cond_yes rfl ?_ | refine HC.cond_no rfl ?_ | refine HL.one (H1.ldb rfl memA rfl rfl ?_) | refine HC.cond rfl (fun hc => ?_) (fun hc => ?_) | refine HC.cond_b rfl (fun hc => ?_) (fun hc => ?_))
  refine HL.one (H1.callp (vs := [.slice (some ⟨bh, 0, none⟩) 5 5, .slice (some ⟨bl, 0, none⟩) 2 2, .slice (some ⟨bt, 0, none⟩) 2 2, .int .i64 1, .int .i64 4, .int .i64 9]) rfl rfl (fun w' hM => plan_bad pB4 (by decide) (by decide) (by decide) w' (blk_rd (l := sH) (hM.blk memD)) (blk_rd (l := sL) (hM.blk memD)) (blk_rd (l := sT) (hM.blk memD))) ?_)
  rintro ⟨a4, c4⟩ -
  dsimp only
  repeat' (first | apply HL.fold | apply HA.fold | apply HL.nil | apply HX.n_then | apply HC.seq | apply HC.region | refine HL.pa ?_ | refine HL.ga rfl ?_ | refine HL.na rfl ?_ | refine HL.nu rfl rfl ?_ | apply HC.block | apply HC.skip | apply HC.exit | apply HC.ret | apply HX.e_block | refine HX.e_other rfl ?_ | apply HX.e_then | apply HX.e_again | apply HX.n_block | apply HX.r_then | apply HX.r_block | apply HX.r_again | refine HC.cond_yes rfl ?_ | refine HC.cond_no rfl ?_ | refine HL.one (H1.ldb rfl memA rfl rfl ?_) | refine HC.cond rfl (fun hc => ?_) (fun hc => ?_) | refine HC.cond_b rfl (fun hc => ?_) (fun hc => ?_))
  refine HL.one (H1.lit (cs := ints [1, 2]) rfl rfl rfl rfl rfl rfl (fun bx1 => ?_))
  repeat' (first | apply HL.fold | apply HA.fold | apply HL.nil | apply HX.n_then | apply HC.seq | apply HC.region | refine HL.pa ?_ | refine HL.ga rfl ?_ | refine HL.na rfl ?_ | refine HL.nu rfl rfl ?_ | apply HC.block | apply HC.skip | apply HC.exit | apply HC.ret | apply HX.e_block | refine HX.e_other rfl ?_ | apply HX.e_then | apply HX.e_again | apply HX.n_block | apply HX.r_then | apply HX.r_block | apply HX.r_again | refine HC.cond_yes rfl ?_ | refine HC.cond_no rfl ?_ | refine HL.one (H1.ldb rfl memA rfl rfl ?_) | refine HC.cond rfl (fun hc => ?_) (fun hc => ?_) | refine HC.cond_b rfl (fun hc => ?_) (fun hc => ?_))
  refine HL.build (cs := [.int .i64 0, .int .i64 5, .slice (some ⟨bx1, 0, none⟩) 2 2, .int .i64 0, .int .i64 1]) rfl rfl rfl ?_
  repeat' (first | apply HL.fold | apply HA.fold | apply HL.nil | apply HX.n_then | apply HC.seq | apply HC.region | refine HL.pa ?_ | refine HL.ga rfl ?_ | refine HL.na rfl ?_ | refine HL.nu rfl rfl ?_ | apply HC.block | apply HC.skip | apply HC.exit | apply HC.ret | apply HX.e_block | refine HX.e_other rfl ?_ | apply HX.e_then | apply HX.e_again | apply HX.n_block | apply HX.r_then | apply HX.r_block | apply HX.r_again | refine HC.cond_yes rfl ?_ | refine HC.cond_no rfl ?_ | refine HL.one (H1.ldb rfl memA rfl rfl ?_) | refine HC.cond rfl (fun hc => ?_) (fun hc => ?_) | refine HC.cond_b rfl (fun hc => ?_) (fun hc => ?_))
  refine HL.one (H1.lit (cs := ints [1, 2]) rfl rfl rfl rfl rfl rfl (fun by1 => ?_))
  repeat' (first | apply HL.fold | apply HA.fold | apply HL.nil | apply HX.n_then | apply HC.seq | apply HC.region | refine HL.pa ?_ | refine HL.ga rfl ?_ | refine HL.na rfl ?_ | refine HL.nu rfl rfl ?_ | apply HC.block | apply HC.skip | apply HC.exit | apply HC.ret | apply HX.e_block | refine HX.e_other rfl ?_ | apply HX.e_then | apply HX.e_again | apply HX.n_block | apply HX.r_then | apply HX.r_block | apply HX.r_again | refine HC.cond_yes rfl ?_ | refine HC.cond_no rfl ?_ | refine HL.one (H1.ldb rfl memA rfl rfl ?_) | refine HC.cond rfl (fun hc => ?_) (fun hc => ?_) | refine HC.cond_b rfl (fun hc => ?_) (fun hc => ?_))
  refine HL.build (cs := [.int .i64 3, .int .i64 6, .slice (some ⟨by1, 0, none⟩) 2 2, .int .i64 1, .int .i64 2]) rfl rfl rfl ?_
  repeat' (first | apply HL.fold | apply HA.fold | apply HL.nil | apply HX.n_then | apply HC.seq | apply HC.region | refine HL.pa ?_ | refine HL.ga rfl ?_ | refine HL.na rfl ?_ | refine HL.nu rfl rfl ?_ | apply HC.block | apply HC.skip | apply HC.exit | apply HC.ret | apply HX.e_block | refine HX.e_other rfl ?_ | apply HX.e_then | apply HX.e_again | apply HX.n_block | apply HX.r_then | apply HX.r_block | apply HX.r_again | refine HC.cond_yes rfl ?_ | refine HC.cond_no rfl ?_ | refine HL.one (H1.ldb rfl memA rfl rfl ?_) | refine HC.cond rfl (fun hc => ?_) (fun hc => ?_) | refine HC.cond_b rfl (fun hc => ?_) (fun hc => ?_))
  refine HL.one (H1.lit (cs := [.int .i64 0, .int .i64 5, .slice (some ⟨bx1, 0, none⟩) 2 2, .int .i64 0, .int .i64 1] ++ [.int .i64 3, .int .i64 6, .slice (some ⟨by1, 0, none⟩) 2 2, .int .i64 1, .int .i64 2]) rfl rfl rfl rfl rfl rfl (fun bz1 => ?_))
  repeat' (first | apply HL.fold | apply HA.fold | apply HL.nil | apply HX.n_then | apply HC.seq | apply HC.region | refine HL.pa ?_ | refine HL.ga rfl ?_ | refine HL.na rfl ?_ | refine HL.nu rfl rfl ?_ | apply HC.block | apply HC.skip | apply HC.exit | apply HC.ret | apply HX.e_block | refine HX.e_other rfl ?_ | apply HX.e_then | apply HX.e_again | apply HX.n_block | apply HX.r_then | apply HX.r_block | apply HX.r_again | refine HC.cond_yes rfl ?_ | refine HC.cond_no rfl ?_ | refine HL.one (H1.ldb rfl memA rfl rfl ?_) | refine HC.cond rfl (fun hc => ?_) (fun hc => ?_) | refine HC.cond_b rfl (fun hc => ?_) (fun hc => ?_))
  refine HL.one (H1.lit (cs := ints [1, 2]) rfl rfl rfl rfl rfl rfl (fun bx2 => ?_))
  repeat' (first | apply HL.fold | apply HA.fold | apply HL.nil | apply HX.n_then | apply HC.seq | apply HC.region | refine HL.pa ?_ | refine HL.ga rfl ?_ | refine HL.na rfl ?_ | refine HL.nu rfl rfl ?_ | apply HC.block | apply HC.skip | apply HC.exit | apply HC.ret | apply HX.e_block | refine HX.e_other rfl ?_ | apply HX.e_then | apply HX.e_again | apply HX.n_block | apply HX.r_then | apply HX.r_block | apply HX.r_again | refine HC.cond_yes rfl ?_ | refine HC.cond_no rfl ?_ | refine HL.one (H1.ldb rfl memA rfl rfl ?_) | refine HC.cond rfl (fun hc => ?_) (fun hc => ?_) | refine HC.cond_b rfl (fun hc => ?_) (fun hc => ?_))
  refine HL.build (cs := [.int .i64 0, .int .i64 5, .slice (some ⟨bx2, 0, none⟩) 2 2, .int .i64 0, .int .i64 1]) rfl rfl rfl ?_
  repeat' (first | apply HL.fold | apply HA.fold | apply HL.nil | apply HX.n_then | apply HC.seq | apply HC.region | refine HL.pa ?_ | refine HL.ga rfl ?_ | refine HL.na rfl ?_ | refine HL.nu rfl rfl ?_ | apply HC.block | apply HC.skip | apply HC.exit | apply HC.ret | apply HX.e_block | refine HX.e_other rfl ?_ | apply HX.e_then | apply HX.e_again | apply HX.n_block | apply HX.r_then | apply HX.r_block | apply HX.r_again | refine HC.cond_yes rfl ?_ | refine HC.cond_no rfl ?_ | refine HL.one (H1.ldb rfl memA rfl rfl ?_) | refine HC.cond rfl (fun hc => ?_) (fun hc => ?_) | refine HC.cond_b rfl (fun hc => ?_) (fun hc => ?_))
  refine HL.one (H1.lit (cs := ints [1, 4]) rfl rfl rfl rfl rfl rfl (fun by2 => ?_))
  repeat' (first | apply HL.fold | apply HA.fold | apply HL.nil | apply HX.n_then | apply HC.seq | apply HC.region | refine HL.pa ?_ | refine HL.ga rfl ?_ | refine HL.na rfl ?_ | refine HL.nu rfl rfl ?_ | apply HC.block | apply HC.skip | apply HC.exit | apply HC.ret | apply HX.e_block | refine HX.e_other rfl ?_ | apply HX.e_then | apply HX.e_again | apply HX.n_block | apply HX.r_then | apply HX.r_block | apply HX.r_again | refine HC.cond_yes rfl ?_ | refine HC.cond_no rfl ?_ | refine HL.one (H1.ldb rfl memA rfl rfl ?_) | refine HC.cond rfl (fun hc => ?_) (fun hc => ?_) | refine HC.cond_b rfl (fun hc => ?_) (fun hc => ?_))
  refine HL.build (cs := [.int .i64 3, .int .i64 6, .slice (some ⟨by2, 0, none⟩) 2 2, .int .i64 0, .int .i64 1]) rfl rfl rfl ?_
  repeat' (first | apply HL.fold | apply HA.fold | apply HL.nil | apply HX.n_then | apply HC.seq | apply HC.region | refine HL.pa ?_ | refine HL.ga rfl ?_ | refine HL.na rfl ?_ | refine HL.nu rfl rfl ?_ | apply HC.block | apply HC.skip | apply HC.exit | apply HC.ret | apply HX.e_block | refine HX.e_other rfl ?_ | apply HX.e_then | apply HX.e_again | apply HX.n_block | apply HX.r_then | apply HX.r_block | apply HX.r_again | refine HC.cond_yes rfl ?_ | refine HC.cond_no rfl ?_ | refine HL.one (H1.ldb rfl memA rfl rfl ?_) | refine HC.cond rfl (fun hc => ?_) (fun hc => ?_) | refine HC.cond_b rfl (fun hc => ?_) (fun hc => ?_))
  refine HL.one (H1.lit (cs := [.int .i64 0, .int .i64 5, .slice (some ⟨bx2, 0, none⟩) 2 2, .int .i64 0, .int .i64 1] ++ [.int .i64 3, .int .i64 6, .slice (some ⟨by2, 0, none⟩) 2 2, .int .i64 0, .int .i64 1]) rfl rfl rfl rfl rfl rfl (fun bz2 => ?_))
  repeat' (first | apply HL.fold | apply HA.fold | apply HL.nil | apply HX.n_then | apply HC.seq | apply HC.region | refine HL.pa ?_ | refine HL.ga rfl ?_ | refine HL.na rfl ?_ | refine HL.nu rfl rfl ?_ | apply HC.block | apply HC.skip | apply HC.exit | apply HC.ret | apply HX.e_block | refine HX.e_other rfl ?_ | apply HX.e_then | apply HX.e_again | apply HX.n_block | apply HX.r_then | apply HX.r_block | apply HX.r_again | refine HC.cond_yes rfl ?_ | refine HC.cond_no rfl ?_ | refine HL.one (H1.ldb rfl memA rfl rfl ?_) | refine HC.cond rfl (fun hc => ?_) (fun hc => ?_) | refine HC.cond_b rfl (fun hc => ?_) (fun hc => ?_))
  refine HL.one (H1.callz1 (An := fun z : Option Addr × Nat => A.grow 3 1 z.1 z.2 5 (ints [5, 1, 2, -1, 4])) (vs := [.slice (some ⟨bh, 0, none⟩) 5 5, .slice (some ⟨bl, 0, none⟩) 2 2, .slice a1 2 c1, .int .i64 1]) rfl rfl (fun w' hM => by
    have := after_fn (.slice (some ⟨bh, 0, none⟩) 5 5) (.slice (some ⟨bl, 0, none⟩) 2 2) (.slice a1 2 c1) sH sL sOne 1 (by decide) (by decide) (by decide) w' (blk_rd (l := sH) (hM.blk memD)) (blk_rd (l := sL) (hM.blk memD)) (hM.ts (l := sOne) (zs := z1) memD hz1)
    rw [sAfter1] at this
    exact this) ?_)
  rintro ⟨aAp, cAp⟩ -
  dsimp only
  repeat' (first | apply HL.fold | apply HA.fold | apply HL.nil | apply HX.n_then | apply HC.seq | apply HC.region | refine HL.pa ?_ | refine HL.ga rfl ?_ | refine HL.na rfl ?_ | refine HL.nu rfl rfl ?_ | apply HC.block | apply HC.skip | apply HC.exit | apply HC.ret | apply HX.e_block | refine HX.e_other rfl ?_ | apply HX.e_then | apply HX.e_again | apply HX.n_block | apply HX.r_then | apply HX.r_block | apply HX.r_again | refine HC.cond_yes rfl ?_ | refine HC.cond_no rfl ?_ | refine HL.one (H1.ldb rfl memA rfl rfl ?_) | refine HC.cond rfl (fun hc => ?_) (fun hc => ?_) | refine HC.cond_b rfl (fun hc => ?_) (fun hc => ?_))
  refine HL.one (H1.lit (cs := ints [5, 1, 2, -1, 4]) rfl rfl rfl rfl rfl rfl (fun bAp => ?_))
  repeat' (first | apply HL.fold | apply HA.fold | apply HL.nil | apply HX.n_then | apply HC.seq | apply HC.region | refine HL.pa ?_ | refine HL.ga rfl ?_ | refine HL.na rfl ?_ | refine HL.nu rfl rfl ?_ | apply HC.block | apply HC.skip | apply HC.exit | apply HC.ret | apply HX.e_block | refine HX.e_other rfl ?_ | apply HX.e_then | apply HX.e_again | apply HX.n_block | apply HX.r_then | apply HX.r_block | apply HX.r_again | refine HC.cond_yes rfl ?_ | refine HC.cond_no rfl ?_ | refine HL.one (H1.ldb rfl memA rfl rfl ?_) | refine HC.cond rfl (fun hc => ?_) (fun hc => ?_) | refine HC.cond_b rfl (fun hc => ?_) (fun hc => ?_))
  refine HL.one (H1.callx (vs := [.slice aAp 5 cAp, .slice (some ⟨bAp, 0, none⟩) 5 5]) rfl rfl (fun w' hM => same_fn _ _ [5, 1, 2, -1, 4] [5, 1, 2, -1, 4] (by decide) (by decide) w' (hM.gr (e := 3) (n := 5) memD) (blk_rd (hM.blk memD))) ?_)
  rw [decide_eq_true rfl]
  repeat' (first | apply HL.fold | apply HA.fold | apply HL.nil | apply HX.n_then | apply HC.seq | apply HC.region | refine HL.pa ?_ | refine HL.ga rfl ?_ | refine HL.na rfl ?_ | refine HL.nu rfl rfl ?_ | apply HC.block | apply HC.skip | apply HC.exit | apply HC.ret | apply HX.e_block | refine HX.e_other rfl ?_ | apply HX.e_then | apply HX.e_again | apply HX.n_block | apply HX.r_then | apply HX.r_block | apply HX.r_again | refine HC.cond_yes rfl ?_ | refine HC.cond_no rfl ?_ | refine HL.one (H1.ldb rfl memA rfl rfl ?_) | refine HC.cond rfl (fun hc => ?_) (fun hc => ?_) | refine HC.cond_b rfl (fun hc => ?_) (fun hc => ?_))
  refine HL.one (H1.callz1 (An := fun z : Option Addr × Nat => A.grow 3 1 z.1 z.2 5 (ints [5, 1, 2, 6, 4])) (vs := [.slice (some ⟨bh, 0, none⟩) 5 5, .slice (some ⟨bl, 0, none⟩) 2 2, .slice a1 2 c1, .int .i64 2]) rfl rfl (fun w' hM => by
    have := after_fn (.slice (some ⟨bh, 0, none⟩) 5 5) (.slice (some ⟨bl, 0, none⟩) 2 2) (.slice a1 2 c1) sH sL sOne 2 (by decide) (by decide) (by decide) w' (blk_rd (l := sH) (hM.blk memD)) (blk_rd (l := sL) (hM.blk memD)) (hM.ts (l := sOne) (zs := z1) memD hz1)
    rw [sAfter2] at this
    exact this) ?_)
  rintro ⟨aAq, cAq⟩ -
  dsimp only
  repeat' (first | apply HL.fold | apply HA.fold | apply HL.nil | apply HX.n_then | apply HC.seq | apply HC.region | refine HL.pa ?_ | refine HL.ga rfl ?_ | refine HL.na rfl ?_ | refine HL.nu rfl rfl ?_ | apply HC.block | apply HC.skip | apply HC.exit | apply HC.ret | apply HX.e_block | refine HX.e_other rfl ?_ | apply HX.e_then | apply HX.e_again | apply HX.n_block | apply HX.r_then | apply HX.r_block | apply HX.r_again | refine HC.cond_yes rfl ?_ | refine HC.cond_no rfl ?_ | refine HL.one (H1.ldb rfl memA rfl rfl ?_) | refine HC.cond rfl (fun hc => ?_) (fun hc => ?_) | refine HC.cond_b rfl (fun hc => ?_) (fun hc => ?_))
  refine HL.one (H1.lit (cs := ints [5, 1, 2, 6, 4]) rfl rfl rfl rfl rfl rfl (fun bAq => ?_))
  repeat' (first | apply HL.fold | apply HA.fold | apply HL.nil | apply HX.n_then | apply HC.seq | apply HC.region | refine HL.pa ?_ | refine HL.ga rfl ?_ | refine HL.na rfl ?_ | refine HL.nu rfl rfl ?_ | apply HC.block | apply HC.skip | apply HC.exit | apply HC.ret | apply HX.e_block | refine HX.e_other rfl ?_ | apply HX.e_then | apply HX.e_again | apply HX.n_block | apply HX.r_then | apply HX.r_block | apply HX.r_again | refine HC.cond_yes rfl ?_ | refine HC.cond_no rfl ?_ | refine HL.one (H1.ldb rfl memA rfl rfl ?_) | refine HC.cond rfl (fun hc => ?_) (fun hc => ?_) | refine HC.cond_b rfl (fun hc => ?_) (fun hc => ?_))
  refine HL.one (H1.callx (vs := [.slice aAq 5 cAq, .slice (some ⟨bAq, 0, none⟩) 5 5]) rfl rfl (fun w' hM => same_fn _ _ [5, 1, 2, 6, 4] [5, 1, 2, 6, 4] (by decide) (by decide) w' (hM.gr (e := 3) (n := 5) memD) (blk_rd (hM.blk memD))) ?_)
  rw [decide_eq_true rfl]
  repeat' (first | apply HL.fold | apply HA.fold | apply HL.nil | apply HX.n_then | apply HC.seq | apply HC.region | refine HL.pa ?_ | refine HL.ga rfl ?_ | refine HL.na rfl ?_ | refine HL.nu rfl rfl ?_ | apply HC.block | apply HC.skip | apply HC.exit | apply HC.ret | apply HX.e_block | refine HX.e_other rfl ?_ | apply HX.e_then | apply HX.e_again | apply HX.n_block | apply HX.r_then | apply HX.r_block | apply HX.r_again | refine HC.cond_yes rfl ?_ | refine HC.cond_no rfl ?_ | refine HL.one (H1.ldb rfl memA rfl rfl ?_) | refine HC.cond rfl (fun hc => ?_) (fun hc => ?_) | refine HC.cond_b rfl (fun hc => ?_) (fun hc => ?_))
  refine HL.one (H1.callx (vs := [.slice a1 sOne.length c1, .slice (some ⟨bz1, 0, none⟩) 2 2]) rfl rfl (fun w' hM => sameList_fn _ _ sOne sOne (by decide) (by decide) (by decide) (by decide) w' (hM.ts (l := sOne) (zs := z1) memD hz1) (two_rd (t0 := ⟨0, 5, [1, 2], 0, 1⟩) (t1 := ⟨3, 6, [1, 2], 1, 2⟩) (hM.blk memD) (blk_rd (l := [1, 2]) (hM.blk memD)) (blk_rd (l := [1, 2]) (hM.blk memD)))) ?_)
  rw [decide_eq_true rfl]
  repeat' (first | apply HL.fold | apply HA.fold | apply HL.nil | apply HX.n_then | apply HC.seq | apply HC.region | refine HL.pa ?_ | refine HL.ga rfl ?_ | refine HL.na rfl ?_ | refine HL.nu rfl rfl ?_ | apply HC.block | apply HC.skip | apply HC.exit | apply HC.ret | apply HX.e_block | refine HX.e_other rfl ?_ | apply HX.e_then | apply HX.e_again | apply HX.n_block | apply HX.r_then | apply HX.r_block | apply HX.r_again | refine HC.cond_yes rfl ?_ | refine HC.cond_no rfl ?_ | refine HL.one (H1.ldb rfl memA rfl rfl ?_) | refine HC.cond rfl (fun hc => ?_) (fun hc => ?_) | refine HC.cond_b rfl (fun hc => ?_) (fun hc => ?_))
  refine HL.one (H1.callx (vs := [.slice a2 sTwo.length c2, .slice (some ⟨bz2, 0, none⟩) 2 2]) rfl rfl (fun w' hM => sameList_fn _ _ sTwo sTwo (by decide) (by decide) (by decide) (by decide) w' (hM.ts (l := sTwo) (zs := z2) memD hz2) (two_rd (t0 := ⟨0, 5, [1, 2], 0, 1⟩) (t1 := ⟨3, 6, [1, 4], 0, 1⟩) (hM.blk memD) (blk_rd (l := [1, 2]) (hM.blk memD)) (blk_rd (l := [1, 4]) (hM.blk memD)))) ?_)
  rw [decide_eq_true rfl]
  repeat' (first | apply HL.fold | apply HA.fold | apply HL.nil | apply HX.n_then | apply HC.seq | apply HC.region | refine HL.pa ?_ | refine HL.ga rfl ?_ | refine HL.na rfl ?_ | refine HL.nu rfl rfl ?_ | apply HC.block | apply HC.skip | apply HC.exit | apply HC.ret | apply HX.e_block | refine HX.e_other rfl ?_ | apply HX.e_then | apply HX.e_again | apply HX.n_block | apply HX.r_then | apply HX.r_block | apply HX.r_again | refine HC.cond_yes rfl ?_ | refine HC.cond_no rfl ?_ | refine HL.one (H1.ldb rfl memA rfl rfl ?_) | refine HC.cond rfl (fun hc => ?_) (fun hc => ?_) | refine HC.cond_b rfl (fun hc => ?_) (fun hc => ?_))
  refine HL.one (H1.callx (vs := [.slice (some ⟨bh, 0, none⟩) 5 5, .slice (some ⟨bl, 0, none⟩) 2 2, .int .i64 1, .int .i64 2, .int .i64 9, .slice a1 2 c1]) rfl rfl (fun w' hM => valid_fn _ _ _ sH sL 1 2 9 sOne (by decide) (by decide) (by decide) (by decide) w' (blk_rd (l := sH) (hM.blk memD)) (blk_rd (l := sL) (hM.blk memD)) (hM.ts (l := sOne) (zs := z1) memD hz1)) ?_)
  rw [sValid1]
  repeat' (first | apply HL.fold | apply HA.fold | apply HL.nil | apply HX.n_then | apply HC.seq | apply HC.region | refine HL.pa ?_ | refine HL.ga rfl ?_ | refine HL.na rfl ?_ | refine HL.nu rfl rfl ?_ | apply HC.block | apply HC.skip | apply HC.exit | apply HC.ret | apply HX.e_block | refine HX.e_other rfl ?_ | apply HX.e_then | apply HX.e_again | apply HX.n_block | apply HX.r_then | apply HX.r_block | apply HX.r_again | refine HC.cond_yes rfl ?_ | refine HC.cond_no rfl ?_ | refine HL.one (H1.ldb rfl memA rfl rfl ?_) | refine HC.cond rfl (fun hc => ?_) (fun hc => ?_) | refine HC.cond_b rfl (fun hc => ?_) (fun hc => ?_))
  refine HL.one (H1.callx (vs := [.slice (some ⟨bh, 0, none⟩) 5 5, .slice (some ⟨bl, 0, none⟩) 2 2, .int .i64 1, .int .i64 2, .int .i64 9, .slice a2 2 c2]) rfl rfl (fun w' hM => valid_fn _ _ _ sH sL 1 2 9 sTwo (by decide) (by decide) (by decide) (by decide) w' (blk_rd (l := sH) (hM.blk memD)) (blk_rd (l := sL) (hM.blk memD)) (hM.ts (l := sTwo) (zs := z2) memD hz2)) ?_)
  rw [sValid2]
  repeat' (first | apply HL.fold | apply HA.fold | apply HL.nil | apply HX.n_then | apply HC.seq | apply HC.region | refine HL.pa ?_ | refine HL.ga rfl ?_ | refine HL.na rfl ?_ | refine HL.nu rfl rfl ?_ | apply HC.block | apply HC.skip | apply HC.exit | apply HC.ret | apply HX.e_block | refine HX.e_other rfl ?_ | apply HX.e_then | apply HX.e_again | apply HX.n_block | apply HX.r_then | apply HX.r_block | apply HX.r_again | refine HC.cond_yes rfl ?_ | refine HC.cond_no rfl ?_ | refine HL.one (H1.ldb rfl memA rfl rfl ?_) | refine HC.cond rfl (fun hc => ?_) (fun hc => ?_) | refine HC.cond_b rfl (fun hc => ?_) (fun hc => ?_))
  refine HL.one (H1.callx (vs := [.slice (some ⟨bh, 0, none⟩) 5 5, .slice none 0 0, .int .i64 1, .int .i64 2, .int .i64 9, .slice none 0 0]) rfl rfl (fun w' hM => valid_fn _ _ _ sH [] 1 2 9 [] (by decide) (by decide) (by decide) (by decide) w' (blk_rd (l := sH) (hM.blk memD)) rd_none rdt_none) ?_)
  rw [sValid0]
  repeat' (first | apply HL.fold | apply HA.fold | apply HL.nil | apply HX.n_then | apply HC.seq | apply HC.region | refine HL.pa ?_ | refine HL.ga rfl ?_ | refine HL.na rfl ?_ | refine HL.nu rfl rfl ?_ | apply HC.block | apply HC.skip | apply HC.exit | apply HC.ret | apply HX.e_block | refine HX.e_other rfl ?_ | apply HX.e_then | apply HX.e_again | apply HX.n_block | apply HX.r_then | apply HX.r_block | apply HX.r_again | refine HC.cond_yes rfl ?_ | refine HC.cond_no rfl ?_ | refine HL.one (H1.ldb rfl memA rfl rfl ?_) | refine HC.cond rfl (fun hc => ?_) (fun hc => ?_) | refine HC.cond_b rfl (fun hc => ?_) (fun hc => ?_))
  exact HX.ret1 rfl rfl fun w' hM => ⟨rfl, hM.ext⟩
end Go.Sx

