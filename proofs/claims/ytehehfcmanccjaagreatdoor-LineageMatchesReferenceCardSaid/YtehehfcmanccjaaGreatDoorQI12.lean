/- Chapter 24: the reference's Valid: the walk. -/
import Derived.Test.YtehehfcmanccjaaGreatDoorQI11
namespace Go.Sx
open Go Go.Proofs Go.RowKit
structure PreV (l : List Nd) (i : Nat) : Prop where
 node : ∀ j, j < i → hasN (l.take j) (ndAt l j) = true
 asc : ∀ a b, a < b → b < i → (ndAt l a).id < (ndAt l b).id
theorem PreV.zero (l : List Nd) : PreV l 0 := ⟨fun j h => absurd h (Nat.not_lt_zero _), fun a b _ h => absurd h (Nat.not_lt_zero _)⟩
theorem PreV.next {l : List Nd} {i : Nat} (h : PreV l i) (h1 : HasP (l.take i) (ndAt l i)) (h2 : 0 < i → (ndAt l (i - 1)).id < (ndAt l i).id) : PreV l (i + 1) := by
 refine ⟨fun j hj => ?_, fun a b hab hb => ?_⟩
 ·by_cases e : j = i
  ·rw [e]; exact hasN_iff.2 h1
  ·exact h.node j (by omega)
 ·by_cases e : b = i
  ·rw [e]
   have h3 := h2 (by omega)
   by_cases e2 : a = i - 1
   ·rw [e2]; exact h3
   ·have := h.asc a (i - 1) (by omega) (by omega); omega
  ·exact h.asc a b hab (by omega)
theorem PreV.nodup {l : List Nd} {i : Nat} (h : PreV l i) (hi : i ≤ l.length) : (idsN (l.take i)).Nodup := by
 refine ascI_nodup (ascI_iff.2 fun a b hab hb => ?_)
 rw [List.length_take] at hb
 rw [ndAt_takeL (by omega), ndAt_takeL (by omega)]
 exact h.asc a b hab (by omega)
theorem PreV.pk {l : List Nd} {i j : Nat} (h : PreV l i) (hi : i ≤ l.length) (hj : j < i) : pkOf (l.take i) (ndAt l j).id = some (ndAt l j).pack := by
 refine pkOf_uniq (h.nodup hi) ?_
 rw [← ndAt_takeL hj]
 exact mem_nd.2 ⟨j, by rw [List.length_take]; omega, rfl⟩
theorem mem_getI2 {l : List Int} {x : Int} (h : x ∈ l) : ∃ k, k < l.length ∧ x = getI l k := by
 obtain ⟨k, hk, e⟩ := List.mem_iff_getElem.1 h
 exact ⟨k, hk, by rw [← e]; unfold getI; simp [hk]⟩
theorem asc_adj {l : List Int} (h : ∀ k, 0 < k → k < l.length → getI l (k - 1) < getI l k) : AscI l := by
 have h1 : ∀ n, n ≤ l.length → AscI (l.take n) := by
  intro n
  induction n with
  | zero => intro _; exact List.Pairwise.nil
  | succ n ih =>
   intro hn
   cases n with
   | zero =>
    cases l with
    | nil => exact List.Pairwise.nil
    | cons x l => exact List.pairwise_singleton _ _
   | succ n => exact (ascI_step (by omega)).2 ⟨ih (by omega), h (n + 1) (by omega) (by omega)⟩
 have := h1 l.length (Nat.le_refl _)
 rwa [List.take_length] at this
attribute [local irreducible] WC WL WX POp Then Again Fn NX W1 WA WO QL RP RA Yld LoopAt HC HL HX HN H1 HA HO HQ HB HP A.blk A.grow A.rd A.obj A.mp AgainH CutH
attribute [local irreducible] A.mq A.mit A.all
set_option maxHeartbeats 4000000 in
theorem valid24ref_fn {v : Value} {l : List Nd} {U : Nat → Value} (hl : l.length ≤ 400000) (hs : ∀ i, i < l.length → (ndAt l i).src.length ≤ 1000000) (w : World) (hR : RdN w v l U) :
  Fn Tryz.prog 27 #[v] w fun u w' => u = .bool (validN l) ∧ Ext w w' := by
 obtain ⟨a, c, rfl, hc, -⟩ := id hR.shape
 refine enterH (l := [_]) rfl Tryz.ntmps27 rfl ?_
 by_cases h4 : (400 : Int) < (l.length : Int)
 ·have hno : validN l = false := by
   rw [← Bool.not_eq_true, validN_iff]; intro h; have := h.len; omega
  refine hwNB ?_
  exact HX.ret1 rfl rfl fun w' hM => ⟨by rw [hno], hM.ext⟩
 refine hwNB ?_
 refine HC.loop (α := Nat) (fun i => [(0, .slice a l.length c), (3, zv (i : Int))]) (fun _ => []) (fun i => i ≤ l.length ∧ PreV l i) (fun i => l.length - i) 0 ⟨Nat.zero_le _, PreV.zero l⟩ esA (Hs.refl _) ?_
 rintro i ⟨hi, hI⟩
 by_cases hlt : i < l.length
 rotate_left
 ·have hn : ¬ ((i : Nat) : Int) < (l.length : Int) := by omega
  have e : i = l.length := by omega
  rw [e] at hI
  have hyes : validN l = true := validN_iff.2 ⟨by omega, hI.asc, hI.node⟩
  refine hwNB ?_
  exact HX.ret1 rfl rfl fun w' hM => ⟨by rw [hyes], hM.ext⟩
 have hn : ((i : Nat) : Int) < (l.length : Int) := by omega
 obtain ⟨b0, off0, rfl, hb⟩ := hR.cell hlt
 obtain ⟨asr, cs, hU, hcs⟩ := (hR.src i hlt).isInts
 have hsr := hR.src i hlt
 have hsl := hs i hlt
 have hcell := hb i hlt
 rw [hU] at hsr hcell
 have hprev := fun (h : 0 < i) => hb (i - 1) (by omega) 0 (zv (ndAt l (i - 1)).id) rfl
 have hbad0 : ¬ (HasP (l.take i) (ndAt l i) ∧ (0 < i → (ndAt l (i - 1)).id < (ndAt l i).id)) → validN l = false := fun h => by
  rw [← Bool.not_eq_true, validN_iff]; intro hv
  exact h ⟨hasN_iff.1 (hv.node i hlt), fun h => hv.asc (i - 1) i (by omega) hlt⟩
 have hnext := hI.next
 generalize hN : ndAt l i = nd at hsr hsl hcell hbad0 hnext
 obtain ⟨idn, kn, pn, src⟩ := nd
 dsimp only at hsr hsl hcell hbad0 hnext
 obtain ⟨m, hm⟩ : ∃ m, m = src.length := ⟨_, rfl⟩
 rw [← hm] at hsr hsl hcell
 generalize (ndAt l (i - 1)).id = idp at hprev hbad0 hnext
 refine hwNB ?_
 refine HL.one (H1.ldAggw (vs := ndC ⟨idn, kn, pn, src⟩ (.slice asr m cs)) rfl rfl (fun w' hM j u hu => cell_ext hM.ext (hcell j u hu)) rfl ?_)
 refine hwNB ?_
 refine HL.one (H1.alloc (cs := [zv 0, zv 0, zv 0, .slice none 0 0]) rfl rfl (fun b4 => ?_))
 refine hwNB ?_
 refine HL.one (H1.stAgg (b := b4) (cs := [zv 0, zv 0, zv 0, .slice none 0 0]) (vs := [zv idn, zv kn, zv pn, .slice asr m cs]) rfl rfl rfl (by intro v hv; simp only [List.mem_cons, List.not_mem_nil, or_false] at hv; rcases hv with rfl | rfl | rfl | rfl <;> rfl) rplA rfl ?_)
 refine hwNB ?_
 have hbad : ¬ (idOk idn ∧ idOk pn ∧ 1 ≤ kn ∧ kn ≤ 5 ∧ (0 < i → idp < idn) ∧ m ≤ 8) → validN l = false := fun h => hbad0 fun ⟨h1, h2⟩ => h ⟨h1.id, h1.pack, h1.kind1, h1.kind5, h2, by rw [hm]; exact h1.len⟩
 refine HC.cut (α := Bool) (fun x => [(0, .slice (some ⟨b0, off0, none⟩) l.length c), (3, zv (i : Int)), (4, .pointer (some ⟨b4, 0, none⟩)), (61, .bool x)]) (fun _ => [A.blk b4 [zv idn, zv kn, zv pn, .slice asr m cs] 31]) (fun x => (x = true → validN l = false) ∧ (x = false → idOk idn ∧ idOk pn ∧ 1 ≤ kn ∧ kn ≤ 5 ∧ (0 < i → idp < idn) ∧ m ≤ 8)) ?_ ?_
 ·by_cases q1 : idOk idn
  rotate_left
  ·refine HC.anyC ([(⟨b4, 0, none⟩, zv idn), (⟨b4, 1, none⟩, zv kn), (⟨b4, 2, none⟩, zv pn), (⟨b4, 3, none⟩, .slice asr m cs)]) rfl ?_
   refine HB.pa 0 rfl ?_
   refine HB.ld 1 rfl rfl memD ?_
   refine HB.all keepA [2] (by kernel_rfl) rfl ⟨⟨_, rfl, ?_⟩, trivial⟩
   refine HP.one ?_
   refine H1.callx (u := .bool false) (vs := [_]) rfl rfl (fun w' hM => by
   have h := id24_fn idn w'
   rw [decide_eq_false q1] at h; exact h) ?_
   apply HB.fold
   refine HB.pa 3 rfl ?_
   refine HB.pa 4 rfl ?_
   first | refine HB.ga 5 rfl rfl ?_ | refine HB.na 5 rfl rfl ?_ | refine HB.nu 5 rfl rfl ?_
   first | refine HB.ga 6 rfl rfl ?_ | refine HB.na 6 rfl rfl ?_ | refine HB.nu 6 rfl rfl ?_
   refine HB.all keepA [7] (by kernel_rfl) rfl ⟨⟨_, rfl, ?_⟩, trivial⟩
   refine HP.drop_a rfl ?_
   first | refine HB.ga 8 rfl rfl ?_ | refine HB.na 8 rfl rfl ?_ | refine HB.nu 8 rfl rfl ?_
   refine HB.pa 9 rfl ?_
   refine HB.pa 10 rfl ?_
   first | refine HB.ga 11 rfl rfl ?_ | refine HB.na 11 rfl rfl ?_ | refine HB.nu 11 rfl rfl ?_
   first | refine HB.ga 12 rfl rfl ?_ | refine HB.na 12 rfl rfl ?_ | refine HB.nu 12 rfl rfl ?_
   first | refine HB.ga 13 rfl rfl ?_ | refine HB.na 13 rfl rfl ?_ | refine HB.nu 13 rfl rfl ?_
   refine HB.pa 14 rfl ?_
   refine HB.pa 15 rfl ?_
   first | refine HB.ga 16 rfl rfl ?_ | refine HB.na 16 rfl rfl ?_ | refine HB.nu 16 rfl rfl ?_
   first | refine HB.ga 17 rfl rfl ?_ | refine HB.na 17 rfl rfl ?_ | refine HB.nu 17 rfl rfl ?_
   first | refine HB.ga 18 rfl rfl ?_ | refine HB.na 18 rfl rfl ?_ | refine HB.nu 18 rfl rfl ?_
   refine HB.pa 19 rfl ?_
   refine HB.pa 20 rfl ?_
   first | refine HB.ga 21 rfl rfl ?_ | refine HB.na 21 rfl rfl ?_ | refine HB.nu 21 rfl rfl ?_
   first | refine HB.ga 22 rfl rfl ?_ | refine HB.na 22 rfl rfl ?_ | refine HB.nu 22 rfl rfl ?_
   first | refine HB.ga 23 rfl rfl ?_ | refine HB.na 23 rfl rfl ?_ | refine HB.nu 23 rfl rfl ?_
   first | refine HB.ga 24 rfl rfl ?_ | refine HB.na 24 rfl rfl ?_ | refine HB.nu 24 rfl rfl ?_
   first | refine HB.ga 25 rfl rfl ?_ | refine HB.na 25 rfl rfl ?_ | refine HB.nu 25 rfl rfl ?_
   first | refine HB.ga 26 rfl rfl ?_ | refine HB.na 26 rfl rfl ?_ | refine HB.nu 26 rfl rfl ?_
   first | refine HB.ga 27 rfl rfl ?_ | refine HB.na 27 rfl rfl ?_ | refine HB.nu 27 rfl rfl ?_
   first | refine HB.ga 28 rfl rfl ?_ | refine HB.na 28 rfl rfl ?_ | refine HB.nu 28 rfl rfl ?_
   first | refine HB.ga 29 rfl rfl ?_ | refine HB.na 29 rfl rfl ?_ | refine HB.nu 29 rfl rfl ?_
   first | refine HB.ga 30 rfl rfl ?_ | refine HB.na 30 rfl rfl ?_ | refine HB.nu 30 rfl rfl ?_
   first | refine HB.ga 31 rfl rfl ?_ | refine HB.na 31 rfl rfl ?_ | refine HB.nu 31 rfl rfl ?_
   first | refine HB.ga 32 rfl rfl ?_ | refine HB.na 32 rfl rfl ?_ | refine HB.nu 32 rfl rfl ?_
   first | refine HB.ga 33 rfl rfl ?_ | refine HB.na 33 rfl rfl ?_ | refine HB.nu 33 rfl rfl ?_
   refine HB.pa 34 rfl ?_
   refine HB.pa 35 rfl ?_
   first | refine HB.ga 36 rfl rfl ?_ | refine HB.na 36 rfl rfl ?_ | refine HB.nu 36 rfl rfl ?_
   first | refine HB.ga 37 rfl rfl ?_ | refine HB.na 37 rfl rfl ?_ | refine HB.nu 37 rfl rfl ?_
   first | refine HB.ga 38 rfl rfl ?_ | refine HB.na 38 rfl rfl ?_ | refine HB.nu 38 rfl rfl ?_
   first | refine HB.ga 39 rfl rfl ?_ | refine HB.na 39 rfl rfl ?_ | refine HB.nu 39 rfl rfl ?_
   refine HB.pa 40 rfl ?_
   refine HB.done keepA (by kernel_rfl) ?_
   exact HX.cut true ⟨fun _ => hbad (fun h => q1 h.1), fun h => (Bool.noConfusion h)⟩ esA (by repeat (first | exact Hs.nil _ | (refine Hs.cons pickA ?_)))
  by_cases q2 : idOk pn
  rotate_left
  ·refine HC.anyC ([(⟨b4, 0, none⟩, zv idn), (⟨b4, 1, none⟩, zv kn), (⟨b4, 2, none⟩, zv pn), (⟨b4, 3, none⟩, .slice asr m cs)]) rfl ?_
   refine HB.pa 0 rfl ?_
   refine HB.ld 1 rfl rfl memD ?_
   refine HB.all keepA [2] (by kernel_rfl) rfl ⟨⟨_, rfl, ?_⟩, trivial⟩
   refine HP.one ?_
   refine H1.callx (u := .bool true) (vs := [_]) rfl rfl (fun w' hM => by
   have h := id24_fn idn w'
   rw [decide_eq_true q1] at h; exact h) ?_
   apply HB.fold
   refine HB.pa 3 rfl ?_
   refine HB.pa 4 rfl ?_
   first | refine HB.ga 5 rfl rfl ?_ | refine HB.na 5 rfl rfl ?_ | refine HB.nu 5 rfl rfl ?_
   refine HB.ldg 6 rfl rfl rfl memD ?_
   refine HB.all keepA [7] (by kernel_rfl) rfl ⟨⟨_, rfl, ?_⟩, trivial⟩
   refine HP.one_a rfl ?_
   refine H1.callx (u := .bool false) (vs := [_]) rfl rfl (fun w' hM => by
   have h := id24_fn pn w'
   rw [decide_eq_false q2] at h; exact h) ?_
   apply HB.fold
   first | refine HB.ga 8 rfl rfl ?_ | refine HB.na 8 rfl rfl ?_ | refine HB.nu 8 rfl rfl ?_
   refine HB.pa 9 rfl ?_
   refine HB.pa 10 rfl ?_
   first | refine HB.ga 11 rfl rfl ?_ | refine HB.na 11 rfl rfl ?_ | refine HB.nu 11 rfl rfl ?_
   first | refine HB.ga 12 rfl rfl ?_ | refine HB.na 12 rfl rfl ?_ | refine HB.nu 12 rfl rfl ?_
   first | refine HB.ga 13 rfl rfl ?_ | refine HB.na 13 rfl rfl ?_ | refine HB.nu 13 rfl rfl ?_
   refine HB.pa 14 rfl ?_
   refine HB.pa 15 rfl ?_
   first | refine HB.ga 16 rfl rfl ?_ | refine HB.na 16 rfl rfl ?_ | refine HB.nu 16 rfl rfl ?_
   first | refine HB.ga 17 rfl rfl ?_ | refine HB.na 17 rfl rfl ?_ | refine HB.nu 17 rfl rfl ?_
   first | refine HB.ga 18 rfl rfl ?_ | refine HB.na 18 rfl rfl ?_ | refine HB.nu 18 rfl rfl ?_
   refine HB.pa 19 rfl ?_
   refine HB.pa 20 rfl ?_
   first | refine HB.ga 21 rfl rfl ?_ | refine HB.na 21 rfl rfl ?_ | refine HB.nu 21 rfl rfl ?_
   first | refine HB.ga 22 rfl rfl ?_ | refine HB.na 22 rfl rfl ?_ | refine HB.nu 22 rfl rfl ?_
   first | refine HB.ga 23 rfl rfl ?_ | refine HB.na 23 rfl rfl ?_ | refine HB.nu 23 rfl rfl ?_
   first | refine HB.ga 24 rfl rfl ?_ | refine HB.na 24 rfl rfl ?_ | refine HB.nu 24 rfl rfl ?_
   first | refine HB.ga 25 rfl rfl ?_ | refine HB.na 25 rfl rfl ?_ | refine HB.nu 25 rfl rfl ?_
   first | refine HB.ga 26 rfl rfl ?_ | refine HB.na 26 rfl rfl ?_ | refine HB.nu 26 rfl rfl ?_
   first | refine HB.ga 27 rfl rfl ?_ | refine HB.na 27 rfl rfl ?_ | refine HB.nu 27 rfl rfl ?_
   first | refine HB.ga 28 rfl rfl ?_ | refine HB.na 28 rfl rfl ?_ | refine HB.nu 28 rfl rfl ?_
   first | refine HB.ga 29 rfl rfl ?_ | refine HB.na 29 rfl rfl ?_ | refine HB.nu 29 rfl rfl ?_
   first | refine HB.ga 30 rfl rfl ?_ | refine HB.na 30 rfl rfl ?_ | refine HB.nu 30 rfl rfl ?_
   first | refine HB.ga 31 rfl rfl ?_ | refine HB.na 31 rfl rfl ?_ | refine HB.nu 31 rfl rfl ?_
   first | refine HB.ga 32 rfl rfl ?_ | refine HB.na 32 rfl rfl ?_ | refine HB.nu 32 rfl rfl ?_
   first | refine HB.ga 33 rfl rfl ?_ | refine HB.na 33 rfl rfl ?_ | refine HB.nu 33 rfl rfl ?_
   refine HB.pa 34 rfl ?_
   refine HB.pa 35 rfl ?_
   first | refine HB.ga 36 rfl rfl ?_ | refine HB.na 36 rfl rfl ?_ | refine HB.nu 36 rfl rfl ?_
   first | refine HB.ga 37 rfl rfl ?_ | refine HB.na 37 rfl rfl ?_ | refine HB.nu 37 rfl rfl ?_
   first | refine HB.ga 38 rfl rfl ?_ | refine HB.na 38 rfl rfl ?_ | refine HB.nu 38 rfl rfl ?_
   first | refine HB.ga 39 rfl rfl ?_ | refine HB.na 39 rfl rfl ?_ | refine HB.nu 39 rfl rfl ?_
   refine HB.pa 40 rfl ?_
   refine HB.done keepA (by kernel_rfl) ?_
   exact HX.cut true ⟨fun _ => hbad (fun h => q2 h.2.1), fun h => (Bool.noConfusion h)⟩ esA (by repeat (first | exact Hs.nil _ | (refine Hs.cons pickA ?_)))
  by_cases q3 : kn < 1
  ·refine HC.anyC ([(⟨b4, 0, none⟩, zv idn), (⟨b4, 1, none⟩, zv kn), (⟨b4, 2, none⟩, zv pn), (⟨b4, 3, none⟩, .slice asr m cs)]) rfl ?_
   refine HB.pa 0 rfl ?_
   refine HB.ld 1 rfl rfl memD ?_
   refine HB.all keepA [2] (by kernel_rfl) rfl ⟨⟨_, rfl, ?_⟩, trivial⟩
   refine HP.one ?_
   refine H1.callx (u := .bool true) (vs := [_]) rfl rfl (fun w' hM => by
   have h := id24_fn idn w'
   rw [decide_eq_true q1] at h; exact h) ?_
   apply HB.fold
   refine HB.pa 3 rfl ?_
   refine HB.pa 4 rfl ?_
   first | refine HB.ga 5 rfl rfl ?_ | refine HB.na 5 rfl rfl ?_ | refine HB.nu 5 rfl rfl ?_
   refine HB.ldg 6 rfl rfl rfl memD ?_
   refine HB.all keepA [7] (by kernel_rfl) rfl ⟨⟨_, rfl, ?_⟩, trivial⟩
   refine HP.one_a rfl ?_
   refine H1.callx (u := .bool true) (vs := [_]) rfl rfl (fun w' hM => by
   have h := id24_fn pn w'
   rw [decide_eq_true q2] at h; exact h) ?_
   apply HB.fold
   first | refine HB.ga 8 rfl rfl ?_ | refine HB.na 8 rfl rfl ?_ | refine HB.nu 8 rfl rfl ?_
   refine HB.pa 9 rfl ?_
   refine HB.pa 10 rfl ?_
   first | refine HB.ga 11 rfl rfl ?_ | refine HB.na 11 rfl rfl ?_ | refine HB.nu 11 rfl rfl ?_
   refine HB.ldg 12 rfl rfl rfl memD ?_
   first | refine HB.ga 13 rfl rfl ?_ | refine HB.na 13 rfl rfl ?_ | refine HB.nu 13 rfl rfl ?_
   refine HB.pa 14 rfl ?_
   refine HB.pa 15 rfl ?_
   first | refine HB.ga 16 rfl rfl ?_ | refine HB.na 16 rfl rfl ?_ | refine HB.nu 16 rfl rfl ?_
   first | refine HB.ga 17 rfl rfl ?_ | refine HB.na 17 rfl rfl ?_ | refine HB.nu 17 rfl rfl ?_
   first | refine HB.ga 18 rfl rfl ?_ | refine HB.na 18 rfl rfl ?_ | refine HB.nu 18 rfl rfl ?_
   refine HB.pa 19 rfl ?_
   refine HB.pa 20 rfl ?_
   first | refine HB.ga 21 rfl rfl ?_ | refine HB.na 21 rfl rfl ?_ | refine HB.nu 21 rfl rfl ?_
   first | refine HB.ga 22 rfl rfl ?_ | refine HB.na 22 rfl rfl ?_ | refine HB.nu 22 rfl rfl ?_
   first | refine HB.ga 23 rfl rfl ?_ | refine HB.na 23 rfl rfl ?_ | refine HB.nu 23 rfl rfl ?_
   first | refine HB.ga 24 rfl rfl ?_ | refine HB.na 24 rfl rfl ?_ | refine HB.nu 24 rfl rfl ?_
   first | refine HB.ga 25 rfl rfl ?_ | refine HB.na 25 rfl rfl ?_ | refine HB.nu 25 rfl rfl ?_
   first | refine HB.ga 26 rfl rfl ?_ | refine HB.na 26 rfl rfl ?_ | refine HB.nu 26 rfl rfl ?_
   first | refine HB.ga 27 rfl rfl ?_ | refine HB.na 27 rfl rfl ?_ | refine HB.nu 27 rfl rfl ?_
   first | refine HB.ga 28 rfl rfl ?_ | refine HB.na 28 rfl rfl ?_ | refine HB.nu 28 rfl rfl ?_
   first | refine HB.ga 29 rfl rfl ?_ | refine HB.na 29 rfl rfl ?_ | refine HB.nu 29 rfl rfl ?_
   first | refine HB.ga 30 rfl rfl ?_ | refine HB.na 30 rfl rfl ?_ | refine HB.nu 30 rfl rfl ?_
   first | refine HB.ga 31 rfl rfl ?_ | refine HB.na 31 rfl rfl ?_ | refine HB.nu 31 rfl rfl ?_
   first | refine HB.ga 32 rfl rfl ?_ | refine HB.na 32 rfl rfl ?_ | refine HB.nu 32 rfl rfl ?_
   first | refine HB.ga 33 rfl rfl ?_ | refine HB.na 33 rfl rfl ?_ | refine HB.nu 33 rfl rfl ?_
   refine HB.pa 34 rfl ?_
   refine HB.pa 35 rfl ?_
   first | refine HB.ga 36 rfl rfl ?_ | refine HB.na 36 rfl rfl ?_ | refine HB.nu 36 rfl rfl ?_
   first | refine HB.ga 37 rfl rfl ?_ | refine HB.na 37 rfl rfl ?_ | refine HB.nu 37 rfl rfl ?_
   first | refine HB.ga 38 rfl rfl ?_ | refine HB.na 38 rfl rfl ?_ | refine HB.nu 38 rfl rfl ?_
   first | refine HB.ga 39 rfl rfl ?_ | refine HB.na 39 rfl rfl ?_ | refine HB.nu 39 rfl rfl ?_
   refine HB.pa 40 rfl ?_
   refine HB.done keepA (by kernel_rfl) ?_
   exact HX.cut true ⟨fun _ => hbad (fun h => by have := h.2.2.1; omega), fun h => (Bool.noConfusion h)⟩ esA (by repeat (first | exact Hs.nil _ | (refine Hs.cons pickA ?_)))
  by_cases q4 : 5 < kn
  ·refine HC.anyC ([(⟨b4, 0, none⟩, zv idn), (⟨b4, 1, none⟩, zv kn), (⟨b4, 2, none⟩, zv pn), (⟨b4, 3, none⟩, .slice asr m cs)]) rfl ?_
   refine HB.pa 0 rfl ?_
   refine HB.ld 1 rfl rfl memD ?_
   refine HB.all keepA [2] (by kernel_rfl) rfl ⟨⟨_, rfl, ?_⟩, trivial⟩
   refine HP.one ?_
   refine H1.callx (u := .bool true) (vs := [_]) rfl rfl (fun w' hM => by
   have h := id24_fn idn w'
   rw [decide_eq_true q1] at h; exact h) ?_
   apply HB.fold
   refine HB.pa 3 rfl ?_
   refine HB.pa 4 rfl ?_
   first | refine HB.ga 5 rfl rfl ?_ | refine HB.na 5 rfl rfl ?_ | refine HB.nu 5 rfl rfl ?_
   refine HB.ldg 6 rfl rfl rfl memD ?_
   refine HB.all keepA [7] (by kernel_rfl) rfl ⟨⟨_, rfl, ?_⟩, trivial⟩
   refine HP.one_a rfl ?_
   refine H1.callx (u := .bool true) (vs := [_]) rfl rfl (fun w' hM => by
   have h := id24_fn pn w'
   rw [decide_eq_true q2] at h; exact h) ?_
   apply HB.fold
   first | refine HB.ga 8 rfl rfl ?_ | refine HB.na 8 rfl rfl ?_ | refine HB.nu 8 rfl rfl ?_
   refine HB.pa 9 rfl ?_
   refine HB.pa 10 rfl ?_
   first | refine HB.ga 11 rfl rfl ?_ | refine HB.na 11 rfl rfl ?_ | refine HB.nu 11 rfl rfl ?_
   refine HB.ldg 12 rfl rfl rfl memD ?_
   first | refine HB.ga 13 rfl rfl ?_ | refine HB.na 13 rfl rfl ?_ | refine HB.nu 13 rfl rfl ?_
   refine HB.pa 14 rfl ?_
   refine HB.pa 15 rfl ?_
   first | refine HB.ga 16 rfl rfl ?_ | refine HB.na 16 rfl rfl ?_ | refine HB.nu 16 rfl rfl ?_
   refine HB.ldg 17 rfl rfl rfl memD ?_
   first | refine HB.ga 18 rfl rfl ?_ | refine HB.na 18 rfl rfl ?_ | refine HB.nu 18 rfl rfl ?_
   refine HB.pa 19 rfl ?_
   refine HB.pa 20 rfl ?_
   first | refine HB.ga 21 rfl rfl ?_ | refine HB.na 21 rfl rfl ?_ | refine HB.nu 21 rfl rfl ?_
   first | refine HB.ga 22 rfl rfl ?_ | refine HB.na 22 rfl rfl ?_ | refine HB.nu 22 rfl rfl ?_
   first | refine HB.ga 23 rfl rfl ?_ | refine HB.na 23 rfl rfl ?_ | refine HB.nu 23 rfl rfl ?_
   first | refine HB.ga 24 rfl rfl ?_ | refine HB.na 24 rfl rfl ?_ | refine HB.nu 24 rfl rfl ?_
   first | refine HB.ga 25 rfl rfl ?_ | refine HB.na 25 rfl rfl ?_ | refine HB.nu 25 rfl rfl ?_
   first | refine HB.ga 26 rfl rfl ?_ | refine HB.na 26 rfl rfl ?_ | refine HB.nu 26 rfl rfl ?_
   first | refine HB.ga 27 rfl rfl ?_ | refine HB.na 27 rfl rfl ?_ | refine HB.nu 27 rfl rfl ?_
   first | refine HB.ga 28 rfl rfl ?_ | refine HB.na 28 rfl rfl ?_ | refine HB.nu 28 rfl rfl ?_
   first | refine HB.ga 29 rfl rfl ?_ | refine HB.na 29 rfl rfl ?_ | refine HB.nu 29 rfl rfl ?_
   first | refine HB.ga 30 rfl rfl ?_ | refine HB.na 30 rfl rfl ?_ | refine HB.nu 30 rfl rfl ?_
   first | refine HB.ga 31 rfl rfl ?_ | refine HB.na 31 rfl rfl ?_ | refine HB.nu 31 rfl rfl ?_
   first | refine HB.ga 32 rfl rfl ?_ | refine HB.na 32 rfl rfl ?_ | refine HB.nu 32 rfl rfl ?_
   first | refine HB.ga 33 rfl rfl ?_ | refine HB.na 33 rfl rfl ?_ | refine HB.nu 33 rfl rfl ?_
   refine HB.pa 34 rfl ?_
   refine HB.pa 35 rfl ?_
   first | refine HB.ga 36 rfl rfl ?_ | refine HB.na 36 rfl rfl ?_ | refine HB.nu 36 rfl rfl ?_
   first | refine HB.ga 37 rfl rfl ?_ | refine HB.na 37 rfl rfl ?_ | refine HB.nu 37 rfl rfl ?_
   first | refine HB.ga 38 rfl rfl ?_ | refine HB.na 38 rfl rfl ?_ | refine HB.nu 38 rfl rfl ?_
   first | refine HB.ga 39 rfl rfl ?_ | refine HB.na 39 rfl rfl ?_ | refine HB.nu 39 rfl rfl ?_
   refine HB.pa 40 rfl ?_
   refine HB.done keepA (by kernel_rfl) ?_
   exact HX.cut true ⟨fun _ => hbad (fun h => by have := h.2.2.2.1; omega), fun h => (Bool.noConfusion h)⟩ esA (by repeat (first | exact Hs.nil _ | (refine Hs.cons pickA ?_)))
  by_cases q5 : 0 < i
  ·have q5' : (0 : Int) < (i : Int) := by omega
   have hp : w.cell? ⟨b0, off0 + (((i : Nat) : Int) - 1).toNat * 4 + 0, none⟩ = some (zv idp) := by rw [show (((i : Nat) : Int) - 1).toNat = i - 1 by omega]; exact hprev q5
   by_cases q6 : idn ≤ idp
   ·refine HC.anyC ([(⟨b4, 0, none⟩, zv idn), (⟨b4, 1, none⟩, zv kn), (⟨b4, 2, none⟩, zv pn), (⟨b4, 3, none⟩, .slice asr m cs), (⟨b0, off0 + (((i : Nat) : Int) - 1).toNat * 4 + 0, none⟩, zv idp)]) rfl ?_
    refine HB.pa 0 rfl ?_
    refine HB.ld 1 rfl rfl memD ?_
    refine HB.all keepA [2] (by kernel_rfl) rfl ⟨⟨_, rfl, ?_⟩, trivial⟩
    refine HP.one ?_
    refine H1.callx (u := .bool true) (vs := [_]) rfl rfl (fun w' hM => by
    have h := id24_fn idn w'
    rw [decide_eq_true q1] at h; exact h) ?_
    apply HB.fold
    refine HB.pa 3 rfl ?_
    refine HB.pa 4 rfl ?_
    first | refine HB.ga 5 rfl rfl ?_ | refine HB.na 5 rfl rfl ?_ | refine HB.nu 5 rfl rfl ?_
    refine HB.ldg 6 rfl rfl rfl memD ?_
    refine HB.all keepA [7] (by kernel_rfl) rfl ⟨⟨_, rfl, ?_⟩, trivial⟩
    refine HP.one_a rfl ?_
    refine H1.callx (u := .bool true) (vs := [_]) rfl rfl (fun w' hM => by
    have h := id24_fn pn w'
    rw [decide_eq_true q2] at h; exact h) ?_
    apply HB.fold
    first | refine HB.ga 8 rfl rfl ?_ | refine HB.na 8 rfl rfl ?_ | refine HB.nu 8 rfl rfl ?_
    refine HB.pa 9 rfl ?_
    refine HB.pa 10 rfl ?_
    first | refine HB.ga 11 rfl rfl ?_ | refine HB.na 11 rfl rfl ?_ | refine HB.nu 11 rfl rfl ?_
    refine HB.ldg 12 rfl rfl rfl memD ?_
    first | refine HB.ga 13 rfl rfl ?_ | refine HB.na 13 rfl rfl ?_ | refine HB.nu 13 rfl rfl ?_
    refine HB.pa 14 rfl ?_
    refine HB.pa 15 rfl ?_
    first | refine HB.ga 16 rfl rfl ?_ | refine HB.na 16 rfl rfl ?_ | refine HB.nu 16 rfl rfl ?_
    refine HB.ldg 17 rfl rfl rfl memD ?_
    first | refine HB.ga 18 rfl rfl ?_ | refine HB.na 18 rfl rfl ?_ | refine HB.nu 18 rfl rfl ?_
    refine HB.pa 19 rfl ?_
    refine HB.pa 20 rfl ?_
    first | refine HB.ga 21 rfl rfl ?_ | refine HB.na 21 rfl rfl ?_ | refine HB.nu 21 rfl rfl ?_
    first | refine HB.ga 22 rfl rfl ?_ | refine HB.na 22 rfl rfl ?_ | refine HB.nu 22 rfl rfl ?_
    first | refine HB.ga 23 rfl rfl ?_ | refine HB.na 23 rfl rfl ?_ | refine HB.nu 23 rfl rfl ?_
    first | refine HB.ga 24 rfl rfl ?_ | refine HB.na 24 rfl rfl ?_ | refine HB.nu 24 rfl rfl ?_
    first | refine HB.ga 25 rfl rfl ?_ | refine HB.na 25 rfl rfl ?_ | refine HB.nu 25 rfl rfl ?_
    first | refine HB.ga 26 rfl rfl ?_ | refine HB.na 26 rfl rfl ?_ | refine HB.nu 26 rfl rfl ?_
    first | refine HB.ga 27 rfl rfl ?_ | refine HB.na 27 rfl rfl ?_ | refine HB.nu 27 rfl rfl ?_
    first | refine HB.ga 28 rfl rfl ?_ | refine HB.na 28 rfl rfl ?_ | refine HB.nu 28 rfl rfl ?_
    refine HB.ldg 29 rfl rfl rfl memD ?_
    first | refine HB.ga 30 rfl rfl ?_ | refine HB.na 30 rfl rfl ?_ | refine HB.nu 30 rfl rfl ?_
    refine HB.ldg 31 rfl rfl rfl memD ?_
    first | refine HB.ga 32 rfl rfl ?_ | refine HB.na 32 rfl rfl ?_ | refine HB.nu 32 rfl rfl ?_
    first | refine HB.ga 33 rfl rfl ?_ | refine HB.na 33 rfl rfl ?_ | refine HB.nu 33 rfl rfl ?_
    refine HB.pa 34 rfl ?_
    refine HB.pa 35 rfl ?_
    first | refine HB.ga 36 rfl rfl ?_ | refine HB.na 36 rfl rfl ?_ | refine HB.nu 36 rfl rfl ?_
    first | refine HB.ga 37 rfl rfl ?_ | refine HB.na 37 rfl rfl ?_ | refine HB.nu 37 rfl rfl ?_
    first | refine HB.ga 38 rfl rfl ?_ | refine HB.na 38 rfl rfl ?_ | refine HB.nu 38 rfl rfl ?_
    first | refine HB.ga 39 rfl rfl ?_ | refine HB.na 39 rfl rfl ?_ | refine HB.nu 39 rfl rfl ?_
    refine HB.pa 40 rfl ?_
    refine HB.done keepA (by kernel_rfl) ?_
    exact HX.cut true ⟨fun _ => hbad (fun h => by have := h.2.2.2.2.1 q5; omega), fun h => (Bool.noConfusion h)⟩ esA (by repeat (first | exact Hs.nil _ | (refine Hs.cons pickA ?_)))
   by_cases q7 : (8 : Int) < (m : Int)
   ·refine HC.anyC ([(⟨b4, 0, none⟩, zv idn), (⟨b4, 1, none⟩, zv kn), (⟨b4, 2, none⟩, zv pn), (⟨b4, 3, none⟩, .slice asr m cs), (⟨b0, off0 + (((i : Nat) : Int) - 1).toNat * 4 + 0, none⟩, zv idp)]) rfl ?_
    refine HB.pa 0 rfl ?_
    refine HB.ld 1 rfl rfl memD ?_
    refine HB.all keepA [2] (by kernel_rfl) rfl ⟨⟨_, rfl, ?_⟩, trivial⟩
    refine HP.one ?_
    refine H1.callx (u := .bool true) (vs := [_]) rfl rfl (fun w' hM => by
    have h := id24_fn idn w'
    rw [decide_eq_true q1] at h; exact h) ?_
    apply HB.fold
    refine HB.pa 3 rfl ?_
    refine HB.pa 4 rfl ?_
    first | refine HB.ga 5 rfl rfl ?_ | refine HB.na 5 rfl rfl ?_ | refine HB.nu 5 rfl rfl ?_
    refine HB.ldg 6 rfl rfl rfl memD ?_
    refine HB.all keepA [7] (by kernel_rfl) rfl ⟨⟨_, rfl, ?_⟩, trivial⟩
    refine HP.one_a rfl ?_
    refine H1.callx (u := .bool true) (vs := [_]) rfl rfl (fun w' hM => by
    have h := id24_fn pn w'
    rw [decide_eq_true q2] at h; exact h) ?_
    apply HB.fold
    first | refine HB.ga 8 rfl rfl ?_ | refine HB.na 8 rfl rfl ?_ | refine HB.nu 8 rfl rfl ?_
    refine HB.pa 9 rfl ?_
    refine HB.pa 10 rfl ?_
    first | refine HB.ga 11 rfl rfl ?_ | refine HB.na 11 rfl rfl ?_ | refine HB.nu 11 rfl rfl ?_
    refine HB.ldg 12 rfl rfl rfl memD ?_
    first | refine HB.ga 13 rfl rfl ?_ | refine HB.na 13 rfl rfl ?_ | refine HB.nu 13 rfl rfl ?_
    refine HB.pa 14 rfl ?_
    refine HB.pa 15 rfl ?_
    first | refine HB.ga 16 rfl rfl ?_ | refine HB.na 16 rfl rfl ?_ | refine HB.nu 16 rfl rfl ?_
    refine HB.ldg 17 rfl rfl rfl memD ?_
    first | refine HB.ga 18 rfl rfl ?_ | refine HB.na 18 rfl rfl ?_ | refine HB.nu 18 rfl rfl ?_
    refine HB.pa 19 rfl ?_
    refine HB.pa 20 rfl ?_
    first | refine HB.ga 21 rfl rfl ?_ | refine HB.na 21 rfl rfl ?_ | refine HB.nu 21 rfl rfl ?_
    first | refine HB.ga 22 rfl rfl ?_ | refine HB.na 22 rfl rfl ?_ | refine HB.nu 22 rfl rfl ?_
    first | refine HB.ga 23 rfl rfl ?_ | refine HB.na 23 rfl rfl ?_ | refine HB.nu 23 rfl rfl ?_
    first | refine HB.ga 24 rfl rfl ?_ | refine HB.na 24 rfl rfl ?_ | refine HB.nu 24 rfl rfl ?_
    first | refine HB.ga 25 rfl rfl ?_ | refine HB.na 25 rfl rfl ?_ | refine HB.nu 25 rfl rfl ?_
    first | refine HB.ga 26 rfl rfl ?_ | refine HB.na 26 rfl rfl ?_ | refine HB.nu 26 rfl rfl ?_
    first | refine HB.ga 27 rfl rfl ?_ | refine HB.na 27 rfl rfl ?_ | refine HB.nu 27 rfl rfl ?_
    first | refine HB.ga 28 rfl rfl ?_ | refine HB.na 28 rfl rfl ?_ | refine HB.nu 28 rfl rfl ?_
    refine HB.ldg 29 rfl rfl rfl memD ?_
    first | refine HB.ga 30 rfl rfl ?_ | refine HB.na 30 rfl rfl ?_ | refine HB.nu 30 rfl rfl ?_
    refine HB.ldg 31 rfl rfl rfl memD ?_
    first | refine HB.ga 32 rfl rfl ?_ | refine HB.na 32 rfl rfl ?_ | refine HB.nu 32 rfl rfl ?_
    first | refine HB.ga 33 rfl rfl ?_ | refine HB.na 33 rfl rfl ?_ | refine HB.nu 33 rfl rfl ?_
    refine HB.pa 34 rfl ?_
    refine HB.pa 35 rfl ?_
    first | refine HB.ga 36 rfl rfl ?_ | refine HB.na 36 rfl rfl ?_ | refine HB.nu 36 rfl rfl ?_
    refine HB.ldg 37 rfl rfl rfl memD ?_
    first | refine HB.ga 38 rfl rfl ?_ | refine HB.na 38 rfl rfl ?_ | refine HB.nu 38 rfl rfl ?_
    first | refine HB.ga 39 rfl rfl ?_ | refine HB.na 39 rfl rfl ?_ | refine HB.nu 39 rfl rfl ?_
    refine HB.pa 40 rfl ?_
    refine HB.done keepA (by kernel_rfl) ?_
    rw [decide_eq_true q7]; exact HX.cut true ⟨fun _ => hbad (fun h => by have := h.2.2.2.2.2; omega), fun h => (Bool.noConfusion h)⟩ esA (by repeat (first | exact Hs.nil _ | (refine Hs.cons pickA ?_)))
   refine HC.anyC ([(⟨b4, 0, none⟩, zv idn), (⟨b4, 1, none⟩, zv kn), (⟨b4, 2, none⟩, zv pn), (⟨b4, 3, none⟩, .slice asr m cs), (⟨b0, off0 + (((i : Nat) : Int) - 1).toNat * 4 + 0, none⟩, zv idp)]) rfl ?_
   refine HB.pa 0 rfl ?_
   refine HB.ld 1 rfl rfl memD ?_
   refine HB.all keepA [2] (by kernel_rfl) rfl ⟨⟨_, rfl, ?_⟩, trivial⟩
   refine HP.one ?_
   refine H1.callx (u := .bool true) (vs := [_]) rfl rfl (fun w' hM => by
   have h := id24_fn idn w'
   rw [decide_eq_true q1] at h; exact h) ?_
   apply HB.fold
   refine HB.pa 3 rfl ?_
   refine HB.pa 4 rfl ?_
   first | refine HB.ga 5 rfl rfl ?_ | refine HB.na 5 rfl rfl ?_ | refine HB.nu 5 rfl rfl ?_
   refine HB.ldg 6 rfl rfl rfl memD ?_
   refine HB.all keepA [7] (by kernel_rfl) rfl ⟨⟨_, rfl, ?_⟩, trivial⟩
   refine HP.one_a rfl ?_
   refine H1.callx (u := .bool true) (vs := [_]) rfl rfl (fun w' hM => by
   have h := id24_fn pn w'
   rw [decide_eq_true q2] at h; exact h) ?_
   apply HB.fold
   first | refine HB.ga 8 rfl rfl ?_ | refine HB.na 8 rfl rfl ?_ | refine HB.nu 8 rfl rfl ?_
   refine HB.pa 9 rfl ?_
   refine HB.pa 10 rfl ?_
   first | refine HB.ga 11 rfl rfl ?_ | refine HB.na 11 rfl rfl ?_ | refine HB.nu 11 rfl rfl ?_
   refine HB.ldg 12 rfl rfl rfl memD ?_
   first | refine HB.ga 13 rfl rfl ?_ | refine HB.na 13 rfl rfl ?_ | refine HB.nu 13 rfl rfl ?_
   refine HB.pa 14 rfl ?_
   refine HB.pa 15 rfl ?_
   first | refine HB.ga 16 rfl rfl ?_ | refine HB.na 16 rfl rfl ?_ | refine HB.nu 16 rfl rfl ?_
   refine HB.ldg 17 rfl rfl rfl memD ?_
   first | refine HB.ga 18 rfl rfl ?_ | refine HB.na 18 rfl rfl ?_ | refine HB.nu 18 rfl rfl ?_
   refine HB.pa 19 rfl ?_
   refine HB.pa 20 rfl ?_
   first | refine HB.ga 21 rfl rfl ?_ | refine HB.na 21 rfl rfl ?_ | refine HB.nu 21 rfl rfl ?_
   first | refine HB.ga 22 rfl rfl ?_ | refine HB.na 22 rfl rfl ?_ | refine HB.nu 22 rfl rfl ?_
   first | refine HB.ga 23 rfl rfl ?_ | refine HB.na 23 rfl rfl ?_ | refine HB.nu 23 rfl rfl ?_
   first | refine HB.ga 24 rfl rfl ?_ | refine HB.na 24 rfl rfl ?_ | refine HB.nu 24 rfl rfl ?_
   first | refine HB.ga 25 rfl rfl ?_ | refine HB.na 25 rfl rfl ?_ | refine HB.nu 25 rfl rfl ?_
   first | refine HB.ga 26 rfl rfl ?_ | refine HB.na 26 rfl rfl ?_ | refine HB.nu 26 rfl rfl ?_
   first | refine HB.ga 27 rfl rfl ?_ | refine HB.na 27 rfl rfl ?_ | refine HB.nu 27 rfl rfl ?_
   first | refine HB.ga 28 rfl rfl ?_ | refine HB.na 28 rfl rfl ?_ | refine HB.nu 28 rfl rfl ?_
   refine HB.ldg 29 rfl rfl rfl memD ?_
   first | refine HB.ga 30 rfl rfl ?_ | refine HB.na 30 rfl rfl ?_ | refine HB.nu 30 rfl rfl ?_
   refine HB.ldg 31 rfl rfl rfl memD ?_
   first | refine HB.ga 32 rfl rfl ?_ | refine HB.na 32 rfl rfl ?_ | refine HB.nu 32 rfl rfl ?_
   first | refine HB.ga 33 rfl rfl ?_ | refine HB.na 33 rfl rfl ?_ | refine HB.nu 33 rfl rfl ?_
   refine HB.pa 34 rfl ?_
   refine HB.pa 35 rfl ?_
   first | refine HB.ga 36 rfl rfl ?_ | refine HB.na 36 rfl rfl ?_ | refine HB.nu 36 rfl rfl ?_
   refine HB.ldg 37 rfl rfl rfl memD ?_
   first | refine HB.ga 38 rfl rfl ?_ | refine HB.na 38 rfl rfl ?_ | refine HB.nu 38 rfl rfl ?_
   first | refine HB.ga 39 rfl rfl ?_ | refine HB.na 39 rfl rfl ?_ | refine HB.nu 39 rfl rfl ?_
   refine HB.pa 40 rfl ?_
   refine HB.done keepA (by kernel_rfl) ?_
   rw [decide_eq_false q7]; exact HX.cut false ⟨fun h => (Bool.noConfusion h), fun _ => ⟨q1, q2, by omega, by omega, fun _ => by omega, by omega⟩⟩ esA (by repeat (first | exact Hs.nil _ | (refine Hs.cons pickA ?_)))
  ·have q5' : ¬ (0 : Int) < (i : Int) := by omega
   by_cases q7 : (8 : Int) < (m : Int)
   ·refine HC.anyC ([(⟨b4, 0, none⟩, zv idn), (⟨b4, 1, none⟩, zv kn), (⟨b4, 2, none⟩, zv pn), (⟨b4, 3, none⟩, .slice asr m cs)]) rfl ?_
    refine HB.pa 0 rfl ?_
    refine HB.ld 1 rfl rfl memD ?_
    refine HB.all keepA [2] (by kernel_rfl) rfl ⟨⟨_, rfl, ?_⟩, trivial⟩
    refine HP.one ?_
    refine H1.callx (u := .bool true) (vs := [_]) rfl rfl (fun w' hM => by
    have h := id24_fn idn w'
    rw [decide_eq_true q1] at h; exact h) ?_
    apply HB.fold
    refine HB.pa 3 rfl ?_
    refine HB.pa 4 rfl ?_
    first | refine HB.ga 5 rfl rfl ?_ | refine HB.na 5 rfl rfl ?_ | refine HB.nu 5 rfl rfl ?_
    refine HB.ldg 6 rfl rfl rfl memD ?_
    refine HB.all keepA [7] (by kernel_rfl) rfl ⟨⟨_, rfl, ?_⟩, trivial⟩
    refine HP.one_a rfl ?_
    refine H1.callx (u := .bool true) (vs := [_]) rfl rfl (fun w' hM => by
    have h := id24_fn pn w'
    rw [decide_eq_true q2] at h; exact h) ?_
    apply HB.fold
    first | refine HB.ga 8 rfl rfl ?_ | refine HB.na 8 rfl rfl ?_ | refine HB.nu 8 rfl rfl ?_
    refine HB.pa 9 rfl ?_
    refine HB.pa 10 rfl ?_
    first | refine HB.ga 11 rfl rfl ?_ | refine HB.na 11 rfl rfl ?_ | refine HB.nu 11 rfl rfl ?_
    refine HB.ldg 12 rfl rfl rfl memD ?_
    first | refine HB.ga 13 rfl rfl ?_ | refine HB.na 13 rfl rfl ?_ | refine HB.nu 13 rfl rfl ?_
    refine HB.pa 14 rfl ?_
    refine HB.pa 15 rfl ?_
    first | refine HB.ga 16 rfl rfl ?_ | refine HB.na 16 rfl rfl ?_ | refine HB.nu 16 rfl rfl ?_
    refine HB.ldg 17 rfl rfl rfl memD ?_
    first | refine HB.ga 18 rfl rfl ?_ | refine HB.na 18 rfl rfl ?_ | refine HB.nu 18 rfl rfl ?_
    refine HB.pa 19 rfl ?_
    refine HB.pa 20 rfl ?_
    first | refine HB.ga 21 rfl rfl ?_ | refine HB.na 21 rfl rfl ?_ | refine HB.nu 21 rfl rfl ?_
    first | refine HB.ga 22 rfl rfl ?_ | refine HB.na 22 rfl rfl ?_ | refine HB.nu 22 rfl rfl ?_
    first | refine HB.ga 23 rfl rfl ?_ | refine HB.na 23 rfl rfl ?_ | refine HB.nu 23 rfl rfl ?_
    first | refine HB.ga 24 rfl rfl ?_ | refine HB.na 24 rfl rfl ?_ | refine HB.nu 24 rfl rfl ?_
    first | refine HB.ga 25 rfl rfl ?_ | refine HB.na 25 rfl rfl ?_ | refine HB.nu 25 rfl rfl ?_
    first | refine HB.ga 26 rfl rfl ?_ | refine HB.na 26 rfl rfl ?_ | refine HB.nu 26 rfl rfl ?_
    first | refine HB.ga 27 rfl rfl ?_ | refine HB.na 27 rfl rfl ?_ | refine HB.nu 27 rfl rfl ?_
    first | refine HB.ga 28 rfl rfl ?_ | refine HB.na 28 rfl rfl ?_ | refine HB.nu 28 rfl rfl ?_
    first | refine HB.ga 29 rfl rfl ?_ | refine HB.na 29 rfl rfl ?_ | refine HB.nu 29 rfl rfl ?_
    first | refine HB.ga 30 rfl rfl ?_ | refine HB.na 30 rfl rfl ?_ | refine HB.nu 30 rfl rfl ?_
    first | refine HB.ga 31 rfl rfl ?_ | refine HB.na 31 rfl rfl ?_ | refine HB.nu 31 rfl rfl ?_
    first | refine HB.ga 32 rfl rfl ?_ | refine HB.na 32 rfl rfl ?_ | refine HB.nu 32 rfl rfl ?_
    first | refine HB.ga 33 rfl rfl ?_ | refine HB.na 33 rfl rfl ?_ | refine HB.nu 33 rfl rfl ?_
    refine HB.pa 34 rfl ?_
    refine HB.pa 35 rfl ?_
    first | refine HB.ga 36 rfl rfl ?_ | refine HB.na 36 rfl rfl ?_ | refine HB.nu 36 rfl rfl ?_
    refine HB.ldg 37 rfl rfl rfl memD ?_
    first | refine HB.ga 38 rfl rfl ?_ | refine HB.na 38 rfl rfl ?_ | refine HB.nu 38 rfl rfl ?_
    first | refine HB.ga 39 rfl rfl ?_ | refine HB.na 39 rfl rfl ?_ | refine HB.nu 39 rfl rfl ?_
    refine HB.pa 40 rfl ?_
    refine HB.done keepA (by kernel_rfl) ?_
    rw [decide_eq_true q7]; exact HX.cut true ⟨fun _ => hbad (fun h => by have := h.2.2.2.2.2; omega), fun h => (Bool.noConfusion h)⟩ esA (by repeat (first | exact Hs.nil _ | (refine Hs.cons pickA ?_)))
   refine HC.anyC ([(⟨b4, 0, none⟩, zv idn), (⟨b4, 1, none⟩, zv kn), (⟨b4, 2, none⟩, zv pn), (⟨b4, 3, none⟩, .slice asr m cs)]) rfl ?_
   refine HB.pa 0 rfl ?_
   refine HB.ld 1 rfl rfl memD ?_
   refine HB.all keepA [2] (by kernel_rfl) rfl ⟨⟨_, rfl, ?_⟩, trivial⟩
   refine HP.one ?_
   refine H1.callx (u := .bool true) (vs := [_]) rfl rfl (fun w' hM => by
   have h := id24_fn idn w'
   rw [decide_eq_true q1] at h; exact h) ?_
   apply HB.fold
   refine HB.pa 3 rfl ?_
   refine HB.pa 4 rfl ?_
   first | refine HB.ga 5 rfl rfl ?_ | refine HB.na 5 rfl rfl ?_ | refine HB.nu 5 rfl rfl ?_
   refine HB.ldg 6 rfl rfl rfl memD ?_
   refine HB.all keepA [7] (by kernel_rfl) rfl ⟨⟨_, rfl, ?_⟩, trivial⟩
   refine HP.one_a rfl ?_
   refine H1.callx (u := .bool true) (vs := [_]) rfl rfl (fun w' hM => by
   have h := id24_fn pn w'
   rw [decide_eq_true q2] at h; exact h) ?_
   apply HB.fold
   first | refine HB.ga 8 rfl rfl ?_ | refine HB.na 8 rfl rfl ?_ | refine HB.nu 8 rfl rfl ?_
   refine HB.pa 9 rfl ?_
   refine HB.pa 10 rfl ?_
   first | refine HB.ga 11 rfl rfl ?_ | refine HB.na 11 rfl rfl ?_ | refine HB.nu 11 rfl rfl ?_
   refine HB.ldg 12 rfl rfl rfl memD ?_
   first | refine HB.ga 13 rfl rfl ?_ | refine HB.na 13 rfl rfl ?_ | refine HB.nu 13 rfl rfl ?_
   refine HB.pa 14 rfl ?_
   refine HB.pa 15 rfl ?_
   first | refine HB.ga 16 rfl rfl ?_ | refine HB.na 16 rfl rfl ?_ | refine HB.nu 16 rfl rfl ?_
   refine HB.ldg 17 rfl rfl rfl memD ?_
   first | refine HB.ga 18 rfl rfl ?_ | refine HB.na 18 rfl rfl ?_ | refine HB.nu 18 rfl rfl ?_
   refine HB.pa 19 rfl ?_
   refine HB.pa 20 rfl ?_
   first | refine HB.ga 21 rfl rfl ?_ | refine HB.na 21 rfl rfl ?_ | refine HB.nu 21 rfl rfl ?_
   first | refine HB.ga 22 rfl rfl ?_ | refine HB.na 22 rfl rfl ?_ | refine HB.nu 22 rfl rfl ?_
   first | refine HB.ga 23 rfl rfl ?_ | refine HB.na 23 rfl rfl ?_ | refine HB.nu 23 rfl rfl ?_
   first | refine HB.ga 24 rfl rfl ?_ | refine HB.na 24 rfl rfl ?_ | refine HB.nu 24 rfl rfl ?_
   first | refine HB.ga 25 rfl rfl ?_ | refine HB.na 25 rfl rfl ?_ | refine HB.nu 25 rfl rfl ?_
   first | refine HB.ga 26 rfl rfl ?_ | refine HB.na 26 rfl rfl ?_ | refine HB.nu 26 rfl rfl ?_
   first | refine HB.ga 27 rfl rfl ?_ | refine HB.na 27 rfl rfl ?_ | refine HB.nu 27 rfl rfl ?_
   first | refine HB.ga 28 rfl rfl ?_ | refine HB.na 28 rfl rfl ?_ | refine HB.nu 28 rfl rfl ?_
   first | refine HB.ga 29 rfl rfl ?_ | refine HB.na 29 rfl rfl ?_ | refine HB.nu 29 rfl rfl ?_
   first | refine HB.ga 30 rfl rfl ?_ | refine HB.na 30 rfl rfl ?_ | refine HB.nu 30 rfl rfl ?_
   first | refine HB.ga 31 rfl rfl ?_ | refine HB.na 31 rfl rfl ?_ | refine HB.nu 31 rfl rfl ?_
   first | refine HB.ga 32 rfl rfl ?_ | refine HB.na 32 rfl rfl ?_ | refine HB.nu 32 rfl rfl ?_
   first | refine HB.ga 33 rfl rfl ?_ | refine HB.na 33 rfl rfl ?_ | refine HB.nu 33 rfl rfl ?_
   refine HB.pa 34 rfl ?_
   refine HB.pa 35 rfl ?_
   first | refine HB.ga 36 rfl rfl ?_ | refine HB.na 36 rfl rfl ?_ | refine HB.nu 36 rfl rfl ?_
   refine HB.ldg 37 rfl rfl rfl memD ?_
   first | refine HB.ga 38 rfl rfl ?_ | refine HB.na 38 rfl rfl ?_ | refine HB.nu 38 rfl rfl ?_
   first | refine HB.ga 39 rfl rfl ?_ | refine HB.na 39 rfl rfl ?_ | refine HB.nu 39 rfl rfl ?_
   refine HB.pa 40 rfl ?_
   refine HB.done keepA (by kernel_rfl) ?_
   rw [decide_eq_false q7]; exact HX.cut false ⟨fun h => (Bool.noConfusion h), fun _ => ⟨q1, q2, by omega, by omega, fun h => absurd h q5, by omega⟩⟩ esA (by repeat (first | exact Hs.nil _ | (refine Hs.cons pickA ?_)))
 rintro x ⟨hx1, hx2⟩
 cases x with
 | true =>
  have hno := hx1 rfl
  refine hwNB ?_
  exact HX.ret1 rfl rfl fun w' hM => ⟨by rw [hno], hM.ext⟩
 | false =>
  have hok := hx2 rfl
  have hdep : decide (kn = 1) ≠ decide ((m : Int) = 0) → validN l = false := fun h => hbad0 fun ⟨h1, _⟩ => h (by
   rw [decide_eq_decide]
   have := h1.dep
   dsimp only at this
   rw [← hm] at this
   omega)
  by_cases k1 : kn = 1
  ·by_cases m0 : (m : Int) = 0
   ·have e0 : src = [] := List.length_eq_zero_iff.1 (by omega)
    have hP : HasP (l.take i) ⟨idn, kn, pn, src⟩ := ⟨hok.1, hok.2.1, hok.2.2.1, hok.2.2.2.1, by show src.length ≤ 8; omega, by show kn = 1 ↔ src.length = 0; rw [← hm]; omega, (by intro x hx; rw [e0] at hx; cases hx), .inl k1, by show AscI src; rw [e0]; exact List.Pairwise.nil⟩
    have hm0 : ¬ (0 : Int) < (m : Int) := by omega
    have hbb : (!(decide (kn = 1) == decide ((m : Int) = 0))) = false := by rw [decide_eq_true k1, decide_eq_true m0]; rfl
    refine hwNB ?_
    refine HC.loop (α := Unit) (fun _ => [(0, .slice (some ⟨b0, off0, none⟩) l.length c), (3, zv (i : Int)), (4, .pointer (some ⟨b4, 0, none⟩)), (5, .bool true), (6, zv 0)]) (fun _ => [A.blk b4 [zv idn, zv kn, zv pn, .slice asr m cs] 31]) (fun _ => True) (fun _ => 0) () trivial (by rw [decide_eq_true k1]; repeat (first | exact trivial | refine ⟨rfl, ?_⟩)) (by repeat (first | exact Hs.nil _ | (refine Hs.cons pickA ?_))) ?_
    rintro - -
    refine hwNB ?_
    exact HX.again (i + 1) ⟨hlt, hnext hP hok.2.2.2.2.1⟩ (by show l.length - (i + 1) < l.length - i; omega) esA (by repeat (first | exact Hs.nil _ | (refine Hs.cons pickA ?_)))
   ·have hbb : (!(decide (kn = 1) == decide ((m : Int) = 0))) = true := by rw [decide_eq_true k1, decide_eq_false m0]; rfl
    have hno := hdep (by rw [decide_eq_true k1, decide_eq_false m0]; decide)
    refine hwNB ?_
    exact HX.ret1 rfl rfl fun w' hM => ⟨by rw [hno], hM.ext⟩
  ·by_cases m0 : (m : Int) = 0
   ·have hbb : (!(decide (kn = 1) == decide ((m : Int) = 0))) = true := by rw [decide_eq_false k1, decide_eq_true m0]; rfl
    have hno := hdep (by rw [decide_eq_false k1, decide_eq_true m0]; decide)
    refine hwNB ?_
    exact HX.ret1 rfl rfl fun w' hM => ⟨by rw [hno], hM.ext⟩
   ·have hbb : (!(decide (kn = 1) == decide ((m : Int) = 0))) = false := by rw [decide_eq_false k1, decide_eq_false m0]; rfl
    refine hwNB ?_
    refine HC.loop (α := Nat × Bool) (fun q => [(0, .slice (some ⟨b0, off0, none⟩) l.length c), (3, zv (i : Int)), (4, .pointer (some ⟨b4, 0, none⟩)), (5, .bool q.2), (6, zv (q.1 : Int))]) (fun _ => [A.blk b4 [zv idn, zv kn, zv pn, .slice asr m cs] 31]) (fun q => q.1 ≤ m ∧ (∀ k, k < q.1 → ∃ j, j < i ∧ getI src k = (ndAt l j).id) ∧ (∀ k, 0 < k → k < q.1 → getI src (k - 1) < getI src k) ∧ (q.2 = true ↔ ∃ k, k < q.1 ∧ ∃ j, j < i ∧ getI src k = (ndAt l j).id ∧ (ndAt l j).pack = pn)) (fun q => m - q.1) (0, false) ⟨Nat.zero_le _, fun k h => absurd h (Nat.not_lt_zero _), fun k _ h => absurd h (Nat.not_lt_zero _), by simp⟩ (by rw [decide_eq_false k1]; repeat (first | exact trivial | refine ⟨rfl, ?_⟩)) (by repeat (first | exact Hs.nil _ | (refine Hs.cons pickA ?_))) ?_
    rintro ⟨k, own⟩ ⟨hk, g1, g2, g3⟩
    dsimp only at hk g1 g2 g3 ⊢
    by_cases hkm : k < m
    ·have hkn : ((k : Nat) : Int) < (m : Int) := by omega
     obtain ⟨bs, os, rfl⟩ := rd_addr hsr hkm
     have hcx := hsr.cell (ints_getI (l := src) (i := k) (by omega))
     refine hwNB ?_
     refine HC.cut (α := Int) (fun q => [(0, .slice (some ⟨b0, off0, none⟩) l.length c), (3, zv (i : Int)), (4, .pointer (some ⟨b4, 0, none⟩)), (5, .bool own), (6, zv (k : Int)), (7, zv q)]) (fun _ => [A.blk b4 [zv idn, zv kn, zv pn, .slice (some ⟨bs, os, none⟩) m cs] 31]) (fun q => IxP (l.take i) (getI src k) q) ?_ ?_
     ·refine HC.anyC ([(⟨b4, 3, none⟩, .slice (some ⟨bs, os, none⟩) m cs), (⟨bs, os + k, none⟩, zv (getI src k))]) rfl ?_
      refine HB.pa 0 rfl ?_
      refine HB.pa 1 rfl ?_
      refine HB.pa 2 rfl ?_
      refine HB.pa 3 rfl ?_
      refine HB.ld 4 rfl rfl memD ?_
      refine HB.pa 5 rfl ?_
      refine HB.pa 6 rfl ?_
      refine HB.ld 7 rfl rfl memD ?_
      refine HB.all keepA [8] (by kernel_rfl) rfl ⟨⟨_, rfl, ?_⟩, trivial⟩
      refine HP.one ?_
      refine H1.callp (V := fun q : Int => zv q) (I := fun q => IxP (l.take i) (getI src k) q) (vs := [_, _]) rfl rfl (fun w' hM => by
        have hp := hR.pre (k := i) (by omega)
        have e1 : (l.take i).length = i := by rw [List.length_take]; omega
        exact index24_fn (getI src k) (by omega) w' (hp.ext hM.ext)) ?_
      intro q hq
      apply HB.fold
      refine HB.pa 9 rfl ?_
      refine HB.done keepA (by kernel_rfl) ?_
      exact HX.cut q hq esA (by repeat (first | exact Hs.nil _ | (refine Hs.cons pickA ?_)))
     intro q hq
     have hkm2 : k < src.length := by omega
     cases hq with
     | no e0 h2 =>
      have hno : validN l = false := hbad0 fun ⟨h1, _⟩ => by
       have h3 := h1.srcs (getI src k) (getI_mem hkm2)
       rw [pkOf_mem] at h3
       obtain ⟨n, hn, e⟩ := h3
       obtain ⟨j, hj, rfl⟩ := mem_nd.1 hn
       exact h2 j hj e.symm
      subst e0
      refine hwNB ?_
      repeat refine HC.seq ?_
      refine HC.quietS [(some 87, [7], []), (some 88, [87], [0]), (some 89, [88], [1]), (some 90, [6, 89], [2]), (some 91, [90, 89], [3, 2]), (some 92, [91, 89], [4, 2, 2]), (some 93, [4, 92], [5]), (some 94, [93, 92], [6, 5]), (some 95, [6, 92], [5]), (some 96, [95, 92], [8, 5]), (some 97, [94, 96, 92], [7, 9, 5]), (some 98, [97, 92], [10, 5]), (some 99, [4, 92], [5]), (some 100, [99, 92], [12, 5]), (some 101, [6, 92], [5]), (some 102, [100, 101, 92], [13, 14, 5]), (some 103, [102, 92], [15, 5]), (some 104, [98, 103, 92], [11, 16, 5]), (some 105, [92, 104, 89], [5, 17, 2]), (some 106, [89, 105], [2, 18])] (by kernel_rfl) (by kernel_rfl) (by kernel_rfl) ?_
      refine qwA ?_
      refine HQ.nil ?_
      refine hwNB ?_
      exact HX.ret1 rfl rfl fun w' hM => ⟨by rw [hno], hM.ext⟩
     | yes j e0 hj h2 =>
      subst e0
      have hji : j < i := by rw [List.length_take] at hj; omega
      rw [ndAt_takeL hji] at h2
      have hjl : j < l.length := by omega
      have hpj := hb j hjl 2 (zv (ndAt l j).pack) rfl
      have hs1 : ∀ q, q < k + 1 → ∃ j, j < i ∧ getI src q = (ndAt l j).id := fun q hq => by
       by_cases e : q = k
       ·exact ⟨j, hji, by rw [e, h2]⟩
       ·exact g1 q (by omega)
      have hown : (∃ q, q < k + 1 ∧ ∃ j, j < i ∧ getI src q = (ndAt l j).id ∧ (ndAt l j).pack = pn) ↔ (own = true ∨ (ndAt l j).pack = pn) := by
       rw [g3]
       constructor
       ·rintro ⟨q, hq, j', hj', e1, e2⟩
        by_cases e : q = k
        ·refine .inr ?_
         rw [e, ← h2] at e1
         have h5 := hI.pk hi hji
         rw [e1, hI.pk hi hj'] at h5
         rw [← e2]
         exact (Option.some.inj h5).symm
        ·exact .inl ⟨q, by omega, j', hj', e1, e2⟩
       ·rintro (⟨q, hq, h⟩ | h)
        ·exact ⟨q, by omega, h⟩
        ·exact ⟨k, by omega, j, hji, h2.symm, h⟩
      generalize (ndAt l j).pack = pj at hpj hown
      have hjn : ¬ ((j : Nat) : Int) < 0 := by omega
      have hjc : ((j : Nat) : Int) < (l.length : Int) := by omega
      by_cases hk0 : 0 < k
      ·have hk0' : (0 : Int) < (k : Int) := by omega
       have hx1 : w.cell? ⟨bs, os + (((k : Nat) : Int) - 1).toNat, none⟩ = some (zv (getI src (k - 1))) := by
        rw [show (((k : Nat) : Int) - 1).toNat = k - 1 by omega]
        exact hsr.cell (ints_getI (l := src) (i := k - 1) (by omega))
       have hs2' : getI src (k - 1) < getI src k → ∀ q, 0 < q → q < k + 1 → getI src (q - 1) < getI src q := fun h q h0 hq => by
        by_cases e : q = k
        ·rw [e]; exact h
        ·exact g2 q h0 (by omega)
       have hdesc : getI src k ≤ getI src (k - 1) → validN l = false := fun h => hbad0 fun ⟨h1, _⟩ => by
        have h3 := List.pairwise_iff_getElem.1 h1.asc (k - 1) k (by show k - 1 < src.length; omega) hkm2 (by omega)
        have e1 : getI src (k - 1) = src[k - 1]'(by omega) := by unfold getI; simp [show k - 1 < src.length by omega]
        have e2 : getI src k = src[k] := by unfold getI; simp [hkm2]
        rw [e1, e2] at h
        exact absurd h3 (by show ¬ src[k - 1]'(by omega) < src[k]; omega)
       generalize getI src (k - 1) = xp at hx1 hs2' hdesc
       generalize getI src k = xk at hcx hs2' hdesc
       refine hwNB ?_
       repeat refine HC.seq ?_
       refine HC.quietS [(some 87, [7], []), (some 88, [87], [0]), (some 89, [88], [1]), (some 90, [6, 89], [2]), (some 91, [90, 89], [3, 2]), (some 92, [91, 89], [4, 2, 2]), (some 93, [4, 92], [5]), (some 94, [93, 92], [6, 5]), (some 95, [6, 92], [5]), (some 96, [95, 92], [8, 5]), (some 97, [94, 96, 92], [7, 9, 5]), (some 98, [97, 92], [10, 5]), (some 99, [4, 92], [5]), (some 100, [99, 92], [12, 5]), (some 101, [6, 92], [5]), (some 102, [100, 101, 92], [13, 14, 5]), (some 103, [102, 92], [15, 5]), (some 104, [98, 103, 92], [11, 16, 5]), (some 105, [92, 104, 89], [5, 17, 2]), (some 106, [89, 105], [2, 18])] (by kernel_rfl) (by kernel_rfl) (by kernel_rfl) ?_
       refine qwA ?_
       refine HQ.ld (a := ⟨bs, os + (((k : Nat) : Int) - 1).toNat, none⟩) rfl (fun w' hM => cell_ext hM.ext hx1) rfl ?_
       refine qwA ?_
       refine HQ.ld (a := ⟨bs, os + k, none⟩) rfl (fun w' hM => cell_ext hM.ext hcx) rfl ?_
       by_cases has : xk ≤ xp
       ·have hno := hdesc has
        refine qwA ?_
        refine HQ.nil ?_
        refine hwNB ?_
        exact HX.ret1 rfl rfl fun w' hM => ⟨by rw [hno], hM.ext⟩
       have hs2 := hs2' (by omega)
       refine qwA ?_
       refine HQ.nil ?_
       refine hwNB ?_
       repeat refine HC.seq ?_
       refine HC.quietS [(some 107, [5], []), (some 108, [107], [0]), (some 109, [0, 108], [1]), (some 110, [7, 108], [1]), (some 111, [109, 110, 108], [2, 3, 1]), (some 112, [111, 108], [4, 1]), (some 113, [112, 108], [5, 1]), (some 114, [4, 108], [1]), (some 115, [114, 108], [7, 1]), (some 116, [113, 115, 108], [6, 8, 1]), (some 117, [108, 116], [1, 9]), (some 5, [117], [10, 1, 0, 1, 2, 3, 4, 5, 6, 7, 8, 9, 10])] (by kernel_rfl) (by kernel_rfl) (by kernel_rfl) ?_
       cases own with
       | true =>
        have g4 := hown.2 (.inl rfl)
        refine qwA ?_
        refine HQ.nil ?_
        refine hwNB ?_
        exact HX.again (k + 1, true) ⟨hkm, hs1, hs2, ⟨fun _ => g4, fun _ => rfl⟩⟩ (by show m - (k + 1) < m - k; omega) esA (by repeat (first | exact Hs.nil _ | (refine Hs.cons pickA ?_)))
       | false =>
        refine qwA ?_
        refine HQ.ld (a := ⟨b0, off0 + j * 4 + 2, none⟩) rfl (fun w' hM => cell_ext hM.ext hpj) rfl ?_
        refine qwA ?_
        by_cases hp : pj = pn
        ·rw [decide_eq_true hp]
         have g4 := hown.2 (.inr hp)
         refine HQ.nil ?_
         refine hwNB ?_
         exact HX.again (k + 1, true) ⟨hkm, hs1, hs2, ⟨fun _ => g4, fun _ => rfl⟩⟩ (by show m - (k + 1) < m - k; omega) esA (by repeat (first | exact Hs.nil _ | (refine Hs.cons pickA ?_)))
        ·rw [decide_eq_false hp]
         refine HQ.nil ?_
         refine hwNB ?_
         exact HX.again (k + 1, false) ⟨hkm, hs1, hs2, ⟨fun h => Bool.noConfusion h, fun h => (hown.1 h).elim (fun h => Bool.noConfusion h) fun h => absurd h hp⟩⟩ (by show m - (k + 1) < m - k; omega) esA (by repeat (first | exact Hs.nil _ | (refine Hs.cons pickA ?_)))
      have hk0' : ¬ (0 : Int) < (k : Int) := by omega
      have hs2 : ∀ q, 0 < q → q < k + 1 → getI src (q - 1) < getI src q := fun q h0 hq => by omega
      refine hwNB ?_
      repeat refine HC.seq ?_
      refine HC.quietS [(some 87, [7], []), (some 88, [87], [0]), (some 89, [88], [1]), (some 90, [6, 89], [2]), (some 91, [90, 89], [3, 2]), (some 92, [91, 89], [4, 2, 2]), (some 93, [4, 92], [5]), (some 94, [93, 92], [6, 5]), (some 95, [6, 92], [5]), (some 96, [95, 92], [8, 5]), (some 97, [94, 96, 92], [7, 9, 5]), (some 98, [97, 92], [10, 5]), (some 99, [4, 92], [5]), (some 100, [99, 92], [12, 5]), (some 101, [6, 92], [5]), (some 102, [100, 101, 92], [13, 14, 5]), (some 103, [102, 92], [15, 5]), (some 104, [98, 103, 92], [11, 16, 5]), (some 105, [92, 104, 89], [5, 17, 2]), (some 106, [89, 105], [2, 18])] (by kernel_rfl) (by kernel_rfl) (by kernel_rfl) ?_
      refine qwA ?_
      refine HQ.nil ?_
      refine hwNB ?_
      repeat refine HC.seq ?_
      refine HC.quietS [(some 107, [5], []), (some 108, [107], [0]), (some 109, [0, 108], [1]), (some 110, [7, 108], [1]), (some 111, [109, 110, 108], [2, 3, 1]), (some 112, [111, 108], [4, 1]), (some 113, [112, 108], [5, 1]), (some 114, [4, 108], [1]), (some 115, [114, 108], [7, 1]), (some 116, [113, 115, 108], [6, 8, 1]), (some 117, [108, 116], [1, 9]), (some 5, [117], [10, 1, 0, 1, 2, 3, 4, 5, 6, 7, 8, 9, 10])] (by kernel_rfl) (by kernel_rfl) (by kernel_rfl) ?_
      cases own with
      | true =>
       have g4 := hown.2 (.inl rfl)
       refine qwA ?_
       refine HQ.nil ?_
       refine hwNB ?_
       exact HX.again (k + 1, true) ⟨hkm, hs1, hs2, ⟨fun _ => g4, fun _ => rfl⟩⟩ (by show m - (k + 1) < m - k; omega) esA (by repeat (first | exact Hs.nil _ | (refine Hs.cons pickA ?_)))
      | false =>
       refine qwA ?_
       refine HQ.ld (a := ⟨b0, off0 + j * 4 + 2, none⟩) rfl (fun w' hM => cell_ext hM.ext hpj) rfl ?_
       refine qwA ?_
       by_cases hp : pj = pn
       ·rw [decide_eq_true hp]
        have g4 := hown.2 (.inr hp)
        refine HQ.nil ?_
        refine hwNB ?_
        exact HX.again (k + 1, true) ⟨hkm, hs1, hs2, ⟨fun _ => g4, fun _ => rfl⟩⟩ (by show m - (k + 1) < m - k; omega) esA (by repeat (first | exact Hs.nil _ | (refine Hs.cons pickA ?_)))
       ·rw [decide_eq_false hp]
        refine HQ.nil ?_
        refine hwNB ?_
        exact HX.again (k + 1, false) ⟨hkm, hs1, hs2, ⟨fun h => Bool.noConfusion h, fun h => (hown.1 h).elim (fun h => Bool.noConfusion h) fun h => absurd h hp⟩⟩ (by show m - (k + 1) < m - k; omega) esA (by repeat (first | exact Hs.nil _ | (refine Hs.cons pickA ?_)))
    have hkn : ¬ ((k : Nat) : Int) < (m : Int) := by omega
    have e : k = m := by omega
    rw [e] at g1 g2 g3
    cases own with
    | false =>
     have hno : validN l = false := hbad0 fun ⟨h1, _⟩ => by
      rcases h1.own with h2 | h2
      ·exact k1 h2
      ·obtain ⟨x, hx, h3⟩ := List.any_eq_true.1 h2
       obtain ⟨q, hq, e1⟩ := mem_getI2 hx
       obtain ⟨j, hj, e2⟩ := g1 q (by rw [hm]; exact hq)
       rw [e1, e2, hI.pk hi hj] at h3
       have h4 : (ndAt l j).pack = pn := by simpa using h3
       exact Bool.noConfusion (g3.2 ⟨q, by rw [hm]; exact hq, j, hj, e2, h4⟩)
     refine hwNB ?_
     exact HX.ret1 rfl rfl fun w' hM => ⟨by rw [hno], hM.ext⟩
    | true =>
     have hP : HasP (l.take i) ⟨idn, kn, pn, src⟩ := by
      refine ⟨hok.1, hok.2.1, hok.2.2.1, hok.2.2.2.1, by show src.length ≤ 8; omega, ?_, fun x hx => ?_, .inr ?_, ?_⟩
      ·show kn = 1 ↔ src.length = 0
       rw [← hm]
       exact ⟨fun h => absurd h k1, fun h => absurd (by omega) m0⟩
      ·obtain ⟨q, hq, e1⟩ := mem_getI2 hx
       obtain ⟨j, hj, e2⟩ := g1 q (by rw [hm]; exact hq)
       rw [e1, e2, hI.pk hi hj]; rfl
      ·obtain ⟨q, hq, j, hj, e2, h4⟩ := g3.1 rfl
       refine List.any_eq_true.2 ⟨getI src q, getI_mem (by rw [← hm]; exact hq), ?_⟩
       rw [e2, hI.pk hi hj, h4]
       simp
      ·exact asc_adj fun q h0 hq => g2 q h0 (by rw [hm]; exact hq)
     refine hwNB ?_
     exact HX.again (i + 1) ⟨hlt, hnext hP hok.2.2.2.2.1⟩ (by show l.length - (i + 1) < l.length - i; omega) esA (by repeat (first | exact Hs.nil _ | (refine Hs.cons pickA ?_)))
end Go.Sx
/- Chapter 24: the reference's leaves: the walk. -/
namespace Go.Sx
open Go Go.Proofs Go.RowKit
attribute [local irreducible] WC WL WX POp Then Again Fn NX W1 WA WO QL RP RA Yld LoopAt HC HL HX HN H1 HA HO HQ HB HP A.blk A.grow A.rd A.obj A.mp AgainH CutH
attribute [local irreducible] A.mq A.mit A.all leafB
set_option maxHeartbeats 2000000 in
theorem leaves24_fn {v g : Value} {l : List Nd} {D : List ByteArray} {U : Nat → Value} (hok : okS l D = true) (w : World) (hR : RdN w v l U) (hS : Rd w g (strs D)) :
  Fn Tryz.prog 17 #[v, g] w fun u w' => ∃ z : Option Addr × Nat, True ∧ u = .tuple #[.slice z.1 l.length z.2, .bool true] ∧ Mm w [A.grow 9 1 z.1 z.2 l.length (strs ((l.zip D).map leafP))] w' := by
 have hv := okS_valid hok
 have hlD := (okS_facts hok).2.1
 have h32 := (okS_facts hok).2.2
 have hll := hv.len
 obtain ⟨a, c, rfl, hc, -⟩ := id hR.shape
 obtain ⟨a2, c2, rfl⟩ : ∃ a' c', g = .slice a' D.length c' := by
  obtain ⟨a', c', h1, -⟩ := id hS
  rw [strs_len] at h1
  exact ⟨a', c', h1⟩
 refine enterH (l := [_, _]) rfl Tryz.ntmps17 rfl ?_
 refine hwNB ?_
 refine HL.one (H1.callx (u := .bool true) (vs := [_]) rfl rfl (fun w' hM => by
  have h := valid24ref_fn (by omega) (fun i hi => by have := (nd_ok hv hi).len; omega) w' (hR.ext hM.ext)
  rw [validN_iff.2 hv] at h; exact h) ?_)
 have hld : ¬ ((l.length : Nat) : Int) ≠ (D.length : Int) := by omega
 have hld2 : ((l.length : Nat) : Int) = (D.length : Int) := by omega
 refine hwNB ?_
 refine HC.grow0 9 1 ?_
 refine HC.loop (α := Nat × Option Addr × Nat) (fun q => [(0, .slice a l.length c), (1, .slice a2 D.length c2), (7, .slice q.2.1 q.1 q.2.2), (8, zv (q.1 : Int))]) (fun q => [A.grow 9 1 q.2.1 q.2.2 q.1 (strs (((l.zip D).take q.1).map leafP))]) (fun q => q.1 ≤ l.length) (fun q => l.length - q.1) (0, none, 0) (Nat.zero_le _) esA (by repeat (first | exact Hs.nil _ | (refine Hs.cons pickA ?_))) ?_
 rintro ⟨k, az, cz⟩ hk
 dsimp only at hk ⊢
 by_cases hlt : k < l.length
 ·have hn : ((k : Nat) : Int) < (l.length : Int) := by omega
  have hn2 : ((k : Nat) : Int) < (D.length : Int) := by omega
  have hkD : k < D.length := by omega
  obtain ⟨b0, off0, rfl, hb⟩ := hR.cell hlt
  have hcell := hb k hlt
  obtain ⟨b2, off2, rfl⟩ := rd_addr hS hkD
  have hcd := hS.cell (strs_getB hkD)
  have hsd := h32 _ (getB_mem hkD)
  have hsrc := hR.src k hlt
  have hnk := nd_ok hv hlt
  have hst : strs (((l.zip D).take k).map leafP) ++ [.string (leafB (ndAt l k) (getB D k))] = strs (((l.zip D).take (k + 1)).map leafP) := by rw [zip_take hlD hlt, List.map_append, strs_snoc]; rfl
  generalize getB D k = d at hcd hsd hst
  generalize ndAt l k = nd at hcell hsrc hnk hst
  generalize U k = us at hcell hsrc
  have hs0 : ((d.size : Nat) : Int) = 32 := by omega
  refine hwNB ?_
  refine HL.one (H1.ld0 rfl hcd rfl ?_)
  refine hwNB ?_
  refine HC.anyC ([(⟨b2, off2 + k, none⟩, .string d)]) rfl ?_
  refine HB.pa 0 rfl ?_
  refine HB.pa 1 rfl ?_
  refine HB.pa 2 rfl ?_
  refine HB.pa 3 rfl ?_
  refine HB.pa 5 rfl ?_
  refine HB.pa 6 rfl ?_
  refine HB.pa 7 rfl ?_
  refine HB.ld 8 rfl rfl memD ?_
  refine HB.all keepA [4] (by kernel_rfl) rfl ⟨⟨_, rfl, ?_⟩, trivial⟩
  refine HP.one ?_
  refine H1.ldAggw (vs := ndC nd us) rfl rfl (fun w' hM j u hu => cell_ext hM.ext (hcell j u hu)) rfl ?_
  apply HB.fold
  refine HB.all keepA [9] (by kernel_rfl) rfl ⟨⟨_, rfl, ?_⟩, trivial⟩
  refine HP.one ?_
  refine H1.callx (vs := [_, _]) rfl rfl (fun w' hM => leaf24_fn nd us d hnk (by omega) w' (hsrc.ext hM.ext)) ?_
  apply HB.fold
  refine HB.all keepA [10] (by kernel_rfl) rfl ⟨⟨_, rfl, ?_⟩, trivial⟩
  refine HP.one ?_
  refine H1.lit (cs := [.string (leafB nd d)]) rfl rfl rfl rfl rfl rfl (fun b10 => ?_)
  apply HB.fold
  refine HB.all keepA [11] (by kernel_rfl) rfl ⟨⟨_, rfl, ?_⟩, trivial⟩
  refine HP.one ?_
  refine H1.app1 (u := .string (leafB nd d)) rfl rfl (fun _ _ => by first | ((repeat (first | with_reducible exact Rpl.here | with_reducible apply Rpl.there)); done) | (repeat (first | exact Rpl.here | apply Rpl.there))) memA rfl rfl (by omega) rfl rfl (fun a' c' => ?_)
  rw [hst]
  apply HB.fold
  refine HB.pa 12 rfl ?_
  refine HB.done keepA (by kernel_rfl) ?_
  refine hwNB ?_
  exact HX.again (k + 1, some ⟨a', 0, none⟩, c') hlt (by show l.length - (k + 1) < l.length - k; omega) esA (by repeat (first | exact Hs.nil _ | (refine Hs.cons pickA ?_)))
 have hn : ¬ ((k : Nat) : Int) < (l.length : Int) := by omega
 have e : k = l.length := by omega
 rw [e, show (l.zip D).take l.length = l.zip D from List.take_of_length_le (by rw [List.length_zip]; omega)]
 refine hwNB ?_
 exact HX.ret2 rfl rfl rfl fun w' hM => ⟨(az, cz), trivial, rfl, hM⟩
end Go.Sx
/- Chapter 24, plain: the same root, the same nodes, or two strings with the same digest. -/
namespace Go.Sx
open Go Go.Proofs Go.RowKit
theorem zip_ok {l : List Nd} {D : List ByteArray} (h : okS l D = true) : ∀ x ∈ l.zip D, NdOk x.1 ∧ x.2.size = 32 := by
 intro x hx
 have hm := List.of_mem_zip hx
 obtain ⟨i, hi, e⟩ := List.getElem_of_mem hm.1
 have := nd_ok (okS_valid h) hi
 unfold ndAt at this
 rw [List.getD_eq_getElem?_getD, List.getElem?_eq_getElem hi, e] at this
 exact ⟨this, (okS_facts h).2.2 _ hm.2⟩
theorem leafs_size {l : List Nd} {D : List ByteArray} (h : okS l D = true) : ∀ s ∈ (l.zip D).map leafP, s.size ≤ 2000 := by
 intro s hs
 obtain ⟨x, hx, rfl⟩ := List.mem_map.1 hs
 exact leafB_size (zip_ok h x hx).1 (by rw [(zip_ok h x hx).2]; decide)
end Go.Sx
/- Chapter 24: the law LineageClosed: the walk. -/
namespace Go.Sx
open Go Go.Proofs Go.RowKit
def selL (l : List Nd) (f : Nat → Bool) : Nat → List Int
 | 0 => []
 | k + 1 => if f k = true then selL l f k ++ [(ndAt l k).id] else selL l f k
theorem selL_len (l : List Nd) (f : Nat → Bool) : ∀ k, (selL l f k).length ≤ k
 | 0 => Nat.le_refl _
 | k + 1 => by
  have := selL_len l f k
  show (if _ then _ else _ : List Int).length ≤ _
  split
  ·rw [List.length_append, List.length_singleton]; omega
  ·omega
theorem selL_yes {l : List Nd} {f : Nat → Bool} {k : Nat} (h : f k = true) : selL l f (k + 1) = selL l f k ++ [(ndAt l k).id] := if_pos h
theorem selL_no {l : List Nd} {f : Nat → Bool} {k : Nat} (h : f k = false) : selL l f (k + 1) = selL l f k := if_neg (by rw [h]; decide)
def bitB (p : Int) (i : Nat) : Bool := decide (p / 2 ^ i % 2 = 1)
theorem any_take {s : List Int} {k : Nat} (hk : k < s.length) (p : Int → Bool) : (s.take (k + 1)).any p = ((s.take k).any p || p (getI s k)) := by
 rw [getI_take hk, List.any_append]; simp
attribute [local irreducible] WC WL WX POp Then Again Fn NX W1 WA WO QL RP RA Yld LoopAt HC HL HX HN H1 HA HO HQ HB HP A.blk A.grow A.rd A.obj A.mp AgainH CutH
attribute [local irreducible] A.mq A.mit A.all sumS
end Go.Sx
/- Chapter 24: the law LineageHeld: the walk. -/
namespace Go.Sx
open Go Go.Proofs Go.RowKit
theorem selL_mem {l : List Nd} {f : Nat → Bool} {x : Int} : ∀ {k : Nat}, x ∈ selL l f k ↔ ∃ i, i < k ∧ f i = true ∧ x = (ndAt l i).id
 | 0 => ⟨fun h => (List.not_mem_nil h).elim, fun ⟨i, h, _⟩ => absurd h (Nat.not_lt_zero _)⟩
 | k + 1 => by
  by_cases hf : f k = true
  ·rw [selL_yes hf, List.mem_append, selL_mem, List.mem_singleton]
   constructor
   ·rintro (⟨i, h1, h2, h3⟩ | h)
    ·exact ⟨i, by omega, h2, h3⟩
    ·exact ⟨k, by omega, hf, h⟩
   ·rintro ⟨i, h1, h2, h3⟩
    by_cases e : i = k
    ·exact .inr (e ▸ h3)
    ·exact .inl ⟨i, by omega, h2, h3⟩
  ·rw [selL_no (by simpa using hf), selL_mem]
   constructor
   ·rintro ⟨i, h1, h2, h3⟩
    exact ⟨i, by omega, h2, h3⟩
   ·rintro ⟨i, h1, h2, h3⟩
    by_cases e : i = k
    ·exact absurd (e ▸ h2) hf
    ·exact ⟨i, by omega, h2, h3⟩
def ownL (l : List Nd) (pk : Int) : List Int := selL l (fun i => decide ((ndAt l i).pack = pk)) l.length
theorem gone_own {l : List Nd} (hv : ValidP l) (pk : Int) : derA l (ownL l pk) = srtI (goneL l pk) := by
 rw [derA_eq hv]
 unfold goneL
 rw [derL_congr (fun i hi => ?_) (Nat.le_refl _)]
 rw [decide_eq_decide]
 unfold ownL
 rw [selL_mem]
 constructor
 ·rintro ⟨j, h1, h2, h3⟩
  have := hv.inj hi h1 h3
  subst this
  exact of_decide_eq_true h2
 ·intro h
  exact ⟨i, hi, decide_eq_true h, rfl⟩
def stopB (B : Nat → List Rc) (l : List Nd) (G : List Int) (fr d : Int) : Bool := (decide (d < fr) || decide ((G.length : Int) = 0)) || l.any fun n => G.any fun x => decide (n.id = x) && heldN B d n
attribute [local irreducible] WC WL WX POp Then Again Fn NX W1 WA WO QL RP RA Yld LoopAt HC HL HX HN H1 HA HO HQ HB HP A.blk A.grow A.rd A.obj A.mp AgainH CutH
attribute [local irreducible] A.mq A.mit A.all sumS rootP
end Go.Sx
/- Chapter 24, plain: what the reference's Derived, put, Held say. -/
namespace Go.Sx
open Go Go.Proofs Go.RowKit
theorem derL_new {l : List Nd} (hv : ValidP l) (p : Nat → Bool) {i : Nat} (hi : i < l.length) : (ndAt l i).id ∉ derL l p i := fun h => by
 obtain ⟨j, h1, h2⟩ := derL_ids h
 have := hv.asc j i h1 hi
 omega
theorem derL_asc {l : List Nd} (hv : ValidP l) (p : Nat → Bool) : ∀ i, i ≤ l.length → AscI (derL l p i)
 | 0, _ => List.Pairwise.nil
 | i + 1, hi => by
  show AscI (if _ then _ else _)
  split
  ·unfold sAdd
   rw [if_neg (derL_new hv p hi)]
   refine List.pairwise_append.2 ⟨derL_asc hv p i (by omega), List.pairwise_singleton _ _, fun a ha b hb => ?_⟩
   rw [List.mem_singleton.1 hb]
   obtain ⟨j, h1, rfl⟩ := derL_ids ha
   exact hv.asc j i h1 hi
  ·exact derL_asc hv p i (by omega)
def derR (l : List Nd) (f : List Int) (k : Nat) : List Int := derL l (fun i => decide ((ndAt l i).id ∈ f)) k
theorem derR_all {l : List Nd} (hv : ValidP l) (f : List Int) : derR l f l.length = derA l f := by rw [derA_eq hv]; exact (srt_asc (derL_asc hv _ _ (Nat.le_refl _))).symm
theorem derR_yes {l : List Nd} (hv : ValidP l) {f : List Int} {k : Nat} (hk : k < l.length) (h : ((decide ((ndAt l k).id ∈ f)) || (ndAt l k).src.any fun x => decide (x ∈ derR l f k)) = true) : derR l f (k + 1) = derR l f k ++ [(ndAt l k).id] := by
 refine Eq.trans (if_pos h) ?_
 unfold sAdd
 rw [if_neg (derL_new hv _ hk)]; rfl
theorem derR_no {l : List Nd} {f : List Int} {k : Nat} (h : ((decide ((ndAt l k).id ∈ f)) || (ndAt l k).src.any fun x => decide (x ∈ derR l f k)) = false) : derR l f (k + 1) = derR l f k := by
 exact if_neg (fun hh => Bool.noConfusion (h.symm.trans hh))
theorem derR_len (l : List Nd) (f : List Int) (k : Nat) : (derR l f k).length ≤ k := derL_len _ _ _
/- ascending lists -/
theorem asc_at {l : List Int} (h : AscI l) {i j : Nat} (hij : i < j) (hj : j < l.length) : getI l i < getI l j := by
 have := List.pairwise_iff_getElem.1 h i j (by omega) hj hij
 unfold getI
 rw [List.getD_eq_getElem?_getD, List.getD_eq_getElem?_getD, List.getElem?_eq_getElem (show i < l.length by omega), List.getElem?_eq_getElem hj]
 exact this
theorem mem_at {l : List Int} {x : Int} : x ∈ l ↔ ∃ i, i < l.length ∧ x = getI l i := by
 rw [List.mem_iff_getElem]
 constructor
 ·rintro ⟨i, h, rfl⟩
  exact ⟨i, h, by unfold getI; simp [h]⟩
 ·rintro ⟨i, h, rfl⟩
  exact ⟨i, h, by unfold getI; simp [h]⟩
theorem put_at {l : List Int} (h : AscI l) {x : Int} {k : Nat} (hk : k ≤ l.length) (h1 : ∀ i, i < k → getI l i < x) (h2 : k < l.length → ¬ getI l k < x) : x ∈ l ↔ k < l.length ∧ getI l k = x := by
 constructor
 ·intro hx
  obtain ⟨j, hj, e⟩ := mem_at.1 hx
  have hjk : k ≤ j := Nat.le_of_not_lt fun hh => by have := h1 j hh; omega
  have hkl : k < l.length := by omega
  refine ⟨hkl, ?_⟩
  have h3 := h2 hkl
  rcases Nat.lt_or_ge k j with hlt | hge
  ·have := asc_at h hlt hj; omega
  ·rw [show j = k by omega] at e; exact e.symm
 ·rintro ⟨h3, h4⟩
  exact mem_at.2 ⟨k, h3, h4.symm⟩
def insL (l : List Int) (x : Int) (k : Nat) : List Int := l.take k ++ [x] ++ l.drop k
theorem insL_len {l : List Int} {x : Int} {k : Nat} (hk : k ≤ l.length) : (insL l x k).length = l.length + 1 := by
 unfold insL
 rw [List.length_append, List.length_append, List.length_take, List.length_drop, List.length_singleton]; omega
theorem insL_mem {l : List Int} {x y : Int} {k : Nat} : y ∈ insL l x k ↔ y = x ∨ y ∈ l := by
 unfold insL
 rw [List.mem_append, List.mem_append, List.mem_singleton]
 conv => rhs; rw [← List.take_append_drop k l, List.mem_append]
 constructor
 ·rintro ((h | h) | h)
  ·exact .inr (.inl h)
  ·exact .inl h
  ·exact .inr (.inr h)
 ·rintro (h | h | h)
  ·exact .inl (.inr h)
  ·exact .inl (.inl h)
  ·exact .inr h
theorem insL_asc {l : List Int} (h : AscI l) {x : Int} {k : Nat} (hk : k ≤ l.length) (h1 : ∀ i, i < k → getI l i < x) (h2 : k < l.length → x < getI l k) : AscI (insL l x k) := by
 have hl : AscI (l.take k ++ l.drop k) := by rw [List.take_append_drop]; exact h
 obtain ⟨p1, p2, p3⟩ := List.pairwise_append.1 hl
 have ht : ∀ a ∈ l.take k, a < x := fun a ha => by
  obtain ⟨i, hi, e⟩ := List.mem_iff_getElem.1 ha
  rw [List.length_take] at hi
  have h3 := h1 i (by omega)
  rw [List.getElem_take] at e
  unfold getI at h3
  rw [List.getD_eq_getElem?_getD, List.getElem?_eq_getElem (show i < l.length by omega)] at h3
  rw [← e]; exact h3
 have hd : ∀ b ∈ l.drop k, x < b := fun b hb => by
  obtain ⟨i, hi, e⟩ := List.mem_iff_getElem.1 hb
  rw [List.length_drop] at hi
  have h3 := h2 (by omega)
  rw [List.getElem_drop] at e
  have h4 : b = getI l (k + i) := by rw [← e]; unfold getI; rw [List.getD_eq_getElem?_getD, List.getElem?_eq_getElem (show k + i < l.length by omega)]; rfl
  rw [h4]
  rcases Nat.eq_zero_or_pos i with h0 | h0
  ·rw [h0]; exact h3
  ·have := asc_at h (show k < k + i by omega) (by omega); omega
 refine List.pairwise_append.2 ⟨List.pairwise_append.2 ⟨p1, List.pairwise_singleton _ _, fun a ha b hb => ?_⟩, p2, fun a ha b hb => ?_⟩
 ·rw [List.mem_singleton.1 hb]; exact ht a ha
 ·rcases List.mem_append.1 ha with ha | ha
  ·exact p3 a ha b hb
  ·rw [List.mem_singleton.1 ha]; exact hd b hb
/- Held -/
structure HeldI (hs rs : List Rc) (pk d : Int) (k : Nat) (L : List Int) : Prop where
 asc : AscI L
 mem : ∀ x, x ∈ L ↔ ∃ r ∈ (hs.take k).filter (heldB rs pk d), r.id = x
theorem HeldI.zero (hs rs : List Rc) (pk d : Int) : HeldI hs rs pk d 0 [] := ⟨List.Pairwise.nil, fun x => by simp⟩
theorem HeldI.no {hs rs : List Rc} {pk d : Int} {k : Nat} {L : List Int} (h : HeldI hs rs pk d k L) {r : Rc} (hr : hs[k]? = some r) (hb : heldB rs pk d r = false) : HeldI hs rs pk d (k + 1) L := by
 refine ⟨h.asc, fun x => ?_⟩
 rw [h.mem, List.take_add_one, hr, List.filter_append]
 simp [hb]
theorem HeldI.old {hs rs : List Rc} {pk d : Int} {k : Nat} {L : List Int} (h : HeldI hs rs pk d k L) {r : Rc} (hr : hs[k]? = some r) (hx : r.id ∈ L) : HeldI hs rs pk d (k + 1) L := by
 refine ⟨h.asc, fun x => ?_⟩
 rw [List.take_add_one, hr, List.filter_append]
 constructor
 ·intro hh
  obtain ⟨q, h1, h2⟩ := (h.mem x).1 hh
  exact ⟨q, List.mem_append_left _ h1, h2⟩
 ·rintro ⟨q, h1, h2⟩
  rcases List.mem_append.1 h1 with h1 | h1
  ·exact (h.mem x).2 ⟨q, h1, h2⟩
  ·have : q = r := by simpa using (List.mem_filter.1 h1).1
   rw [← h2, this]; exact hx
theorem HeldI.new {hs rs : List Rc} {pk d : Int} {k : Nat} {L M : List Int} (h : HeldI hs rs pk d k L) {r : Rc} (hr : hs[k]? = some r) (hb : heldB rs pk d r = true) (ha : AscI M) (hm : ∀ y, y ∈ M ↔ y = r.id ∨ y ∈ L) : HeldI hs rs pk d (k + 1) M := by
 refine ⟨ha, fun x => ?_⟩
 rw [hm, h.mem, List.take_add_one, hr, List.filter_append]
 constructor
 ·rintro (rfl | ⟨q, h1, h2⟩)
  ·exact ⟨r, List.mem_append_right _ (List.mem_filter.2 ⟨by simp, hb⟩), rfl⟩
  ·exact ⟨q, List.mem_append_left _ h1, h2⟩
 ·rintro ⟨q, h1, h2⟩
  rcases List.mem_append.1 h1 with h1 | h1
  ·exact .inr ⟨q, h1, h2⟩
  ·have : q = r := by simpa using (List.mem_filter.1 h1).1
   rw [this] at h2; exact .inl h2.symm
theorem HeldI.all {hs rs : List Rc} {pk d : Int} {L : List Int} (h : HeldI hs rs pk d hs.length L) : L = heldL hs rs pk d := by
 refine ascI_ext h.asc (numL_lt _) fun x => ?_
 rw [h.mem, List.take_length]
 unfold heldL
 rw [mem_numL, List.mem_map]
theorem HeldI.len {hs rs : List Rc} {pk d : Int} {k : Nat} {L : List Int} (h : HeldI hs rs pk d k L) : L.length ≤ k := by
 have h1 : L.length ≤ (((hs.take k).filter (heldB rs pk d)).map Rc.id).length := nodup_len (ascI_nodup h.asc) fun x hx => by
  obtain ⟨r, h1, h2⟩ := (h.mem x).1 hx
  exact List.mem_map.2 ⟨r, h1, h2⟩
 rw [List.length_map] at h1
 have h2 := List.length_filter_le (heldB rs pk d) (hs.take k)
 rw [List.length_take] at h2
 omega
theorem gone_any {l : List Nd} {D : List ByteArray} (hok : okS l D = true) (pk : Int) (f : Nd → Bool) : (ndsP (prN l D (goneL l pk) true)).any f = (srtI (goneL l pk)).any fun x => l.any fun n => decide (n.id = x) && f n := by
 rw [prN_nds (okS_facts hok).2.1, Bool.eq_iff_iff, List.any_eq_true, List.any_eq_true]
 constructor
 ·rintro ⟨n, hn, h⟩
  obtain ⟨h1, h2⟩ := List.mem_filter.1 hn
  have h3 : n.id ∈ goneL l pk := by
   rw [beq_iff_eq, decide_eq_true_eq] at h2; exact h2
  exact ⟨n.id, mem_srtI.2 h3, List.any_eq_true.2 ⟨n, h1, by rw [decide_eq_true rfl, h]; rfl⟩⟩
 ·rintro ⟨x, hx, h⟩
  obtain ⟨n, hn, h⟩ := List.any_eq_true.1 h
  rw [Bool.and_eq_true, decide_eq_true_eq] at h
  refine ⟨n, List.mem_filter.2 ⟨hn, ?_⟩, h.2⟩
  rw [beq_iff_eq, decide_eq_true_eq, h.1]
  exact mem_srtI.1 hx
theorem any_ix {l : List Nd} (hv : ValidP l) {i : Nat} (hi : i < l.length) (f : Nd → Bool) : (l.any fun n => decide (n.id = (ndAt l i).id) && f n) = f (ndAt l i) := by
 rw [Bool.eq_iff_iff, List.any_eq_true]
 constructor
 ·rintro ⟨n, hn, h⟩
  obtain ⟨j, hj, rfl⟩ := mem_nd.1 hn
  rw [Bool.and_eq_true, decide_eq_true_eq] at h
  have := hv.inj hj hi h.1
  rw [← this]; exact h.2
 ·intro h
  exact ⟨_, mem_nd.2 ⟨i, hi, rfl⟩, by rw [decide_eq_true rfl, h]; rfl⟩
end Go.Sx
/- Chapter 24: the reference's has and Derived: the walk. -/
namespace Go.Sx
open Go Go.Proofs Go.RowKit
attribute [local irreducible] WC WL WX POp Then Again Fn NX W1 WA WO QL RP RA Yld LoopAt HC HL HX HN H1 HA HO HQ HB HP A.blk A.grow A.rd A.obj A.mp AgainH CutH
attribute [local irreducible] A.mq A.mit A.all sumS
theorem hasR24_fn (v : Value) (l : List Int) (n : Int) (hl : l.length ≤ 1000000) (w : World) (hR : Rd w v (ints l)) :
  Fn Tryz.prog 64 #[v, zv n] w fun u w' => u = .bool (decide (n ∈ l)) ∧ Ext w w' := by
 obtain ⟨a, c, rfl, hc⟩ := hR.isInts
 refine enterH (l := [_, _]) rfl Tryz.ntmps64 rfl ?_
 refine hwNB ?_
 refine HC.loop (α := Nat) (fun k => [(0, .slice a l.length c), (1, zv n), (5, zv (k : Int))]) (fun _ => []) (fun k => k ≤ l.length ∧ n ∉ l.take k) (fun k => l.length - k) 0 ⟨Nat.zero_le _, by simp⟩ esA (Hs.refl _) ?_
 rintro k ⟨hk, hI⟩
 by_cases hlt : k < l.length
 ·have hn : ((k : Nat) : Int) < (l.length : Int) := by omega
  obtain ⟨b, off, rfl⟩ := rd_addr hR hlt
  have hcl := hR.cell (ints_getI hlt)
  have hm := getI_mem hlt
  have htk := getI_take hlt
  generalize getI l k = x at hcl hm htk
  refine hwNB ?_
  refine HL.one (H1.ld0 rfl hcl rfl ?_)
  by_cases hx : x = n
  ·refine hwNB ?_
   exact HX.ret1 rfl rfl fun w' hM => ⟨by rw [decide_eq_true (hx ▸ hm)], hM.ext⟩
  ·refine hwNB ?_
   exact HX.again (k + 1) ⟨hlt, by rw [htk]; simp [hI, Ne.symm hx]⟩ (by show l.length - (k + 1) < l.length - k; omega) esA (Hs.refl _)
 have hn : ¬ ((k : Nat) : Int) < (l.length : Int) := by omega
 obtain rfl : k = l.length := by omega
 rw [List.take_length] at hI
 refine hwNB ?_
 exact HX.ret1 rfl rfl fun w' hM => ⟨by rw [decide_eq_false hI], hM.ext⟩
set_option maxHeartbeats 2000000 in
theorem derivedR_fn {v vf : Value} {l : List Nd} {f : List Int} {U : Nat → Value} (hl : l.length ≤ 400000) (hs : ∀ i, i < l.length → (ndAt l i).src.length ≤ 1000000) (hf : f.length ≤ 1000000) (w : World) (hR : RdN w v l U) (hF : Rd w vf (ints f)) :
  Fn Tryz.prog 28 #[v, vf] w fun u w' => ∃ z : Option Addr × Nat, True ∧ u = .slice z.1 (derA l f).length z.2 ∧ Mm w [A.grow 3 1 z.1 z.2 (derA l f).length (ints (derA l f))] w' := by
 obtain ⟨a, c, rfl, hc, -⟩ := id hR.shape
 obtain ⟨af, cf, rfl, -⟩ := hF.isInts
 refine enterH (l := [_, _]) rfl Tryz.ntmps28 rfl ?_
 refine hwNB ?_
 refine HL.one (H1.callx (vs := [_]) rfl rfl (fun w' hM => valid24ref_fn hl hs w' (hR.ext hM.ext)) ?_)
 cases hv : validN l with
 | false =>
  have hd : derA l f = [] := by unfold derA; rw [hv]; rfl
  rw [hd]
  refine hwNB ?_
  refine HC.grow0 3 1 ?_
  refine HC.loop (α := Unit) (fun _ => [(0, .slice a l.length c), (5, .bool false), (6, .slice none 0 0), (7, zv ((0 : Nat) : Int))]) (fun _ => [A.grow 3 1 none 0 0 []]) (fun _ => True) (fun _ => 0) () trivial esA (by repeat (first | exact Hs.nil _ | (refine Hs.cons pickA ?_))) ?_
  rintro - -
  by_cases h0 : ((0 : Nat) : Int) < (l.length : Int)
  ·refine hwNB ?_
   exact HX.ret1 rfl rfl fun w' hM => ⟨(none, 0), trivial, rfl, hM⟩
  ·refine hwNB ?_
   exact HX.ret1 rfl rfl fun w' hM => ⟨(none, 0), trivial, rfl, hM⟩
 | true =>
 have hvp := validN_iff.1 hv
 rw [← derR_all hvp f]
 refine hwNB ?_
 refine HC.grow0 3 1 ?_
 refine HC.loop (α := Nat × Option Addr × Nat) (fun q => [(0, .slice a l.length c), (1, .slice af f.length cf), (5, .bool true), (6, .slice q.2.1 (derR l f q.1).length q.2.2), (7, zv (q.1 : Int))]) (fun q => [A.grow 3 1 q.2.1 q.2.2 (derR l f q.1).length (ints (derR l f q.1))]) (fun q => q.1 ≤ l.length) (fun q => l.length - q.1) (0, none, 0) (Nat.zero_le _) esA (by repeat (first | exact Hs.nil _ | (refine Hs.cons pickA ?_))) ?_
 rintro ⟨k, ao, co⟩ hk
 dsimp only at hk ⊢
 by_cases hlt : k < l.length
 rotate_left
 ·have hn : ¬ ((k : Nat) : Int) < (l.length : Int) := by omega
  obtain rfl : k = l.length := by omega
  refine hwNB ?_
  exact HX.ret1 rfl rfl fun w' hM => ⟨(ao, co), trivial, rfl, hM⟩
 have hn : ((k : Nat) : Int) < (l.length : Int) := by omega
 obtain ⟨b0, off0, rfl, hb⟩ := hR.cell hlt
 have hc0 := hb k hlt 0 (zv (ndAt l k).id) rfl
 have hc3 := hb k hlt 3 (U k) rfl
 have hsx := hR.src k hlt
 have hsl := hs k hlt
 have hyes := derR_yes hvp (f := f) hlt
 have hno := derR_no (l := l) (f := f) (k := k)
 have hdl := derR_len l f k
 clear hb
 generalize (ndAt l k).id = x at hc0 hyes hno
 generalize (ndAt l k).src = s at hsx hsl hyes hno
 generalize U k = uk at hc3 hsx
 generalize derR l f k = C at hyes hno hdl ⊢
 obtain ⟨a4, c4, rfl, hcs⟩ := hsx.isInts
 refine hwNB ?_
 refine HL.one (H1.ld0 rfl hc0 rfl ?_)
 refine hwNB ?_
 refine HL.one (H1.callx (vs := [_, _]) rfl rfl (fun w' hM => hasR24_fn _ f x hf w' (hF.ext hM.ext)) ?_)
 refine hbDE ?_
 refine HC.block ?_
 refine HC.loop (α := Nat) (fun j => [(0, .slice (some ⟨b0, off0, none⟩) l.length c), (1, .slice af f.length cf), (5, .bool true), (6, .slice ao C.length co), (7, zv (k : Int)), (8, .bool (decide (x ∈ f) || (s.take j).any fun y => decide (y ∈ C))), (9, zv (j : Int))])
  (fun _ => [A.grow 3 1 ao co C.length (ints C)]) (fun j => j ≤ s.length) (fun j => s.length - j) 0 (Nat.zero_le _) (by refine ⟨rfl, rfl, rfl, rfl, rfl, ?_, rfl, trivial⟩; show some (Value.bool _) = some (Value.bool _); rw [List.take_zero]; simp) (by repeat (first | exact Hs.nil _ | (refine Hs.cons pickA ?_))) ?_
 intro j hj
 by_cases hjl : j < s.length
 ·have hjn : ((j : Nat) : Int) < (s.length : Int) := by omega
  have hany := any_take hjl fun y => decide (y ∈ C)
  obtain ⟨b4, off4, rfl⟩ := rd_addr hsx hjl
  have hcy := hsx.cell (ints_getI hjl)
  generalize getI s j = y at hany hcy
  generalize ((s.take j).any fun y => decide (y ∈ C)) = r0 at hany ⊢
  refine hwNB ?_
  refine HL.one (H1.ld0 rfl hc3 rfl ?_)
  refine hwNB ?_
  refine HL.one (H1.ld0 rfl hc3 rfl ?_)
  refine hwNB ?_
  refine HL.one (H1.ld0 rfl hcy rfl ?_)
  refine hwNB ?_
  refine HL.one (H1.callx (vs := [_, _]) rfl rfl (fun w' hM => hasR24_fn _ C y (by omega) w' (hM.gr (a := ao) (c := co) memA)) ?_)
  cases hw0 : (decide (x ∈ f) || r0) with
  | true =>
   refine hwNB ?_
   exact HX.again (j + 1) hjl (by show s.length - (j + 1) < s.length - j; omega) (by refine ⟨rfl, rfl, rfl, rfl, rfl, ?_, rfl, trivial⟩; show some (Value.bool _) = some (Value.bool (decide (x ∈ f) || (s.take (j + 1)).any fun y => decide (y ∈ C))); rw [hany, ← Bool.or_assoc, hw0]; rfl) (by repeat (first | exact Hs.nil _ | (refine Hs.cons pickA ?_)))
  | false =>
   refine hwNB ?_
   exact HX.again (j + 1) hjl (by show s.length - (j + 1) < s.length - j; omega) (by refine ⟨rfl, rfl, rfl, rfl, rfl, ?_, rfl, trivial⟩; show some (Value.bool _) = some (Value.bool (decide (x ∈ f) || (s.take (j + 1)).any fun y => decide (y ∈ C))); rw [hany, ← Bool.or_assoc, hw0]; rfl) (by repeat (first | exact Hs.nil _ | (refine Hs.cons pickA ?_)))
 have hjn : ¬ ((j : Nat) : Int) < (s.length : Int) := by omega
 obtain rfl : j = s.length := by omega
 rw [List.take_length]
 cases hw0 : (decide (x ∈ f) || s.any fun y => decide (y ∈ C)) with
 | true =>
  have ea := hyes hw0
  have la := congrArg List.length ea
  rw [List.length_append, List.length_singleton] at la
  refine hwNB ?_
  refine HL.one (H1.ld0 rfl hc3 rfl ?_)
  refine hwNB ?_
  refine HL.one (H1.ld0 rfl hc0 rfl ?_)
  refine hwNB ?_
  refine HL.one (H1.lit (cs := [zv x]) rfl rfl rfl rfl rfl rfl (fun b8 => ?_))
  refine hwNB ?_
  refine HL.one (H1.app1 (u := zv x) rfl rfl (fun _ _ => by first | ((repeat (first | with_reducible exact Rpl.here | with_reducible apply Rpl.there)); done) | (repeat (first | exact Rpl.here | apply Rpl.there))) memA rfl rfl (by omega) rfl rfl (fun a2 c2 => ?_))
  rw [ints_snocL, ← ea, ← la]
  refine hwNB ?_
  exact HX.again (k + 1, some ⟨a2, 0, none⟩, c2) hlt (by show l.length - (k + 1) < l.length - k; omega) esA (by repeat (first | exact Hs.nil _ | (refine Hs.cons pickA ?_)))
 | false =>
  have ea := hno hw0
  rw [← ea]
  refine hwNB ?_
  refine HL.one (H1.ld0 rfl hc3 rfl ?_)
  refine hwNB ?_
  exact HX.again (k + 1, ao, co) hlt (by show l.length - (k + 1) < l.length - k; omega) esA (by repeat (first | exact Hs.nil _ | (refine Hs.cons pickA ?_)))
end Go.Sx
/- Chapter 24: the reference's order, holds, put, Held: the walk. -/
namespace Go.Sx
open Go Go.Proofs Go.RowKit
section
variable {P : Program} {N : Nat} {ds : List Deferred} {E : Env} {t ty : TypeId} {x lo hi : Operand} {k' : IntKind} {e : TypeId} {l c : Nat} {a : Option Addr} {z : Value} {bb : Nat}
theorem POp.cutHiN24 {n : Int} [h : UTy P t (.slice e)] [hi' : ITy P e z 1 bb] (hx : Env.ev E x = some (.slice none l c)) (hh : Env.ev E hi = some (.int k' n)) (h1 : 0 ≤ n) (h2 : n ≤ c) :
  POp P N ds E (.slice t x none (some hi) none) ty (.slice none n.toNat c) := fun a ha d pos af g w => by
 by_cases hc : c = 0
 ·subst hc
  simp [execOp, ha.ev hx, ha.ev hh, Instr.sliceAt, Instr.slice, run_underlying h.is, Instr.sliceBounds, run_bound h1 (show n ≤ ((0 : Nat) : Int) from h2), Sem.run_bind, run_sizeOf]
 ·simp [execOp, ha.ev hx, ha.ev hh, Instr.sliceAt, Instr.slice, run_underlying h.is, Instr.sliceBounds, run_bound h1 h2, Sem.run_bind, run_sizeOf, hc]
theorem POp.cutHiS24 {n : Int} {ad : Addr} [h : UTy P t (.slice e)] [hi' : ITy P e z 1 bb] (hx : Env.ev E x = some (.slice (some ad) l c)) (hh : Env.ev E hi = some (.int k' n)) (h1 : 0 ≤ n) (h2 : n ≤ c) :
  POp P N ds E (.slice t x none (some hi) none) ty (.slice (some ad) n.toNat c) := fun a ha d pos af g w => by
 have e0 : ad.add 0 = ad := rfl
 by_cases hc : c = 0
 ·subst hc
  simp [execOp, ha.ev hx, ha.ev hh, Instr.sliceAt, Instr.slice, run_underlying h.is, Instr.sliceBounds, run_bound h1 (show n ≤ ((0 : Nat) : Int) from h2), Sem.run_bind, run_sizeOf]
 ·simp [execOp, ha.ev hx, ha.ev hh, Instr.sliceAt, Instr.slice, run_underlying h.is, Instr.sliceBounds, run_bound h1 h2, Sem.run_bind, run_sizeOf, hc, e0]
theorem POp.cutHi24 {n : Nat} [h : UTy P t (.slice e)] [hi' : ITy P e z 1 bb] (hx : Env.ev E x = some (.slice a l c)) (hh : Env.ev E hi = some (.int k' (n : Int))) (h2 : n ≤ c) : POp P N ds E (.slice t x none (some hi) none) ty (.slice a n c) := by
 cases a with
 | none => exact POp.cutHiN24 (n := (n : Int)) hx hh (by omega) (by omega)
 | some ad => exact POp.cutHiS24 (n := (n : Int)) hx hh (by omega) (by omega)
def from24 (a : Option Addr) (c m : Nat) : Option Addr := if c = m then a else a.map (·.add m)
theorem POp.cutLo24 {m : Nat} [h : UTy P t (.slice e)] [hi' : ITy P e z 1 bb] (hx : Env.ev E x = some (.slice a l c)) (hl : Env.ev E lo = some (.int k' (m : Int))) (h1 : m ≤ l) :
  POp P N ds E (.slice t x (some lo) none none) ty (.slice (from24 a c m) (l - m) (c - m)) := fun ac ha d pos af g w => by
 simp [execOp, ha.ev hx, ha.ev hl, Instr.sliceAt, Instr.slice, run_underlying h.is, Instr.sliceBounds, run_bound (show 0 ≤ (m : Int) by omega) (show (m : Int) ≤ (l : Int) by omega), Sem.run_bind, run_sizeOf, from24]
end
theorem Rd.from24 {w : World} {a : Option Addr} {n c m : Nat} {vs : List Value} (h : Rd w (.slice a n c) vs) (hm : m ≤ vs.length) : Rd w (.slice (Go.Sx.from24 a c m) (n - m) (c - m)) (vs.drop m) := by
 obtain ⟨a', c', h1, h2, h3⟩ := h
 cases h1
 refine ⟨_, _, by rw [List.length_drop], by rw [List.length_drop]; omega, ?_⟩
 by_cases he : vs.drop m = []
 ·exact .inl he
 ·have hlt : m < vs.length := by
   refine Classical.byContradiction fun hn => he (List.drop_eq_nil_of_le (by omega))
  rcases h3 with h3 | ⟨b, off, h3, h4, h5⟩
  ·subst h3; exact absurd hlt (Nat.not_lt_zero _)
  ·subst h3
   refine .inr ⟨b, off + m, ?_, h4, fun i u hu => ?_⟩
   ·unfold Go.Sx.from24
    rw [if_neg (by omega)]
    show some (Addr.add ⟨b, off, none⟩ m) = _
    rw [add_lit]
   ·rw [List.getElem?_drop] at hu
    rw [Nat.add_assoc]
    exact h5 _ u hu
def ordV (x : Option Rc) (d : Int) : Value := match x with | none => .tuple #[zv 0, .bool false] | some r => .tuple #[zv r.pack, .bool (decide (r.start ≤ d))]
theorem take_any {hs : List Rc} {k : Nat} {r : Rc} (hr : hs[k]? = some r) (p : Rc → Bool) : (hs.take (k + 1)).any p = ((hs.take k).any p || p r) := by
 rw [List.take_add_one, hr, List.any_append]; simp
attribute [local irreducible] WC WL WX POp Then Again Fn NX W1 WA WO QL RP RA Yld LoopAt HC HL HX HN H1 HA HO HQ HB HP A.blk A.grow A.rd A.obj A.mp AgainH CutH
attribute [local irreducible] A.mq A.mit A.all sumS
set_option maxHeartbeats 2000000 in
theorem orderR_fn {B : Nat → List Rc} {vb : Value} (o d : Int) (hl7 : (B 7).length ≤ 1000000) (w : World) (hB : BaseV w vb B) :
  Fn Tryz.prog 65 #[vb, zv o, zv d] w fun u w' => u = ordV (ordF (B 7) o) d ∧ Ext w w' := by
 obtain ⟨s, rfl, hs⟩ := id hB
 have h7 := hs 7 (by decide)
 obtain ⟨a7, c7, e7, -⟩ := h7.shape
 rw [e7] at h7
 have hrw : row 8 s = [s 0, s 1, s 2, s 3, s 4, s 5, s 6, .slice a7 (B 7).length c7] := by rw [← e7]; rfl
 rw [hrw]
 clear hrw e7 hs hB
 generalize B 7 = L at hl7 h7 ⊢
 refine enterH (l := [_, _, _]) rfl Tryz.ntmps65 rfl ?_
 refine hwNB ?_
 refine HL.one (H1.boxAgg (cs := [s 0, s 1, s 2, s 3, s 4, s 5, s 6, .slice a7 L.length c7]) rfl rfl (fun b3 => ?_))
 refine hwNB ?_
 refine HC.loop (α := Nat) (fun j => [(1, zv o), (2, zv d), (3, .pointer (some ⟨b3, 0, none⟩)), (8, zv (j : Int))]) (fun _ => [A.blk b3 [s 0, s 1, s 2, s 3, s 4, s 5, s 6, .slice a7 L.length c7] 49]) (fun j => j ≤ L.length ∧ (L.take j).any (fun r => decide (r.id = o)) = false) (fun j => L.length - j) 0 ⟨Nat.zero_le _, rfl⟩ esA (by repeat (first | exact Hs.nil _ | (refine Hs.cons pickA ?_))) ?_
 rintro j ⟨hj, hI⟩
 by_cases hlt : j < L.length
 ·have hn : ((j : Nat) : Int) < (L.length : Int) := by omega
  obtain ⟨r, hr⟩ : ∃ r, L[j]? = some r := ⟨_, List.getElem?_eq_getElem hlt⟩
  have htk : L.take (j + 1) = L.take j ++ [r] := by rw [List.take_add_one, hr]; rfl
  obtain ⟨bl, off, rfl, -, hcell⟩ := h7.at (fun e => by rw [e] at hlt; exact absurd hlt (Nat.not_lt_zero _))
  have hcl := hcell j r hr
  have hc1 := hcl 1 _ rfl
  have hc5 := hcl 5 _ rfl
  have hc7 := hcl 7 _ rfl
  clear hcell hcl
  refine hwNB ?_
  refine HL.one (H1.ld0 rfl hc1 rfl ?_)
  by_cases hx : r.id = o
  ·have hf : ordF L o = some r := take_find hI hr (decide_eq_true hx)
   refine hwNB ?_
   refine HC.quietS [(some 24, [3], []), (some 25, [24], [0]), (some 26, [8], []), (some 27, [25, 26], [1, 2]), (some 28, [27], [3]), (some 29, [28], [4]), (some 30, [3], []), (some 31, [30], [6]), (some 32, [8], []), (some 33, [31, 32], [7, 8]), (some 34, [33], [9]), (some 35, [34], [10]), (some 36, [2], []), (some 37, [35, 36], [11, 12]), (some 6, [29], [5, 0, 1, 2, 3, 4, 5]), (some 7, [37], [13, 14, 0, 1, 2, 3, 4, 5, 6, 7, 8, 9, 10, 11, 12, 13, 14])] (by kernel_rfl) (by kernel_rfl) (by kernel_rfl) ?_
   refine qwA ?_
   refine HQ.ld rfl (fun w' hM => cell_ext hM.ext hc7) rfl ?_
   refine qwA ?_
   refine HQ.ld rfl (fun w' hM => cell_ext hM.ext hc5) rfl ?_
   refine qwA ?_
   refine HQ.nil ?_
   refine hwNB ?_
   exact HX.ret2 rfl rfl rfl fun w' hM => ⟨by rw [hf]; rfl, hM.ext⟩
  ·refine hwNB ?_
   exact HX.again (j + 1) ⟨hlt, by rw [htk, List.any_append, hI]; simp [hx]⟩ (by show L.length - (j + 1) < L.length - j; omega) esA (by repeat (first | exact Hs.nil _ | (refine Hs.cons pickA ?_)))
 have hn : ¬ ((j : Nat) : Int) < (L.length : Int) := by omega
 obtain rfl : j = L.length := by omega
 rw [List.take_length] at hI
 have hf : ordF L o = none := List.find?_eq_none.2 fun x hx => by simpa using List.any_eq_false.1 hI x hx
 refine hwNB ?_
 exact HX.ret2 rfl rfl rfl fun w' hM => ⟨by rw [hf]; rfl, hM.ext⟩
theorem holdsR_fn (r : Rc) (d : Int) (w : World) : Fn Tryz.prog 107 #[recV r, zv d] w fun u w' => u = .bool (nowB d r) ∧ Ext w w' := by
 refine enterH (l := [_, _]) rfl Tryz.ntmps107 rfl ?_
 refine hwNB ?_
 refine HL.one (H1.boxAgg (cs := rcells r) rfl rfl (fun b2 => ?_))
 by_cases h1 : r.start ≤ d
 ·by_cases h2 : d ≤ r.stop
  ·refine hwNB ?_
   exact HX.ret1 rfl rfl fun w' hM => ⟨by unfold nowB; rw [decide_eq_true h1, decide_eq_true h2]; rfl, hM.ext⟩
  ·refine hwNB ?_
   exact HX.ret1 rfl rfl fun w' hM => ⟨by unfold nowB; rw [decide_eq_true h1, decide_eq_false h2]; rfl, hM.ext⟩
 ·refine hwNB ?_
  exact HX.ret1 rfl rfl fun w' hM => ⟨by unfold nowB; rw [decide_eq_false h1]; rfl, hM.ext⟩
set_option maxHeartbeats 2000000 in
theorem putIn21_fn {v : Value} {l : List Int} {x : Int} (hl : l.length ≤ 1000000) (ha : AscI l) (hx : x ∈ l) (w : World) (hR : Rd w v (ints l)) :
  Fn Tryz.prog 108 #[v, zv x] w fun u w' => u = v ∧ Ext w w' := by
 obtain ⟨a, c, rfl, hc⟩ := hR.isInts
 refine enterH (l := [_, _]) rfl Tryz.ntmps108 rfl ?_
 refine hwNB ?_
 refine HC.loop (α := Nat) (fun k => [(0, .slice a l.length c), (1, zv x), (5, zv (k : Int))]) (fun _ => []) (fun k => k ≤ l.length ∧ ∀ i, i < k → getI l i < x) (fun k => l.length - k) 0 ⟨Nat.zero_le _, fun i h => absurd h (Nat.not_lt_zero _)⟩ esA (Hs.refl _) ?_
 rintro k ⟨hk, hI⟩
 have hat := put_at ha hk hI
 by_cases hlt : k < l.length
 rotate_left
 ·exact absurd ((hat (fun h => absurd h hlt)).1 hx).1 hlt
 have hn : ((k : Nat) : Int) < (l.length : Int) := by omega
 obtain ⟨b, off, rfl⟩ := rd_addr hR hlt
 have hcl := hR.cell (ints_getI hlt)
 have hI2 : getI l k < x → ∀ i, i < k + 1 → getI l i < x := fun h i hi => by
  by_cases e : i = k
  ·rw [e]; exact h
  ·exact hI i (by omega)
 have hat2 : ¬ getI l k < x → getI l k = x := fun h => ((hat (fun _ => h)).1 hx).2
 clear hat
 generalize getI l k = y at hcl hI2 hat2
 refine hwNB ?_
 refine HL.one (H1.ld0 rfl hcl rfl ?_)
 by_cases hyx : y < x
 ·refine hwNB ?_
  exact HX.again (k + 1) ⟨hlt, hI2 hyx⟩ (by show l.length - (k + 1) < l.length - k; omega) esA (Hs.refl _)
 ·have he := hat2 hyx
  refine hwNB ?_
  refine HL.one (H1.ld0 rfl hcl rfl ?_)
  refine hwNB ?_
  exact HX.ret1 rfl rfl fun w' hM => ⟨rfl, hM.ext⟩
set_option maxHeartbeats 2000000 in
theorem putNew21_fn {v : Value} {l : List Int} {x : Int} (hl : l.length ≤ 900000) (ha : AscI l) (hx : x ∉ l) (w : World) (hR : Rd w v (ints l)) :
  Fn Tryz.prog 108 #[v, zv x] w fun u w' => ∃ z : List Int × Option Addr × Nat, (AscI z.1 ∧ ∀ y, y ∈ z.1 ↔ y = x ∨ y ∈ l) ∧ u = .slice z.2.1 z.1.length z.2.2 ∧ Mm w [A.grow 3 1 z.2.1 z.2.2 z.1.length (ints z.1)] w' := by
 obtain ⟨a, c, rfl, hc⟩ := hR.isInts
 refine enterH (l := [_, _]) rfl Tryz.ntmps108 rfl ?_
 refine hwNB ?_
 refine HC.grow0 3 1 ?_
 refine HC.loop (α := Nat) (fun k => [(0, .slice a l.length c), (1, zv x), (5, zv (k : Int))]) (fun _ => [A.grow 3 1 none 0 0 []]) (fun k => k ≤ l.length ∧ ∀ i, i < k → getI l i < x) (fun k => l.length - k) 0 ⟨Nat.zero_le _, fun i h => absurd h (Nat.not_lt_zero _)⟩ esA (by repeat (first | exact Hs.nil _ | (refine Hs.cons pickA ?_))) ?_
 rintro k ⟨hk, hI⟩
 have hat := put_at ha hk hI
 have hkc : k ≤ c := by omega
 have hfin : (k < l.length → ¬ getI l k < x) → AscI (insL l x k) ∧ ∀ y, y ∈ insL l x k ↔ y = x ∨ y ∈ l := fun h => ⟨insL_asc ha hk hI fun h2 => by
  have h3 := h h2
  have h4 : getI l k ≠ x := fun e => hx ((hat h).2 ⟨h2, e⟩)
  omega, fun y => insL_mem⟩
 have hpl := insL_len (l := l) (x := x) hk
 have hlen1 : (l.take k).length = k := by rw [List.length_take]; omega
 have hlen2 : (l.drop k).length = l.length - k := by rw [List.length_drop]
 have hRt : ∀ w', Ext w w' → Rd w' (.slice a k c) (ints (l.take k)) := fun w' h => (hR.ext h).ipre hk
 have hRd : ∀ w', Ext w w' → Rd w' (.slice (from24 a c k) (l.length - k) (c - k)) (ints (l.drop k)) := fun w' h => by
  have h2 := (hR.ext h).from24 (m := k) (by rw [ints_len]; exact hk)
  rwa [show (ints l).drop k = ints (l.drop k) from by unfold ints; rw [List.map_drop]] at h2
 have e1 : ints (l.take k) ++ [zv x] ++ ints (l.drop k) = ints (insL l x k) := by unfold insL ints; rw [List.map_append, List.map_append]; rfl
 have h1a : ∀ m : List Int, ∀ u ∈ ints m, u.oneCell' = true := fun m u hu => by
  obtain ⟨y, -, rfl⟩ := List.mem_map.1 hu; rfl
 have hTk := ints_len (l.take k)
 have hDk := ints_len (l.drop k)
 rw [hlen1] at hTk
 rw [hlen2] at hDk
 by_cases hlt : k < l.length
 ·have hn : ((k : Nat) : Int) < (l.length : Int) := by omega
  obtain ⟨b, off, rfl⟩ := rd_addr hR hlt
  have hcl := hR.cell (ints_getI hlt)
  have hI2 : getI l k < x → ∀ i, i < k + 1 → getI l i < x := fun h i hi => by
   by_cases e : i = k
   ·rw [e]; exact h
   ·exact hI i (by omega)
  have hat2 : ¬ getI l k < x → ¬ getI l k = x := fun h e => hx ((hat (fun _ => h)).2 ⟨hlt, e⟩)
  have hfin2 : ¬ getI l k < x → AscI (insL l x k) ∧ ∀ y, y ∈ insL l x k ↔ y = x ∨ y ∈ l := fun h => hfin fun _ => h
  clear hat hfin
  generalize getI l k = y at hcl hI2 hat2 hfin2
  refine hwNB ?_
  refine HL.one (H1.ld0 rfl hcl rfl ?_)
  by_cases hyx : y < x
  ·refine hwNB ?_
   exact HX.again (k + 1) ⟨hlt, hI2 hyx⟩ (by show l.length - (k + 1) < l.length - k; omega) esA (by repeat (first | exact Hs.nil _ | (refine Hs.cons pickA ?_)))
  ·have he := hat2 hyx
   obtain ⟨g1, g2⟩ := hfin2 hyx
   refine hwNB ?_
   refine HL.one (H1.ld0 rfl hcl rfl ?_)
   refine hwNB ?_
   rw [Int.toNat_natCast]
   refine HL.one (H1.appR (vs := ints (l.take k)) rfl rfl (by rw [hTk]; rfl) (fun _ _ => by first | ((repeat (first | with_reducible exact Rpl.here | with_reducible apply Rpl.there)); done) | (repeat (first | exact Rpl.here | apply Rpl.there))) (fun w' hM => by rw [hTk]; exact hRt w' hM.ext) (h1a _) (by omega) (by decide) rfl (.inl rfl) (fun a1 c1 hx1 => ?_))
   rw [hTk, Nat.zero_add, List.nil_append]
   rw [hTk, Nat.zero_add] at hx1
   refine hwNB ?_
   refine HL.one (H1.lit (cs := [zv x]) rfl rfl rfl rfl rfl rfl (fun b8 => ?_))
   refine hwNB ?_
   refine HL.one (H1.app1 (u := zv x) rfl rfl (fun _ _ => by first | ((repeat (first | with_reducible exact Rpl.here | with_reducible apply Rpl.there)); done) | (repeat (first | exact Rpl.here | apply Rpl.there))) memA rfl rfl (by omega) rfl rfl (fun a2 c2 => ?_))
   refine hwNB ?_
   refine HL.pa ?_ (POp.cutLo24 (m := k) rfl rfl hk)
   refine hwNB ?_
   refine HL.one (H1.appR (vs := ints (l.drop k)) rfl rfl (by rw [hDk]; rfl) (fun _ _ => by first | ((repeat (first | with_reducible exact Rpl.here | with_reducible apply Rpl.there)); done) | (repeat (first | exact Rpl.here | apply Rpl.there))) (fun w' hM => by rw [hDk]; exact hRd w' hM.ext) (h1a _) (by omega) (by decide) rfl (.inr ⟨a2, rfl⟩) (fun a3 c3 _ => ?_))
   rw [hDk, e1, show k + 1 + (l.length - k) = (insL l x k).length from by omega]
   refine hwNB ?_
   exact HX.ret1 rfl rfl fun w' hM => ⟨(insL l x k, a3, c3), ⟨g1, g2⟩, rfl, hM.sub (by repeat (first | exact Hs.nil _ | (refine Hs.cons pickA ?_)))⟩
 ·have hn : ¬ ((k : Nat) : Int) < (l.length : Int) := by omega
  obtain ⟨g1, g2⟩ := hfin (fun h => absurd h hlt)
  refine hwNB ?_
  refine HL.pa ?_ (POp.cutHi24 (n := k) rfl rfl hkc)
  refine hwNB ?_
  refine HL.one (H1.appR (vs := ints (l.take k)) rfl rfl (by rw [hTk]; rfl) (fun _ _ => by first | ((repeat (first | with_reducible exact Rpl.here | with_reducible apply Rpl.there)); done) | (repeat (first | exact Rpl.here | apply Rpl.there))) (fun w' hM => by rw [hTk]; exact hRt w' hM.ext) (h1a _) (by omega) (by decide) rfl (.inl rfl) (fun a1 c1 hx1 => ?_))
  rw [hTk, Nat.zero_add, List.nil_append]
  rw [hTk, Nat.zero_add] at hx1
  refine hwNB ?_
  refine HL.one (H1.lit (cs := [zv x]) rfl rfl rfl rfl rfl rfl (fun b8 => ?_))
  refine hwNB ?_
  refine HL.one (H1.app1 (u := zv x) rfl rfl (fun _ _ => by first | ((repeat (first | with_reducible exact Rpl.here | with_reducible apply Rpl.there)); done) | (repeat (first | exact Rpl.here | apply Rpl.there))) memA rfl rfl (by omega) rfl rfl (fun a2 c2 => ?_))
  refine hwNB ?_
  refine HL.pa ?_ (POp.cutLo24 (m := k) rfl rfl hk)
  refine hwNB ?_
  refine HL.one (H1.appR (vs := ints (l.drop k)) rfl rfl (by rw [hDk]; rfl) (fun _ _ => by first | ((repeat (first | with_reducible exact Rpl.here | with_reducible apply Rpl.there)); done) | (repeat (first | exact Rpl.here | apply Rpl.there))) (fun w' hM => by rw [hDk]; exact hRd w' hM.ext) (h1a _) (by omega) (by decide) rfl (.inr ⟨a2, rfl⟩) (fun a3 c3 _ => ?_))
  rw [hDk, e1, show k + 1 + (l.length - k) = (insL l x k).length from by omega]
  refine hwNB ?_
  exact HX.ret1 rfl rfl fun w' hM => ⟨(insL l x k, a3, c3), ⟨g1, g2⟩, rfl, hM.sub (by repeat (first | exact Hs.nil _ | (refine Hs.cons pickA ?_)))⟩
set_option maxHeartbeats 4000000 in
theorem HeldR_fn {B : Nat → List Rc} {vb : Value} (pk d : Int) (hl4 : (B 4).length ≤ 800000) (hl5 : (B 5).length ≤ 1000000) (w : World) (hB : BaseV w vb B) :
  Fn Tryz.prog 66 #[vb, zv pk, zv d] w fun u w' => ∃ z : Option Addr × Nat, True ∧ u = .slice z.1 (heldL (B 4) (B 5) pk d).length z.2 ∧ Mm w [A.grow 3 1 z.1 z.2 (heldL (B 4) (B 5) pk d).length (ints (heldL (B 4) (B 5) pk d))] w' := by
 obtain ⟨s, rfl, hs⟩ := id hB
 have h4 := hs 4 (by decide)
 have h5 := hs 5 (by decide)
 obtain ⟨a4, c4, e4, -⟩ := h4.shape
 obtain ⟨a5, c5, e5, -⟩ := h5.shape
 rw [e4] at h4
 rw [e5] at h5
 have hrw : row 8 s = [s 0, s 1, s 2, s 3, .slice a4 (B 4).length c4, .slice a5 (B 5).length c5, s 6, s 7] := by rw [← e4, ← e5]; rfl
 rw [hrw]
 clear hrw e4 e5 hs hB
 generalize B 4 = L at hl4 h4 ⊢
 generalize B 5 = M at hl5 h5 ⊢
 refine enterH (l := [_, _, _]) rfl Tryz.ntmps66 rfl ?_
 refine hwNB ?_
 refine HL.one (H1.boxAgg (cs := [s 0, s 1, s 2, s 3, .slice a4 L.length c4, .slice a5 M.length c5, s 6, s 7]) rfl rfl (fun b3 => ?_))
 refine hwNB ?_
 refine HC.grow0 3 1 ?_
 refine HC.loop (α := Nat × List Int × Option Addr × Nat) (fun q => [(1, zv pk), (2, zv d), (3, .pointer (some ⟨b3, 0, none⟩)), (7, .slice q.2.2.1 q.2.1.length q.2.2.2), (8, zv (q.1 : Int))]) (fun q => [A.blk b3 [s 0, s 1, s 2, s 3, .slice a4 L.length c4, .slice a5 M.length c5, s 6, s 7] 49, A.grow 3 1 q.2.2.1 q.2.2.2 q.2.1.length (ints q.2.1)]) (fun q => q.1 ≤ L.length ∧ HeldI L M pk d q.1 q.2.1) (fun q => L.length - q.1) (0, [], none, 0) ⟨Nat.zero_le _, HeldI.zero L M pk d⟩ esA (by repeat (first | exact Hs.nil _ | (refine Hs.cons pickA ?_))) ?_
 rintro ⟨k, out, ao, co⟩ ⟨hk, hI⟩
 dsimp only at hk hI ⊢
 by_cases hlt : k < L.length
 rotate_left
 ·have hn : ¬ ((k : Nat) : Int) < (L.length : Int) := by omega
  obtain rfl : k = L.length := by omega
  rw [hI.all]
  refine hwNB ?_
  exact HX.ret1 rfl rfl fun w' hM => ⟨(ao, co), trivial, rfl, hM.sub (by repeat (first | exact Hs.nil _ | (refine Hs.cons pickA ?_)))⟩
 have hn : ((k : Nat) : Int) < (L.length : Int) := by omega
 obtain ⟨r, hr⟩ : ∃ r, L[k]? = some r := ⟨_, List.getElem?_eq_getElem hlt⟩
 obtain ⟨bl, off, rfl, -, hcell⟩ := h4.at (fun e => by rw [e] at hlt; exact absurd hlt (Nat.not_lt_zero _))
 have hcl := hcell k r hr
 clear hcell
 have hol := hI.len
 refine hwNB ?_
 refine HL.one (H1.ldAggw (vs := rcells r) rfl rfl (fun w' hM i v hv => cell_ext hM.ext (hcl i v hv)) rfl ?_)
 refine hwNB ?_
 refine HL.one (H1.alloc (cs := rcells rcZ) rfl rfl (fun b9 => ?_))
 refine hwNB ?_
 refine HL.one (H1.stAgg (cs := rcells rcZ) (vs := rcells r) rfl rfl rfl (rcells_one _) rplA rfl ?_)
 clear hcl
 refine hbDE ?_
 repeat refine HC.seq ?_
 refine HC.cut (α := Unit) (fun _ => [(1, zv pk), (2, zv d), (3, .pointer (some ⟨b3, 0, none⟩)), (7, .slice ao out.length co), (8, zv (k : Int)), (9, .pointer (some ⟨b9, 0, none⟩)), (10, .bool (M.any (overB r.id d)))]) (fun _ => [A.blk b3 [s 0, s 1, s 2, s 3, .slice (some ⟨bl, off, none⟩) L.length c4, .slice a5 M.length c5, s 6, s 7] 49, A.blk b9 (rcells r) 46, A.grow 3 1 ao co out.length (ints out)]) (fun _ => True) ?_ ?_
 ·refine HC.block ?_
  refine HC.loop (α := Nat) (fun j => [(1, zv pk), (2, zv d), (3, .pointer (some ⟨b3, 0, none⟩)), (7, .slice ao out.length co), (8, zv (k : Int)), (9, .pointer (some ⟨b9, 0, none⟩)), (10, .bool ((M.take j).any (overB r.id d))), (11, zv (j : Int))]) (fun _ => [A.blk b3 [s 0, s 1, s 2, s 3, .slice (some ⟨bl, off, none⟩) L.length c4, .slice a5 M.length c5, s 6, s 7] 49, A.blk b9 (rcells r) 46, A.grow 3 1 ao co out.length (ints out)]) (fun j => j ≤ M.length) (fun j => M.length - j) 0 (Nat.zero_le _) esA (by repeat (first | exact Hs.nil _ | (refine Hs.cons pickA ?_))) ?_
  intro j hj
  by_cases hjl : j < M.length
  ·have hjn : ((j : Nat) : Int) < (M.length : Int) := by omega
   obtain ⟨q, hq⟩ : ∃ q, M[j]? = some q := ⟨_, List.getElem?_eq_getElem hjl⟩
   obtain ⟨bl5, off5, rfl, -, hcell⟩ := h5.at (fun e => by rw [e] at hjl; exact absurd hjl (Nat.not_lt_zero _))
   have hcq := hcell j q hq
   have hc13 := hcq 13 _ rfl
   have hc5 := hcq 5 _ rfl
   clear hcell hcq
   have hany := take_any hq (overB r.id d)
   have hov : overB r.id d q = (decide (q.party = r.id) && decide (q.start ≤ d)) := rfl
   generalize overB r.id d q = ov at hany hov
   generalize (M.take j).any (overB r.id d) = r0 at hany ⊢
   cases r0 with
   | true =>
    rw [Bool.true_or] at hany
    refine hwNB ?_
    refine HC.quietS [(some 31, [10], []), (some 32, [31], [0]), (some 33, [3, 32], [1]), (some 34, [33, 32], [2, 1]), (some 35, [11, 32], [1]), (some 36, [34, 35, 32], [3, 4, 1]), (some 37, [36, 32], [5, 1]), (some 38, [37, 32], [6, 1]), (some 39, [9, 32], [1]), (some 40, [39, 32], [8, 1]), (some 41, [38, 40, 32], [7, 9, 1]), (some 42, [41, 32], [10, 1, 1]), (some 43, [3, 42], [11]), (some 44, [43, 42], [12, 11]), (some 45, [11, 42], [11]), (some 46, [44, 45, 42], [13, 14, 11]), (some 47, [46, 42], [15, 11]), (some 48, [47, 42], [16, 11]), (some 49, [2, 42], [11]), (some 50, [48, 49, 42], [17, 18, 11]), (some 51, [42, 50, 32], [11, 19, 1]), (some 52, [32, 51], [1, 20]), (some 10, [52], [21, 11, 0, 1, 2, 3, 4, 5, 6, 7, 8, 9, 10, 11, 12, 13, 14, 15, 16, 17, 18, 19, 20, 21])] (by kernel_rfl) (by kernel_rfl) (by kernel_rfl) ?_
    refine qwA ?_
    refine HQ.nil ?_
    refine hwNB ?_
    exact HX.again (j + 1) hjl (by show M.length - (j + 1) < M.length - j; omega) (by rw [hany]; repeat (first | exact trivial | refine ⟨rfl, ?_⟩)) (by repeat (first | exact Hs.nil _ | (refine Hs.cons pickA ?_)))
   | false =>
    rw [Bool.false_or] at hany
    by_cases h1 : q.party = r.id
    ·have hr1 : decide (q.start ≤ d) = ov := by rw [hov, decide_eq_true h1]; rfl
     refine hwNB ?_
     refine HC.quietS [(some 31, [10], []), (some 32, [31], [0]), (some 33, [3, 32], [1]), (some 34, [33, 32], [2, 1]), (some 35, [11, 32], [1]), (some 36, [34, 35, 32], [3, 4, 1]), (some 37, [36, 32], [5, 1]), (some 38, [37, 32], [6, 1]), (some 39, [9, 32], [1]), (some 40, [39, 32], [8, 1]), (some 41, [38, 40, 32], [7, 9, 1]), (some 42, [41, 32], [10, 1, 1]), (some 43, [3, 42], [11]), (some 44, [43, 42], [12, 11]), (some 45, [11, 42], [11]), (some 46, [44, 45, 42], [13, 14, 11]), (some 47, [46, 42], [15, 11]), (some 48, [47, 42], [16, 11]), (some 49, [2, 42], [11]), (some 50, [48, 49, 42], [17, 18, 11]), (some 51, [42, 50, 32], [11, 19, 1]), (some 52, [32, 51], [1, 20]), (some 10, [52], [21, 11, 0, 1, 2, 3, 4, 5, 6, 7, 8, 9, 10, 11, 12, 13, 14, 15, 16, 17, 18, 19, 20, 21])] (by kernel_rfl) (by kernel_rfl) (by kernel_rfl) ?_
     refine qwA ?_
     refine HQ.ld rfl (fun w' hM => cell_ext hM.ext hc13) rfl ?_
     refine qwA ?_
     refine HQ.ld rfl (fun w' hM => cell_ext hM.ext hc5) rfl ?_
     refine qwA ?_
     refine HQ.nil ?_
     rw [hr1]
     refine hwNB ?_
     exact HX.again (j + 1) hjl (by show M.length - (j + 1) < M.length - j; omega) (by rw [hany]; repeat (first | exact trivial | refine ⟨rfl, ?_⟩)) (by repeat (first | exact Hs.nil _ | (refine Hs.cons pickA ?_)))
    ·rw [decide_eq_false h1] at hov
     subst hov
     refine hwNB ?_
     refine HC.quietS [(some 31, [10], []), (some 32, [31], [0]), (some 33, [3, 32], [1]), (some 34, [33, 32], [2, 1]), (some 35, [11, 32], [1]), (some 36, [34, 35, 32], [3, 4, 1]), (some 37, [36, 32], [5, 1]), (some 38, [37, 32], [6, 1]), (some 39, [9, 32], [1]), (some 40, [39, 32], [8, 1]), (some 41, [38, 40, 32], [7, 9, 1]), (some 42, [41, 32], [10, 1, 1]), (some 43, [3, 42], [11]), (some 44, [43, 42], [12, 11]), (some 45, [11, 42], [11]), (some 46, [44, 45, 42], [13, 14, 11]), (some 47, [46, 42], [15, 11]), (some 48, [47, 42], [16, 11]), (some 49, [2, 42], [11]), (some 50, [48, 49, 42], [17, 18, 11]), (some 51, [42, 50, 32], [11, 19, 1]), (some 52, [32, 51], [1, 20]), (some 10, [52], [21, 11, 0, 1, 2, 3, 4, 5, 6, 7, 8, 9, 10, 11, 12, 13, 14, 15, 16, 17, 18, 19, 20, 21])] (by kernel_rfl) (by kernel_rfl) (by kernel_rfl) ?_
     refine qwA ?_
     refine HQ.ld rfl (fun w' hM => cell_ext hM.ext hc13) rfl ?_
     refine qwA ?_
     refine HQ.nil ?_
     refine hwNB ?_
     exact HX.again (j + 1) hjl (by show M.length - (j + 1) < M.length - j; omega) (by rw [hany]; repeat (first | exact trivial | refine ⟨rfl, ?_⟩)) (by repeat (first | exact Hs.nil _ | (refine Hs.cons pickA ?_)))
  have hjn : ¬ ((j : Nat) : Int) < (M.length : Int) := by omega
  obtain rfl : j = M.length := by omega
  rw [List.take_length]
  refine hwNB ?_
  exact HX.cut () trivial esA (by repeat (first | exact Hs.nil _ | (refine Hs.cons pickA ?_)))
 rintro - -
 have hHb : heldB M pk d r = ((decide (r.pack = 0) || decide (r.pack = pk)) && (nowB d r && !(M.any (overB r.id d)))) := rfl
 generalize M.any (overB r.id d) = ov at hHb ⊢
 repeat refine HC.seq ?_
 refine HC.cut (α := Unit) (fun _ => [(1, zv pk), (2, zv d), (3, .pointer (some ⟨b3, 0, none⟩)), (7, .slice ao out.length co), (8, zv (k : Int)), (9, .pointer (some ⟨b9, 0, none⟩)), (70, .bool (heldB M pk d r))]) (fun _ => [A.blk b3 [s 0, s 1, s 2, s 3, .slice (some ⟨bl, off, none⟩) L.length c4, .slice a5 M.length c5, s 6, s 7] 49, A.blk b9 (rcells r) 46, A.grow 3 1 ao co out.length (ints out)]) (fun _ => True) ?_ ?_
 ·by_cases p0 : r.pack = 0 ∨ r.pack = pk
  rotate_left
  ·have p1 : ¬ r.pack = 0 := fun e => p0 (.inl e)
   have p2 : ¬ r.pack = pk := fun e => p0 (.inr e)
   rw [decide_eq_false p1, decide_eq_false p2] at hHb
   rw [hHb]
   refine hwNB ?_
   exact HX.cut () trivial esA (by repeat (first | exact Hs.nil _ | (refine Hs.cons pickA ?_)))
  have hpp : (decide (r.pack = 0) || decide (r.pack = pk)) = true := by rw [Bool.or_eq_true, decide_eq_true_eq, decide_eq_true_eq]; exact p0
  rw [hpp, Bool.true_and] at hHb
  rw [hHb]
  by_cases p1 : r.pack = 0
  ·refine hwNB ?_
   refine HL.one (H1.ldAgg (vs := rcells r) rfl memA rfl (fun i v hv => by rw [Nat.zero_add]; exact hv) rfl ?_)
   refine hwNB ?_
   refine HL.one (H1.callx (vs := [recV r, _]) rfl rfl (fun w' _ => holdsR_fn r d w') ?_)
   cases nowB d r with
   | false =>
    refine hwNB ?_
    exact HX.cut () trivial esA (by repeat (first | exact Hs.nil _ | (refine Hs.cons pickA ?_)))
   | true =>
    refine hwNB ?_
    exact HX.cut () trivial esA (by repeat (first | exact Hs.nil _ | (refine Hs.cons pickA ?_)))
  ·have p2 : r.pack = pk := p0.resolve_left p1
   refine hwNB ?_
   refine HL.one (H1.ldAgg (vs := rcells r) rfl memA rfl (fun i v hv => by rw [Nat.zero_add]; exact hv) rfl ?_)
   refine hwNB ?_
   refine HL.one (H1.callx (vs := [recV r, _]) rfl rfl (fun w' _ => holdsR_fn r d w') ?_)
   cases nowB d r with
   | false =>
    refine hwNB ?_
    exact HX.cut () trivial esA (by repeat (first | exact Hs.nil _ | (refine Hs.cons pickA ?_)))
   | true =>
    refine hwNB ?_
    exact HX.cut () trivial esA (by repeat (first | exact Hs.nil _ | (refine Hs.cons pickA ?_)))
 rintro - -
 clear hHb
 cases hb : heldB M pk d r with
 | false =>
  have h2 := hI.no hr hb
  refine hwNB ?_
  exact HX.again (k + 1, out, ao, co) ⟨hlt, h2⟩ (by show L.length - (k + 1) < L.length - k; omega) esA (by repeat (first | exact Hs.nil _ | (refine Hs.cons pickA ?_)))
 | true =>
  refine hwNB ?_
  by_cases hx : r.id ∈ out
  ·refine HL.one (H1.callx (vs := [.slice ao out.length co, zv r.id]) rfl rfl (fun w' hM => putIn21_fn (by omega) hI.asc hx w' (hM.gr (a := ao) (c := co) memA)) ?_)
   refine hwNB ?_
   exact HX.again (k + 1, out, ao, co) ⟨hlt, hI.old hr hx⟩ (by show L.length - (k + 1) < L.length - k; omega) esA (by repeat (first | exact Hs.nil _ | (refine Hs.cons pickA ?_)))
  ·refine HL.one (H1.callz (vs := [.slice ao out.length co, zv r.id]) rfl rfl (fun w' hM => putNew21_fn (by omega) hI.asc hx w' (hM.gr (a := ao) (c := co) memA)) ?_)
   rintro ⟨out2, a2, c2⟩ ⟨g1, g2⟩
   dsimp only at g1 g2 ⊢
   refine hwNB ?_
   exact HX.again (k + 1, out2, a2, c2) ⟨hlt, hI.new hr hb g1 g2⟩ (by show L.length - (k + 1) < L.length - k; omega) esA (by repeat (first | exact Hs.nil _ | (refine Hs.cons pickA ?_)))
end Go.Sx
/- Chapter 24: the reference's split, SameStrings, SameTombstone: the walk. -/
namespace Go.Sx
open Go Go.Proofs Go.RowKit
attribute [local irreducible] WC WL WX POp Then Again Fn NX W1 WA WO QL RP RA Yld LoopAt HC HL HX HN H1 HA HO HQ HB HP A.blk A.grow A.rd A.obj A.mp AgainH CutH
attribute [local irreducible] A.mq A.mit A.all sumS
set_option maxHeartbeats 1000000 in
theorem sameStrings_fn (v u : Value) (l m : List ByteArray) (hl : l.length ≤ 1000000) (w : World) (hR : Rd w v (strs l)) (hS : Rd w u (strs m)) :
  Fn Tryz.prog 68 #[v, u] w fun u w' => u = .bool (decide (l = m)) ∧ Ext w w' := by
 have shape : ∀ {g : Value} {D : List ByteArray}, Rd w g (strs D) → ∃ a c, g = .slice a D.length c := fun {g D} h => by
  obtain ⟨a, c, h1, h2, -⟩ := id h
  rw [strs_len] at h1
  exact ⟨a, c, h1⟩
 obtain ⟨a, c, rfl⟩ := shape hR
 obtain ⟨a2, c2, rfl⟩ := shape hS
 refine enterH (l := [_, _]) rfl Tryz.ntmps68 rfl ?_
 by_cases hlen : l.length = m.length
 rotate_left
 ·have hlen' : ¬ (l.length : Int) = (m.length : Int) := by omega
  refine hwNB ?_
  exact HX.ret1 rfl rfl fun w' hM => ⟨by rw [decide_eq_false fun e => hlen (by rw [e])], hM.ext⟩
 have hlen' : (l.length : Int) = (m.length : Int) := by omega
 refine hwNB ?_
 refine HC.loop (α := Nat) (fun k => [(0, .slice a l.length c), (1, .slice a2 m.length c2), (5, zv (k : Int))]) (fun _ => []) (fun k => k ≤ l.length ∧ l.take k = m.take k) (fun k => l.length - k) 0 ⟨Nat.zero_le _, rfl⟩ esA (Hs.refl _) ?_
 rintro k ⟨hk, hI⟩
 by_cases hlt : k < l.length
 rotate_left
 ·have hn : ¬ ((k : Nat) : Int) < (l.length : Int) := by omega
  have he : l = m := by
   rw [List.take_of_length_le (by omega), List.take_of_length_le (by omega)] at hI
   exact hI
  refine hwNB ?_
  exact HX.ret1 rfl rfl fun w' hM => ⟨by rw [decide_eq_true he], hM.ext⟩
 have hn : ((k : Nat) : Int) < (l.length : Int) := by omega
 have hlt2 : k < m.length := by omega
 obtain ⟨b, off, rfl⟩ := rd_addr hR hlt
 obtain ⟨b2, off2, rfl⟩ := rd_addr hS hlt2
 have h1 := hR.cell (strs_getB hlt)
 have h2 := hS.cell (strs_getB hlt2)
 have t1 := take_getB hlt
 have t2 := take_getB hlt2
 have hne : getB l k ≠ getB m k → l ≠ m := fun h e => h (by rw [e])
 generalize getB l k = x at h1 t1 hne
 generalize getB m k = y at h2 t2 hne
 refine hwNB ?_
 refine HC.quietS [(some 17, [0], []), (some 18, [5], []), (some 19, [17, 18], [0, 1]), (some 20, [19], [2]), (some 21, [1], []), (some 22, [5], []), (some 23, [21, 22], [4, 5]), (some 24, [23], [6]), (some 25, [20, 24], [3, 7])] (by kernel_rfl) (by kernel_rfl) (by kernel_rfl) ?_
 refine qwA ?_
 refine HQ.ld rfl (fun w' hM => cell_ext hM.ext h1) rfl ?_
 refine qwA ?_
 refine HQ.ld rfl (fun w' hM => cell_ext hM.ext h2) rfl ?_
 by_cases hxy : x = y
 ·have hxy' : (decide ¬ x = y) = false := by simp [hxy]
  refine qwA ?_
  refine HQ.nil ?_
  refine hwNB ?_
  exact HX.again (k + 1) ⟨hlt, by rw [t1, t2, hI, hxy]⟩ (by show l.length - (k + 1) < l.length - k; omega) esA (Hs.refl _)
 ·have hxy' : (decide ¬ x = y) = true := by simp [hxy]
  refine qwA ?_
  refine HQ.nil ?_
  refine hwNB ?_
  exact HX.ret1 rfl rfl fun w' hM => ⟨by rw [decide_eq_false (hne hxy)], hM.ext⟩
theorem prK_t {l : List Nd} {D : List ByteArray} (h : l.length = D.length) {g : List Int} {k : Nat} (hk : k < l.length) (hq : (ndAt l k).id ∈ g) : prK l D g true (k + 1) = prK l D g true k ++ [(ndAt l k, getB D k)] ∧ prK l D g false (k + 1) = prK l D g false k :=
 ⟨prK_yes h hk (by rw [decide_eq_true hq]; rfl), prK_no h hk (by rw [decide_eq_true hq]; rfl)⟩
theorem prK_f {l : List Nd} {D : List ByteArray} (h : l.length = D.length) {g : List Int} {k : Nat} (hk : k < l.length) (hq : (ndAt l k).id ∉ g) : prK l D g false (k + 1) = prK l D g false k ++ [(ndAt l k, getB D k)] ∧ prK l D g true (k + 1) = prK l D g true k :=
 ⟨prK_yes h hk (by rw [decide_eq_false hq]; rfl), prK_no h hk (by rw [decide_eq_false hq]; rfl)⟩
theorem intsU_one (m : List Int) : ∀ u ∈ ints m, u.oneCell' = true := fun u hu => by
 obtain ⟨y, -, rfl⟩ := List.mem_map.1 hu; rfl
structure SplZ where
 left : List NdZ
 a1 : Option Addr
 c1 : Nat
 a2 : Option Addr
 c2 : Nat
 a3 : Option Addr
 c3 : Nat
set_option maxHeartbeats 4000000 in
theorem split24_fn {v g vg : Value} {l : List Nd} {D : List ByteArray} {U : Nat → Value} {m : List Int} (hlD : l.length = D.length) (hl : l.length ≤ 400000) (hls : ∀ i, i < l.length → (ndAt l i).src.length ≤ 1000000) (hm : m.length ≤ 1000000) (w : World) (hR : RdN w v l U) (hS : Rd w g (strs D)) (hG : Rd w vg (ints m)) :
  Fn Tryz.prog 67 #[v, g, vg] w fun u w' => ∃ z : SplZ, ndsZ z.left = ndsP (prN l D m false) ∧ u = .tuple #[.slice z.a1 z.left.length z.c1, .slice z.a2 z.left.length z.c2, .slice z.a3 (prN l D m true).length z.c3] ∧
   Mm w [A.grow 31 4 z.a1 z.c1 z.left.length (ndsV z.left), A.grow 9 1 z.a2 z.c2 z.left.length (strs (digP (prN l D m false))), A.all (rowsA z.left), A.grow 9 1 z.a3 z.c3 (prN l D m true).length (strs (digP (prN l D m true)))] w' := by
 obtain ⟨a, c, rfl, hc, -⟩ := id hR.shape
 obtain ⟨a2, c2, rfl⟩ : ∃ a' c', g = .slice a' D.length c' := by
  obtain ⟨a', c', h1, -⟩ := id hS
  rw [strs_len] at h1
  exact ⟨a', c', h1⟩
 obtain ⟨am, cm, rfl, -⟩ := hG.isInts
 refine enterH (l := [_, _, _]) rfl Tryz.ntmps67 rfl ?_
 refine HC.grow0 31 4 ?_
 refine HC.grow0 9 1 ?_
 refine HC.grow0 9 1 ?_
 refine HC.conv (H2 := A.all (rowsA []) :: [A.grow 9 1 none 0 0 [], A.grow 9 1 none 0 0 [], A.grow 31 4 none 0 0 []]) (fun w h => h.allNil) ?_
 refine hwNB ?_
 refine HC.loop (α := Nat × SplZ) (fun q => [(0, .slice a l.length c), (1, .slice a2 D.length c2), (2, .slice am m.length cm), (9, .slice q.2.a1 q.2.left.length q.2.c1), (10, .slice q.2.a2 q.2.left.length q.2.c2), (11, .slice q.2.a3 (prK l D m true q.1).length q.2.c3), (12, zv (q.1 : Int))])
  (fun q => [A.grow 31 4 q.2.a1 q.2.c1 q.2.left.length (ndsV q.2.left), A.grow 9 1 q.2.a2 q.2.c2 q.2.left.length (strs (digP (prK l D m false q.1))), A.all (rowsA q.2.left), A.grow 9 1 q.2.a3 q.2.c3 (prK l D m true q.1).length (strs (digP (prK l D m true q.1)))])
  (fun q => q.1 ≤ l.length ∧ ndsZ q.2.left = ndsP (prK l D m false q.1)) (fun q => l.length - q.1) (0, ⟨[], none, 0, none, 0, none, 0⟩) ⟨Nat.zero_le _, rfl⟩ esA (by repeat (first | exact Hs.nil _ | (refine Hs.cons pickA ?_))) ?_
 rintro ⟨k, z, an, cn, ad, cd, ax, cx⟩ ⟨hk, hz⟩
 dsimp only at hk hz ⊢
 have hzl := congrArg List.length hz
 rw [ndsZ_len, ndsP_len] at hzl
 have hkl := prK_len l D m false k
 have hkt := prK_len l D m true k
 by_cases hlt : k < l.length
 rotate_left
 ·have hn : ¬ ((k : Nat) : Int) < (l.length : Int) := by omega
  obtain rfl : k = l.length := by omega
  rw [prK_all hlD] at hz ⊢
  rw [prK_all hlD]
  refine hwNB ?_
  exact HX.retG (rs := [.tmp 6, .tmp 7, .tmp 8]) (vs := [_, _, _]) rfl rfl (fun w' hM => ⟨rfl, rfl, rfl, trivial⟩) fun w' hM => ⟨⟨z, an, cn, ad, cd, ax, cx⟩, hz, rfl, hM.sub (by repeat (first | exact Hs.nil _ | (refine Hs.cons pickA ?_)))⟩
 have hn : ((k : Nat) : Int) < (l.length : Int) := by omega
 obtain ⟨b0, off0, rfl, hb⟩ := hR.cell hlt
 have hx := hb k hlt
 have hc0 := hb k hlt 0 (zv (ndAt l k).id) rfl
 have hsx := hR.src k hlt
 have hlx := hls k hlt
 obtain ⟨bd, offd, rfl⟩ := rd_addr hS (j := k) (by omega)
 have hdc := hS.cell (strs_getB (l := D) (i := k) (by omega))
 have hyes := prK_t hlD (g := m) hlt
 have hno := prK_f hlD (g := m) hlt
 have hUk := rd_one hsx
 clear hb
 generalize ndAt l k = n at hx hc0 hsx hlx hyes hno
 generalize getB D k = d at hdc hyes hno
 generalize U k = u at hx hsx hUk
 have hn2 : ((k : Nat) : Int) < (D.length : Int) := by omega
 refine hwNB ?_
 refine HL.one (H1.ld0 rfl hc0 rfl ?_)
 refine hwNB ?_
 refine HL.one (H1.callx (vs := [_, _]) rfl rfl (fun w' hM => hasR24_fn _ m n.id hm w' (hG.ext hM.ext)) ?_)
 by_cases hq : n.id ∈ m
 ·obtain ⟨e1, e2⟩ := hyes hq
  have hdg : strs (digP (prK l D m true k)) ++ [.string d] = strs (digP (prK l D m true (k + 1))) := by rw [e1, strs_snoc]; unfold digP; rw [List.map_append]; rfl
  have hl1 := congrArg List.length e1
  rw [List.length_append, List.length_singleton] at hl1
  rw [← e2] at hz ⊢
  clear hyes hno e1 e2
  refine hwNB ?_
  refine HL.one (H1.ld0 rfl hdc rfl ?_)
  refine hwNB ?_
  refine HL.one (H1.lit (cs := [.string d]) rfl rfl rfl rfl rfl rfl (fun b10 => ?_))
  refine hwNB ?_
  refine HL.one (H1.app1 (a := ax) (c := cx) (u := .string d) rfl rfl (fun _ _ => by first | ((repeat (first | with_reducible exact Rpl.here | with_reducible apply Rpl.there)); done) | (repeat (first | exact Rpl.here | apply Rpl.there))) memA rfl rfl (by omega) rfl rfl (fun ax2 cx2 => ?_))
  rw [hdg, ← hl1]
  refine hwNB ?_
  exact HX.again (k + 1, ⟨z, an, cn, ad, cd, some ⟨ax2, 0, none⟩, cx2⟩) ⟨hlt, hz⟩ (by show l.length - (k + 1) < l.length - k; omega) esA (by repeat (first | exact Hs.nil _ | (refine Hs.cons pickA ?_)))
 obtain ⟨e1, e2⟩ := hno hq
 have hdg : strs (digP (prK l D m false k)) ++ [.string d] = strs (digP (prK l D m false (k + 1))) := by rw [e1, strs_snoc]; unfold digP; rw [List.map_append]; rfl
 have hzn : ∀ q : Option Addr × Nat, ndsZ (z ++ [(n, q)]) = ndsP (prK l D m false (k + 1)) := fun q => by
  rw [e1]
  unfold ndsZ ndsP at hz ⊢
  rw [List.map_append, List.map_append, hz]; rfl
 rw [← e2]
 clear hyes hno e1 e2
 obtain ⟨au, cu, rfl, -⟩ := hsx.isInts
 refine hwNB ?_
 refine HL.one (H1.ldAggw (b := b0) (off := off0 + k * 4) (vs := ndC n (.slice au n.src.length cu)) rfl rfl (fun w' hM j u hu => cell_ext hM.ext (hx j u hu)) rfl ?_)
 refine hwNB ?_
 refine HL.one (H1.alloc (cs := ndC ⟨0, 0, 0, []⟩ (.slice none 0 0)) rfl rfl (fun b8 => ?_))
 refine hwNB ?_
 refine HL.one (H1.stAgg (b := b8) (cs := ndC ⟨0, 0, 0, []⟩ (.slice none 0 0)) (vs := ndC n (.slice au n.src.length cu)) rfl rfl rfl (nd_one hUk) rplA rfl ?_)
 refine hwNB ?_
 refine HL.one (H1.lit0 rfl (fun b7 => ?_))
 refine hwNB ?_
 refine HL.one (H1.appR (vs := ints n.src) rfl rfl (by rw [ints_len]; rfl) (fun _ _ => by first | ((repeat (first | with_reducible exact Rpl.here | with_reducible apply Rpl.there)); done) | (repeat (first | exact Rpl.here | apply Rpl.there))) (fun w' hM => by rw [ints_len]; exact hsx.ext hM.ext) (intsU_one _) (by rw [ints_len]; omega) (by decide) rfl (.inl rfl) (fun az cz _ => ?_))
 rw [ints_len, Nat.zero_add, List.nil_append]
 refine hwNB ?_
 refine HL.one (H1.st (b := b8) (i := 3) rfl rfl (by intro _ h; cases h) (by intro _ h; cases h) rplA (by show 3 < 4; decide) ?_)
 rw [show (ndC n (.slice au n.src.length cu)).set 3 (.slice az n.src.length cz) = ndC n (vZ (n, az, cz)) from rfl]
 have hnv : ndsV z ++ ndC n (vZ (n, az, cz)) = ndsV (z ++ [(n, az, cz)]) := (ndsV_snoc z (n, az, cz)).symm
 have hz1 : (z ++ [(n, az, cz)]).length = z.length + 1 := by rw [List.length_append]; rfl
 have hzn := hzn (az, cz)
 refine hwNB ?_
 refine HL.one (H1.ldAgg (b := b8) (vs := ndC n (vZ (n, az, cz))) rfl memA rfl (fun i v hv => by rw [Nat.zero_add]; exact hv) rfl ?_)
 refine hwNB ?_
 refine HL.one (H1.lit (cs := ndC n (vZ (n, az, cz))) rfl rfl rfl rfl rfl rfl (fun b9 => ?_))
 refine hwNB ?_
 refine HL.one (H1.app (sz := 4) (m := 1) (news := ndC n (vZ (n, az, cz))) rfl (by decide) rfl rfl (fun _ _ => by first | ((repeat (first | with_reducible exact Rpl.here | with_reducible apply Rpl.there)); done) | (repeat (first | exact Rpl.here | apply Rpl.there))) rfl (fun w' hM j u hj => by rw [add_lit, Nat.zero_add]; exact (hM.blk (b := b9) memA).cell hj) (nd_one rfl) (by omega) (by decide) rfl (fun an2 cn2 _ => ?_))
 rw [hnv]
 refine hwNB ?_
 refine HL.one (H1.ld0 rfl hdc rfl ?_)
 refine hwNB ?_
 refine HL.one (H1.lit (cs := [.string d]) rfl rfl rfl rfl rfl rfl (fun b10 => ?_))
 refine hwNB ?_
 refine HL.one (H1.app1 (a := ad) (c := cd) (u := .string d) rfl rfl (fun _ _ => by first | ((repeat (first | with_reducible exact Rpl.here | with_reducible apply Rpl.there)); done) | (repeat (first | exact Rpl.here | apply Rpl.there))) memA rfl rfl (by omega) rfl rfl (fun ad2 cd2 => ?_))
 rw [hdg]
 refine hwNB ?_
 refine HX.conv (H2 := A.all (rowsA (z ++ [(n, az, cz)])) :: [A.grow 31 4 an2 cn2 (z.length + 1) (ndsV (z ++ [(n, az, cz)])), A.grow 9 1 (some ⟨ad2, 0, none⟩) cd2 (z.length + 1) (strs (digP (prK l D m false (k + 1)))), A.grow 9 1 ax cx (prK l D m true (k + 1)).length (strs (digP (prK l D m true (k + 1))))]) (fun w h => by
  rw [rowsA_snoc]
  exact Mm.allAdd (h.sub (Hs.cons (a := A.grow 3 1 az cz n.src.length (ints n.src)) pickA (Hs.cons (a := A.all (rowsA z)) pickA (by repeat (first | exact Hs.nil _ | (refine Hs.cons pickA ?_))))))) ?_
 exact HX.again (k + 1, ⟨z ++ [(n, az, cz)], an2, cn2, some ⟨ad2, 0, none⟩, cd2, ax, cx⟩) ⟨hlt, hzn⟩ (by show l.length - (k + 1) < l.length - k; omega) (by dsimp only; rw [hz1]; repeat (first | exact trivial | refine ⟨rfl, ?_⟩)) (by dsimp only; rw [hz1]; repeat (first | exact Hs.nil _ | (refine Hs.cons pickA ?_)))
end Go.Sx
/- Chapter 24: the law LineageBound: the walk. -/
namespace Go.Sx
open Go Go.Proofs Go.RowKit
attribute [local irreducible] WC WL WX POp Then Again Fn NX W1 WA WO QL RP RA Yld LoopAt HC HL HX HN H1 HA HO HQ HB HP A.blk A.grow A.rd A.obj A.mp AgainH CutH
attribute [local irreducible] A.mq A.mit A.all leafB sumS rootP colB
theorem leavesL_fn {v g : Value} {l : List Nd} {D L : List ByteArray} {U : Nat → Value} (hok : okS l D = true) (hL : L = (l.zip D).map leafP) (w : World) (hR : RdN w v l U) (hS : Rd w g (strs D)) :
  Fn Tryz.prog 17 #[v, g] w fun u w' => ∃ z : Option Addr × Nat, True ∧ u = .tuple #[.slice z.1 L.length z.2, .bool true] ∧ Mm w [A.grow 9 1 z.1 z.2 L.length (strs L)] w' := by
 have hl : L.length = l.length := by
  have := (okS_facts hok).2.1
  rw [hL, List.length_map, List.length_zip]; omega
 refine (leaves24_fn hok w hR hS).mono fun u w' h => ?_
 obtain ⟨z, h1, h2, h3⟩ := h
 exact ⟨z, h1, by rw [hl]; exact h2, by rw [hl, hL]; exact h3⟩
end Go.Sx
