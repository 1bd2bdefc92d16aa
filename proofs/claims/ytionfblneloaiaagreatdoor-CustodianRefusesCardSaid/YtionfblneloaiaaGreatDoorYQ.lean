/- Chapter 27: pick; what a custodian on any disk has; what is left of other objects. -/
import Derived.Test.YtionfblneloaiaaGreatDoorYL
namespace Go.Sx
open Go Go.Proofs Go.RowKit
theorem setM_good {m : PM} {p : PK} {s : ByteArray} (hp : okP p) (hs : s.size ≤ 4096) (hm : ∀ x ∈ m, okP x.1 ∧ x.2.size ≤ 4096) : ∀ x ∈ setM m p s, okP x.1 ∧ x.2.size ≤ 4096 := fun x hx => by
  rcases setM_mem hx with hx | rfl
  · exact hm x hx
  · exact ⟨hp, hs⟩
theorem dropM_good {m : PM} {o : Int} (hm : ∀ x ∈ m, okP x.1 ∧ x.2.size ≤ 4096) : ∀ x ∈ dropM m o, okP x.1 ∧ x.2.size ≤ 4096 := fun x hx => hm x (List.mem_filter.1 hx).1
theorem replay_good {m m2 : PM} {s : ByteArray} (h : replayF m s = some m2) (hm : ∀ x ∈ m, okP x.1 ∧ x.2.size ≤ 4096) : ∀ x ∈ m2, okP x.1 ∧ x.2.size ≤ 4096 := by
  unfold replayF at h
  split at h
  · cases h
  split at h
  · cases h
  split at h
  · split at h
    · cases h
    split at h
    · cases h
    split at h
    · rename_i h1
      split at h
      · cases h
        exact setM_good h1.1 (by rw [mkBA_size2]; exact h1.2) hm
      · cases h
    · cases h
  split at h
  · split at h
    · split at h
      · cases h
        exact dropM_good hm
      · cases h
    · cases h
  · cases h
theorem replays_good : ∀ (l : List ByteArray) {m m2 : PM}, replaysF m l = some m2 → (∀ x ∈ m, okP x.1 ∧ x.2.size ≤ 4096) → (m.map Prod.fst).Nodup → (∀ x ∈ m2, okP x.1 ∧ x.2.size ≤ 4096) ∧ (m2.map Prod.fst).Nodup ∧ m2.length ≤ m.length + l.length
  | [], m, m2, h, hm, hn => by
    have h1 : some m = some m2 := h
    cases h1
    exact ⟨hm, hn, Nat.le_refl _⟩
  | s :: l, m, m2, h, hm, hn => by
    have h1 : (replayF m s).bind (fun m3 => replaysF m3 l) = some m2 := h
    cases h3 : replayF m s with
    | none => rw [h3] at h1; cases h1
    | some m3 =>
      rw [h3] at h1
      obtain ⟨k1, k2⟩ := replay_keeps h3 hn
      obtain ⟨q1, q2, q3⟩ := replays_good l h1 (replay_good h3 hm) k1
      refine ⟨q1, q2, ?_⟩
      rw [List.length_cons]
      omega
/-- A disk that was written to once, and never cut: what Open makes of it. -/
theorem open_written {k : Dk} (ho : k.off = false) (hl : k.left = 0) (hv : k.vis.length = k.dur.length) (hd : k.dur.length ≤ 4194304) (hlo : 1 ≤ k.dur.length) : (∃ k', openF k = (262, k', none)) ∨ ∃ t k', openF k = (0, k', some t) ∧ TpOk t ∧ t.size ≤ k.dur.length ∧ k'.off = false ∧ k'.left = 0 := by
  cases hF : loadF k.vis t00 with
  | none => exact .inl ⟨k, openF_bad ho hF⟩
  | some t =>
    have hT : TpOk t := loadF_inv (P := TpOk) TpOk.step _ (Nat.le_refl _) tpOk0 hF
    have hle := loadF_le _ (Nat.le_refl _) (Nat.zero_le _) hF
    by_cases hz : isZero (k.vis.drop t.size) = true
    · exact .inr ⟨t, k, openF_zero ho hF hz, hT, by omega, ho, hl⟩
    have hcl : clr k t = [.wr t.size (mkBA (List.replicate (k.vis.length - t.size) 0)), .sy] := rfl
    have hfit : t.size + (mkBA (List.replicate (k.vis.length - t.size) 0)).size ≤ k.dur.length := by rw [mkBA_size2, List.length_replicate]; omega
    have hw := Dk.write_on ho hfit
    have e1 : (DOp.wr t.size (mkBA (List.replicate (k.vis.length - t.size) 0))).run k = (0, k.put t.size (mkBA (List.replicate (k.vis.length - t.size) 0))) := hw
    generalize hk1 : k.put t.size (mkBA (List.replicate (k.vis.length - t.size) 0)) = k1 at e1
    have hk1o : k1.off = false ∧ k1.left = 0 := by
      rw [← hk1]
      unfold Dk.put Dk.used
      rw [if_pos hl]
      exact ⟨ho, hl⟩
    have e2 : DOp.sy.run k1 = (0, { k1 with dur := k1.vis, pend := [] }) := Dk.sync_on hk1o.1
    have hr : runOps (clr k t) k = (0, { k1 with dur := k1.vis, pend := [] }) := by
      rw [hcl, runOps_ok (by rw [e1]), e1]
      dsimp only
      rw [runOps_ok (by rw [e2]), e2]
      rfl
    refine .inr ⟨t, _, openF_clr ho hF hz (by rw [hr]), hT, by omega, ?_⟩
    rw [hr]
    exact hk1o
theorem used_on {k : Dk} (hl : k.left = 0) : k.used = k := by unfold Dk.used; rw [if_pos hl]
theorem written27 (S : ByteArray) (hS : S.size ≤ 300) : ∃ k : Dk, (newK 400).write 0 S = (0, k) ∧ k.Ok ∧ k.pend.length ≤ 9000 ∧ ((∃ k', openF k = (262, k', none)) ∨ ∃ t k', openF k = (0, k', some t) ∧ TpOk t ∧ t.size ≤ 400 ∧ k'.off = false ∧ k'.left = 0) := by
  have hok := newK_ok (n := 400) (by decide) (by decide)
  have hdl : (newK 400).dur.length = 400 := List.length_replicate
  have hfit : 0 + S.size ≤ (newK 400).dur.length := by rw [hdl]; omega
  obtain ⟨p1, p2, p3⟩ := put_parts (newK 400) 0 S
  have hw := Dk.write_on (k := newK 400) rfl hfit
  have hr : (DOp.wr 0 S).run (newK 400) = (0, (newK 400).put 0 S) := hw
  have hrl := (DOp.wr 0 S).run_len (newK 400) hok.len
  rw [hr] at hrl
  dsimp only at hrl
  have hk := (DOp.wr 0 S).run_ok hok (by show 0 + 1 ≤ 10000; decide)
  rw [hr] at hk
  have hol : ((newK 400).put 0 S).off = false ∧ ((newK 400).put 0 S).left = 0 := by
    unfold Dk.put
    rw [used_on rfl]
    exact ⟨rfl, rfl⟩
  generalize (newK 400).put 0 S = k at hw hk hrl hol p1 p2 p3
  have hdk : k.dur.length = 400 := by rw [p1, hdl]
  refine ⟨k, hw, hk, by rw [p3]; show 1 ≤ 9000; omega, ?_⟩
  have h := open_written hol.1 hol.2 hrl.1 (by omega) (by omega)
  rw [hdk] at h
  exact h
/-- Stores and removals of other objects. -/
theorem dropM_set_own {m : PM} {o f : Int} (s : ByteArray) : dropM (setM m (o, f) s) o = dropM m o := by
  induction m with
  | nil => show List.filter _ [((o, f), s)] = []; simp
  | cons p m ih =>
    obtain ⟨y, u⟩ := p
    show dropM (if (o, f) = y then ((o, f), s) :: m else (y, u) :: setM m (o, f) s) o = dropM ((y, u) :: m) o
    by_cases h : (o, f) = y
    · rw [if_pos h]
      subst h
      show List.filter _ (((o, f), s) :: m) = List.filter _ (((o, f), u) :: m)
      simp
    · rw [if_neg h]
      unfold dropM at ih ⊢
      simp only [List.filter_cons]
      rw [ih]
theorem dropM_set_other {m : PM} {o : Int} {p : PK} (s : ByteArray) (h0 : p.1 ≠ o) : dropM (setM m p s) o = setM (dropM m o) p s := by
  induction m with
  | nil => show List.filter _ [(p, s)] = [(p, s)]; simp [h0]
  | cons x m ih =>
    obtain ⟨y, u⟩ := x
    show dropM (if p = y then (p, s) :: m else (y, u) :: setM m p s) o = setM (dropM ((y, u) :: m) o) p s
    by_cases h : p = y
    · rw [if_pos h]
      subst h
      have e1 : dropM ((p, u) :: m) o = (p, u) :: dropM m o := by unfold dropM; rw [List.filter_cons_of_pos (by simpa using h0)]
      have e2 : dropM ((p, s) :: m) o = (p, s) :: dropM m o := by unfold dropM; rw [List.filter_cons_of_pos (by simpa using h0)]
      rw [e1, e2]
      show _ = if p = p then (p, s) :: dropM m o else _
      rw [if_pos rfl]
    · rw [if_neg h]
      by_cases hy : y.1 = o
      · have e1 : dropM ((y, u) :: m) o = dropM m o := by unfold dropM; rw [List.filter_cons_of_neg (by simpa using hy)]
        have e2 : dropM ((y, u) :: setM m p s) o = dropM (setM m p s) o := by unfold dropM; rw [List.filter_cons_of_neg (by simpa using hy)]
        rw [e1, e2, ih]
      · have e1 : dropM ((y, u) :: m) o = (y, u) :: dropM m o := by unfold dropM; rw [List.filter_cons_of_pos (by simpa using hy)]
        have e2 : dropM ((y, u) :: setM m p s) o = (y, u) :: dropM (setM m p s) o := by unfold dropM; rw [List.filter_cons_of_pos (by simpa using hy)]
        rw [e1, e2, ih]
        show _ = if p = y then _ else (y, u) :: setM (dropM m o) p s
        rw [if_neg h]
theorem dropM_comm (m : PM) (o o2 : Int) : dropM (dropM m o2) o = dropM (dropM m o) o2 := by
  unfold dropM
  rw [List.filter_filter, List.filter_filter]
  congr 1
  funext x
  exact Bool.and_comm _ _
theorem dropM_idem (m : PM) (o : Int) : dropM (dropM m o) o = dropM m o := by
  unfold dropM
  rw [List.filter_filter]
  congr 1
  funext x
  exact Bool.and_self _
/-- How many places of a list are of an object. -/
def ownC (o : Int) (l : List PK) : Nat := (l.filter fun p => decide (p.1 = o)).length
theorem ownC_snoc {o : Int} (l : List PK) (p : PK) : ownC o (l ++ [p]) = ownC o l + if p.1 = o then 1 else 0 := by
  unfold ownC
  rw [List.filter_append, List.length_append]
  by_cases h : p.1 = o
  · rw [if_pos h, List.filter_cons_of_pos (by simpa using h)]; rfl
  · rw [if_neg h, List.filter_cons_of_neg (by simpa using h)]; rfl
theorem ownC_le (o : Int) (l : List PK) : ownC o l ≤ l.length := List.length_filter_le _ _
theorem ownC_map (o : Int) : ∀ m : PM, ownC o (m.map Prod.fst) + (dropM m o).length = m.length
  | [] => rfl
  | p :: m => by
    have ih := ownC_map o m
    unfold ownC dropM at ih ⊢
    rw [List.map_cons]
    by_cases h : p.1.1 = o
    · rw [List.filter_cons_of_pos (by simpa using h), List.filter_cons_of_neg (by simpa using h)]
      simp only [List.length_cons]
      omega
    · rw [List.filter_cons_of_neg (by simpa using h), List.filter_cons_of_pos (by simpa using h)]
      simp only [List.length_cons]
      omega
theorem SortedP.ownC {l : List PK} {m : PM} (h : SortedP l m) (o : Int) : Go.Sx.ownC o l + (dropM m o).length = m.length := by
  rw [← ownC_map o m]
  congr 1
  exact (h.1.filter _).length_eq
theorem getM_some {m : PM} {p : PK} (h : p ∈ m.map Prod.fst) : ∃ s, getM m p = some s := by
  induction m with
  | nil => cases h
  | cons x m ih =>
    obtain ⟨y, u⟩ := x
    have h1 : getM ((y, u) :: m) p = if p = y then some u else getM m p := rfl
    rw [h1]
    by_cases e : p = y
    · rw [if_pos e]; exact ⟨u, rfl⟩
    · rw [if_neg e]
      rw [List.map_cons] at h
      rcases List.mem_cons.1 h with h | h
      · exact absurd h e
      · exact ih h
theorem getM_mem2 {m : PM} {x : PK} {s : ByteArray} (h : getM m x = some s) : (x, s) ∈ m := by
  induction m with
  | nil => cases h
  | cons p m ih =>
    obtain ⟨y, u⟩ := p
    have h1 : getM ((y, u) :: m) x = if x = y then some u else getM m x := rfl
    rw [h1] at h
    split at h
    · next e => cases h; rw [e]; exact .head _
    · exact .tail _ (ih h)
theorem SortedP.get {l : List PK} {m : PM} (h : SortedP l m) {p : PK} (hp : p ∈ l) : ∃ s, getM m p = some s ∧ (p, s) ∈ m := by
  obtain ⟨s, hs⟩ := getM_some (h.1.subset hp)
  exact ⟨s, hs, getM_mem2 hs⟩
theorem fetchV_some {m : PM} {p : PK} {s : ByteArray} (h : getM m p = some s) : fetchV m p = .tuple #[.string s, zv 0] := by unfold fetchV; rw [h]
theorem fetchV_none {m : PM} {p : PK} (h : getM m p = none) : fetchV m p = .tuple #[.string (ByteArray.mk #[]), zv 271] := by unfold fetchV; rw [h]
attribute [local irreducible] WC WL WX POp Then Again Fn NX W1 WA WO QL RP RA Yld LoopAt HC HL HX HN H1 HA HO HQ HB HP A.blk A.grow A.rd A.obj A.mp AgainH CutH
theorem pick27_fn (c n : Int) (h1 : -9223372036854775808 ≤ c) (h2 : c ≤ 9223372036854775807) (hn : 0 < n) (w : World) : Fn Tryz.prog 18 #[zv c, zv n] w fun v w' => v = zv (pk c n) ∧ w = w' := by
  refine enter (l := [_, _]) rfl Tryz.ntmps18 rfl ?_
  by_cases h : c < 0
  · repeat' (first | apply WL.fold | apply WA.fold | apply WL.nil | apply WX.n_then | apply WC.seq | apply WC.region | refine WL.pa ?_ | refine WL.ga rfl ?_ | refine WL.na rfl ?_ | refine WL.nu rfl rfl ?_ | apply WC.block | apply WC.skip | apply WC.exit | apply WC.ret | apply WX.e_block | refine WX.e_other rfl ?_ | apply WX.e_then | apply WX.e_again | apply WX.n_block | apply WX.r_then | apply WX.r_block | apply WX.r_again | refine WC.cond_yes rfl ?_ | refine WC.cond_no rfl ?_ | refine WC.cond rfl (fun hc => ?_) (fun hc => ?_) | refine WC.cond_b rfl (fun hc => ?_) (fun hc => ?_))
    exact WX.ret1 rfl rfl ⟨by rw [pk, if_pos h], rfl⟩
  · repeat' (first | apply WL.fold | apply WA.fold | apply WL.nil | apply WX.n_then | apply WC.seq | apply WC.region | refine WL.pa ?_ | refine WL.ga rfl ?_ | refine WL.na rfl ?_ | refine WL.nu rfl rfl ?_ | apply WC.block | apply WC.skip | apply WC.exit | apply WC.ret | apply WX.e_block | refine WX.e_other rfl ?_ | apply WX.e_then | apply WX.e_again | apply WX.n_block | apply WX.r_then | apply WX.r_block | apply WX.r_again | refine WC.cond_yes rfl ?_ | refine WC.cond_no rfl ?_ | refine WC.cond rfl (fun hc => ?_) (fun hc => ?_) | refine WC.cond_b rfl (fun hc => ?_) (fun hc => ?_))
    exact WX.ret1 rfl rfl ⟨by rw [pk, if_neg h], rfl⟩
theorem cut27_fn (s : ByteArray) (n : Nat) (hs : s.size ≤ 9223372036854775807) (w : World) : Fn Tryz.prog 11 #[.string s, zv (n : Int)] w fun v w' => v = .string (cutS n s) ∧ w = w' := by
  have hm : min (s.size : Int) (n : Int) = ((min s.size n : Nat) : Int) := by omega
  refine enter (l := [_, _]) rfl Tryz.ntmps11 rfl ?_
  repeat' (first | apply WL.fold | apply WA.fold | apply WL.nil | apply WX.n_then | apply WC.seq | apply WC.region | refine WL.pa ?_ | refine WL.ga rfl ?_ | refine WL.na rfl ?_ | refine WL.nu rfl rfl ?_ | apply WC.block | apply WC.skip | apply WC.exit | apply WC.ret | apply WX.e_block | refine WX.e_other rfl ?_ | apply WX.e_then | apply WX.e_again | apply WX.n_block | apply WX.r_then | apply WX.r_block | apply WX.r_again | refine WC.cond_yes rfl ?_ | refine WC.cond_no rfl ?_ | refine WC.cond rfl (fun hc => ?_) (fun hc => ?_) | refine WC.cond_b rfl (fun hc => ?_) (fun hc => ?_))
  exact WX.ret1 rfl rfl ⟨by rw [hm, Int.toNat_natCast]; rfl, rfl⟩
end Go.Sx

