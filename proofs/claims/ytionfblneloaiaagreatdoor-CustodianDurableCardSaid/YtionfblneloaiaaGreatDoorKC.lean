/- Plain, chapters 25 and 26: a group that is appended while the power may fail. -/
import Derived.Test.YtionfblneloaiaaGreatDoorJR
import Derived.Test.YtionfblneloaiaaGreatDoorJB
namespace Go.Sx
open Go
/-- A disk on which records are kept, and nothing is pending; it may have no power. -/
structure Half (k : Dk) (N : Nat) (l : List ByteArray) : Prop where
  dur : k.dur = k.vis
  vis : k.vis = outsL zero32 l ++ List.replicate (N - (outsL zero32 l).length) 0
  pend : k.pend = []
  fit : (outsL zero32 l).length ≤ N
  lo : 1 ≤ N
  hi : N ≤ 4194304
  left : k.left ≤ 1000000
/-- A content that reads as records. -/
def Good (N : Nat) (l : List ByteArray) (D : List UInt8) : Prop := D.length = N ∧ ∃ Y, D = outsL zero32 l ++ Y ∧ (Y = [] ∨ ∃ Y', Y = 0 :: Y')
theorem good_rep {N : Nat} {l : List ByteArray} (h : (outsL zero32 l).length ≤ N) : Good N l (outsL zero32 l ++ List.replicate (N - (outsL zero32 l).length) 0) := by
  refine ⟨by rw [List.length_append, List.length_replicate]; omega, _, rfl, ?_⟩
  cases N - (outsL zero32 l).length with
  | zero => exact .inl rfl
  | succ m => exact .inr ⟨List.replicate m 0, List.replicate_succ⟩
theorem Half.len {k : Dk} {N : Nat} {l : List ByteArray} (h : Half k N l) : k.vis.length = N := by
  have h1 := h.fit
  rw [h.vis, List.length_append, List.length_replicate]; omega
theorem Half.ok {k : Dk} {N : Nat} {l : List ByteArray} (h : Half k N l) : k.Ok := by
  have h1 := h.len
  have h2 := h.lo
  have h3 := h.hi
  exact ⟨by rw [h.dur], by rw [h.dur]; omega, by rw [h.dur]; omega, h.left, by rw [h.pend]; exact Nat.zero_le _⟩
theorem Half.fits {k : Dk} {N : Nat} {l : List ByteArray} (h : Half k N l) : k.Fit := fun x hx => by rw [h.pend] at hx; cases hx
theorem Clean.half {j : Jn} {N : Nat} {l : List ByteArray} (h : Clean j N l) : Half j.k N l :=
  ⟨h.dur, by have := h.vis; rw [h.t, adds0_size] at this; exact this, h.pend, by have := h.fit; rw [h.t, adds0_size] at this; exact this, h.lo, h.hi, by rw [h.left]; exact Nat.zero_le _⟩
theorem Half.clean {k : Dk} {N : Nat} {l : List ByteArray} (h : Half k N l) (ho : k.off = false) (hl : k.left = 0) : Clean ⟨adds t00 l, k, false⟩ N l :=
  ⟨rfl, rfl, ho, hl, h.pend, h.dur, by rw [adds0_size]; exact h.vis, by rw [adds0_size]; exact h.fit, h.lo, h.hi⟩
/-- What is good is opened. -/
theorem good_open {k : Dk} {N : Nat} {l : List ByteArray} {D : List UInt8} (h : Good N l D) (hs : ∀ r ∈ l, r.size ≤ 65536) (ho : k.off = false) (hl : k.left = 0) (hd : k.dur = D) (hv : k.vis = D) (hp : k.pend = []) (hlo : 1 ≤ N) (hhi : N ≤ 4194304) :
    ∃ k', openF k = (0, k', some (adds t00 l)) ∧ Clean ⟨adds t00 l, k', false⟩ N l := by
  obtain ⟨hlen, Y, hY, hY0⟩ := h
  have hlY := congrArg List.length hY
  rw [List.length_append, hlen] at hlY
  have hload : loadF k.vis t00 = some (adds t00 l) := by
    rw [hv, loadF_adds l t00 (rest := Y) hs hY]
    refine loadF_end fun h1 => h1.2 ?_
    have hdr : D.drop (adds t00 l).size = Y := by rw [adds0_size, hY, List.drop_left]
    rcases hY0 with rfl | ⟨Y', rfl⟩
    · have := h1.1
      rw [adds0_size] at this
      simp at hlY
      omega
    · exact (getD_drop hdr).2.1
  by_cases hz : isZero (k.vis.drop (adds t00 l).size) = true
  · refine ⟨k, openF_zero ho hload hz, ?_⟩
    have hYz : isZero Y = true := by rw [hv, adds0_size, hY, List.drop_left] at hz; exact hz
    have hh : Half k N l := ⟨by rw [hd, hv], by rw [hv, hY, isZero_rep hYz]; congr 2; omega, hp, by omega, hlo, hhi, by rw [hl]; exact Nat.zero_le _⟩
    exact hh.clean ho hl
  · have hsz : (mkBA (List.replicate (k.vis.length - (adds t00 l).size) 0)).size = N - (outsL zero32 l).length := by
      show (List.replicate (k.vis.length - (adds t00 l).size) (0 : UInt8)).toArray.size = _
      rw [List.size_toArray, List.length_replicate, hv, hlen, adds0_size]
    have hw := put_vis (k := k) (off := (adds t00 l).size) (s := mkBA (List.replicate (k.vis.length - (adds t00 l).size) 0)) ho hl (by rw [hsz, adds0_size, hd]; omega)
    have hrun : runOps (clr k (adds t00 l)) k = (0, ⟨false, 0, splice k.vis (adds t00 l).size (List.replicate (k.vis.length - (adds t00 l).size) 0), splice k.vis (adds t00 l).size (List.replicate (k.vis.length - (adds t00 l).size) 0), []⟩) := by
      unfold clr
      rw [runOps_ok (show ((DOp.wr _ _).run k).1 = 0 by show (k.write _ _).1 = 0; rw [hw])]
      show runOps _ (k.write _ _).2 = _
      rw [hw]
      rw [runOps_ok (show (DOp.sy.run _).1 = 0 from by show (Dk.sync _).1 = 0; rw [Dk.sync_on rfl])]
      show (0, (Dk.sync _).2) = _
      rw [Dk.sync_on rfl]; rfl
    refine ⟨_, openF_clr ho hload hz (by rw [hrun]), ?_⟩
    rw [hrun]
    have hvis : splice k.vis (adds t00 l).size (List.replicate (k.vis.length - (adds t00 l).size) 0) = outsL zero32 l ++ List.replicate (N - (outsL zero32 l).length) 0 := by
      rw [hv, hlen, adds0_size, hY]
      unfold splice
      rw [List.take_left, List.length_replicate, List.drop_of_length_le (by rw [List.length_append]; omega), List.append_nil]
    have hh : Half ⟨false, 0, splice k.vis (adds t00 l).size (List.replicate (k.vis.length - (adds t00 l).size) 0), splice k.vis (adds t00 l).size (List.replicate (k.vis.length - (adds t00 l).size) 0), []⟩ N l :=
      ⟨rfl, hvis, rfl, by omega, hlo, hhi, Nat.zero_le _⟩
    exact hh.clean rfl rfl
theorem splice_tail (A : List UInt8) (x : UInt8) (Z s : List UInt8) : splice (A ++ x :: Z) (A.length + 1) s = A ++ x :: splice Z 0 s := by
  unfold splice
  rw [List.take_append, List.take_of_length_le (by omega), show A.length + 1 - A.length = 1 from by omega, List.drop_append, List.drop_of_length_le (by omega), show A.length + 1 + s.length - A.length = s.length + 1 from by omega]
  simp
theorem splice_head (A : List UInt8) (x y : UInt8) (Z : List UInt8) : splice (A ++ x :: Z) A.length [y] = A ++ y :: Z := by
  unfold splice
  rw [List.take_left, List.drop_append, List.drop_of_length_le (by simp)]
  simp
theorem splice_none (D : List UInt8) (p : Nat) : splice D p [] = D := by
  unfold splice
  rw [List.append_nil, List.length_nil, Nat.add_zero, List.take_append_drop]
theorem crashL_one (keep : List Int) : crashL keep 1 = [] ∨ crashL keep 1 = [0] := by
  unfold crashL
  show List.filter _ [0] = [] ∨ List.filter _ [0] = [0]
  rw [List.filter_cons]
  split
  · exact .inr rfl
  · exact .inl rfl
theorem crash_one {k : Dk} {p : Nat} {s : ByteArray} (h : k.pend = [(p, s)]) (keep : List Int) (torn : Int) : (k.crash keep torn).dur = k.dur ∨ (k.crash keep torn).dur = splice k.dur p (tornS torn true s).data.toList := by
  show applyL k.pend torn (crashL keep k.pend.length) k.dur = _ ∨ applyL k.pend torn (crashL keep k.pend.length) k.dur = _
  rw [h]
  rcases crashL_one keep with e | e
  · left; show applyL _ torn (crashL keep 1) k.dur = _; rw [e]; rfl
  · right; show applyL _ torn (crashL keep 1) k.dur = _; rw [e]; rfl
theorem crash_none {k : Dk} (h : k.pend = []) (keep : List Int) (torn : Int) : (k.crash keep torn).dur = k.dur := by
  show applyL k.pend torn (crashL keep k.pend.length) k.dur = _
  rw [h]; rfl
theorem torn_one (torn : Int) : (tornS torn true (mkBA [1])).data.toList = [] ∨ (tornS torn true (mkBA [1])).data.toList = [1] := by
  unfold tornS
  split
  · rename_i h
    rw [extract_L]
    show ([(1 : UInt8)].drop 0).take (min torn 1).toNat = [] ∨ _
    by_cases h0 : torn = 0
    · subst h0; exact .inl rfl
    · right
      have : (min torn 1).toNat = 1 := by omega
      show ([(1 : UInt8)].drop 0).take ((min torn 1).toNat - 0) = [1]
      rw [this]; rfl
  · exact .inr rfl
/-- What comes of a group that is appended while the power may fail. -/
def Fails (N : Nat) (l G : List ByteArray) (r : Int × Dk) : Prop :=
  r.1 = 251 ∧ r.2.Ok ∧ r.2.Fit ∧ r.2.pend.length ≤ 1 ∧ r.2.dur.length = N ∧ ∀ keep torn, Good N l (r.2.crash keep torn).dur ∨ Good N (l ++ G) (r.2.crash keep torn).dur
theorem runs {k : Dk} {N : Nat} {l G : List ByteArray} (h : Half k N l) (hG : G ≠ []) (hf : (outsL zero32 l).length + (outsL (adds t00 l).head G).length ≤ N) :
    ((runOps (grp (adds t00 l) (outsL (adds t00 l).head G)) k).1 = 0 ∧ Half (runOps (grp (adds t00 l) (outsL (adds t00 l).head G)) k).2 N (l ++ G)) ∨ Fails N l G (runOps (grp (adds t00 l) (outsL (adds t00 l).head G)) k) := by
  have hlen := h.len
  have hok := h.ok
  have hfit := h.fit
  have hpn := h.pend
  have hdl : k.dur.length = N := by rw [h.dur, hlen]
  have hlo := h.lo
  have hhi := h.hi
  have hout2 : outsL zero32 (l ++ G) = outsL zero32 l ++ outsL (adds t00 l).head G := outsL_app l G t00
  have hsz := adds0_size l
  obtain ⟨o1, ho1⟩ : ∃ o1, outsL (adds t00 l).head G = 1 :: o1 := by
    obtain ⟨r, G', rfl⟩ := List.exists_cons_of_ne_nil hG
    exact ⟨_, by show outL _ r ++ _ = _; rw [show outL (adds t00 l).head r = 1 :: _ from rfl, List.cons_append]⟩
  rw [ho1] at hf hout2 ⊢
  rw [List.length_cons] at hf
  obtain ⟨A, hA⟩ : ∃ A, A = outsL zero32 l := ⟨_, rfl⟩
  rw [← hA] at hfit hf hout2 hsz
  obtain ⟨m, hm⟩ : ∃ m, N - A.length = m + 1 := ⟨N - A.length - 1, by omega⟩
  have hvis : k.vis = A ++ 0 :: List.replicate m 0 := by rw [h.vis, ← hA, hm, List.replicate_succ]
  have hg0 : ∀ Y', (A ++ 0 :: Y').length = N → Good N l (A ++ 0 :: Y') := fun Y' hl => ⟨hl, 0 :: Y', by rw [hA], .inr ⟨Y', rfl⟩⟩
  have hgr : grp (adds t00 l) (1 :: o1) = [.wr (A.length + 1) (mkBA o1), .sy, .wr A.length (mkBA [1]), .sy] := by unfold grp; rw [hsz]; rfl
  have hs1 : (mkBA o1).size = o1.length := by show o1.toArray.size = _; rw [List.size_toArray]
  have hs2 : (mkBA [1]).size = 1 := rfl
  rw [hgr]
  cases hoff : k.off
  rotate_left
  · right
    have hr : runOps [.wr (A.length + 1) (mkBA o1), .sy, .wr A.length (mkBA [1]), .sy] k = (251, k) := by
      rw [runOps_no (by show ¬ (k.write _ _).1 = 0; rw [Dk.write_off hoff]; show ¬ (251 : Int) = 0; decide)]
      exact Dk.write_off hoff
    rw [hr]
    refine ⟨rfl, hok, h.fits, by show k.pend.length ≤ 1; rw [hpn]; exact Nat.zero_le _, hdl, fun keep torn => .inl ?_⟩
    show Good N l (k.crash keep torn).dur
    rw [crash_none hpn, h.dur, hvis]
    exact hg0 _ (by rw [← hvis]; exact hlen)
  -- the first write
  obtain ⟨k1, hk1⟩ : ∃ k1, k1 = k.put (A.length + 1) (mkBA o1) := ⟨_, rfl⟩
  have hw1 : k.write (A.length + 1) (mkBA o1) = (0, k1) := by rw [hk1]; exact Dk.write_on hoff (by omega)
  obtain ⟨p1, p2, p3⟩ := put_parts k (A.length + 1) (mkBA o1)
  rw [← hk1] at p1 p2 p3
  rw [hpn, List.nil_append] at p3
  have hv1 : k1.vis = A ++ 0 :: splice (List.replicate m 0) 0 o1 := by rw [p2, hvis]; exact splice_tail A 0 _ o1
  have hk1ok : k1.Ok := by
    have := (DOp.wr (A.length + 1) (mkBA o1)).run_ok hok (by rw [hpn]; decide)
    have e : ((DOp.wr (A.length + 1) (mkBA o1)).run k).2 = k1 := by show (k.write _ _).2 = _; rw [hw1]
    rwa [e] at this
  have hv1l : k1.vis.length = N := by rw [hk1ok.len, p1, hdl]
  have st1 : runOps [.wr (A.length + 1) (mkBA o1), .sy, .wr A.length (mkBA [1]), .sy] k = runOps [.sy, .wr A.length (mkBA [1]), .sy] k1 := by
    rw [runOps_ok (by show (k.write _ _).1 = 0; rw [hw1])]
    show runOps _ (k.write _ _).2 = _
    rw [hw1]
  rw [st1]
  cases ho1f : k1.off
  rotate_left
  · right
    have hr : runOps [.sy, .wr A.length (mkBA [1]), .sy] k1 = (251, k1) := by
      rw [runOps_no (by show ¬ (k1.sync).1 = 0; rw [Dk.sync_off ho1f]; show ¬ (251 : Int) = 0; decide)]
      exact Dk.sync_off ho1f
    rw [hr]
    refine ⟨rfl, hk1ok, fun x hx => ?_, by show k1.pend.length ≤ 1; rw [p3]; exact Nat.le_refl _, by show k1.dur.length = N; rw [p1, hdl], fun keep torn => .inl ?_⟩
    · have hx' : x ∈ k1.pend := hx
      rw [p3] at hx'
      rcases List.mem_cons.1 hx' with rfl | hx'
      · show A.length + 1 + (mkBA o1).size ≤ k1.dur.length
        rw [p1]; omega
      · cases hx'
    · show Good N l (k1.crash keep torn).dur
      rcases crash_one p3 keep torn with e | e
      · rw [e, p1, h.dur, hvis]
        exact hg0 _ (by rw [← hvis]; exact hlen)
      · rw [e, p1, h.dur, hvis, splice_tail]
        refine hg0 _ ?_
        have ht := tornS_size torn true (mkBA o1)
        have htl : (tornS torn true (mkBA o1)).data.toList.length = (tornS torn true (mkBA o1)).size := by rw [Array.length_toList]; rfl
        rw [List.length_append, List.length_cons, splice_len (by rw [List.length_replicate]; omega), List.length_replicate]; omega
  -- it is durable
  obtain ⟨k2, hk2⟩ : ∃ k2 : Dk, k2 = { k1 with dur := k1.vis, pend := [] } := ⟨_, rfl⟩
  have hw2 : k1.sync = (0, k2) := by rw [hk2]; exact Dk.sync_on ho1f
  have st2 : runOps [.sy, .wr A.length (mkBA [1]), .sy] k1 = runOps [.wr A.length (mkBA [1]), .sy] k2 := by
    rw [runOps_ok (by show (k1.sync).1 = 0; rw [hw2])]
    show runOps _ (k1.sync).2 = _
    rw [hw2]
  rw [st2]
  have q1 : k2.dur = k1.vis := by rw [hk2]
  have q2 : k2.vis = k1.vis := by rw [hk2]
  have q3 : k2.pend = [] := by rw [hk2]
  have q4 : k2.off = false := by rw [hk2]; exact ho1f
  have hk2ok : k2.Ok := by
    have := DOp.sy.run_ok hk1ok (by rw [p3]; show 2 ≤ 10000; decide)
    have e : (DOp.sy.run k1).2 = k2 := by show (k1.sync).2 = _; rw [hw2]
    rwa [e] at this
  -- the second write
  obtain ⟨k3, hk3⟩ : ∃ k3, k3 = k2.put A.length (mkBA [1]) := ⟨_, rfl⟩
  have hw3 : k2.write A.length (mkBA [1]) = (0, k3) := by rw [hk3]; exact Dk.write_on q4 (by rw [q1, hs2]; omega)
  obtain ⟨r1, r2, r3⟩ := put_parts k2 A.length (mkBA [1])
  rw [← hk3] at r1 r2 r3
  rw [q3, List.nil_append] at r3
  have hk3ok : k3.Ok := by
    have := (DOp.wr A.length (mkBA [1])).run_ok hk2ok (by rw [q3]; decide)
    have e : ((DOp.wr A.length (mkBA [1])).run k2).2 = k3 := by show (k2.write _ _).2 = _; rw [hw3]
    rwa [e] at this
  have hsp : splice (List.replicate m 0) 0 o1 = o1 ++ List.replicate (m - o1.length) 0 := by
    unfold splice
    rw [List.take_zero, List.nil_append, Nat.zero_add, List.drop_replicate]
  have hv3 : k3.vis = A ++ 1 :: splice (List.replicate m 0) 0 o1 := by
    rw [r2, q2, hv1]
    exact splice_head A 0 1 _
  have hv3' : k3.vis = outsL zero32 (l ++ G) ++ List.replicate (N - (outsL zero32 (l ++ G)).length) 0 := by
    rw [hv3, hsp, hout2, List.append_assoc, List.cons_append]
    congr 4
    rw [List.length_append, List.length_cons]; omega
  have hout2l : (outsL zero32 (l ++ G)).length ≤ N := by rw [hout2, List.length_append, List.length_cons]; omega
  have st3 : runOps [.wr A.length (mkBA [1]), .sy] k2 = runOps [.sy] k3 := by
    rw [runOps_ok (by show (k2.write _ _).1 = 0; rw [hw3])]
    show runOps _ (k2.write _ _).2 = _
    rw [hw3]
  rw [st3]
  cases ho3 : k3.off
  rotate_left
  · right
    have hr : runOps [.sy] k3 = (251, k3) := by
      rw [runOps_no (by show ¬ (k3.sync).1 = 0; rw [Dk.sync_off ho3]; show ¬ (251 : Int) = 0; decide)]
      exact Dk.sync_off ho3
    rw [hr]
    have hd3 : k3.dur = A ++ 0 :: splice (List.replicate m 0) 0 o1 := by rw [r1, q1, hv1]
    have hd3l : k3.dur.length = N := by rw [r1, q1, hv1l]
    refine ⟨rfl, hk3ok, fun x hx => ?_, by show k3.pend.length ≤ 1; rw [r3]; exact Nat.le_refl _, hd3l, fun keep torn => ?_⟩
    · have hx' : x ∈ k3.pend := hx
      rw [r3] at hx'
      rcases List.mem_cons.1 hx' with rfl | hx'
      · show A.length + (mkBA [1]).size ≤ k3.dur.length
        rw [hs2]; omega
      · cases hx'
    · show Good N l (k3.crash keep torn).dur ∨ Good N (l ++ G) (k3.crash keep torn).dur
      have hgl : Good N l k3.dur := by
        rw [hd3]; exact hg0 _ (by rw [← hd3]; exact hd3l)
      rcases crash_one r3 keep torn with e | e
      · rw [e]; exact .inl hgl
      · rcases torn_one torn with e1 | e1
        · rw [e, e1, splice_none]; exact .inl hgl
        · right
          rw [e, e1, hd3, splice_head, ← hv3, hv3']
          exact good_rep hout2l
  · left
    have hr : runOps [.sy] k3 = (0, { k3 with dur := k3.vis, pend := [] }) := by
      rw [runOps_ok (by show (k3.sync).1 = 0; rw [Dk.sync_on ho3])]
      show (0, (k3.sync).2) = _
      rw [Dk.sync_on ho3]
    rw [hr]
    exact ⟨rfl, ⟨rfl, hv3', rfl, hout2l, hlo, hhi, hk3ok.left⟩⟩
/-- What holds of a disk whose content behind a power failure is one of two lists. -/
structure Ends (N : Nat) (l1 l2 : List ByteArray) (k : Dk) : Prop where
  ok : k.Ok
  fits : k.Fit
  pend : k.pend.length ≤ 1
  dur : k.dur.length = N
  good : ∀ keep torn, Good N l1 (k.crash keep torn).dur ∨ Good N l2 (k.crash keep torn).dur
theorem Half.ends {k : Dk} {N : Nat} {l : List ByteArray} (h : Half k N l) : Ends N l l k :=
  ⟨h.ok, h.fits, by rw [h.pend]; exact Nat.zero_le _, by rw [h.dur, h.len], fun keep torn => .inl (by rw [crash_none h.pend, h.dur, h.vis]; exact good_rep h.fit)⟩
theorem Fails.ends {N : Nat} {l G : List ByteArray} {r : Int × Dk} (h : Fails N l G r) : Ends N l (l ++ G) r.2 := ⟨h.2.1, h.2.2.1, h.2.2.2.1, h.2.2.2.2.1, h.2.2.2.2.2⟩
/-- What is left behind a power failure opens as one of the two. -/
theorem Ends.opens {N : Nat} {l1 l2 : List ByteArray} {k : Dk} (h : Ends N l1 l2 k) (hs1 : ∀ r ∈ l1, r.size ≤ 65536) (hs2 : ∀ r ∈ l2, r.size ≤ 65536) (hlo : 1 ≤ N) (hhi : N ≤ 4194304) (keep : List Int) (torn : Int) :
    ∃ (l : List ByteArray) (k' : Dk), (l = l1 ∨ l = l2) ∧ openF (k.crash keep torn) = (0, k', some (adds t00 l)) ∧ Clean ⟨adds t00 l, k', false⟩ N l ∧ (k.crash keep torn).Ok ∧ (k.crash keep torn).pend = [] := by
  have hok := crash_ok h.ok h.fits keep torn
  rcases h.good keep torn with hg | hg
  · obtain ⟨k', h1, h2⟩ := good_open (k := k.crash keep torn) hg hs1 rfl rfl rfl rfl rfl hlo hhi
    exact ⟨l1, k', .inl rfl, h1, h2, hok, rfl⟩
  · obtain ⟨k', h1, h2⟩ := good_open (k := k.crash keep torn) hg hs2 rfl rfl rfl rfl rfl hlo hhi
    exact ⟨l2, k', .inr rfl, h1, h2, hok, rfl⟩
/-- A group is appended to a journal whose records are durable, while the power may fail. -/
theorem half_step {j : Jn} {N : Nat} {l G : List ByteArray} (ht : j.t = adds t00 l) (hb : j.br = false) (h : Half j.k N l) (hg : G.any isLong = false) : ∃ (e : Int) (j2 : Jn), j.append G = (e, j2) ∧
    ((e = 0 ∧ j2.t = adds t00 (l ++ G) ∧ j2.br = false ∧ Half j2.k N (l ++ G)) ∨ (e = 261 ∧ j2 = j) ∨ (e = 251 ∧ j2.t = j.t ∧ j2.br = true ∧ Ends N l (l ++ G) j2.k)) := by
  have hlen := h.len
  have hdl : j.k.dur.length = N := by rw [h.dur, hlen]
  have hnb : ¬ (j.br = true ∨ G.any isLong = true) := by rw [hg, hb]; rintro (h | h) <;> cases h
  have hsz : j.t.size = (outsL zero32 l).length := by rw [ht, adds0_size]
  have hfit := h.fit
  by_cases hf : j.t.size + (outsL j.t.head G).length ≤ N
  · have h1 : ¬ (j.k.dur.length : Int) - (j.t.size : Int) < ((outsL j.t.head G).length : Int) := by omega
    by_cases hgn : G = []
    · subst hgn
      exact ⟨0, j, append_nil hnb h1 rfl, .inl ⟨rfl, by rw [List.append_nil]; exact ht, hb, by rw [List.append_nil]; exact h⟩⟩
    · have hne := outsL_ne (h := j.t.head) hgn
      have hr := runs (G := G) h hgn (by rw [← ht]; omega)
      rw [← ht] at hr
      rcases hr with ⟨e1, h2⟩ | hF
      · exact ⟨0, _, append_ok hnb h1 hne e1, .inl ⟨rfl, by show adds j.t G = _; rw [ht, adds_app], hb, h2⟩⟩
      · have e1 := hF.1
        exact ⟨_, _, append_no hnb h1 hne (by rw [e1]; decide), .inr (.inr ⟨e1, rfl, rfl, hF.ends⟩)⟩
  · exact ⟨261, j, append_full hnb (by omega), .inr (.inl ⟨rfl, rfl⟩)⟩
/-- The same; where the power does not fail, it goes on. -/
theorem surv_step {j : Jn} {N : Nat} {l G : List ByteArray} {last : Bool} (ht : j.t = adds t00 l) (hb : j.br = false) (h : Half j.k N l) (hc : last = false → Clean j N l) (hg : G.any isLong = false) : ∃ (e : Int) (j2 : Jn), j.append G = (e, j2) ∧
    ((e = 0 ∧ Ends N (l ++ G) (l ++ G) j2.k ∧ (last = false → Clean j2 N (l ++ G))) ∨ (e = 261 ∧ Ends N l l j2.k ∧ (last = false → Clean j2 N l)) ∨ (e = 251 ∧ last = true ∧ Ends N l (l ++ G) j2.k)) := by
  cases last with
  | false =>
    have hc' := hc rfl
    by_cases hf : j.t.size + (outsL j.t.head G).length ≤ N
    · obtain ⟨j', h1, h2⟩ := hc'.app hg hf
      exact ⟨0, j', h1, .inl ⟨rfl, h2.half.ends, fun _ => h2⟩⟩
    · exact ⟨261, j, hc'.full hg hf, .inr (.inl ⟨rfl, h.ends, fun _ => hc'⟩)⟩
  | true =>
    obtain ⟨e, j2, h1, h2⟩ := half_step ht hb h hg
    refine ⟨e, j2, h1, ?_⟩
    rcases h2 with ⟨h3, -, -, h4⟩ | ⟨h3, rfl⟩ | ⟨h3, -, -, h4⟩
    · exact .inl ⟨h3, h4.ends, fun e => by cases e⟩
    · exact .inr (.inl ⟨h3, h.ends, fun e => by cases e⟩)
    · exact .inr (.inr ⟨h3, rfl, h4⟩)
/-- Cut, on a disk whose records are durable. -/
theorem Half.cut {k : Dk} {N : Nat} {l : List ByteArray} (h : Half k N l) (n : Nat) (hn : n ≤ 1000000) : Half (k.cut n).2 N l := by
  unfold Dk.cut
  split
  · exact h
  · exact ⟨h.dur, h.vis, h.pend, h.fit, h.lo, h.hi, hn⟩
end Go.Sx

