/- Chapter 26: Append: the walk. -/
import Derived.Test.YtionfblneloaiaaGreatDoorJI
namespace Go.Sx
open Go Go.Proofs Go.RowKit
theorem hwJL {G G2 : Prop} (x : G2) (hwq : Hold G2 → G := by
    intro hQq
    repeat' (first | refine HL.pa ?_ (POp.pnil1 rfl rfl) | refine HL.pa ?_ (POp.pnil0 rfl rfl) | refine HL.pa ?_ (POp.nilCheck rfl) | apply HL.fold | apply HA.fold | apply HL.nil | apply HX.n_then | apply HC.seq | apply HC.region | refine HL.pa ?_ | refine HL.ga rfl ?_ | refine HL.na rfl ?_ | refine HL.nu rfl rfl ?_ | apply HC.block | apply HC.skip | apply HC.exit | apply HC.ret | apply HX.e_block | refine HX.e_other rfl ?_ | apply HX.e_then | apply HX.e_again | apply HX.n_block | apply HX.r_then | apply HX.r_block | apply HX.r_again | refine HC.cond_yes rfl ?_ | refine HC.cond_no rfl ?_ | refine HL.one (H1.ldb rfl memA rfl rfl ?_) | refine HC.cond rfl (fun hc => ?_) (fun hc => ?_) | refine HC.cond_b rfl (fun hc => ?_) (fun hc => ?_))
    exact hQq.get) : G := hwq ⟨x⟩
theorem append_br {j : Jn} {l : List ByteArray} (h : j.br = true ∨ l.any isLong = true) : j.append l = (260, j) := by unfold Jn.append; rw [if_pos h]
theorem append_full {j : Jn} {l : List ByteArray} (h : ¬ (j.br = true ∨ l.any isLong = true)) (h1 : (j.k.dur.length : Int) - (j.t.size : Int) < ((outsL j.t.head l).length : Int)) : j.append l = (261, j) := by
  unfold Jn.append; rw [if_neg h, if_pos h1]
theorem append_nil {j : Jn} {l : List ByteArray} (h : ¬ (j.br = true ∨ l.any isLong = true)) (h1 : ¬ (j.k.dur.length : Int) - (j.t.size : Int) < ((outsL j.t.head l).length : Int)) (h2 : outsL j.t.head l = []) : j.append l = (0, j) := by
  unfold Jn.append; rw [if_neg h, if_neg h1, if_pos h2]
theorem append_ok {j : Jn} {l : List ByteArray} (h : ¬ (j.br = true ∨ l.any isLong = true)) (h1 : ¬ (j.k.dur.length : Int) - (j.t.size : Int) < ((outsL j.t.head l).length : Int)) (h2 : ¬ outsL j.t.head l = []) (h3 : (runOps (grp j.t (outsL j.t.head l)) j.k).1 = 0) :
    j.append l = (0, ⟨adds j.t l, (runOps (grp j.t (outsL j.t.head l)) j.k).2, j.br⟩) := by
  unfold Jn.append; rw [if_neg h, if_neg h1, if_neg h2]; exact if_pos h3
theorem append_no {j : Jn} {l : List ByteArray} (h : ¬ (j.br = true ∨ l.any isLong = true)) (h1 : ¬ (j.k.dur.length : Int) - (j.t.size : Int) < ((outsL j.t.head l).length : Int)) (h2 : ¬ outsL j.t.head l = []) (h3 : ¬ (runOps (grp j.t (outsL j.t.head l)) j.k).1 = 0) :
    j.append l = ((runOps (grp j.t (outsL j.t.head l)) j.k).1, ⟨j.t, (runOps (grp j.t (outsL j.t.head l)) j.k).2, true⟩) := by
  unfold Jn.append; rw [if_neg h, if_neg h1, if_neg h2]; exact if_neg h3
theorem take_fr {l : List ByteArray} {i : Nat} (h : i < l.length) : l.take (i + 1) = l.take i ++ [fr l i] := by
  rw [List.take_add_one, List.getElem?_eq_getElem h]
  simp [fr, h]
theorem adds_snoc (t : Tp) (l : List ByteArray) (r : ByteArray) : adds t (l ++ [r]) = (adds t l).add r := by rw [adds_app]; rfl
theorem outsL_snoc (t : Tp) (l : List ByteArray) (r : ByteArray) : outsL t.head (l ++ [r]) = outsL t.head l ++ outL (adds t l).head r := by
  rw [outsL_app]
  show _ ++ (outL _ r ++ []) = _
  rw [List.append_nil]
theorem outsL_take (t : Tp) (l : List ByteArray) (i : Nat) : (outsL t.head (l.take i)).length ≤ (outsL t.head l).length := by
  have := outsL_app (l.take i) (l.drop i) t
  rw [List.take_append_drop] at this
  rw [this, List.length_append]; omega
theorem adds_head : ∀ (l : List ByteArray) (t : Tp), t.head.size ≤ 32 → (adds t l).head.size ≤ 32
  | [], _, h => h
  | r :: l, t, _ => adds_head l (t.add r) (by show (chainS t.head r).size ≤ 32; rw [chainS_size]; exact Nat.le_refl _)
theorem any_long {l : List ByteArray} (h : l.any isLong = false) {i : Nat} (hi : i < l.length) : (fr l i).size ≤ 65536 := by
  have := List.any_eq_false.1 h (fr l i) (by unfold fr; simp [hi])
  unfold isLong at this
  simpa using this
attribute [local irreducible] WC WL WX POp Then Again Fn NX W1 WA WO QL RP RA Yld LoopAt HC HL HX HN H1 HA HO HQ HB HP A.blk A.grow A.rd A.obj A.mp AgainH CutH
theorem appendNil_fn (v : Value) (w : World) : Fn Tryz.prog 89 #[.pointer none, v] w fun v w' => v = zv 1 ∧ w = w' := by
  refine enter (l := [_, _]) rfl Tryz.ntmps89 rfl ?_
  repeat' (first | apply WL.fold | apply WA.fold | apply WL.nil | apply WX.n_then | apply WC.seq | apply WC.region | refine WL.pa ?_ | refine WL.ga rfl ?_ | refine WL.na rfl ?_ | refine WL.nu rfl rfl ?_ | apply WC.block | apply WC.skip | apply WC.exit | apply WC.ret | apply WX.e_block | refine WX.e_other rfl ?_ | apply WX.e_then | apply WX.e_again | apply WX.n_block | apply WX.r_then | apply WX.r_block | apply WX.r_again | refine WC.cond_yes rfl ?_ | refine WC.cond_no rfl ?_ | refine WC.cond rfl (fun hc => ?_) (fun hc => ?_) | refine WC.cond_b rfl (fun hc => ?_) (fun hc => ?_))
  refine WL.pa ?_ (POp.pnil1 rfl rfl)
  repeat' (first | apply WL.fold | apply WA.fold | apply WL.nil | apply WX.n_then | apply WC.seq | apply WC.region | refine WL.pa ?_ | refine WL.ga rfl ?_ | refine WL.na rfl ?_ | refine WL.nu rfl rfl ?_ | apply WC.block | apply WC.skip | apply WC.exit | apply WC.ret | apply WX.e_block | refine WX.e_other rfl ?_ | apply WX.e_then | apply WX.e_again | apply WX.n_block | apply WX.r_then | apply WX.r_block | apply WX.r_again | refine WC.cond_yes rfl ?_ | refine WC.cond_no rfl ?_ | refine WC.cond rfl (fun hc => ?_) (fun hc => ?_) | refine WC.cond_b rfl (fun hc => ?_) (fun hc => ?_))
  exact WX.ret1 rfl rfl ⟨rfl, rfl⟩
abbrev appH (t6 t7 : Nat) (a : Option Addr) (c : Nat) (p ba : Option Addr) (bc : Nat) (t : Tp) (ys : List UInt8) (H : List Atom) : List Atom :=
  A.blk t6 (tpC a c t []) 177 :: A.grow 9 1 a c t.recs.length (strs t.recs) :: bldH t7 p ba bc ys H
theorem rd_some {w : World} {a : Option Addr} {n c : Nat} {l : List ByteArray} (h : Rd w (.slice a n c) (strs l)) (hne : l ≠ []) : ∃ b off, a = some ⟨b, off, none⟩ := by
  obtain ⟨b, off, cc, e, -⟩ := h.at (by intro e; exact hne (by simpa [strs] using e))
  cases e
  exact ⟨b, off, rfl⟩
set_option maxHeartbeats 4000000 in
theorem append_fn {w0 w : World} {H : List Atom} {bj bd b1 b2 c pc : Nat} {a pa : Option Addr} {j : Jn} {v : Value} {l : List ByteArray} (hG : RoundG w0) (hM : Mm w0 (jnlH bj bd b1 b2 a c pa pc j H) w)
    (hR : ∀ (H1 : List Atom) (w' : World), (∀ x, x ∈ H → x ∈ H1) → Mm w0 H1 w' → Rd w' v (strs l))
    (hk : j.k.Ok) (hp : j.k.pend.length + 4 ≤ 10000) (ht : j.t.size ≤ j.k.dur.length) (hn : j.t.recs.length ≤ 100000) (hh : j.t.head.size ≤ 32) (hl : l.length ≤ 100000) (hb : l.any isLong = false → (outsL j.t.head l).length ≤ 900000) :
    Fn Tryz.prog 89 #[.pointer (some ⟨bj, 0, none⟩), v] w fun v w' => ∃ q : (Option Addr × Nat) × (Option Addr × Nat), True ∧ v = zv (j.append l).1 ∧ Mm w0 (jnlH bj bd b1 b2 q.1.1 q.1.2 q.2.1 q.2.2 (j.append l).2 H) w' := by
  have hhi := hk.hi
  have m1 : ∀ {x : Atom} {a' : Option Addr} {c' : Nat} {pa' : Option Addr} {pc' : Nat} {j' : Jn}, x ∈ H → x ∈ jnlH bj bd b1 b2 a' c' pa' pc' j' H := fun h => .tail _ (.tail _ (.tail _ (.tail _ (.tail _ (.tail _ h)))))
  obtain ⟨a0, c0, rfl, hc0⟩ := rd_strs_shape (hR _ w (fun _ => m1) hM)
  obtain ⟨t, k, br⟩ := j
  dsimp only at hk hp ht hn hh hb hhi
  refine enterK (l := [_, _]) hM rfl Tryz.ntmps89 rfl ?_
  cases br
  rotate_left
  · rw [append_br (.inl rfl)]
    refine hwJL ?_
    exact HX.ret1 rfl rfl fun w' hM => ⟨((a, c), (pa, pc)), trivial, rfl, hM⟩
  refine hwJL ?_
  refine HL.one (H1.callx (u := .bool (l.any isLong)) (vs := [_, _]) rfl rfl (fun w' hM => containsLong_fn _ l (by omega) w' (hR _ w' (fun _ => m1) hM)) ?_)
  cases hlong : l.any isLong
  rotate_left
  · rw [append_br (.inr hlong)]
    refine hwJL ?_
    exact HX.ret1 rfl rfl fun w' hM => ⟨((a, c), (pa, pc)), trivial, rfl, hM⟩
  have hol := hb hlong
  have hnb : ¬ ((⟨t, k, false⟩ : Jn).br = true ∨ l.any isLong = true) := by rw [hlong]; rintro (h | h) <;> cases h
  refine hwJL ?_
  refine HL.one (H1.ldAgg (b := bj) (vs := tpC a c t []) rfl memA rfl (fun i v h => by
    rw [Nat.zero_add]
    match i, h with
    | 0, h => exact h
    | 1, h => exact h
    | 2, h => exact h
    | n + 3, h => cases h) rfl ?_)
  refine hwJL ?_
  refine HL.one (H1.alloc (cs := [.slice none 0 0, .string (ByteArray.mk #[]), zv 0]) (by kernel_rfl) rfl (fun t6 => ?_))
  refine hwJL ?_
  refine HL.one (H1.stAgg (cs := [.slice none 0 0, .string (ByteArray.mk #[]), zv 0]) rfl rfl rfl (by intro v hv; rcases List.mem_cons.1 hv with rfl | hv; rfl; rcases List.mem_cons.1 hv with rfl | hv; rfl; rcases List.mem_cons.1 hv with rfl | hv; rfl; cases hv) rplA rfl ?_)
  refine hwJL ?_
  refine HL.one (H1.callz (vs := [_]) rfl rfl (fun w' hM => cloneS_fn _ t.recs (by omega) w' (Mm.gr (e := 9) hM memA)) ?_)
  rintro ⟨a1, c1⟩ -
  dsimp only
  refine hwJL ?_
  refine HL.one (H1.st (b := t6) rfl rfl (by intro _ h; cases h) (by intro _ h; cases h) rplA (by show 0 < 3; decide) ?_)
  refine hwJL ?_
  refine HL.one (H1.alloc (cs := [.pointer none, .slice none 0 0]) (by kernel_rfl) rfl (fun t7 => ?_))
  refine hwJL ?_
  refine HC.grow0 5 1 ?_
  refine HC.loop (α := Nat × (Option Addr × Nat) × Option Addr × Option Addr × Nat) (fun z => [(0, .pointer (some ⟨bj, 0, none⟩)), (6, .pointer (some ⟨t6, 0, none⟩)), (7, .pointer (some ⟨t7, 0, none⟩)), (31, .slice a0 l.length c0), (32, zv (l.length : Int)), (33, zv (z.1 : Int))])
    (fun z => appH t6 t7 z.2.1.1 z.2.1.2 z.2.2.1 z.2.2.2.1 z.2.2.2.2 (adds t (l.take z.1)) (outsL t.head (l.take z.1)) (jnlH bj bd b1 b2 a c pa pc ⟨t, k, false⟩ H))
    (fun z => z.1 ≤ l.length ∧ (z.2.2.1 = none ∨ z.2.2.1 = some ⟨t7, 0, none⟩) ∧ (z.1 = 0 → z.2.2.2.1 = none ∧ z.2.2.2.2 = 0)) (fun z => l.length - z.1) (0, (a1, c1), none, none, 0) ⟨Nat.zero_le _, .inl rfl, fun _ => ⟨rfl, rfl⟩⟩ esA
    (by
      show Hs _ (appH t6 t7 a1 c1 none none 0 t [] (jnlH bj bd b1 b2 a c pa pc ⟨t, k, false⟩ H))
      exact Hs.cons (Pick.there (Pick.there (Pick.there Pick.here))) (Hs.cons (Pick.there (Pick.there Pick.here)) (Hs.cons (Pick.there Pick.here) (Hs.cons Pick.here (Hs.refl _))))) ?_
  rintro ⟨i, ⟨a2, c2⟩, p, ba, bc⟩ ⟨hi, hpp, h0⟩
  dsimp only at hi hpp h0 ⊢
  by_cases hlt : i < l.length
  · obtain ⟨b, off, rfl⟩ := rd_some (hR _ w (fun _ => m1) hM) (by rintro rfl; simp at hlt)
    have hget := strs_get hlt
    have htk := take_fr hlt
    have hsz := any_long hlong hlt
    generalize fr l i = s at hget htk hsz
    have hos := outsL_snoc t (l.take i) s
    have had := adds_snoc t (l.take i) s
    rw [← htk] at hos had
    have hole := outsL_take t l (i + 1)
    have hosz := outB_size (adds t (l.take i)).head s
    have hol3 : (outsL t.head (l.take (i + 1))).length = (outsL t.head (l.take i)).length + (outL (adds t (l.take i)).head s).length := by rw [hos, List.length_append]
    have hrl := congrArg List.length (adds_recs (l.take i) t)
    rw [List.length_append, List.length_take, Nat.min_eq_left hi] at hrl
    have hsi := adds_size (l.take i) t
    have hhd := adds_head (l.take i) t hh
    have htl := outsL_take t l i
    have hob : (outB (adds t (l.take i)).head s).data.toList = outL (adds t (l.take i)).head s := rfl
    refine hwJL ?_
    refine HL.one (H1.ldw (v := .string s) rfl (fun w' hM => (hR _ w' (fun x h => .tail _ (.tail _ (.tail _ (.tail _ (m1 h))))) hM).cell hget) rfl ?_)
    refine hwJL ?_
    refine HL.one (H1.callk (α := Option Addr × Nat) (V := fun _ => .string (outB (adds t (l.take i)).head s)) (I := fun _ => True)
      (H' := fun q => A.blk t6 (tpC q.1 q.2 ((adds t (l.take i)).add s) []) 177 :: A.grow 9 1 q.1 q.2 ((adds t (l.take i)).recs ++ [s]).length (strs ((adds t (l.take i)).recs ++ [s])) :: bldH t7 p ba bc (outsL t.head (l.take i)) (jnlH bj bd b1 b2 a c pa pc ⟨t, k, false⟩ H)) (vs := [_, .string s]) rfl rfl
      (fun w' hM => tadd_fn s hG hM (by omega) hhd (by omega) (by omega)) ?_)
    rintro ⟨a3, c3⟩ -
    dsimp only
    refine hwJL ?_
    refine HL.one (H1.callk (α := Option Addr × Nat) (V := fun _ => .tuple #[zv ((outB (adds t (l.take i)).head s).size : Int), .nilIface]) (I := fun _ => True)
      (H' := fun q => bldH t7 (some ⟨t7, 0, none⟩) q.1 q.2 (outsL t.head (l.take i) ++ (outB (adds t (l.take i)).head s).data.toList) (A.blk t6 (tpC a3 c3 ((adds t (l.take i)).add s) []) 177 :: A.grow 9 1 a3 c3 ((adds t (l.take i)).recs ++ [s]).length (strs ((adds t (l.take i)).recs ++ [s])) :: jnlH bj bd b1 b2 a c pa pc ⟨t, k, false⟩ H)) (vs := [.pointer (some ⟨t7, 0, none⟩), .string (outB (adds t (l.take i)).head s)]) rfl rfl
      (fun w' hM => writeString_fn (outB (adds t (l.take i)).head s) (hM.sub (Hs.cons (Pick.there (Pick.there Pick.here)) (Hs.cons (Pick.there (Pick.there Pick.here)) (Hs.refl _)))) hpp (by rw [hosz]; omega)) ?_)
    rintro ⟨b3, bc3⟩ -
    dsimp only
    rw [hob, ← hos]
    refine hwJL ?_
    refine HX.again (i + 1, (a3, c3), some ⟨t7, 0, none⟩, b3, bc3) ⟨hlt, .inr rfl, fun h => by cases h⟩ (by show l.length - (i + 1) < l.length - i; omega) esA ?_
    dsimp only
    rw [had]
    exact Hs.cons (Pick.there (Pick.there Pick.here)) (Hs.cons (Pick.there (Pick.there Pick.here)) (Hs.cons Pick.here (Hs.cons Pick.here (Hs.refl _))))
  · obtain rfl : i = l.length := by omega
    rw [List.take_length]
    obtain ⟨o, ho⟩ : ∃ o, o = outsL t.head l := ⟨_, rfl⟩
    have hadn := adds_size l t
    rw [← ho] at hol hadn ⊢
    have hms : (mkBA o).size = o.length := by show o.toArray.size = _; rw [List.size_toArray]
    have hol0 : o = [] → l = [] := by
      intro h
      cases hl0 : l with
      | nil => rfl
      | cons r l' =>
        rw [hl0] at ho
        have h1 : o.length = (outL t.head r ++ outsL (chainS t.head r) l').length := by rw [ho]; rfl
        rw [h, List.length_append] at h1
        have := outL_pos t.head r
        simp at h1; omega
    refine hwJL ?_
    refine HL.one (H1.callk (α := Unit) (V := fun _ => .string (mkBA o)) (I := fun _ => True) (H' := fun _ => jnlH bj bd b1 b2 a c pa pc ⟨t, k, false⟩ (A.blk t6 (tpC a2 c2 (adds t l) []) 177 :: A.grow 9 1 a2 c2 (adds t l).recs.length (strs (adds t l).recs) :: H)) (vs := [_]) rfl rfl (fun w' hM => ?_) ?_)
    · have hM2 : Mm w0 (bldH t7 p ba bc o (jnlH bj bd b1 b2 a c pa pc ⟨t, k, false⟩ (A.blk t6 (tpC a2 c2 (adds t l) []) 177 :: A.grow 9 1 a2 c2 (adds t l).recs.length (strs (adds t l).recs) :: H))) w' :=
        hM.sub (Hs.cons (Pick.there (Pick.there Pick.here)) (Hs.cons (Pick.there (Pick.there Pick.here)) (Hs.cons (Pick.there (Pick.there Pick.here)) (Hs.cons (Pick.there (Pick.there Pick.here)) (Hs.cons (Pick.there (Pick.there Pick.here)) (Hs.cons (Pick.there (Pick.there Pick.here)) (Hs.cons (Pick.there (Pick.there Pick.here)) (Hs.cons (Pick.there (Pick.there Pick.here)) (Hs.cons Pick.here (Hs.cons Pick.here (Hs.refl _)))))))))))
      by_cases hy : o = []
      · obtain ⟨rfl, rfl⟩ := h0 (by rw [hol0 hy]; rfl)
        subst hy
        exact (builderString_nil hM2).mono fun v w2 h => ⟨(), trivial, h⟩
      · exact (builderString_fn hM2 hy).mono fun v w2 h => ⟨(), trivial, h⟩
    rintro - -
    refine hwJL ?_
    refine HL.one (H1.callk (α := Unit) (V := fun _ => zv ((k.dur.length : Int) - (t.size : Int))) (I := fun _ => True) (H' := fun _ => jnlH bj bd b1 b2 a c pa pc ⟨t, k, false⟩ (A.blk t6 (tpC a2 c2 (adds t l) []) 177 :: A.grow 9 1 a2 c2 (adds t l).recs.length (strs (adds t l).recs) :: H)) (vs := [_]) rfl rfl (fun w' hM => (room_fn hM hk (by show t.size ≤ _; omega)).mono fun v w2 h => ⟨(), trivial, h⟩) ?_)
    rintro - -
    by_cases h1 : (k.dur.length : Int) - (t.size : Int) < (o.length : Int)
    · rw [append_full hnb (by rw [← ho]; exact h1)]
      have h1' : (k.dur.length : Int) - (t.size : Int) < ((mkBA o).size : Int) := by rw [hms]; exact h1
      refine hwJL ?_
      exact HX.ret1 rfl rfl fun w' hM => ⟨((a, c), (pa, pc)), trivial, rfl, hM.sub (Hs.cons Pick.here (Hs.cons Pick.here (Hs.cons Pick.here (Hs.cons Pick.here (Hs.cons Pick.here (Hs.cons Pick.here (Hs.refl _).skip.skip))))))⟩
    have h1' : ¬ (k.dur.length : Int) - (t.size : Int) < ((mkBA o).size : Int) := by rw [hms]; exact h1
    by_cases hy : o = []
    · rw [append_nil hnb (by rw [← ho]; exact h1) (by rw [← ho]; exact hy)]
      have hy' : mkBA o = ByteArray.mk #[] := by rw [hy]; rfl
      refine hwJL ?_
      exact HX.ret1 rfl rfl fun w' hM => ⟨((a, c), (pa, pc)), trivial, rfl, hM.sub (Hs.cons Pick.here (Hs.cons Pick.here (Hs.cons Pick.here (Hs.cons Pick.here (Hs.cons Pick.here (Hs.cons Pick.here (Hs.refl _).skip.skip))))))⟩
    have hy' : ¬ mkBA o = ByteArray.mk #[] := fun h => hy (by have := congrArg (fun s : ByteArray => s.data.toList) h; exact this)
    have hpos : 0 < o.length := List.length_pos_iff.2 hy
    have hx1 : (mkBA o).extract 1 (mkBA o).size = mkBA (o.drop 1) := by
      rw [extract_mk, hms]
      show mkBA ((o.drop 1).take (o.length - 1)) = _
      rw [List.take_of_length_le (by rw [List.length_drop]; exact Nat.le_refl _)]
    have hx2 : (mkBA o).extract 0 1 = mkBA (o.take 1) := by rw [extract_mk]; rfl
    have hz1 : (mkBA (o.drop 1)).size = o.length - 1 := by show (o.drop 1).toArray.size = _; rw [List.size_toArray, List.length_drop]
    have hz2 : (mkBA (o.take 1)).size ≤ 1 := by show (o.take 1).toArray.size ≤ _; rw [List.size_toArray, List.length_take]; omega
    refine hwJL ?_
    refine HC.sub [(0, .pointer (some ⟨bj, 0, none⟩)), (6, .pointer (some ⟨t6, 0, none⟩)), (10, .string (mkBA o))] (jnlH bj bd b1 b2 a c pa pc ⟨t, k, false⟩ (A.blk t6 (tpC a2 c2 (adds t l) []) 177 :: A.grow 9 1 a2 c2 (adds t l).recs.length (strs (adds t l).recs) :: H)) ?_ esA (Hs.refl _)
    refine HC.anyC ([(⟨bj, 2, none⟩, zv (t.size : Int)), (⟨bj, 3, none⟩, .pointer (some ⟨bd, 0, none⟩))]) rfl ?_
    refine HB.pa 0 rfl ?_
    refine HB.pa 1 rfl ?_
    refine HB.pa 2 rfl ?_ (POp.nilCheck rfl)
    refine HB.pa 3 rfl ?_
    refine HB.pa 4 rfl ?_
    refine HB.ld 5 rfl rfl memD ?_
    refine HB.pa 6 rfl ?_
    refine HB.pa 7 rfl ?_
    refine HB.pa 8 rfl ?_ (POp.sub_l rfl rfl (by decide) (by omega))
    rw [show Int.toNat 1 = 1 from rfl, hx1]
    refine HB.pa 10 rfl ?_
    refine HB.pa 11 rfl ?_ (POp.nilCheck rfl)
    refine HB.pa 12 rfl ?_
    refine HB.ld 13 rfl rfl memD ?_
    refine HB.pa 14 rfl ?_
    refine HB.pa 15 rfl ?_
    refine HB.pa 16 rfl ?_
    refine HB.pa 17 rfl ?_ (POp.nilCheck rfl)
    refine HB.pa 18 rfl ?_
    refine HB.pa 19 rfl ?_
    refine HB.ld 20 rfl rfl memD ?_
    refine HB.pa 21 rfl ?_
    refine HB.pa 22 rfl ?_ (POp.sub_h rfl rfl (by decide) (by omega))
    rw [show Int.toNat 1 = 1 from rfl, hx2]
    refine HB.pa 24 rfl ?_
    refine HB.pa 25 rfl ?_ (POp.nilCheck rfl)
    refine HB.pa 26 rfl ?_
    refine HB.ld 27 rfl rfl memD ?_
    refine HB.pa 28 rfl ?_
    refine HB.all (by repeat (first | exact Keep.nil | refine Keep.blk (by (repeat (first | exact List.Mem.head _ | apply List.Mem.tail)); done) rfl ?_ | refine Keep.grow (by (repeat (first | exact List.Mem.head _ | apply List.Mem.tail)); done) (by assumption) ?_ | refine Keep.base (by assumption) ?_)) [9] (by kernel_rfl) rfl ⟨⟨_, rfl, ?_⟩, trivial⟩
    refine HP.one ?_
    refine H1.callz (vs := [_, zv ((t.size + 1 : Nat) : Int), _]) rfl rfl (fun w' hM => writing_fn bj (t.size + 1) (mkBA (o.drop 1)) w') ?_
    rintro ⟨c1, c2', c3⟩ -
    dsimp only
    apply HB.fold
    refine HB.all (by repeat (first | exact Keep.nil | refine Keep.blk (by (repeat (first | exact List.Mem.head _ | apply List.Mem.tail)); done) rfl ?_ | refine Keep.grow (by (repeat (first | exact List.Mem.head _ | apply List.Mem.tail)); done) (by assumption) ?_ | refine Keep.base (by assumption) ?_)) [23] (by kernel_rfl) rfl ⟨⟨_, rfl, ?_⟩, trivial⟩
    refine HP.one ?_
    refine H1.callz (vs := [_, zv (t.size : Int), _]) rfl rfl (fun w' hM => writing_fn bj t.size (mkBA (o.take 1)) w') ?_
    rintro ⟨c4, c5, c6⟩ -
    dsimp only
    apply HB.fold
    refine HB.all (by repeat (first | exact Keep.nil | refine Keep.blk (by (repeat (first | exact List.Mem.head _ | apply List.Mem.tail)); done) rfl ?_ | refine Keep.grow (by (repeat (first | exact List.Mem.head _ | apply List.Mem.tail)); done) (by assumption) ?_ | refine Keep.base (by assumption) ?_)) [29] (by kernel_rfl) rfl ⟨⟨_, rfl, ?_⟩, trivial⟩
    refine HP.one ?_
    refine H1.lit (cs := [.func (.func 160) #[] #[.pointer (some ⟨c1, 0, none⟩), .pointer (some ⟨c2', 0, none⟩), .pointer (some ⟨c3, 0, none⟩)], .func (.func 108) #[.pointer (some ⟨bd, 0, none⟩)] #[], .func (.func 160) #[] #[.pointer (some ⟨c4, 0, none⟩), .pointer (some ⟨c5, 0, none⟩), .pointer (some ⟨c6, 0, none⟩)], .func (.func 108) #[.pointer (some ⟨bd, 0, none⟩)] #[]]) rfl rfl rfl rfl rfl rfl (fun b9 => ?_)
    apply HB.fold
    refine HB.all (by repeat (first | exact Keep.nil | refine Keep.blk (by (repeat (first | exact List.Mem.head _ | apply List.Mem.tail)); done) rfl ?_ | refine Keep.grow (by (repeat (first | exact List.Mem.head _ | apply List.Mem.tail)); done) (by assumption) ?_ | refine Keep.base (by assumption) ?_)) [30] (by kernel_rfl) rfl ⟨⟨_, rfl, ?_⟩, trivial⟩
    refine HP.one ?_
    refine H1.callk (α := Option Addr × Nat) (V := fun _ => zv (runOps (grp t o) k).1) (I := fun _ => True) (H' := fun q => dkH bd b1 b2 q.1 q.2 (runOps (grp t o) k).2 (A.blk bj (tpC a c t (jnR bd false)) 179 :: A.grow 9 1 a c t.recs.length (strs t.recs) ::
        A.blk b9 [.func (.func 160) #[] #[.pointer (some ⟨c1, 0, none⟩), .pointer (some ⟨c2', 0, none⟩), .pointer (some ⟨c3, 0, none⟩)], .func (.func 108) #[.pointer (some ⟨bd, 0, none⟩)] #[], .func (.func 160) #[] #[.pointer (some ⟨c4, 0, none⟩), .pointer (some ⟨c5, 0, none⟩), .pointer (some ⟨c6, 0, none⟩)], .func (.func 108) #[.pointer (some ⟨bd, 0, none⟩)] #[]] 103 ::
        A.blk c4 [.pointer (some ⟨bj, 0, none⟩)] 82 :: A.blk c5 [zv (t.size : Int)] 3 :: A.blk c6 [.string (mkBA (o.take 1))] 9 :: A.blk c1 [.pointer (some ⟨bj, 0, none⟩)] 82 :: A.blk c2' [zv ((t.size + 1 : Nat) : Int)] 3 :: A.blk c3 [.string (mkBA (o.drop 1))] 9 :: A.blk t6 (tpC a2 c2 (adds t l) []) 177 :: A.grow 9 1 a2 c2 (adds t l).recs.length (strs (adds t l).recs) :: H)) (vs := [_]) rfl rfl (fun w' hM => ?_) ?_
    · refine (first_fn (pa := pa) (pc := pc) (ops := grp t o) (hM.sub ?_) rfl (.tail _ (.tail _ (.head _))) ?_ hk hp (by show 4 ≤ 100; decide)).mono fun v w2 h => h
      · repeat (first | exact Hs.nil _ | (refine Hs.cons pickA ?_))
        exact Hs.refl _
      · intro i fv op e1 e2
        match i, e1, e2 with
        | 0, e1, e2 =>
          cases e1; cases e2
          exact opn_write (jc := tpC a c t (jnR bd false)) (by omega) (by omega) (.head _) rfl (.tail _ (.tail _ (.tail _ (.tail _ (.tail _ (.tail _ (.head _))))))) (.tail _ (.tail _ (.tail _ (.tail _ (.tail _ (.tail _ (.tail _ (.head _)))))))) (.tail _ (.tail _ (.tail _ (.tail _ (.tail _ (.tail _ (.tail _ (.tail _ (.head _)))))))))
        | 1, e1, e2 =>
          cases e1; cases e2
          exact opn_sync _ _ _ _ _
        | 2, e1, e2 =>
          cases e1; cases e2
          exact opn_write (jc := tpC a c t (jnR bd false)) (by omega) (by omega) (.head _) rfl (.tail _ (.tail _ (.tail _ (.head _)))) (.tail _ (.tail _ (.tail _ (.tail _ (.head _))))) (.tail _ (.tail _ (.tail _ (.tail _ (.tail _ (.head _))))))
        | 3, e1, e2 =>
          cases e1; cases e2
          exact opn_sync _ _ _ _ _
    rintro ⟨pa', pc'⟩ -
    dsimp only
    apply HB.fold
    refine HB.pa 31 rfl ?_
    refine HB.done (by repeat (first | exact Keep.nil | refine Keep.blk (by (repeat (first | exact List.Mem.head _ | apply List.Mem.tail)); done) rfl ?_ | refine Keep.grow (by (repeat (first | exact List.Mem.head _ | apply List.Mem.tail)); done) (by assumption) ?_ | refine Keep.base (by assumption) ?_)) (by kernel_rfl) ?_
    by_cases h3 : (runOps (grp t o) k).1 = 0
    · rw [append_ok hnb (by rw [← ho]; exact h1) (by rw [← ho]; exact hy) (by rw [← ho]; exact h3), ← ho]
      refine hwJL ?_
      refine HL.one (H1.ldAgg (b := t6) (vs := tpC a2 c2 (adds t l) []) rfl memA rfl (fun i v h => by rwa [Nat.zero_add]) rfl ?_)
      refine hwJL ?_
      refine HL.one (H1.stAggO (b := bj) (o := 0) (cs := tpC a c t (jnR bd false)) (cs' := tpC a2 c2 (adds t l) (jnR bd false)) rfl rfl rfl (by intro v hv; rcases List.mem_cons.1 hv with rfl | hv; rfl; rcases List.mem_cons.1 hv with rfl | hv; rfl; rcases List.mem_cons.1 hv with rfl | hv; rfl; cases hv) (by show 0 + 3 ≤ 5; decide) rfl rplA ?_)
      refine hwJL ?_
      exact HX.ret1 rfl rfl fun w' hM => ⟨((a2, c2), (pa', pc')), trivial, rfl, hM.sub (Hs.cons (Pick.there (Pick.there (Pick.there (Pick.there Pick.here)))) (Hs.cons (Pick.there (Pick.there (Pick.there (Pick.there (Pick.there (Pick.there (Pick.there (Pick.there (Pick.there (Pick.there (Pick.there (Pick.there (Pick.there Pick.here))))))))))))) (Hs.cons Pick.here (Hs.cons Pick.here (Hs.cons Pick.here (Hs.cons Pick.here ((Hs.refl _).skip.skip.skip.skip.skip.skip.skip.skip.skip)))))))⟩
    · rw [append_no hnb (by rw [← ho]; exact h1) (by rw [← ho]; exact hy) (by rw [← ho]; exact h3), ← ho]
      refine hwJL ?_
      refine HL.one (H1.st rfl rfl (by intro _ h; cases h) (by intro _ h; cases h) rplA (by show 4 < 5; decide) ?_)
      refine hwJL ?_
      exact HX.ret1 rfl rfl fun w' hM => ⟨((a, c), (pa', pc')), trivial, rfl, hM.sub (Hs.cons (Pick.there (Pick.there (Pick.there (Pick.there Pick.here)))) (Hs.cons (Pick.there (Pick.there (Pick.there (Pick.there Pick.here)))) (Hs.cons Pick.here (Hs.cons Pick.here (Hs.cons Pick.here (Hs.cons Pick.here ((Hs.refl _).skip.skip.skip.skip.skip.skip.skip.skip.skip)))))))⟩
end Go.Sx
/- Chapter 26: the law's small functions; the reference's PutString: the walks. -/
namespace Go.Sx
open Go Go.Proofs Go.RowKit
section
variable {P : Program} {N : Nat} {ds : List Deferred} {E : Env} {t t' ty : TypeId} {x y : Operand} {a b : Nat}
theorem POp.rem64 (hx : Env.ev E x = some (.int .u64 (a : Int))) (hy : Env.ev E y = some (.int .u64 (b : Int))) (h2 : 0 < b) : POp P N ds E (.binOp .rem t x y t') ty (.int .u64 ((a % b : Nat) : Int)) := POp.bin hx hy guard_int fun w => by
  have e : (b : Int) ≠ 0 := by omega
  rw [binOp_rem]
  simp only [Op.intDiv, e, if_false]
  rw [Int.tmod_eq_emod_of_nonneg (by omega)]; rfl
theorem POp.quo64 (hx : Env.ev E x = some (.int .u64 (a : Int))) (hy : Env.ev E y = some (.int .u64 (b : Int))) (h1 : a < 18446744073709551616) (h2 : 0 < b) : POp P N ds E (.binOp .quo t x y t') ty (.int .u64 ((a / b : Nat) : Int)) := POp.bin hx hy guard_int fun w => by
  have e : (b : Int) ≠ 0 := by omega
  have hle : a / b ≤ a := Nat.div_le_self a b
  rw [binOp_quo]
  simp only [Op.intDiv, e, if_false]
  rw [Int.tdiv_eq_ediv_of_nonneg (by omega), show (a : Int) / (b : Int) = ((a / b : Nat) : Int) from rfl, wrap_u64 (by omega)]; rfl
theorem POp.add64 (hx : Env.ev E x = some (.int .u64 (a : Int))) (hy : Env.ev E y = some (.int .u64 (b : Int))) (h1 : a + b < 18446744073709551616) : POp P N ds E (.binOp .add t x y t') ty (.int .u64 ((a + b : Nat) : Int)) := (POp.add' hx hy).of (by
  rw [show (a : Int) + (b : Int) = ((a + b : Nat) : Int) by omega, wrap_u64 h1])
theorem POp.mul64 (hx : Env.ev E x = some (.int .u64 (a : Int))) (hy : Env.ev E y = some (.int .u64 (b : Int))) (h1 : a * b < 18446744073709551616) : POp P N ds E (.binOp .mul t x y t') ty (.int .u64 ((a * b : Nat) : Int)) := (POp.mul' hx hy).of (by
  rw [show (a : Int) * (b : Int) = ((a * b : Nat) : Int) by simp, wrap_u64 h1])
end
def pk (c n : Int) : Int := if c < 0 then (-(c + 1)) % n else c % n
theorem pk_lt (c : Int) {n : Int} (hn : 0 < n) : 0 ≤ pk c n ∧ pk c n < n := by
  unfold pk
  split
  · exact ⟨Int.emod_nonneg _ (by omega), Int.emod_lt_of_pos _ hn⟩
  · exact ⟨Int.emod_nonneg _ (by omega), Int.emod_lt_of_pos _ hn⟩
def size26 (n : Int) : Nat := 1 + (pk n 1500).toNat
theorem size26_b (n : Int) : 1 ≤ size26 n ∧ size26 n ≤ 1500 := by
  have := pk_lt n (n := 1500) (by decide)
  unfold size26; omega
/-- A string, cut. -/
def cutS (n : Nat) (s : ByteArray) : ByteArray := s.extract 0 (min s.size n)
theorem cutS_size (n : Nat) (s : ByteArray) : (cutS n s).size ≤ n := by
  unfold cutS; rw [ByteArray.size_extract]; omega
def few26 (l : List ByteArray) : List ByteArray := (l.take 6).map (cutS 100)
theorem few26_len (l : List ByteArray) : (few26 l).length ≤ 6 := by unfold few26; rw [List.length_map, List.length_take]; omega
theorem few26_size (l : List ByteArray) : ∀ r ∈ few26 l, r.size ≤ 100 := by
  intro r hr
  obtain ⟨s, -, rfl⟩ := List.mem_map.1 hr
  exact cutS_size _ _
attribute [local irreducible] WC WL WX POp Then Again Fn NX W1 WA WO QL RP RA Yld LoopAt HC HL HX HN H1 HA HO HQ HB HP A.blk A.grow A.rd A.obj A.mp AgainH CutH
theorem zigzag_fn (n : Nat) (hn : n ≤ 1099511627776) (w : World) : Fn Tryz.prog 164 #[zv (n : Int)] w fun v w' => v = .int .u64 ((2 * n : Nat) : Int) ∧ w = w' := by
  refine enter (l := [_]) rfl Tryz.ntmps164 rfl ?_
  have h0 : ¬ (n : Int) < 0 := by omega
  repeat' (first | apply WL.fold | apply WA.fold | apply WL.nil | apply WX.n_then | apply WC.seq | apply WC.region | refine WL.pa ?_ | refine WL.ga rfl ?_ | refine WL.na rfl ?_ | refine WL.nu rfl rfl ?_ | apply WC.block | apply WC.skip | apply WC.exit | apply WC.ret | apply WX.e_block | refine WX.e_other rfl ?_ | apply WX.e_then | apply WX.e_again | apply WX.n_block | apply WX.r_then | apply WX.r_block | apply WX.r_again | refine WC.cond_yes rfl ?_ | refine WC.cond_no rfl ?_ | refine WC.cond rfl (fun hc => ?_) (fun hc => ?_) | refine WC.cond_b rfl (fun hc => ?_) (fun hc => ?_))
  refine WL.pa ?_ ((POp.conv (k' := .u64) rfl).of (v' := .int .u64 (n : Int)) (by rw [wrap_u64 (by omega)]))
  repeat' (first | apply WL.fold | apply WA.fold | apply WL.nil | apply WX.n_then | apply WC.seq | apply WC.region | refine WL.pa ?_ | refine WL.ga rfl ?_ | refine WL.na rfl ?_ | refine WL.nu rfl rfl ?_ | apply WC.block | apply WC.skip | apply WC.exit | apply WC.ret | apply WX.e_block | refine WX.e_other rfl ?_ | apply WX.e_then | apply WX.e_again | apply WX.n_block | apply WX.r_then | apply WX.r_block | apply WX.r_again | refine WC.cond_yes rfl ?_ | refine WC.cond_no rfl ?_ | refine WC.cond rfl (fun hc => ?_) (fun hc => ?_) | refine WC.cond_b rfl (fun hc => ?_) (fun hc => ?_))
  refine WL.pa ?_ (POp.mul64 (a := n) (b := 2) rfl rfl (by omega))
  rw [Nat.mul_comm]
  repeat' (first | apply WL.fold | apply WA.fold | apply WL.nil | apply WX.n_then | apply WC.seq | apply WC.region | refine WL.pa ?_ | refine WL.ga rfl ?_ | refine WL.na rfl ?_ | refine WL.nu rfl rfl ?_ | apply WC.block | apply WC.skip | apply WC.exit | apply WC.ret | apply WX.e_block | refine WX.e_other rfl ?_ | apply WX.e_then | apply WX.e_again | apply WX.n_block | apply WX.r_then | apply WX.r_block | apply WX.r_again | refine WC.cond_yes rfl ?_ | refine WC.cond_no rfl ?_ | refine WC.cond rfl (fun hc => ?_) (fun hc => ?_) | refine WC.cond_b rfl (fun hc => ?_) (fun hc => ?_))
  exact WX.ret1 rfl rfl ⟨rfl, rfl⟩
theorem refPutInt_fn (n : Nat) (hn : n ≤ 1099511627776) (w : World) : Fn Tryz.prog 124 #[zv (n : Int)] w fun v w' => v = .tuple #[.string (strN n), zv 0] ∧ Ext w w' := by
  refine enterH (l := [_]) rfl Tryz.ntmps124 rfl ?_
  have h1 : ¬ (n : Int) < -4611686018427387903 := by omega
  have h2 : ¬ (4611686018427387903 : Int) < (n : Int) := by omega
  have hvl := vint_len 8 (2 * n) (by omega)
  refine hwJL ?_
  refine HL.one (H1.call0 (vs := [_]) rfl rfl (fun w' hM => zigzag_fn n hn w') ?_)
  refine hwJL ?_
  refine HC.grow0 5 1 ?_
  refine HC.loop (α := Nat × List UInt8 × Option Addr × Nat) (fun z => [(4, .int .u64 (z.1 : Int)), (5, .slice z.2.2.1 z.2.1.length z.2.2.2)]) (fun z => [A.grow 5 1 z.2.2.1 z.2.2.2 z.2.1.length (ub z.2.1)]) (fun z => z.1 ≤ 2 * n ∧ z.2.1 ++ vint z.1 = vint (2 * n)) (fun z => z.1) (2 * n, [], none, 0) ⟨Nat.le_refl _, rfl⟩ esA (Hs.refl _) ?_
  rintro ⟨z, ys, a, c⟩ ⟨hz, hv⟩
  dsimp only at hz hv ⊢
  have hlen : ys.length ≤ 9 := by
    have h3 := congrArg List.length hv
    rw [List.length_append] at h3
    omega
  by_cases hlt : z < 128
  · have hge : ¬ (128 : Int) ≤ (z : Int) := by omega
    have hvz := vint_lt hlt
    have hub := ub_snoc ys (g := z) (by omega)
    refine hwJL ?_
    refine HL.one (H1.lit (cs := [.int .u8 (z : Int)]) rfl rfl rfl rfl rfl rfl (fun b9 => ?_))
    refine hwJL ?_
    refine HL.one (H1.app1 (u := .int .u8 (z : Int)) rfl rfl (fun _ _ => by first | ((repeat (first | with_reducible exact Rpl.here | with_reducible apply Rpl.there)); done) | (repeat (first | exact Rpl.here | apply Rpl.there))) memA rfl rfl (by omega) rfl rfl (fun a' c' => ?_))
    rw [hub, show ys.length + 1 = (ys ++ [UInt8.ofNat z]).length from by rw [List.length_append]; rfl]
    refine hwJL ?_
    refine HL.one (H1.bstrg (ys := ys ++ [UInt8.ofNat z]) (c := c') (b := a') rfl memA rfl ?_)
    refine hwJL ?_
    refine HX.ret2 rfl rfl rfl fun w' hM => ⟨?_, hM.ext⟩
    rw [← hvz, hv]; rfl
  · have hge : (128 : Int) ≤ (z : Int) := by omega
    have hvz := vint_ge hlt
    have hub := ub_snoc ys (g := z % 128 + 128) (by omega)
    refine hwJL ?_
    refine HL.pa ?_ (POp.rem64 (a := z) (b := 128) rfl rfl (by decide))
    refine hwJL ?_
    refine HL.pa ?_ (POp.add64 (a := z % 128) (b := 128) rfl rfl (by omega))
    refine hwJL ?_
    refine HL.one (H1.lit (cs := [.int .u8 ((z % 128 + 128 : Nat) : Int)]) rfl rfl rfl rfl rfl rfl (fun b9 => ?_))
    refine hwJL ?_
    refine HL.one (H1.app1 (u := .int .u8 ((z % 128 + 128 : Nat) : Int)) rfl rfl (fun _ _ => by first | ((repeat (first | with_reducible exact Rpl.here | with_reducible apply Rpl.there)); done) | (repeat (first | exact Rpl.here | apply Rpl.there))) memA rfl rfl (by omega) rfl rfl (fun a' c' => ?_))
    rw [hub, show ys.length + 1 = (ys ++ [UInt8.ofNat (z % 128 + 128)]).length from by rw [List.length_append]; rfl]
    refine hwJL ?_
    refine HL.pa ?_ (POp.quo64 (a := z) (b := 128) rfl rfl (by omega) (by decide))
    refine hwJL ?_
    exact HX.again (z / 128, ys ++ [UInt8.ofNat (z % 128 + 128)], some ⟨a', 0, none⟩, c') ⟨by show z / 128 ≤ _; omega, by show (ys ++ _) ++ vint (z / 128) = _; rw [← hv, hvz, List.append_assoc]; rfl⟩ (by show z / 128 < z; omega) esA (Hs.cons (Pick.there Pick.here) (Hs.nil _))
theorem refPutString_fn (s : ByteArray) (hs : s.size ≤ 65536) (w : World) : Fn Tryz.prog 93 #[.string s] w fun v w' => v = .tuple #[.string (strN s.size ++ s), zv 0] ∧ Ext w w' := by
  have hz := strN_size (n := s.size) (by omega)
  refine enterH (l := [_]) rfl Tryz.ntmps93 rfl ?_
  refine hwJL ?_
  refine HL.one (H1.callx (vs := [zv (s.size : Int)]) rfl rfl (fun w' _ => refPutInt_fn s.size (by omega) w') ?_)
  refine hwJL ?_
  exact HX.ret2 rfl rfl rfl fun w' hM => ⟨rfl, hM.ext⟩
end Go.Sx

