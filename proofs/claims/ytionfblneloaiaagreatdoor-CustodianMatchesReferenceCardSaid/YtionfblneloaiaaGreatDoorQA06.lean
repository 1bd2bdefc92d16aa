/- Chapter 26: Append: the walk. -/
import Derived.Test.YtionfblneloaiaaGreatDoorQA05
import Derived.Laws.OwnMore
import Derived.Shelf.SlGeneric
import Derived.Shelf.SlMaps.Clone
import Derived.Shelf.SlSortCmp.NoneTotal
import Derived.Ground.SlmcProg
import Derived.Ground.SlsfProg
import Derived.Test.YtionfblneloaiaaGreatDoorProg
namespace Go.Sx
open Go Go.Proofs Go.RowKit
theorem hwJL {G G2 : Prop} (x : G2) (hwq : Hold G2 → G := by
    intro hQq
    repeat' (first | refine HL.pa ?_ (POp.pnil1 rfl rfl) | refine HL.pa ?_ (POp.pnil0 rfl rfl) | refine HL.pa ?_ (POp.nilCheck rfl) | apply HL.fold | apply HA.fold | apply HL.nil | apply HX.n_then | apply HC.seq | apply HC.region | refine HL.pa ?_ | refine HL.ga rfl ?_ | refine HL.na rfl ?_ | refine HL.nu rfl rfl ?_ | apply HC.block | apply HC.skip | apply HC.exit | apply HC.ret | apply HX.e_block | refine HX.e_other rfl ?_ | apply HX.e_then | apply HX.e_again | apply HX.n_block | apply HX.r_then | apply HX.r_block | apply HX.r_again | refine HC.cond_yes rfl ?_ | refine HC.cond_no rfl ?_ | refine HL.one (H1.ldb rfl memA rfl rfl ?_) | refine HC.cond rfl (fun hc => ?_) (fun hc => ?_) | refine HC.cond_b rfl (fun hc => ?_) (fun hc => ?_))
    exact hQq.get) : G := hwq ⟨x⟩
theorem append_br {j : Jn} {l : List ByteArray} (h : j.br = true ∨ l.any isLong = true) : j.append l = (260, j) := by unfold Jn.append; rw [if_pos h]
theorem append_full {j : Jn} {l : List ByteArray} (h : ¬ (j.br = true ∨ l.any isLong = true)) (h1 : (j.k.dur.length : Int) - (j.t.size : Int) < ((outsL j.t.head l).length : Int)) : j.append l = (261, j) := by
  unfold Jn.append; rw [if_neg h, if_pos h1]
theorem append_nil {j : Jn} {l : List ByteArray} (h : ¬ (j.br = true ∨ l.any isLong = true)) (h1 : ¬ (j.k.dur.length : Int) - (j.t.size : Int) < ((outsL j.t.head l).length : Int)) (h2 : outsL j.t.head l = []) : j.append l = (0, j) := by
  unfold Jn.append; rw [if_neg h, if_neg h1, if_pos h2]
theorem append_ok {j : Jn} {l : List ByteArray} (h : ¬ (j.br = true ∨ l.any isLong = true)) (h1 : ¬ (j.k.dur.length : Int) - (j.t.size : Int) < ((outsL j.t.head l).length : Int)) (h2 : ¬ outsL j.t.head l = []) (h3 : (runOps (grp j.t (outsL j.t.head l)) j.k).1 = 0) :
    j.append l = (0, ⟨adds j.t l, (runOps (grp j.t (outsL j.t.head l)) j.k).2, j.br⟩) := by
  unfold Jn.append; rw [if_neg h, if_neg h1, if_neg h2]; exact if_pos h3
theorem append_no {j : Jn} {l : List ByteArray} (h : ¬ (j.br = true ∨ l.any isLong = true)) (h1 : ¬ (j.k.dur.length : Int) - (j.t.size : Int) < ((outsL j.t.head l).length : Int)) (h2 : ¬ outsL j.t.head l = []) (h3 : ¬ (runOps (grp j.t (outsL j.t.head l)) j.k).1 = 0) :
    j.append l = ((runOps (grp j.t (outsL j.t.head l)) j.k).1, ⟨j.t, (runOps (grp j.t (outsL j.t.head l)) j.k).2, true⟩) := by
  unfold Jn.append; rw [if_neg h, if_neg h1, if_neg h2]; exact if_neg h3
theorem take_fr {l : List ByteArray} {i : Nat} (h : i < l.length) : l.take (i + 1) = l.take i ++ [fr l i] := by
  rw [List.take_add_one, List.getElem?_eq_getElem h]
  simp [fr, h]
theorem adds_snoc (t : Tp) (l : List ByteArray) (r : ByteArray) : adds t (l ++ [r]) = (adds t l).add r := by rw [adds_app]; rfl
theorem outsL_snoc (t : Tp) (l : List ByteArray) (r : ByteArray) : outsL t.head (l ++ [r]) = outsL t.head l ++ outL (adds t l).head r := by
  rw [outsL_app]
  show _ ++ (outL _ r ++ []) = _
  rw [List.append_nil]
theorem outsL_take (t : Tp) (l : List ByteArray) (i : Nat) : (outsL t.head (l.take i)).length ≤ (outsL t.head l).length := by
  have := outsL_app (l.take i) (l.drop i) t
  rw [List.take_append_drop] at this
  rw [this, List.length_append]; omega
theorem adds_head : ∀ (l : List ByteArray) (t : Tp), t.head.size ≤ 32 → (adds t l).head.size ≤ 32
  | [], _, h => h
  | r :: l, t, _ => adds_head l (t.add r) (by show (chainS t.head r).size ≤ 32; rw [chainS_size]; exact Nat.le_refl _)
theorem any_long {l : List ByteArray} (h : l.any isLong = false) {i : Nat} (hi : i < l.length) : (fr l i).size ≤ 65536 := by
  have := List.any_eq_false.1 h (fr l i) (by unfold fr; simp [hi])
  unfold isLong at this
  simpa using this
attribute [local irreducible] WC WL WX POp Then Again Fn NX W1 WA WO QL RP RA Yld LoopAt HC HL HX HN H1 HA HO HQ HB HP A.blk A.grow A.rd A.obj A.mp AgainH CutH
abbrev appH (t6 t7 : Nat) (a : Option Addr) (c : Nat) (p ba : Option Addr) (bc : Nat) (t : Tp) (ys : List UInt8) (H : List Atom) : List Atom :=
  A.blk t6 (tpC a c t []) 177 :: A.grow 9 1 a c t.recs.length (strs t.recs) :: bldH t7 p ba bc ys H
theorem rd_some {w : World} {a : Option Addr} {n c : Nat} {l : List ByteArray} (h : Rd w (.slice a n c) (strs l)) (hne : l ≠ []) : ∃ b off, a = some ⟨b, off, none⟩ := by
  obtain ⟨b, off, cc, e, -⟩ := h.at (by intro e; exact hne (by simpa [strs] using e))
  cases e
  exact ⟨b, off, rfl⟩
set_option maxHeartbeats 4000000 in
theorem append_fn {w0 w : World} {H : List Atom} {bj bd b1 b2 c pc : Nat} {a pa : Option Addr} {j : Jn} {v : Value} {l : List ByteArray} (hG : RoundG w0) (hM : Mm w0 (jnlH bj bd b1 b2 a c pa pc j H) w)
    (hR : ∀ (H1 : List Atom) (w' : World), (∀ x, x ∈ H → x ∈ H1) → Mm w0 H1 w' → Rd w' v (strs l))
    (hk : j.k.Ok) (hp : j.k.pend.length + 4 ≤ 10000) (ht : j.t.size ≤ j.k.dur.length) (hn : j.t.recs.length ≤ 100000) (hh : j.t.head.size ≤ 32) (hl : l.length ≤ 100000) (hb : l.any isLong = false → (outsL j.t.head l).length ≤ 900000) :
    Fn Tryz.prog 89 #[.pointer (some ⟨bj, 0, none⟩), v] w fun v w' => ∃ q : (Option Addr × Nat) × (Option Addr × Nat), True ∧ v = zv (j.append l).1 ∧ Mm w0 (jnlH bj bd b1 b2 q.1.1 q.1.2 q.2.1 q.2.2 (j.append l).2 H) w' := by
  have hhi := hk.hi
  have m1 : ∀ {x : Atom} {a' : Option Addr} {c' : Nat} {pa' : Option Addr} {pc' : Nat} {j' : Jn}, x ∈ H → x ∈ jnlH bj bd b1 b2 a' c' pa' pc' j' H := fun h => .tail _ (.tail _ (.tail _ (.tail _ (.tail _ (.tail _ h)))))
  obtain ⟨a0, c0, rfl, hc0⟩ := rd_strs_shape (hR _ w (fun _ => m1) hM)
  obtain ⟨t, k, br⟩ := j
  dsimp only at hk hp ht hn hh hb hhi
  refine enterK (l := [_, _]) hM rfl Tryz.ntmps89 rfl ?_
  cases br
  rotate_left
  · rw [append_br (.inl rfl)]
    refine hwJL ?_
    exact HX.ret1 rfl rfl fun w' hM => ⟨((a, c), (pa, pc)), trivial, rfl, hM⟩
  refine hwJL ?_
  refine HL.one (H1.callx (u := .bool (l.any isLong)) (vs := [_, _]) rfl rfl (fun w' hM => containsLong_fn _ l (by omega) w' (hR _ w' (fun _ => m1) hM)) ?_)
  cases hlong : l.any isLong
  rotate_left
  · rw [append_br (.inr hlong)]
    refine hwJL ?_
    exact HX.ret1 rfl rfl fun w' hM => ⟨((a, c), (pa, pc)), trivial, rfl, hM⟩
  have hol := hb hlong
  have hnb : ¬ ((⟨t, k, false⟩ : Jn).br = true ∨ l.any isLong = true) := by rw [hlong]; rintro (h | h) <;> cases h
  refine hwJL ?_
  refine HL.one (H1.ldAgg (b := bj) (vs := tpC a c t []) rfl memA rfl (fun i v h => by
    rw [Nat.zero_add]
    match i, h with
    | 0, h => exact h
    | 1, h => exact h
    | 2, h => exact h
    | n + 3, h => cases h) rfl ?_)
  refine hwJL ?_
  refine HL.one (H1.alloc (cs := [.slice none 0 0, .string (ByteArray.mk #[]), zv 0]) (by kernel_rfl) rfl (fun t6 => ?_))
  refine hwJL ?_
  refine HL.one (H1.stAgg (cs := [.slice none 0 0, .string (ByteArray.mk #[]), zv 0]) rfl rfl rfl (by intro v hv; rcases List.mem_cons.1 hv with rfl | hv; rfl; rcases List.mem_cons.1 hv with rfl | hv; rfl; rcases List.mem_cons.1 hv with rfl | hv; rfl; cases hv) rplA rfl ?_)
  refine hwJL ?_
  refine HL.one (H1.callz (vs := [_]) rfl rfl (fun w' hM => cloneS_fn _ t.recs (by omega) w' (Mm.gr (e := 9) hM memA)) ?_)
  rintro ⟨a1, c1⟩ -
  dsimp only
  refine hwJL ?_
  refine HL.one (H1.st (b := t6) rfl rfl (by intro _ h; cases h) (by intro _ h; cases h) rplA (by show 0 < 3; decide) ?_)
  refine hwJL ?_
  refine HL.one (H1.alloc (cs := [.pointer none, .slice none 0 0]) (by kernel_rfl) rfl (fun t7 => ?_))
  refine hwJL ?_
  refine HC.grow0 5 1 ?_
  refine HC.loop (α := Nat × (Option Addr × Nat) × Option Addr × Option Addr × Nat) (fun z => [(0, .pointer (some ⟨bj, 0, none⟩)), (6, .pointer (some ⟨t6, 0, none⟩)), (7, .pointer (some ⟨t7, 0, none⟩)), (31, .slice a0 l.length c0), (32, zv (l.length : Int)), (33, zv (z.1 : Int))])
    (fun z => appH t6 t7 z.2.1.1 z.2.1.2 z.2.2.1 z.2.2.2.1 z.2.2.2.2 (adds t (l.take z.1)) (outsL t.head (l.take z.1)) (jnlH bj bd b1 b2 a c pa pc ⟨t, k, false⟩ H))
    (fun z => z.1 ≤ l.length ∧ (z.2.2.1 = none ∨ z.2.2.1 = some ⟨t7, 0, none⟩) ∧ (z.1 = 0 → z.2.2.2.1 = none ∧ z.2.2.2.2 = 0)) (fun z => l.length - z.1) (0, (a1, c1), none, none, 0) ⟨Nat.zero_le _, .inl rfl, fun _ => ⟨rfl, rfl⟩⟩ esA
    (by
      show Hs _ (appH t6 t7 a1 c1 none none 0 t [] (jnlH bj bd b1 b2 a c pa pc ⟨t, k, false⟩ H))
      exact Hs.cons (Pick.there (Pick.there (Pick.there Pick.here))) (Hs.cons (Pick.there (Pick.there Pick.here)) (Hs.cons (Pick.there Pick.here) (Hs.cons Pick.here (Hs.refl _))))) ?_
  rintro ⟨i, ⟨a2, c2⟩, p, ba, bc⟩ ⟨hi, hpp, h0⟩
  dsimp only at hi hpp h0 ⊢
  by_cases hlt : i < l.length
  · obtain ⟨b, off, rfl⟩ := rd_some (hR _ w (fun _ => m1) hM) (by rintro rfl; simp at hlt)
    have hget := strs_get hlt
    have htk := take_fr hlt
    have hsz := any_long hlong hlt
    generalize fr l i = s at hget htk hsz
    have hos := outsL_snoc t (l.take i) s
    have had := adds_snoc t (l.take i) s
    rw [← htk] at hos had
    have hole := outsL_take t l (i + 1)
    have hosz := outB_size (adds t (l.take i)).head s
    have hol3 : (outsL t.head (l.take (i + 1))).length = (outsL t.head (l.take i)).length + (outL (adds t (l.take i)).head s).length := by rw [hos, List.length_append]
    have hrl := congrArg List.length (adds_recs (l.take i) t)
    rw [List.length_append, List.length_take, Nat.min_eq_left hi] at hrl
    have hsi := adds_size (l.take i) t
    have hhd := adds_head (l.take i) t hh
    have htl := outsL_take t l i
    have hob : (outB (adds t (l.take i)).head s).data.toList = outL (adds t (l.take i)).head s := rfl
    refine hwJL ?_
    refine HL.one (H1.ldw (v := .string s) rfl (fun w' hM => (hR _ w' (fun x h => .tail _ (.tail _ (.tail _ (.tail _ (m1 h))))) hM).cell hget) rfl ?_)
    refine hwJL ?_
    refine HL.one (H1.callk (α := Option Addr × Nat) (V := fun _ => .string (outB (adds t (l.take i)).head s)) (I := fun _ => True)
      (H' := fun q => A.blk t6 (tpC q.1 q.2 ((adds t (l.take i)).add s) []) 177 :: A.grow 9 1 q.1 q.2 ((adds t (l.take i)).recs ++ [s]).length (strs ((adds t (l.take i)).recs ++ [s])) :: bldH t7 p ba bc (outsL t.head (l.take i)) (jnlH bj bd b1 b2 a c pa pc ⟨t, k, false⟩ H)) (vs := [_, .string s]) rfl rfl
      (fun w' hM => tadd_fn s hG hM (by omega) hhd (by omega) (by omega)) ?_)
    rintro ⟨a3, c3⟩ -
    dsimp only
    refine hwJL ?_
    refine HL.one (H1.callk (α := Option Addr × Nat) (V := fun _ => .tuple #[zv ((outB (adds t (l.take i)).head s).size : Int), .nilIface]) (I := fun _ => True)
      (H' := fun q => bldH t7 (some ⟨t7, 0, none⟩) q.1 q.2 (outsL t.head (l.take i) ++ (outB (adds t (l.take i)).head s).data.toList) (A.blk t6 (tpC a3 c3 ((adds t (l.take i)).add s) []) 177 :: A.grow 9 1 a3 c3 ((adds t (l.take i)).recs ++ [s]).length (strs ((adds t (l.take i)).recs ++ [s])) :: jnlH bj bd b1 b2 a c pa pc ⟨t, k, false⟩ H)) (vs := [.pointer (some ⟨t7, 0, none⟩), .string (outB (adds t (l.take i)).head s)]) rfl rfl
      (fun w' hM => writeString_fn (outB (adds t (l.take i)).head s) (hM.sub (Hs.cons (Pick.there (Pick.there Pick.here)) (Hs.cons (Pick.there (Pick.there Pick.here)) (Hs.refl _)))) hpp (by rw [hosz]; omega)) ?_)
    rintro ⟨b3, bc3⟩ -
    dsimp only
    rw [hob, ← hos]
    refine hwJL ?_
    refine HX.again (i + 1, (a3, c3), some ⟨t7, 0, none⟩, b3, bc3) ⟨hlt, .inr rfl, fun h => by cases h⟩ (by show l.length - (i + 1) < l.length - i; omega) esA ?_
    dsimp only
    rw [had]
    exact Hs.cons (Pick.there (Pick.there Pick.here)) (Hs.cons (Pick.there (Pick.there Pick.here)) (Hs.cons Pick.here (Hs.cons Pick.here (Hs.refl _))))
  · obtain rfl : i = l.length := by omega
    rw [List.take_length]
    obtain ⟨o, ho⟩ : ∃ o, o = outsL t.head l := ⟨_, rfl⟩
    have hadn := adds_size l t
    rw [← ho] at hol hadn ⊢
    have hms : (mkBA o).size = o.length := by show o.toArray.size = _; rw [List.size_toArray]
    have hol0 : o = [] → l = [] := by
      intro h
      cases hl0 : l with
      | nil => rfl
      | cons r l' =>
        rw [hl0] at ho
        have h1 : o.length = (outL t.head r ++ outsL (chainS t.head r) l').length := by rw [ho]; rfl
        rw [h, List.length_append] at h1
        have := outL_pos t.head r
        simp at h1; omega
    refine hwJL ?_
    refine HL.one (H1.callk (α := Unit) (V := fun _ => .string (mkBA o)) (I := fun _ => True) (H' := fun _ => jnlH bj bd b1 b2 a c pa pc ⟨t, k, false⟩ (A.blk t6 (tpC a2 c2 (adds t l) []) 177 :: A.grow 9 1 a2 c2 (adds t l).recs.length (strs (adds t l).recs) :: H)) (vs := [_]) rfl rfl (fun w' hM => ?_) ?_)
    · have hM2 : Mm w0 (bldH t7 p ba bc o (jnlH bj bd b1 b2 a c pa pc ⟨t, k, false⟩ (A.blk t6 (tpC a2 c2 (adds t l) []) 177 :: A.grow 9 1 a2 c2 (adds t l).recs.length (strs (adds t l).recs) :: H))) w' :=
        hM.sub (Hs.cons (Pick.there (Pick.there Pick.here)) (Hs.cons (Pick.there (Pick.there Pick.here)) (Hs.cons (Pick.there (Pick.there Pick.here)) (Hs.cons (Pick.there (Pick.there Pick.here)) (Hs.cons (Pick.there (Pick.there Pick.here)) (Hs.cons (Pick.there (Pick.there Pick.here)) (Hs.cons (Pick.there (Pick.there Pick.here)) (Hs.cons (Pick.there (Pick.there Pick.here)) (Hs.cons Pick.here (Hs.cons Pick.here (Hs.refl _)))))))))))
      by_cases hy : o = []
      · obtain ⟨rfl, rfl⟩ := h0 (by rw [hol0 hy]; rfl)
        subst hy
        exact (builderString_nil hM2).mono fun v w2 h => ⟨(), trivial, h⟩
      · exact (builderString_fn hM2 hy).mono fun v w2 h => ⟨(), trivial, h⟩
    rintro - -
    refine hwJL ?_
    refine HL.one (H1.callk (α := Unit) (V := fun _ => zv ((k.dur.length : Int) - (t.size : Int))) (I := fun _ => True) (H' := fun _ => jnlH bj bd b1 b2 a c pa pc ⟨t, k, false⟩ (A.blk t6 (tpC a2 c2 (adds t l) []) 177 :: A.grow 9 1 a2 c2 (adds t l).recs.length (strs (adds t l).recs) :: H)) (vs := [_]) rfl rfl (fun w' hM => (room_fn hM hk (by show t.size ≤ _; omega)).mono fun v w2 h => ⟨(), trivial, h⟩) ?_)
    rintro - -
    by_cases h1 : (k.dur.length : Int) - (t.size : Int) < (o.length : Int)
    · rw [append_full hnb (by rw [← ho]; exact h1)]
      have h1' : (k.dur.length : Int) - (t.size : Int) < ((mkBA o).size : Int) := by rw [hms]; exact h1
      refine hwJL ?_
      exact HX.ret1 rfl rfl fun w' hM => ⟨((a, c), (pa, pc)), trivial, rfl, hM.sub (Hs.cons Pick.here (Hs.cons Pick.here (Hs.cons Pick.here (Hs.cons Pick.here (Hs.cons Pick.here (Hs.cons Pick.here (Hs.refl _).skip.skip))))))⟩
    have h1' : ¬ (k.dur.length : Int) - (t.size : Int) < ((mkBA o).size : Int) := by rw [hms]; exact h1
    by_cases hy : o = []
    · rw [append_nil hnb (by rw [← ho]; exact h1) (by rw [← ho]; exact hy)]
      have hy' : mkBA o = ByteArray.mk #[] := by rw [hy]; rfl
      refine hwJL ?_
      exact HX.ret1 rfl rfl fun w' hM => ⟨((a, c), (pa, pc)), trivial, rfl, hM.sub (Hs.cons Pick.here (Hs.cons Pick.here (Hs.cons Pick.here (Hs.cons Pick.here (Hs.cons Pick.here (Hs.cons Pick.here (Hs.refl _).skip.skip))))))⟩
    have hy' : ¬ mkBA o = ByteArray.mk #[] := fun h => hy (by have := congrArg (fun s : ByteArray => s.data.toList) h; exact this)
    have hpos : 0 < o.length := List.length_pos_iff.2 hy
    have hx1 : (mkBA o).extract 1 (mkBA o).size = mkBA (o.drop 1) := by
      rw [extract_mk, hms]
      show mkBA ((o.drop 1).take (o.length - 1)) = _
      rw [List.take_of_length_le (by rw [List.length_drop]; exact Nat.le_refl _)]
    have hx2 : (mkBA o).extract 0 1 = mkBA (o.take 1) := by rw [extract_mk]; rfl
    have hz1 : (mkBA (o.drop 1)).size = o.length - 1 := by show (o.drop 1).toArray.size = _; rw [List.size_toArray, List.length_drop]
    have hz2 : (mkBA (o.take 1)).size ≤ 1 := by show (o.take 1).toArray.size ≤ _; rw [List.size_toArray, List.length_take]; omega
    refine hwJL ?_
    refine HC.sub [(0, .pointer (some ⟨bj, 0, none⟩)), (6, .pointer (some ⟨t6, 0, none⟩)), (10, .string (mkBA o))] (jnlH bj bd b1 b2 a c pa pc ⟨t, k, false⟩ (A.blk t6 (tpC a2 c2 (adds t l) []) 177 :: A.grow 9 1 a2 c2 (adds t l).recs.length (strs (adds t l).recs) :: H)) ?_ esA (Hs.refl _)
    refine HC.anyC ([(⟨bj, 2, none⟩, zv (t.size : Int)), (⟨bj, 3, none⟩, .pointer (some ⟨bd, 0, none⟩))]) rfl ?_
    refine HB.pa 0 rfl ?_
    refine HB.pa 1 rfl ?_
    refine HB.pa 2 rfl ?_ (POp.nilCheck rfl)
    refine HB.pa 3 rfl ?_
    refine HB.pa 4 rfl ?_
    refine HB.ld 5 rfl rfl memD ?_
    refine HB.pa 6 rfl ?_
    refine HB.pa 7 rfl ?_
    refine HB.pa 8 rfl ?_ (POp.sub_l rfl rfl (by decide) (by omega))
    rw [show Int.toNat 1 = 1 from rfl, hx1]
    refine HB.pa 10 rfl ?_
    refine HB.pa 11 rfl ?_ (POp.nilCheck rfl)
    refine HB.pa 12 rfl ?_
    refine HB.ld 13 rfl rfl memD ?_
    refine HB.pa 14 rfl ?_
    refine HB.pa 15 rfl ?_
    refine HB.pa 16 rfl ?_
    refine HB.pa 17 rfl ?_ (POp.nilCheck rfl)
    refine HB.pa 18 rfl ?_
    refine HB.pa 19 rfl ?_
    refine HB.ld 20 rfl rfl memD ?_
    refine HB.pa 21 rfl ?_
    refine HB.pa 22 rfl ?_ (POp.sub_h rfl rfl (by decide) (by omega))
    rw [show Int.toNat 1 = 1 from rfl, hx2]
    refine HB.pa 24 rfl ?_
    refine HB.pa 25 rfl ?_ (POp.nilCheck rfl)
    refine HB.pa 26 rfl ?_
    refine HB.ld 27 rfl rfl memD ?_
    refine HB.pa 28 rfl ?_
    refine HB.all (by repeat (first | exact Keep.nil | refine Keep.blk (by (repeat (first | exact List.Mem.head _ | apply List.Mem.tail)); done) rfl ?_ | refine Keep.grow (by (repeat (first | exact List.Mem.head _ | apply List.Mem.tail)); done) (by assumption) ?_ | refine Keep.base (by assumption) ?_)) [9] (by kernel_rfl) rfl ⟨⟨_, rfl, ?_⟩, trivial⟩
    refine HP.one ?_
    refine H1.callz (vs := [_, zv ((t.size + 1 : Nat) : Int), _]) rfl rfl (fun w' hM => writing_fn bj (t.size + 1) (mkBA (o.drop 1)) w') ?_
    rintro ⟨c1, c2', c3⟩ -
    dsimp only
    apply HB.fold
    refine HB.all (by repeat (first | exact Keep.nil | refine Keep.blk (by (repeat (first | exact List.Mem.head _ | apply List.Mem.tail)); done) rfl ?_ | refine Keep.grow (by (repeat (first | exact List.Mem.head _ | apply List.Mem.tail)); done) (by assumption) ?_ | refine Keep.base (by assumption) ?_)) [23] (by kernel_rfl) rfl ⟨⟨_, rfl, ?_⟩, trivial⟩
    refine HP.one ?_
    refine H1.callz (vs := [_, zv (t.size : Int), _]) rfl rfl (fun w' hM => writing_fn bj t.size (mkBA (o.take 1)) w') ?_
    rintro ⟨c4, c5, c6⟩ -
    dsimp only
    apply HB.fold
    refine HB.all (by repeat (first | exact Keep.nil | refine Keep.blk (by (repeat (first | exact List.Mem.head _ | apply List.Mem.tail)); done) rfl ?_ | refine Keep.grow (by (repeat (first | exact List.Mem.head _ | apply List.Mem.tail)); done) (by assumption) ?_ | refine Keep.base (by assumption) ?_)) [29] (by kernel_rfl) rfl ⟨⟨_, rfl, ?_⟩, trivial⟩
    refine HP.one ?_
    refine H1.lit (cs := [.func (.func 160) #[] #[.pointer (some ⟨c1, 0, none⟩), .pointer (some ⟨c2', 0, none⟩), .pointer (some ⟨c3, 0, none⟩)], .func (.func 108) #[.pointer (some ⟨bd, 0, none⟩)] #[], .func (.func 160) #[] #[.pointer (some ⟨c4, 0, none⟩), .pointer (some ⟨c5, 0, none⟩), .pointer (some ⟨c6, 0, none⟩)], .func (.func 108) #[.pointer (some ⟨bd, 0, none⟩)] #[]]) rfl rfl rfl rfl rfl rfl (fun b9 => ?_)
    apply HB.fold
    refine HB.all (by repeat (first | exact Keep.nil | refine Keep.blk (by (repeat (first | exact List.Mem.head _ | apply List.Mem.tail)); done) rfl ?_ | refine Keep.grow (by (repeat (first | exact List.Mem.head _ | apply List.Mem.tail)); done) (by assumption) ?_ | refine Keep.base (by assumption) ?_)) [30] (by kernel_rfl) rfl ⟨⟨_, rfl, ?_⟩, trivial⟩
    refine HP.one ?_
    refine H1.callk (α := Option Addr × Nat) (V := fun _ => zv (runOps (grp t o) k).1) (I := fun _ => True) (H' := fun q => dkH bd b1 b2 q.1 q.2 (runOps (grp t o) k).2 (A.blk bj (tpC a c t (jnR bd false)) 179 :: A.grow 9 1 a c t.recs.length (strs t.recs) ::
        A.blk b9 [.func (.func 160) #[] #[.pointer (some ⟨c1, 0, none⟩), .pointer (some ⟨c2', 0, none⟩), .pointer (some ⟨c3, 0, none⟩)], .func (.func 108) #[.pointer (some ⟨bd, 0, none⟩)] #[], .func (.func 160) #[] #[.pointer (some ⟨c4, 0, none⟩), .pointer (some ⟨c5, 0, none⟩), .pointer (some ⟨c6, 0, none⟩)], .func (.func 108) #[.pointer (some ⟨bd, 0, none⟩)] #[]] 103 ::
        A.blk c4 [.pointer (some ⟨bj, 0, none⟩)] 82 :: A.blk c5 [zv (t.size : Int)] 3 :: A.blk c6 [.string (mkBA (o.take 1))] 9 :: A.blk c1 [.pointer (some ⟨bj, 0, none⟩)] 82 :: A.blk c2' [zv ((t.size + 1 : Nat) : Int)] 3 :: A.blk c3 [.string (mkBA (o.drop 1))] 9 :: A.blk t6 (tpC a2 c2 (adds t l) []) 177 :: A.grow 9 1 a2 c2 (adds t l).recs.length (strs (adds t l).recs) :: H)) (vs := [_]) rfl rfl (fun w' hM => ?_) ?_
    · refine (first_fn (pa := pa) (pc := pc) (ops := grp t o) (hM.sub ?_) rfl (.tail _ (.tail _ (.head _))) ?_ hk hp (by show 4 ≤ 100; decide)).mono fun v w2 h => h
      · repeat (first | exact Hs.nil _ | (refine Hs.cons pickA ?_))
        exact Hs.refl _
      · intro i fv op e1 e2
        match i, e1, e2 with
        | 0, e1, e2 =>
          cases e1; cases e2
          exact opn_write (jc := tpC a c t (jnR bd false)) (by omega) (by omega) (.head _) rfl (.tail _ (.tail _ (.tail _ (.tail _ (.tail _ (.tail _ (.head _))))))) (.tail _ (.tail _ (.tail _ (.tail _ (.tail _ (.tail _ (.tail _ (.head _)))))))) (.tail _ (.tail _ (.tail _ (.tail _ (.tail _ (.tail _ (.tail _ (.tail _ (.head _)))))))))
        | 1, e1, e2 =>
          cases e1; cases e2
          exact opn_sync _ _ _ _ _
        | 2, e1, e2 =>
          cases e1; cases e2
          exact opn_write (jc := tpC a c t (jnR bd false)) (by omega) (by omega) (.head _) rfl (.tail _ (.tail _ (.tail _ (.head _)))) (.tail _ (.tail _ (.tail _ (.tail _ (.head _))))) (.tail _ (.tail _ (.tail _ (.tail _ (.tail _ (.head _))))))
        | 3, e1, e2 =>
          cases e1; cases e2
          exact opn_sync _ _ _ _ _
    rintro ⟨pa', pc'⟩ -
    dsimp only
    apply HB.fold
    refine HB.pa 31 rfl ?_
    refine HB.done (by repeat (first | exact Keep.nil | refine Keep.blk (by (repeat (first | exact List.Mem.head _ | apply List.Mem.tail)); done) rfl ?_ | refine Keep.grow (by (repeat (first | exact List.Mem.head _ | apply List.Mem.tail)); done) (by assumption) ?_ | refine Keep.base (by assumption) ?_)) (by kernel_rfl) ?_
    by_cases h3 : (runOps (grp t o) k).1 = 0
    · rw [append_ok hnb (by rw [← ho]; exact h1) (by rw [← ho]; exact hy) (by rw [← ho]; exact h3), ← ho]
      refine hwJL ?_
      refine HL.one (H1.ldAgg (b := t6) (vs := tpC a2 c2 (adds t l) []) rfl memA rfl (fun i v h => by rwa [Nat.zero_add]) rfl ?_)
      refine hwJL ?_
      refine HL.one (H1.stAggO (b := bj) (o := 0) (cs := tpC a c t (jnR bd false)) (cs' := tpC a2 c2 (adds t l) (jnR bd false)) rfl rfl rfl (by intro v hv; rcases List.mem_cons.1 hv with rfl | hv; rfl; rcases List.mem_cons.1 hv with rfl | hv; rfl; rcases List.mem_cons.1 hv with rfl | hv; rfl; cases hv) (by show 0 + 3 ≤ 5; decide) rfl rplA ?_)
      refine hwJL ?_
      exact HX.ret1 rfl rfl fun w' hM => ⟨((a2, c2), (pa', pc')), trivial, rfl, hM.sub (Hs.cons (Pick.there (Pick.there (Pick.there (Pick.there Pick.here)))) (Hs.cons (Pick.there (Pick.there (Pick.there (Pick.there (Pick.there (Pick.there (Pick.there (Pick.there (Pick.there (Pick.there (Pick.there (Pick.there (Pick.there Pick.here))))))))))))) (Hs.cons Pick.here (Hs.cons Pick.here (Hs.cons Pick.here (Hs.cons Pick.here ((Hs.refl _).skip.skip.skip.skip.skip.skip.skip.skip.skip)))))))⟩
    · rw [append_no hnb (by rw [← ho]; exact h1) (by rw [← ho]; exact hy) (by rw [← ho]; exact h3), ← ho]
      refine hwJL ?_
      refine HL.one (H1.st rfl rfl (by intro _ h; cases h) (by intro _ h; cases h) rplA (by show 4 < 5; decide) ?_)
      refine hwJL ?_
      exact HX.ret1 rfl rfl fun w' hM => ⟨((a, c), (pa', pc')), trivial, rfl, hM.sub (Hs.cons (Pick.there (Pick.there (Pick.there (Pick.there Pick.here)))) (Hs.cons (Pick.there (Pick.there (Pick.there (Pick.there Pick.here)))) (Hs.cons Pick.here (Hs.cons Pick.here (Hs.cons Pick.here (Hs.cons Pick.here ((Hs.refl _).skip.skip.skip.skip.skip.skip.skip.skip.skip)))))))⟩
end Go.Sx
/- Chapter 26: the law's small functions; the reference's PutString: the walks. -/
namespace Go.Sx
open Go Go.Proofs Go.RowKit
section
variable {P : Program} {N : Nat} {ds : List Deferred} {E : Env} {t t' ty : TypeId} {x y : Operand} {a b : Nat}
theorem POp.rem64 (hx : Env.ev E x = some (.int .u64 (a : Int))) (hy : Env.ev E y = some (.int .u64 (b : Int))) (h2 : 0 < b) : POp P N ds E (.binOp .rem t x y t') ty (.int .u64 ((a % b : Nat) : Int)) := POp.bin hx hy guard_int fun w => by
  have e : (b : Int) ≠ 0 := by omega
  rw [binOp_rem]
  simp only [Op.intDiv, e, if_false]
  rw [Int.tmod_eq_emod_of_nonneg (by omega)]; rfl
theorem POp.quo64 (hx : Env.ev E x = some (.int .u64 (a : Int))) (hy : Env.ev E y = some (.int .u64 (b : Int))) (h1 : a < 18446744073709551616) (h2 : 0 < b) : POp P N ds E (.binOp .quo t x y t') ty (.int .u64 ((a / b : Nat) : Int)) := POp.bin hx hy guard_int fun w => by
  have e : (b : Int) ≠ 0 := by omega
  have hle : a / b ≤ a := Nat.div_le_self a b
  rw [binOp_quo]
  simp only [Op.intDiv, e, if_false]
  rw [Int.tdiv_eq_ediv_of_nonneg (by omega), show (a : Int) / (b : Int) = ((a / b : Nat) : Int) from rfl, wrap_u64 (by omega)]; rfl
theorem POp.add64 (hx : Env.ev E x = some (.int .u64 (a : Int))) (hy : Env.ev E y = some (.int .u64 (b : Int))) (h1 : a + b < 18446744073709551616) : POp P N ds E (.binOp .add t x y t') ty (.int .u64 ((a + b : Nat) : Int)) := (POp.add' hx hy).of (by
  rw [show (a : Int) + (b : Int) = ((a + b : Nat) : Int) by omega, wrap_u64 h1])
theorem POp.mul64 (hx : Env.ev E x = some (.int .u64 (a : Int))) (hy : Env.ev E y = some (.int .u64 (b : Int))) (h1 : a * b < 18446744073709551616) : POp P N ds E (.binOp .mul t x y t') ty (.int .u64 ((a * b : Nat) : Int)) := (POp.mul' hx hy).of (by
  rw [show (a : Int) * (b : Int) = ((a * b : Nat) : Int) by simp, wrap_u64 h1])
end
def pk (c n : Int) : Int := if c < 0 then (-(c + 1)) % n else c % n
theorem pk_lt (c : Int) {n : Int} (hn : 0 < n) : 0 ≤ pk c n ∧ pk c n < n := by
  unfold pk
  split
  · exact ⟨Int.emod_nonneg _ (by omega), Int.emod_lt_of_pos _ hn⟩
  · exact ⟨Int.emod_nonneg _ (by omega), Int.emod_lt_of_pos _ hn⟩
def size26 (n : Int) : Nat := 1 + (pk n 1500).toNat
/-- A string, cut. -/
def cutS (n : Nat) (s : ByteArray) : ByteArray := s.extract 0 (min s.size n)
theorem cutS_size (n : Nat) (s : ByteArray) : (cutS n s).size ≤ n := by
  unfold cutS; rw [ByteArray.size_extract]; omega
def few26 (l : List ByteArray) : List ByteArray := (l.take 6).map (cutS 100)
attribute [local irreducible] WC WL WX POp Then Again Fn NX W1 WA WO QL RP RA Yld LoopAt HC HL HX HN H1 HA HO HQ HB HP A.blk A.grow A.rd A.obj A.mp AgainH CutH
theorem zigzag_fn (n : Nat) (hn : n ≤ 1099511627776) (w : World) : Fn Tryz.prog 164 #[zv (n : Int)] w fun v w' => v = .int .u64 ((2 * n : Nat) : Int) ∧ w = w' := by
  refine enter (l := [_]) rfl Tryz.ntmps164 rfl ?_
  have h0 : ¬ (n : Int) < 0 := by omega
  repeat' (first | apply WL.fold | apply WA.fold | apply WL.nil | apply WX.n_then | apply WC.seq | apply WC.region | refine WL.pa ?_ | refine WL.ga rfl ?_ | refine WL.na rfl ?_ | refine WL.nu rfl rfl ?_ | apply WC.block | apply WC.skip | apply WC.exit | apply WC.ret | apply WX.e_block | refine WX.e_other rfl ?_ | apply WX.e_then | apply WX.e_again | apply WX.n_block | apply WX.r_then | apply WX.r_block | apply WX.r_again | refine WC.cond_yes rfl ?_ | refine WC.cond_no rfl ?_ | refine WC.cond rfl (fun hc => ?_) (fun hc => ?_) | refine WC.cond_b rfl (fun hc => ?_) (fun hc => ?_))
  refine WL.pa ?_ ((POp.conv (k' := .u64) rfl).of (v' := .int .u64 (n : Int)) (by rw [wrap_u64 (by omega)]))
  repeat' (first | apply WL.fold | apply WA.fold | apply WL.nil | apply WX.n_then | apply WC.seq | apply WC.region | refine WL.pa ?_ | refine WL.ga rfl ?_ | refine WL.na rfl ?_ | refine WL.nu rfl rfl ?_ | apply WC.block | apply WC.skip | apply WC.exit | apply WC.ret | apply WX.e_block | refine WX.e_other rfl ?_ | apply WX.e_then | apply WX.e_again | apply WX.n_block | apply WX.r_then | apply WX.r_block | apply WX.r_again | refine WC.cond_yes rfl ?_ | refine WC.cond_no rfl ?_ | refine WC.cond rfl (fun hc => ?_) (fun hc => ?_) | refine WC.cond_b rfl (fun hc => ?_) (fun hc => ?_))
  refine WL.pa ?_ (POp.mul64 (a := n) (b := 2) rfl rfl (by omega))
  rw [Nat.mul_comm]
  repeat' (first | apply WL.fold | apply WA.fold | apply WL.nil | apply WX.n_then | apply WC.seq | apply WC.region | refine WL.pa ?_ | refine WL.ga rfl ?_ | refine WL.na rfl ?_ | refine WL.nu rfl rfl ?_ | apply WC.block | apply WC.skip | apply WC.exit | apply WC.ret | apply WX.e_block | refine WX.e_other rfl ?_ | apply WX.e_then | apply WX.e_again | apply WX.n_block | apply WX.r_then | apply WX.r_block | apply WX.r_again | refine WC.cond_yes rfl ?_ | refine WC.cond_no rfl ?_ | refine WC.cond rfl (fun hc => ?_) (fun hc => ?_) | refine WC.cond_b rfl (fun hc => ?_) (fun hc => ?_))
  exact WX.ret1 rfl rfl ⟨rfl, rfl⟩
theorem refPutInt_fn (n : Nat) (hn : n ≤ 1099511627776) (w : World) : Fn Tryz.prog 124 #[zv (n : Int)] w fun v w' => v = .tuple #[.string (strN n), zv 0] ∧ Ext w w' := by
  refine enterH (l := [_]) rfl Tryz.ntmps124 rfl ?_
  have h1 : ¬ (n : Int) < -4611686018427387903 := by omega
  have h2 : ¬ (4611686018427387903 : Int) < (n : Int) := by omega
  have hvl := vint_len 8 (2 * n) (by omega)
  refine hwJL ?_
  refine HL.one (H1.call0 (vs := [_]) rfl rfl (fun w' hM => zigzag_fn n hn w') ?_)
  refine hwJL ?_
  refine HC.grow0 5 1 ?_
  refine HC.loop (α := Nat × List UInt8 × Option Addr × Nat) (fun z => [(4, .int .u64 (z.1 : Int)), (5, .slice z.2.2.1 z.2.1.length z.2.2.2)]) (fun z => [A.grow 5 1 z.2.2.1 z.2.2.2 z.2.1.length (ub z.2.1)]) (fun z => z.1 ≤ 2 * n ∧ z.2.1 ++ vint z.1 = vint (2 * n)) (fun z => z.1) (2 * n, [], none, 0) ⟨Nat.le_refl _, rfl⟩ esA (Hs.refl _) ?_
  rintro ⟨z, ys, a, c⟩ ⟨hz, hv⟩
  dsimp only at hz hv ⊢
  have hlen : ys.length ≤ 9 := by
    have h3 := congrArg List.length hv
    rw [List.length_append] at h3
    omega
  by_cases hlt : z < 128
  · have hge : ¬ (128 : Int) ≤ (z : Int) := by omega
    have hvz := vint_lt hlt
    have hub := ub_snoc ys (g := z) (by omega)
    refine hwJL ?_
    refine HL.one (H1.lit (cs := [.int .u8 (z : Int)]) rfl rfl rfl rfl rfl rfl (fun b9 => ?_))
    refine hwJL ?_
    refine HL.one (H1.app1 (u := .int .u8 (z : Int)) rfl rfl (fun _ _ => by first | ((repeat (first | with_reducible exact Rpl.here | with_reducible apply Rpl.there)); done) | (repeat (first | exact Rpl.here | apply Rpl.there))) memA rfl rfl (by omega) rfl rfl (fun a' c' => ?_))
    rw [hub, show ys.length + 1 = (ys ++ [UInt8.ofNat z]).length from by rw [List.length_append]; rfl]
    refine hwJL ?_
    refine HL.one (H1.bstrg (ys := ys ++ [UInt8.ofNat z]) (c := c') (b := a') rfl memA rfl ?_)
    refine hwJL ?_
    refine HX.ret2 rfl rfl rfl fun w' hM => ⟨?_, hM.ext⟩
    rw [← hvz, hv]; rfl
  · have hge : (128 : Int) ≤ (z : Int) := by omega
    have hvz := vint_ge hlt
    have hub := ub_snoc ys (g := z % 128 + 128) (by omega)
    refine hwJL ?_
    refine HL.pa ?_ (POp.rem64 (a := z) (b := 128) rfl rfl (by decide))
    refine hwJL ?_
    refine HL.pa ?_ (POp.add64 (a := z % 128) (b := 128) rfl rfl (by omega))
    refine hwJL ?_
    refine HL.one (H1.lit (cs := [.int .u8 ((z % 128 + 128 : Nat) : Int)]) rfl rfl rfl rfl rfl rfl (fun b9 => ?_))
    refine hwJL ?_
    refine HL.one (H1.app1 (u := .int .u8 ((z % 128 + 128 : Nat) : Int)) rfl rfl (fun _ _ => by first | ((repeat (first | with_reducible exact Rpl.here | with_reducible apply Rpl.there)); done) | (repeat (first | exact Rpl.here | apply Rpl.there))) memA rfl rfl (by omega) rfl rfl (fun a' c' => ?_))
    rw [hub, show ys.length + 1 = (ys ++ [UInt8.ofNat (z % 128 + 128)]).length from by rw [List.length_append]; rfl]
    refine hwJL ?_
    refine HL.pa ?_ (POp.quo64 (a := z) (b := 128) rfl rfl (by omega) (by decide))
    refine hwJL ?_
    exact HX.again (z / 128, ys ++ [UInt8.ofNat (z % 128 + 128)], some ⟨a', 0, none⟩, c') ⟨by show z / 128 ≤ _; omega, by show (ys ++ _) ++ vint (z / 128) = _; rw [← hv, hvz, List.append_assoc]; rfl⟩ (by show z / 128 < z; omega) esA (Hs.cons (Pick.there Pick.here) (Hs.nil _))
theorem refPutString_fn (s : ByteArray) (hs : s.size ≤ 65536) (w : World) : Fn Tryz.prog 93 #[.string s] w fun v w' => v = .tuple #[.string (strN s.size ++ s), zv 0] ∧ Ext w w' := by
  have hz := strN_size (n := s.size) (by omega)
  refine enterH (l := [_]) rfl Tryz.ntmps93 rfl ?_
  refine hwJL ?_
  refine HL.one (H1.callx (vs := [zv (s.size : Int)]) rfl rfl (fun w' _ => refPutInt_fn s.size (by omega) w') ?_)
  refine hwJL ?_
  exact HX.ret2 rfl rfl rfl fun w' hM => ⟨rfl, hM.ext⟩
end Go.Sx
/-
  The layer with atoms: many atoms as one; append of a list that may be nil.
-/
namespace Go.Sx
open Go Go.RowKit
/-- Some atoms as one. -/
def A.all (K : List Atom) : Atom := ⟨fps K, fun w => ∀ x ∈ K, x.p w, fun w w' hs h hp x hx => x.loc w w' hs (fun b hb => h b (mem_fps hx hb)) (hp x hx)⟩
theorem run_append_none {P : Program} {w : World} (base : Nat) (t ty e : TypeId) (i : TypeInfo) (size : Nat) (ht : P.underlying t = some (.slice e)) (hi : P.info? e = some i)
    (v : Value) (n c : Nat) (xs : List Value) (hown : w.ownsRow base e size v n xs) :
    (Builtin.append_ #[t, t] ty #[v, .slice none 0 c]).run P w = .ok v w := by
  rcases hown.2 with ⟨rfl, rfl⟩ | ⟨g, cap, cur, rfl, _, _, hnc, _⟩
  · simp [Builtin.append_, run_underlying ht, sizeOf, typeInfo, hi, Builtin.lenOf, Builtin.firstCells]
  · simp [Builtin.append_, run_underlying ht, sizeOf, typeInfo, hi, Builtin.lenOf, Builtin.firstCells, hnc, storeCells]
theorem Rpl.same {x : Atom} {H H' : List Atom} (h : Rpl x x H H') : H = H' := by
  generalize hy : x = y at h
  induction h with
  | here => rfl
  | there _ ih => rw [ih]
theorem H1.appR {P : Program} {r : Option Nat} {N : Nat} {ds : List Deferred} {Q : Post} {E : Env} {w0 : World} {H : List Atom} {next : Act → World → Prop} {g : Option (Nat × Bool)}
    {d : Nat} {t ty : TypeId} {pos : String} {af : Array Edge} {x y : Operand}
    {e : TypeId} {z : Value} {bb n c c2 : Nat} {a ao : Option Addr} {xs vs : List Value} {H' : Option Addr → Nat → List Atom} [h : UTy P t (.slice e)] [hi : ITy P e z 1 bb] (hzs : z.cells.size = 1)
    (hx : Env.ev E x = some (.slice a n c)) (hy : Env.ev E y = some (.slice ao vs.length c2)) (hr : ∀ a' c', Rpl (A.grow e 1 a c n xs) (A.grow e 1 a' c' (n + vs.length) (xs ++ vs)) H (H' a' c'))
    (hR : ∀ w, Mm w0 H w → Rd w (.slice ao vs.length c2) vs) (h1 : ∀ u ∈ vs, u.oneCell' = true) (hnm : n + vs.length ≤ 1000000) (hb : bb ≤ 1000) (hd : Nat.blt d N = true)
    (ha0 : n = 0 ∨ ∃ b, a = some ⟨b, 0, none⟩) (hn : ∀ a' c', (n + vs.length = 0 ∨ ∃ b, a' = some ⟨b, 0, none⟩) → HN N ds next ((d, .slice a' (n + vs.length) c') :: E) w0 (H' a' c')) :
    H1 P r N ds next ⟨some d, .call ⟨.builtin .append, #[x, y], #[t, t]⟩, ty, pos, af, g⟩ Q E w0 H := by
  cases ao with
  | some ad =>
    refine H1.app hzs (by decide) hx hy hr (by simp) (fun w hM => ?_) h1 hnm hb hd hn
    intro j u hu
    obtain ⟨a', c', h2, h3, h4⟩ := hR w hM
    cases h2
    rcases h4 with rfl | ⟨b, off, h5, h6, h7⟩
    · simp at hu
    · cases h5; rw [add_lit]; exact h7 j u hu
  | none =>
    intro w hM
    obtain ⟨a', c', h2, h3, h4⟩ := hR w hM
    cases h2
    have e0 : vs = [] := by
      rcases h4 with h4 | ⟨b, off, h5, -⟩
      · exact h4
      · cases h5
    subst e0
    obtain ⟨i, hi1, hi2, hi3, hi4⟩ := hi.parts
    have hsame : H = H' a c := Rpl.same (x := A.grow e 1 a c n xs) (by have := hr a c; simpa using this)
    have hown := hM.own (hr a c).mem
    refine W1.run (v := .slice a n c) (w' := w) (fun ac ha => ?_) rfl hd (by have := hn a c ha0 w (hsame ▸ hM); rwa [List.length_nil, Nat.add_zero] at this)
    have hrun := run_append_none (P := P) 0 t ty e i 1 h.is hi1 (.slice a n c) n c2 xs hown
    simp only [List.length_nil] at hy
    simp only [execOp, resolve, invoke, Go.builtin, Sem.run_bind, Sem.run_pure, Result.andThen, List.map_toArray, List.map_cons, List.map_nil, ha.ev hx, ha.ev hy, hrun]
section
variable {l : List (Addr × Value)} {w0 : World} {H : List Atom}
variable {P : Program} {N : Nat} {ds : List Deferred} {ol : List Oper} {Q : Post} {E : Env} {fuel : Nat} {listed : Array Bool} {ty : TypeId} {pos : String} {af : Array Edge}
end
end Go.Sx
/- Chapter 26: few, same, content: the walks. -/
namespace Go.Sx
open Go Go.Proofs Go.RowKit
theorem hwJB {G G2 : Prop} (x : G2) (hwq : Hold G2 → G := by
    intro hQq
    repeat' (first | refine HL.pa ?_ (POp.pnil1 rfl rfl) | refine HL.pa ?_ (POp.pnil0 rfl rfl) | refine HL.pa ?_ (POp.nilCheck rfl) | apply HL.fold | apply HA.fold | apply HL.nil | apply HX.n_then | apply HC.seq | apply HC.region | refine HL.pa ?_ | refine HL.ga rfl ?_ | refine HL.na rfl ?_ | refine HL.nu rfl rfl ?_ | apply HC.block | apply HC.skip | apply HC.exit | apply HC.ret | apply HX.e_block | refine HX.e_other rfl ?_ | apply HX.e_then | apply HX.e_again | apply HX.n_block | apply HX.r_then | apply HX.r_block | apply HX.r_again | refine HC.cond_yes rfl ?_ | refine HC.cond_no rfl ?_ | refine HL.one (H1.ldb rfl memA rfl rfl ?_) | refine HC.cond rfl (fun hc => ?_) (fun hc => ?_) | refine HC.cond_b rfl (fun hc => ?_) (fun hc => ?_))
    exact hQq.get) : G := hwq ⟨x⟩
attribute [local irreducible] WC WL WX POp Then Again Fn NX W1 WA WO QL RP RA Yld LoopAt HC HL HX HN H1 HA HO HQ HB HP A.blk A.grow A.rd A.obj A.mp AgainH CutH
end Go.Sx
/- Plain, chapter 26: a journal on a disk that has power. -/
namespace Go.Sx
open Go
theorem splice_mid (A : List UInt8) (m : Nat) (o : List UInt8) (h : o.length ≤ m) (ho : o ≠ []) :
    splice (splice (A ++ List.replicate m 0) (A.length + 1) (o.drop 1)) A.length (o.take 1) = A ++ o ++ List.replicate (m - o.length) 0 := by
  obtain ⟨b, o', rfl⟩ := List.exists_cons_of_ne_nil ho
  rw [List.length_cons] at h
  obtain ⟨m', rfl⟩ : ∃ m', m = m' + 1 := ⟨m - 1, by omega⟩
  have e1 : splice (A ++ List.replicate (m' + 1) 0) (A.length + 1) ((b :: o').drop 1) = A ++ (0 :: (o' ++ List.replicate (m' - o'.length) 0)) := by
    unfold splice
    rw [List.drop_one, List.tail_cons, List.replicate_succ, List.take_append, List.take_of_length_le (by omega), show A.length + 1 - A.length = 1 from by omega,
      List.drop_append, List.drop_of_length_le (by omega), show A.length + 1 + o'.length - A.length = 1 + o'.length from by omega]
    simp [Nat.add_comm 1]
  rw [e1]
  unfold splice
  rw [List.take_left, List.drop_append, List.drop_of_length_le (by omega)]
  simp
/-- A journal whose disk has power, and all of which is durable. -/
structure Clean (j : Jn) (n : Nat) (l : List ByteArray) : Prop where
  t : j.t = adds t00 l
  br : j.br = false
  off : j.k.off = false
  left : j.k.left = 0
  pend : j.k.pend = []
  dur : j.k.dur = j.k.vis
  vis : j.k.vis = outsL zero32 l ++ List.replicate (n - j.t.size) 0
  fit : j.t.size ≤ n
  lo : 1 ≤ n
  hi : n ≤ 4194304
theorem adds0_size (l : List ByteArray) : (adds t00 l).size = (outsL zero32 l).length := by
  rw [adds_size]
  show 0 + _ = _
  rw [Nat.zero_add]; rfl
theorem adds0_recs (l : List ByteArray) : (adds t00 l).recs = l := by rw [adds_recs]; rfl
theorem Clean.len {j : Jn} {n : Nat} {l : List ByteArray} (h : Clean j n l) : j.k.vis.length = n := by
  have h1 := h.fit
  rw [h.vis, List.length_append, List.length_replicate]
  rw [h.t, adds0_size] at *
  omega
theorem Clean.ok {j : Jn} {n : Nat} {l : List ByteArray} (h : Clean j n l) : j.k.Ok := by
  have h1 := h.len
  have h2 := h.lo
  have h3 := h.hi
  exact ⟨by rw [h.dur], by rw [h.dur]; omega, by rw [h.dur]; omega, by rw [h.left]; omega, by rw [h.pend]; show 0 ≤ _; omega⟩
theorem clean0 {n : Nat} (h : 1 ≤ n) (h1 : n ≤ 4194304) : Clean ⟨t00, newK n, false⟩ n [] := ⟨rfl, rfl, rfl, rfl, rfl, rfl, rfl, Nat.zero_le _, h, h1⟩
theorem Clean.recs {j : Jn} {n : Nat} {l : List ByteArray} (h : Clean j n l) : j.t.recs = l := by rw [h.t, adds0_recs]
/-- What is on the disk is read back. -/
theorem load_vis {k : Dk} {n : Nat} {l : List ByteArray} (hv : k.vis = outsL zero32 l ++ List.replicate n 0) (hl : ∀ r ∈ l, r.size ≤ 65536) : loadF k.vis t00 = some (adds t00 l) :=
  loadF_all (m := n) hl hv
theorem zero_vis {k : Dk} {n : Nat} {l : List ByteArray} (hv : k.vis = outsL zero32 l ++ List.replicate n 0) : isZero (k.vis.drop (adds t00 l).size) = true := by
  rw [adds0_size, hv, List.drop_left]; exact rep_isZero _
theorem open_vis {k : Dk} {n : Nat} {l : List ByteArray} (ho : k.off = false) (hv : k.vis = outsL zero32 l ++ List.replicate n 0) (hl : ∀ r ∈ l, r.size ≤ 65536) : openF k = (0, k, some (adds t00 l)) :=
  openF_zero ho (load_vis hv hl) (zero_vis hv)
theorem Clean.opens {j : Jn} {n : Nat} {l : List ByteArray} (h : Clean j n l) (hl : ∀ r ∈ l, r.size ≤ 65536) : openF j.k = (0, j.k, some (adds t00 l)) := open_vis h.off h.vis hl
theorem used_zero {k : Dk} (h : k.left = 0) : k.used = k := by unfold Dk.used; rw [if_pos h]
/-- Writes and syncs on a disk whose power stays. -/
theorem run_grp {k : Dk} {t : Tp} {o : List UInt8} (ho : k.off = false) (hl : k.left = 0) (hv : k.vis.length = k.dur.length) (hne : o ≠ []) (hf : t.size + o.length ≤ k.dur.length) :
    runOps (grp t o) k = (0, ⟨false, 0, splice (splice k.vis (t.size + 1) (o.drop 1)) t.size (o.take 1), splice (splice k.vis (t.size + 1) (o.drop 1)) t.size (o.take 1), []⟩) := by
  have hpos : 0 < o.length := List.length_pos_iff.2 hne
  have hz1 : (mkBA (o.drop 1)).size = o.length - 1 := by show (o.drop 1).toArray.size = _; rw [List.size_toArray, List.length_drop]
  have hz2 : (mkBA (o.take 1)).size = 1 := by show (o.take 1).toArray.size = _; rw [List.size_toArray, List.length_take]; omega
  have hsl : (splice k.vis (t.size + 1) (o.drop 1)).length = k.vis.length := splice_len (by rw [List.length_drop]; omega)
  have w1 : k.write (t.size + 1) (mkBA (o.drop 1)) = (0, ⟨false, 0, k.dur, splice k.vis (t.size + 1) (o.drop 1), k.pend ++ [(t.size + 1, mkBA (o.drop 1))]⟩) := by
    rw [Dk.write_on ho (by omega)]
    show (0, Dk.used _) = _
    rw [used_zero (k := ⟨k.off, k.left, k.dur, splice k.vis (t.size + 1) (mkBA (o.drop 1)).data.toList, k.pend ++ [(t.size + 1, mkBA (o.drop 1))]⟩) hl, ho, hl]
    rfl
  have s1 : runOps (grp t o) k = runOps [.wr t.size (mkBA (o.take 1)), .sy] ⟨false, 0, splice k.vis (t.size + 1) (o.drop 1), splice k.vis (t.size + 1) (o.drop 1), []⟩ := by
    unfold grp
    rw [runOps_ok (show ((DOp.wr (t.size + 1) (mkBA (o.drop 1))).run k).1 = 0 by show (k.write _ _).1 = 0; rw [w1])]
    show runOps _ (k.write _ _).2 = _
    rw [w1]
    rw [runOps_ok (show (DOp.sy.run _).1 = 0 from by show (Dk.sync _).1 = 0; rw [Dk.sync_on rfl])]
    show runOps _ (Dk.sync _).2 = _
    rw [Dk.sync_on rfl]
  rw [s1]
  have w2 : (⟨false, 0, splice k.vis (t.size + 1) (o.drop 1), splice k.vis (t.size + 1) (o.drop 1), []⟩ : Dk).write t.size (mkBA (o.take 1)) =
      (0, ⟨false, 0, splice k.vis (t.size + 1) (o.drop 1), splice (splice k.vis (t.size + 1) (o.drop 1)) t.size (o.take 1), [(t.size, mkBA (o.take 1))]⟩) := by
    rw [Dk.write_on rfl (by show t.size + (mkBA (o.take 1)).size ≤ (splice k.vis (t.size + 1) (o.drop 1)).length; rw [hsl]; omega)]
    show (0, Dk.used _) = _
    rw [used_zero rfl]; rfl
  rw [runOps_ok (show ((DOp.wr t.size (mkBA (o.take 1))).run _).1 = 0 by show (Dk.write _ _ _).1 = 0; rw [w2])]
  show runOps _ (Dk.write _ _ _).2 = _
  rw [w2]
  rw [runOps_ok (show (DOp.sy.run _).1 = 0 from by show (Dk.sync _).1 = 0; rw [Dk.sync_on rfl])]
  show (0, (Dk.sync _).2) = _
  rw [Dk.sync_on rfl]
theorem outsL_ne {h : ByteArray} {l : List ByteArray} (hl : l ≠ []) : outsL h l ≠ [] := by
  obtain ⟨r, l', rfl⟩ := List.exists_cons_of_ne_nil hl
  intro e
  have h2 : (outL h r ++ outsL (chainS h r) l').length = 0 := congrArg List.length e
  have h1 := outL_pos h r
  rw [List.length_append] at h2
  omega
theorem Clean.app {j : Jn} {n : Nat} {l g : List ByteArray} (h : Clean j n l) (hg : g.any isLong = false) (hf : j.t.size + (outsL j.t.head g).length ≤ n) : ∃ j', j.append g = (0, j') ∧ Clean j' n (l ++ g) := by
  have hlen := h.len
  have hdl : j.k.dur.length = n := by rw [h.dur, hlen]
  have hnb : ¬ (j.br = true ∨ g.any isLong = true) := by rw [hg, h.br]; rintro (h | h) <;> cases h
  have h1 : ¬ (j.k.dur.length : Int) - (j.t.size : Int) < ((outsL j.t.head g).length : Int) := by omega
  by_cases hgn : g = []
  · subst hgn
    exact ⟨j, append_nil hnb h1 rfl, by rw [List.append_nil]; exact h⟩
  · have hne := outsL_ne (h := j.t.head) hgn
    have hrun := run_grp (t := j.t) h.off h.left (by rw [h.dur]) hne (by omega)
    refine ⟨_, append_ok hnb h1 hne (by rw [hrun]), ?_⟩
    rw [hrun]
    have hA : (outsL zero32 l).length = j.t.size := by rw [h.t, adds0_size]
    have hvis : splice (splice j.k.vis (j.t.size + 1) ((outsL j.t.head g).drop 1)) j.t.size ((outsL j.t.head g).take 1) = outsL zero32 (l ++ g) ++ List.replicate (n - (adds j.t g).size) 0 := by
      have := splice_mid (outsL zero32 l) (n - j.t.size) (outsL j.t.head g) (by omega) hne
      rw [hA, ← h.vis] at this
      rw [this, adds_size, Nat.sub_sub]
      congr 1
      have h3 := outsL_app l g t00
      rw [show (adds t00 l).head = j.t.head from by rw [h.t]] at h3
      exact h3.symm
    refine ⟨by show adds j.t g = _; rw [h.t, adds_app], h.br, rfl, rfl, rfl, rfl, hvis, by show (adds j.t g).size ≤ n; rw [adds_size]; exact hf, h.lo, h.hi⟩
theorem strN_len (n : Nat) : (strN n).size = (putN n).length := by show (putN n).toArray.size = _; rw [List.size_toArray]
/-- How much records take. -/
def needL (l : List ByteArray) : Nat := (l.map fun r => 33 + (strN r.size).size + r.size).sum
theorem outsL_need : ∀ (l : List ByteArray) (h : ByteArray), (outsL h l).length = needL l
  | [], h => rfl
  | r :: l, h => by
    show (outL h r ++ outsL (chainS h r) l).length = (33 + (strN r.size).size + r.size) + needL l
    rw [List.length_append, outL_len, outsL_need l]
theorem not_long {l : List ByteArray} (h : ∀ r ∈ l, r.size ≤ 65536) : l.any isLong = false := by
  refine List.any_eq_false.2 fun r hr => ?_
  have := h r hr
  unfold isLong
  simpa using this
end Go.Sx
/- Chapter 26: the calls as the laws make them. -/
namespace Go.Sx
open Go Go.Proofs Go.RowKit
/-- What the walks ask of a journal. -/
structure JOk (j : Jn) : Prop where
  k : j.k.Ok
  pend : j.k.pend.length ≤ 9000
  fit : j.t.size ≤ j.k.dur.length
  recs : j.t.recs.length ≤ 90000
  head : j.t.head.size ≤ 32
theorem Clean.jok {j : Jn} {n : Nat} {l : List ByteArray} (h : Clean j n l) (hl : l.length ≤ 90000) : JOk j :=
  ⟨h.ok, by rw [h.pend]; exact Nat.zero_le _, by rw [h.dur, h.len]; exact h.fit, by rw [h.recs]; exact hl, by rw [h.t]; exact adds_head _ _ (Nat.le_refl _)⟩
attribute [local irreducible] WC WL WX POp Then Again Fn NX W1 WA WO QL RP RA Yld LoopAt HC HL HX HN H1 HA HO HQ HB HP A.blk A.grow A.rd A.obj A.mp AgainH CutH
theorem records2_fn {w : World} {bj bd c : Nat} {a : Option Addr} {t : Tp} {br : Bool} (hb : Blk w bj (tpC a c t (jnR bd br)) 179) (hR : Rd w (.slice a t.recs.length c) (strs t.recs)) (hl : t.recs.length ≤ 1000000) :
    Fn Tryz.prog 62 #[.pointer (some ⟨bj, 0, none⟩)] w fun v w' => ∃ z : Option Addr × Nat, True ∧ v = .slice z.1 t.recs.length z.2 ∧ Mm w [A.grow 9 1 z.1 z.2 t.recs.length (strs t.recs)] w' := by
  refine enterH (l := [_]) rfl Tryz.ntmps62 rfl ?_
  refine hwJB ?_
  refine HL.one (H1.ld0 rfl (hb.cell rfl) rfl ?_)
  refine hwJB ?_
  refine HL.one (H1.callz (vs := [_]) rfl rfl (fun w' hM' => cloneS_fn _ t.recs hl w' (hR.ext hM'.ext)) ?_)
  rintro ⟨a', c'⟩ -
  refine hwJB ?_
  exact HX.ret1 rfl rfl fun w' hM => ⟨(a', c'), trivial, rfl, hM⟩
theorem jopen_ok {w0 w : World} {H : List Atom} {bd b1 b2 pc : Nat} {pa : Option Addr} {k k' : Dk} {t : Tp} {ea : Addr} (h : openF k = (0, k', some t)) (hG : RoundG w0) (hE : ErrG ea w0) (hM : Mm w0 (dkH bd b1 b2 pa pc k H) w) (hk : k.Ok) (hp : k.pend.length ≤ 9000) :
    Fn Tryz.prog 59 #[.pointer (some ⟨bd, 0, none⟩)] w fun v w' => ∃ z : Nat × (Option Addr × Nat) × (Option Addr × Nat), True ∧ v = .tuple #[.pointer (some ⟨z.1, 0, none⟩), zv 0] ∧ Mm w0 (jnlH z.1 bd b1 b2 z.2.1.1 z.2.1.2 z.2.2.1 z.2.2.2 ⟨t, k', false⟩ H) w' :=
  (jopen_fn hG hE hM hk (by omega)).mono fun v w2 h1 => by
    rw [h] at h1
    obtain ⟨z, h2, h3⟩ := h1
    exact ⟨z, trivial, h2, h3⟩
theorem jopen_no {w0 w : World} {H : List Atom} {bd b1 b2 pc : Nat} {pa : Option Addr} {k k' : Dk} {e : Int} {ea : Addr} (h : openF k = (e, k', none)) (hG : RoundG w0) (hE : ErrG ea w0) (hM : Mm w0 (dkH bd b1 b2 pa pc k H) w) (hk : k.Ok) (hp : k.pend.length ≤ 9000) :
    Fn Tryz.prog 59 #[.pointer (some ⟨bd, 0, none⟩)] w fun v w' => ∃ q : Option Addr × Nat, True ∧ v = .tuple #[.pointer none, zv e] ∧ Mm w0 (dkH bd b1 b2 q.1 q.2 k' H) w' :=
  (jopen_fn hG hE hM hk (by omega)).mono fun v w2 h1 => by
    rw [h] at h1
    obtain ⟨z, h2, h3⟩ := h1
    exact ⟨z, trivial, h2, h3⟩
/-- Append of strings that stand in a block. -/
theorem appendB_fn {w0 w : World} {H : List Atom} {bj bd b1 b2 b9 c pc : Nat} {a pa : Option Addr} {j : Jn} {g : List ByteArray} {r : Int × Jn} (hr : j.append g = r) (hG : RoundG w0) (hM : Mm w0 (A.blk b9 (strs g) 9 :: jnlH bj bd b1 b2 a c pa pc j H) w) (hj : JOk j) (hg : g.length ≤ 1000) (hb : g.any isLong = false → (outsL j.t.head g).length ≤ 900000) :
    Fn Tryz.prog 89 #[.pointer (some ⟨bj, 0, none⟩), .slice (some ⟨b9, 0, none⟩) g.length g.length] w fun v w' => ∃ q : (Option Addr × Nat) × (Option Addr × Nat), True ∧ v = zv r.1 ∧ Mm w0 (jnlH bj bd b1 b2 q.1.1 q.1.2 q.2.1 q.2.2 r.2 H) w' := by
  subst hr
  have h := append_fn (H := A.blk b9 (strs g) 9 :: H) (v := .slice (some ⟨b9, 0, none⟩) g.length g.length) (l := g) hG
    (hM.sub (Hs.cons (Pick.there Pick.here) (Hs.cons (Pick.there Pick.here) (Hs.cons (Pick.there Pick.here) (Hs.cons (Pick.there Pick.here) (Hs.cons (Pick.there Pick.here) (Hs.cons (Pick.there Pick.here) (Hs.refl _))))))))
    (fun H1 w' hs hM' => blk_rd (hM'.blk (e := 9) (hs _ (.head _))) (by simp [strs])) hj.k (by have := hj.pend; omega) hj.fit (by have := hj.recs; omega) hj.head (by omega) hb
  exact h.mono fun v w2 h1 => by
    obtain ⟨q, h2, h3, h4⟩ := h1
    exact ⟨q, trivial, h3, h4.sub (Hs.cons Pick.here (Hs.cons Pick.here (Hs.cons Pick.here (Hs.cons Pick.here (Hs.cons Pick.here (Hs.cons Pick.here (Hs.refl _).skip))))))⟩
end Go.Sx
/- Chapter 26: the fixed examples: the walk. -/
namespace Go.Sx
open Go Go.Proofs Go.RowKit
def sg1 : List ByteArray := [ByteArray.mk #[97, 98], ByteArray.mk #[]]
def sz (n : Nat) : ByteArray := mkBA (List.replicate n 0)
theorem Clean.size {j : Jn} {n : Nat} {l : List ByteArray} (h : Clean j n l) : j.t.size = needL l := by rw [h.t, adds0_size, outsL_need]
theorem needL_app (l m : List ByteArray) : needL (l ++ m) = needL l + needL m := by unfold needL; rw [List.map_append, List.sum_append]
theorem put_vis {k : Dk} {off : Nat} {s : ByteArray} (ho : k.off = false) (hl : k.left = 0) (hf : off + s.size ≤ k.dur.length) : k.write off s = (0, ⟨false, 0, k.dur, splice k.vis off s.data.toList, k.pend ++ [(off, s)]⟩) := by
  rw [Dk.write_on ho hf]
  show (0, Dk.used _) = _
  rw [used_zero (k := ⟨k.off, k.left, k.dur, splice k.vis off s.data.toList, k.pend ++ [(off, s)]⟩) hl, ho, hl]
theorem HN.openg2 {N : Nat} {ds : List Deferred} {K : Act → World → Prop} {E : Env} {w0 : World} {H : List Atom} {e : TypeId} {sz c n : Nat} {a : Option Addr} {xs : List Value} (hm : A.grow e sz a c n xs ∈ H) (hn : n ≠ 0) (h : ∀ b, a = some ⟨b, 0, none⟩ → HN N ds K E w0 H) : HN N ds K E w0 H := fun w hM => by
  rcases (hM.own hm).2 with ⟨-, h0⟩ | ⟨g, cap, cur, hv, -⟩
  · exact absurd h0 hn
  · cases hv; exact h g rfl w hM
attribute [local irreducible] WC WL WX POp Then Again Fn NX W1 WA WO QL RP RA Yld LoopAt HC HL HX HN H1 HA HO HQ HB HP A.blk A.grow A.rd A.obj A.mp AgainH CutH
attribute [local irreducible] newK
end Go.Sx
/- Chapter 26: slices of slices of strings; groups one after the other. -/
namespace Go.Sx
open Go Go.Proofs Go.RowKit
theorem POp.pneN {P : Program} {N : Nat} {ds : List Deferred} {E : Env} {t t' ty e : TypeId} {x y : Operand} {a : Addr} [h : UTy P t (.pointer e)] (hx : Env.ev E x = some (.pointer (some a))) (hy : Env.ev E y = some (.pointer none)) : POp P N ds E (.binOp .neq t x y t') ty (.bool true) :=
  POp.bin hx hy (fun w => by rw [eqGuard_at_pointer]; rfl) fun w => by
    have e1 := run_equalIn_pnil (P := P) (t := t) w 9999 (some a)
    show ((Op.equalIn (9999 + 1) t (.pointer (some a)) (.pointer none)) >>= fun r => pure (Value.bool !r)).run P w = _
    rw [Sem.run_bind, e1]; rfl
/-- A slice of slices of strings. -/
def RdGS (w : World) (v : Value) (G : List (List ByteArray)) (hV : Nat → Value) : Prop := Rd w v ((List.range G.length).map hV) ∧ ∀ i (hi : i < G.length), Rd w (hV i) (strs G[i])
theorem strs_len2 (l : List ByteArray) : (strs l).length = l.length := by simp [strs]
theorem strs_one2 (l : List ByteArray) : ∀ u ∈ strs l, u.oneCell' = true := by
  intro u hu
  obtain ⟨s, -, rfl⟩ := List.mem_map.1 hu
  rfl
theorem strs_app2 (l m : List ByteArray) : strs l ++ strs m = strs (l ++ m) := by simp [strs]
/-- append of a slice of the call's own that is read, onto a literal. -/
theorem H1.appR3 {P : Program} {r : Option Nat} {N : Nat} {ds : List Deferred} {Q : Post} {E : Env} {w0 : World} {H : List Atom} {next : Act → World → Prop} {g : Option (Nat × Bool)} {d : Nat} {t ty : TypeId} {pos : String} {af : Array Edge} {x y : Operand}
    {e : TypeId} {z : Value} {bb n m c c2 : Nat} {a ao : Option Addr} {xs vs : List Value} {H' : Option Addr → Nat → List Atom} [h : UTy P t (.slice e)] [hi : ITy P e z 1 bb] (hzs : z.cells.size = 1) (hvn : vs.length = m)
    (hx : Env.ev E x = some (.slice a n c)) (hy : Env.ev E y = some (.slice ao m c2)) (hr : ∀ a' c', Rpl (A.grow e 1 a c n xs) (A.grow e 1 a' c' (n + m) (xs ++ vs)) H (H' a' c'))
    (hR : ∀ w, Mm w0 H w → Rd w (.slice ao m c2) vs) (h1 : ∀ u ∈ vs, u.oneCell' = true) (hnm : n + m ≤ 1000000) (hb : bb ≤ 1000) (hd : Nat.blt d N = true)
    (ha0 : n = 0 ∨ ∃ b, a = some ⟨b, 0, none⟩) (hn : ∀ a' c', (n + m = 0 ∨ ∃ b, a' = some ⟨b, 0, none⟩) → HN N ds next ((d, .slice a' (n + m) c') :: E) w0 (H' a' c')) :
    H1 P r N ds next ⟨some d, .call ⟨.builtin .append, #[x, y], #[t, t]⟩, ty, pos, af, g⟩ Q E w0 H := by
  subst hvn
  exact H1.appR hzs hx hy hr hR h1 hnm hb hd ha0 hn
/-- A slice of strings of the call's own. -/
def gS (p : Option Addr × Nat × List ByteArray) : Atom := A.grow 9 1 p.1 p.2.1 p.2.2.length (strs p.2.2)
theorem HL.growCap {P : Program} {r : Option Nat} {N : Nat} {ds : List Deferred} {ol l : List Oper} {Q : Post} {E : Env} {w0 : World} {H : List Atom} {e : TypeId} {sz c n : Nat} {a : Option Addr} {xs : List Value} (hm : A.grow e sz a c n xs ∈ H) (h : n ≤ c → HL P r N ds ol l Q E w0 H) : HL P r N ds ol l Q E w0 H := fun w hM => by
  rcases (hM.own hm).2 with ⟨hv, -⟩ | ⟨g, cap, cur, hv, -, -, hnc, -⟩
  · cases hv; exact h (Nat.le_refl _) w hM
  · cases hv; exact h hnc w hM
structure OpV where
  kind : Int
  l : List ByteArray
  n : Int
  keep : List Int
  vl : Value
  vk : Value
instance : Inhabited OpV := ⟨⟨0, [], 0, [], undef, undef⟩⟩
def opC (o : OpV) : List Value := [zv o.kind, o.vl, zv o.n, o.vk]
def opAt (l : List OpV) (i : Nat) : OpV := l.getD i default
/-- A slice of calls. -/
structure RdOps (w : World) (a : Option Addr) (c : Nat) (l : List OpV) : Prop where
  cap : l.length ≤ c
  cells : l = [] ∨ ∃ b off, a = some ⟨b, off, none⟩ ∧ b < w.heap.size ∧ ∀ i, i < l.length → ∀ (j : Nat) (u : Value), (opC (opAt l i))[j]? = some u → w.cell? ⟨b, off + i * 4 + j, none⟩ = some u
  kind : ∀ i, i < l.length → -9223372036854775808 ≤ (opAt l i).kind ∧ (opAt l i).kind ≤ 9223372036854775807
  n : ∀ i, i < l.length → -9223372036854775808 ≤ (opAt l i).n ∧ (opAt l i).n ≤ 9223372036854775807
  strs : ∀ i, i < l.length → Rd w (opAt l i).vl (strs (opAt l i).l) ∧ (∀ s ∈ (opAt l i).l, s.size ≤ 9223372036854775807) ∧ (opAt l i).l.length ≤ 9223372036854775807
  keep : ∀ i, i < l.length → Rd w (opAt l i).vk (ints (opAt l i).keep) ∧ (opAt l i).keep.length ≤ 9223372036854775807
/-- What holds of what is kept, and stays with every record, holds of all that is read. -/
theorem loadF_inv {P : Tp → Prop} (step : ∀ t r, P t → r.size ≤ 65536 → P (t.add r)) : ∀ (n : Nat) {s : List UInt8} {t t' : Tp}, s.length - t.size ≤ n → P t → loadF s t = some t' → P t'
  | n, s, t, t', hn, hP, h => by
    by_cases h1 : t.size < s.length ∧ s.getD t.size 0 ≠ 0
    · by_cases h2 : s.getD t.size 0 = 1
      · cases hd : decS s (t.size + 1) with
        | none => rw [loadF_none h1 hd] at h; cases h
        | some x =>
          obtain ⟨r, q⟩ := x
          by_cases h3 : q + 32 ≤ s.length ∧ outL t.head (mkBA r) = (s.drop t.size).take (q + 32 - t.size)
          · rw [loadF_step h1 h2 hd h3] at h
            have hol := outL_pos t.head (mkBA r)
            have hrs : (mkBA r).size = r.length := by show r.toArray.size = _; rw [List.size_toArray]
            have hP2 := step t (mkBA r) hP (by rw [hrs]; exact (decS_le hd).2.2)
            match n, hn with
            | 0, hn => omega
            | n + 1, hn => exact loadF_inv step n (by show s.length - (t.size + (outL t.head (mkBA r)).length) ≤ n; omega) hP2 h
          · rw [loadF_no h1 hd h3] at h; cases h
      · rw [loadF_bad h1 h2] at h; cases h
    · rw [loadF_end h1] at h
      injection h with h; subst h; exact hP
theorem adds_inv {P : Tp → Prop} (step : ∀ t r, P t → r.size ≤ 65536 → P (t.add r)) : ∀ (l : List ByteArray) {t : Tp}, (∀ r ∈ l, r.size ≤ 65536) → P t → P (adds t l)
  | [], _, _, h => h
  | r :: l, _, hs, h => adds_inv step l (fun x hx => hs x (List.mem_cons_of_mem _ hx)) (step _ r h (hs r (List.mem_cons_self ..)))
/-- What is kept is what its records say. -/
structure TpOk (t : Tp) : Prop where
  adds : t = Go.Sx.adds t00 t.recs
  len : 33 * t.recs.length ≤ t.size
  sz : ∀ r ∈ t.recs, r.size ≤ 65536
theorem tpOk0 : TpOk t00 := ⟨rfl, Nat.le_refl _, fun _ h => by cases h⟩
theorem TpOk.step (t : Tp) (r : ByteArray) (h : TpOk t) (hr : r.size ≤ 65536) : TpOk (t.add r) := by
  have hrs : (t.add r).recs = t.recs ++ [r] := rfl
  refine ⟨?_, ?_, ?_⟩
  · rw [hrs, adds_snoc, ← h.adds]
  · have h1 := h.len
    have h2 := outL_len t.head r
    rw [hrs, List.length_append]
    show 33 * (t.recs.length + 1) ≤ t.size + (outL t.head r).length
    omega
  · intro x hx
    rw [hrs] at hx
    rcases List.mem_append.1 hx with hx | hx
    · exact h.sz x hx
    · rcases List.mem_cons.1 hx with rfl | hx
      · exact hr
      · cases hx
theorem TpOk.head {t : Tp} (h : TpOk t) : t.head.size ≤ 32 := by rw [h.adds]; exact adds_head _ _ (Nat.le_refl _)
end Go.Sx
/- Chapter 27: maps whose keys are places: pairs of numbers in a struct. -/
namespace Go.Sx
open Go Go.Proofs Go.RowKit
theorem hwYB {G G2 : Prop} (x : G2) (hwq : Hold G2 → G := by
    intro hQq
    repeat' (first | refine HL.pa ?_ (POp.pnil1 rfl rfl) | refine HL.pa ?_ (POp.pnil0 rfl rfl) | refine HL.pa ?_ (POp.nilCheck rfl) | apply HL.fold | apply HA.fold | apply HL.nil | apply HX.n_then | apply HC.seq | apply HC.region | refine HL.pa ?_ | refine HL.ga rfl ?_ | refine HL.na rfl ?_ | refine HL.nu rfl rfl ?_ | apply HC.block | apply HC.skip | apply HC.exit | apply HC.ret | apply HX.e_block | refine HX.e_other rfl ?_ | apply HX.e_then | apply HX.e_again | apply HX.n_block | apply HX.r_then | apply HX.r_block | apply HX.r_again | refine HC.cond_yes rfl ?_ | refine HC.cond_no rfl ?_ | refine HL.one (H1.ldb rfl memA rfl rfl ?_) | refine HC.cond rfl (fun hc => ?_) (fun hc => ?_) | refine HC.cond_b rfl (fun hc => ?_) (fun hc => ?_))
    exact hQq.get) : G := hwq ⟨x⟩
/-- A place: an object and the number of a fragment. -/
abbrev PK := Int × Int
def pkV (p : PK) : Value := .agg #[zv p.1, zv p.2]
theorem pkV_inj {p q : PK} (h : pkV p = pkV q) : p = q := by
  unfold pkV at h
  injection h with h
  have := congrArg Array.toList h
  simp at this
  exact Prod.ext this.1 this.2
theorem run_partP {w : World} (cs : Array Value) (i : Nat) (v : Value) (hv : cs[i]? = some v) : (part 3 cs i).run Tryz.prog w = .ok v w := by
  simp [part, Sem.run_bind, run_isAgg, Result.andThen, hv]
theorem run_eqP (d : Nat) (a b : PK) (w : World) : (Op.equalIn (d + 2) 76 (pkV a) (pkV b)).run Tryz.prog w = .ok (decide (a = b)) w := by
  obtain ⟨a1, a2⟩ := a
  obtain ⟨b1, b2⟩ := b
  have hq : ∀ x y : Int, (Op.equalIn (d + 1) 3 (.int .i64 x) (.int .i64 y)).run Tryz.prog w = .ok (x == y) w := fun x y => by
    simp [Op.equalIn, Sem.run_bind, run_underlying Tryz.underlying3, Result.andThen]
  have h0 := run_partP (w := w) #[zv a1, zv a2] 0 (zv a1) rfl
  have h1 := run_partP (w := w) #[zv a1, zv a2] 1 (zv a2) rfl
  have h2 := run_partP (w := w) #[zv b1, zv b2] 0 (zv b1) rfl
  have h3 := run_partP (w := w) #[zv b1, zv b2] 1 (zv b2) rfl
  have h4 : (Op.equalIn (d + 1) 3 (zv a1) (zv b1)).run Tryz.prog w = .ok (a1 == b1) w := hq a1 b1
  have h5 : (Op.equalIn (d + 1) 3 (zv a2) (zv b2)).run Tryz.prog w = .ok (a2 == b2) w := hq a2 b2
  have hd : decide ((a1, a2) = (b1, b2)) = ((a1 == b1) && (a2 == b2)) := by
    rw [Bool.eq_iff_iff, decide_eq_true_eq, Prod.mk.injEq, Bool.and_eq_true, beq_iff_eq, beq_iff_eq]
  have hst : Tryz.prog.stoodInHeld 76 = false := by kernel_rfl
  rw [hd]
  generalize (a1 == b1) = u at *
  generalize (a2 == b2) = v at *
  rw [show d + 2 = (d + 1) + 1 from rfl]
  unfold Op.equalIn pkV
  simp only [Sem.run_bind, run_underlying Tryz.underlying76, Result.andThen]
  cases u <;> cases v <;> simp [Sem.run_bind, Result.andThen, h0, h1, h2, h3, h4, h5, hst]
theorem run_checkKeyP {w : World} (em : Bool) (n : Nat) (a : PK) : (Instr.checkKey em (n + 2) 76 (pkV a)).run Tryz.prog w = .ok () w := by
  have hc : ∀ x : Int, (Instr.checkKey em (n + 1) 3 (.int .i64 x)).run Tryz.prog w = .ok () w := fun x => run_checkKey_int Tryz.underlying3 em n x
  have h0 := run_partP (w := w) #[zv a.1, zv a.2] 0 (zv a.1) rfl
  have h1 := run_partP (w := w) #[zv a.1, zv a.2] 1 (zv a.2) rfl
  have h2 : (Instr.checkKey em (n + 1) 3 (zv a.1)).run Tryz.prog w = .ok () w := hc a.1
  have h3 : (Instr.checkKey em (n + 1) 3 (zv a.2)).run Tryz.prog w = .ok () w := hc a.2
  rw [show n + 2 = (n + 1) + 1 from rfl]
  unfold Instr.checkKey pkV
  simp only [Sem.run_bind, run_underlying Tryz.underlying76, Result.andThen]
  simp [Sem.run_bind, Result.andThen, h0, h1, h2, h3]
theorem run_keyStaysP {w : World} (a : PK) : (Instr.keyThatStays (pkV a) (pkV a)).run Tryz.prog w = .ok (pkV a) w := by
  have : Instr.sameBits 10000 (pkV a) (pkV a) = true := by unfold pkV Instr.sameBits; simp [Instr.sameBits]
  unfold Instr.keyThatStays
  rw [this]; rfl
def msetP : List (PK × Value) → PK → Value → List (PK × Value)
  | [], x, v => [(x, v)]
  | (y, u) :: l, x, v => if x = y then (x, v) :: l else (y, u) :: msetP l x v
def mgetP : List (PK × Value) → PK → Option Value
  | [], _ => none
  | (y, u) :: l, x => if x = y then some u else mgetP l x
def midxP : List (PK × Value) → PK → Option (Nat × Value)
  | [], _ => none
  | (y, u) :: l, x => if x = y then some (0, u) else (midxP l x).map fun p => (p.1 + 1, p.2)
theorem run_askingP {w : World} (x : PK) : ∀ (es : List MapEntry) (l : List (PK × Value)) (i : Nat), es.map (fun e => (e.key, e.val)) = l.map (fun p => (pkV p.1, p.2)) →
    (Instr.findAsking 76 (pkV x) es i).run Tryz.prog w = .ok ((midxP l x).map fun p => (p.1 + i, p.2)) w
  | [], [], i, _ => rfl
  | [], _ :: _, _, h => by simp at h
  | _ :: _, [], _, h => by simp at h
  | e :: es, (y, u) :: l, i, h => by
    simp only [List.map_cons, List.cons.injEq, Prod.mk.injEq] at h
    obtain ⟨⟨h1, h2⟩, h3⟩ := h
    have heq : (Op.equal 76 (pkV x) e.key).run Tryz.prog w = .ok (decide (x = y)) w := by rw [h1]; exact run_eqP 9998 x y w
    unfold Instr.findAsking
    simp only [Sem.run_bind, heq, Result.andThen, midxP]
    by_cases hxy : x = y
    · subst hxy
      simp [h2]
    · rw [decide_eq_false hxy, if_neg hxy]
      simp only [Bool.false_eq_true, if_false]
      rw [run_askingP x es l (i + 1) h3]
      cases midxP l x with
      | none => rfl
      | some p => simp; omega
theorem run_findKeyP {w : World} (x : PK) (es : List MapEntry) (l : List (PK × Value)) (hes : es.map (fun e => (e.key, e.val)) = l.map (fun p => (pkV p.1, p.2))) :
    (Instr.findKey 76 (pkV x) es).run Tryz.prog w = .ok (midxP l x) w := by
  have hf : (Instr.findKey 76 (pkV x) es).run Tryz.prog w = (Instr.findAsking 76 (pkV x) es).run Tryz.prog w := by
    unfold Instr.findKey
    simp only [Sem.run_bind, run_underlying Tryz.underlying76, Result.andThen]
    match es, l, hes with
    | [], _, _ => rfl
    | e :: es, [], h => simp at h
    | e :: es, (y, u) :: l, h =>
      simp only [List.map_cons, List.cons.injEq, Prod.mk.injEq] at h
      unfold Instr.findNow
      rw [h.1.1]; rfl
  rw [hf, run_askingP x es l 0 hes]
  cases midxP l x <;> simp
theorem midxP_none {l : List (PK × Value)} {x : PK} (v : Value) (h : midxP l x = none) : msetP l x v = l ++ [(x, v)] := by
  induction l with
  | nil => rfl
  | cons p l ih =>
    obtain ⟨y, u⟩ := p
    simp only [midxP] at h
    by_cases hxy : x = y
    · rw [if_pos hxy] at h; cases h
    · rw [if_neg hxy] at h
      simp only [msetP, if_neg hxy, List.cons_append]
      rw [ih (by simpa using h)]
theorem midxP_some {l : List (PK × Value)} {x : PK} (v : Value) {i : Nat} {u : Value} (h : midxP l x = some (i, u)) : msetP l x v = l.set i (x, v) ∧ i < l.length ∧ l[i]? = some (x, u) := by
  induction l generalizing i u with
  | nil => cases h
  | cons p l ih =>
    obtain ⟨y, u'⟩ := p
    simp only [midxP] at h
    by_cases hxy : x = y
    · rw [if_pos hxy] at h
      cases h
      simp [msetP, hxy]
    · rw [if_neg hxy] at h
      rw [Option.map_eq_some_iff] at h
      obtain ⟨⟨j, u2⟩, h1, h2⟩ := h
      cases h2
      obtain ⟨h3, h4, h5⟩ := ih h1
      simp only [msetP, if_neg hxy, h3]
      exact ⟨by simp, by simpa using h4, by simpa using h5⟩
theorem midxP_get (l : List (PK × Value)) (x : PK) : (midxP l x).map (·.2) = mgetP l x := by
  induction l with
  | nil => rfl
  | cons p l ih =>
    obtain ⟨y, u⟩ := p
    simp only [midxP, mgetP]
    split
    · rfl
    · rw [← ih]; cases midxP l x <;> rfl
/-- A map that may be ranged over: what it holds, in the order in which it came; no stamp twice. -/
structure MPl (l : List (PK × Value)) (es : Array MapEntry) (clk : Nat) : Prop where
  ents : es.toList.map (fun e => (e.key, e.val)) = l.map fun p => (pkV p.1, p.2)
  born : ∀ e ∈ es.toList, e.born < clk
  nd : (es.toList.map (·.born)).Nodup
theorem MPl.nil : MPl [] #[] 0 := ⟨rfl, by simp, by simp⟩
theorem MPl.ent {l : List (PK × Value)} {es : Array MapEntry} {clk : Nat} (h : MPl l es clk) {e : MapEntry} (he : e ∈ es.toList) : ∃ p ∈ l, e.key = pkV p.1 ∧ e.val = p.2 := by
  have h1 : (e.key, e.val) ∈ es.toList.map (fun e => (e.key, e.val)) := List.mem_map.2 ⟨e, he, rfl⟩
  rw [h.ents] at h1
  obtain ⟨p, hp, e1⟩ := List.mem_map.1 h1
  simp only [Prod.mk.injEq] at e1
  exact ⟨p, hp, e1.1.symm, e1.2.symm⟩
theorem MPl.of {l : List (PK × Value)} {es : Array MapEntry} {clk : Nat} (h : MPl l es clk) {p : PK × Value} (hp : p ∈ l) : ∃ e ∈ es.toList, e.key = pkV p.1 ∧ e.val = p.2 := by
  have h1 : (pkV p.1, p.2) ∈ l.map fun p => (pkV p.1, p.2) := List.mem_map.2 ⟨p, hp, rfl⟩
  rw [← h.ents] at h1
  obtain ⟨e, he, e1⟩ := List.mem_map.1 h1
  simp only [Prod.mk.injEq] at e1
  exact ⟨e, he, e1.1, e1.2⟩
def pmP (l : List (PK × Value)) (o : Obj) : Prop := ∃ es clk, o = .map es clk ∧ MPl l es clk
def A.pm (b : Nat) (l : List (PK × Value)) : Atom := A.obj b (pmP l)
section
variable {w : World} {t e : TypeId} {b : Nat} {l : List (PK × Value)} {o : Obj} {z : Value} {sz bb : Nat}
theorem run_lookup_pm2 (ht : Tryz.prog.underlying t = some (.map 76 e)) [hi : ITy Tryz.prog e z sz bb] (hb : w.heap[b]? = some o) (ho : pmP l o) (x : PK) :
    (Instr.lookup t (.map (some b)) (pkV x) true).run Tryz.prog w = .ok (.tuple #[(mgetP l x).getD z, .bool (mgetP l x).isSome]) w := by
  obtain ⟨es, clk, rfl, h⟩ := ho
  have hf := run_findKeyP (w := w) x es.toList l h.ents
  unfold Instr.lookup
  simp only [Sem.run_bind, run_underlying ht, Result.andThen, run_getMap hb, Sem.run_pure, run_checkKeyP _ 9998 x, hf]
  rw [← midxP_get]
  cases midxP l x with
  | none => simp [run_zeroValue (h := hi)]
  | some p => simp
theorem run_mapUpdate_pm (ht : Tryz.prog.underlying t = some (.map 76 e)) (hb : w.heap[b]? = some o) (ho : pmP l o) (x : PK) (v : Value) :
    ∃ o', (Instr.mapUpdate t (.map (some b)) (pkV x) v).run Tryz.prog w = .ok () (w.putObj b o') ∧ pmP (msetP l x v) o' := by
  obtain ⟨es, clk, rfl, h⟩ := ho
  have hes := h.ents
  have hf := run_findKeyP (w := w) x es.toList l hes
  have hlen : es.size = l.length := by have := congrArg List.length hes; simpa using this
  cases hm : midxP l x with
  | none =>
    refine ⟨.map (es.push { key := pkV x, val := v, born := clk }) (clk + 1), ?_, ?_⟩
    · rw [hm] at hf
      unfold Instr.mapUpdate
      simp only [Sem.run_bind, run_underlying ht, Result.andThen, run_getMap hb, run_checkKeyP _ 9998 x, hf, run_setMap _ hb]
    · refine ⟨_, _, rfl, ?_, ?_, ?_⟩
      · rw [midxP_none v hm]
        simp [hes]
      · intro y hy
        rw [Array.toList_push] at hy
        rcases List.mem_append.1 hy with hy | hy
        · exact Nat.lt_succ_of_lt (h.born y hy)
        · rw [List.mem_singleton] at hy; subst hy; exact Nat.lt_succ_self _
      · rw [Array.toList_push, List.map_append]
        refine List.nodup_append.2 ⟨h.nd, by simp, fun a ha c hc e => ?_⟩
        obtain ⟨y, hy, rfl⟩ := List.mem_map.1 ha
        simp only [List.map_cons, List.map_nil, List.mem_singleton] at hc
        have := h.born y hy
        omega
  | some p =>
    obtain ⟨i, u⟩ := p
    obtain ⟨h1, h2, h3⟩ := midxP_some v hm
    have hi : i < es.size := by omega
    have hkey : es[i].key = pkV x := by
      have := congrArg (fun l => l[i]?) hes
      simp [h3, hi] at this
      exact this.1
    have hb2 : (es.modify i fun e => { e with key := pkV x, val := v }).toList.map (·.born) = es.toList.map (·.born) := by
      apply List.ext_getElem?
      intro j
      simp only [List.getElem?_map, Array.getElem?_toList]
      rw [Array.getElem?_modify]
      by_cases e : i = j
      · subst e; simp [hi]
      · simp [e]
    refine ⟨.map (es.modify i fun e => { e with key := pkV x, val := v }) clk, ?_, ?_⟩
    · rw [hm] at hf
      have hk2 : ((es[i]?).map (·.key)).getD (pkV x) = pkV x := by simp [hi, hkey]
      unfold Instr.mapUpdate
      simp only [Sem.run_bind, run_underlying ht, Result.andThen, run_getMap hb, run_checkKeyP _ 9998 x, hf, hk2, run_keyStaysP, run_setMap _ hb]
    · refine ⟨_, _, rfl, ?_, ?_, ?_⟩
      · rw [h1]
        apply List.ext_getElem?
        intro j
        have hj := congrArg (fun l => l[j]?) hes
        simp only [List.getElem?_map, Array.getElem?_toList] at hj ⊢
        rw [Array.getElem?_modify, List.getElem?_set]
        by_cases e : i = j
        · subst e
          simp [hi, h2]
        · simp only [if_neg e]
          exact hj
      · intro y hy
        have h4 : y.born ∈ (es.modify i fun e => { e with key := pkV x, val := v }).toList.map (·.born) := List.mem_map.2 ⟨y, hy, rfl⟩
        rw [hb2] at h4
        obtain ⟨y0, h5, h6⟩ := List.mem_map.1 h4
        rw [← h6]; exact h.born y0 h5
      · rw [hb2]; exact h.nd
end
section
variable {r : Option Nat} {N : Nat} {ds : List Deferred} {ol rest : List Oper} {Q : Post} {E : Env} {w0 : World} {H : List Atom} {next : Act → World → Prop} {g : Option (Nat × Bool)}
variable {d : Nat} {t ty : TypeId} {pos : String} {af : Array Edge} {x y z : Operand}
theorem H1.mkpm (hd : Nat.blt d N = true) (h : ∀ b, HN N ds next ((d, .map (some b)) :: E) w0 (A.pm b [] :: H)) : H1 Tryz.prog r N ds next ⟨some d, .makeMap t none, ty, pos, af, g⟩ Q E w0 H := fun w hM =>
  W1.run (v := .map (some w.heap.size)) (w' := w.alloc (.map #[] 0)) (fun _ _ => rfl) rfl hd (h _ _ (by
    refine (hM.more (Ext.alloc w _)).cons ⟨_, World.alloc_heap_new w _, _, _, rfl, MPl.nil⟩ (by simp [A.pm, A.obj]) fun b hb => ?_
    have hb' : b = w.heap.size := by simpa [A.pm, A.obj] using hb
    subst hb'
    refine ⟨fun hm => ?_, hM.ext.size, by simp⟩
    have := (hM.rng _ hm).2
    omega))
theorem H1.pmget2 {b : Nat} {e : TypeId} {l : List (PK × Value)} {n : PK} {zv : Value} {sz bb : Nat} [ht : UTy Tryz.prog t (.map 76 e)] [hi : ITy Tryz.prog e zv sz bb] (hx : Env.ev E x = some (.map (some b))) (hy : Env.ev E y = some (pkV n))
    (hm : A.pm b l ∈ H) (hd : Nat.blt d N = true) (h : HN N ds next ((d, .tuple #[(mgetP l n).getD zv, .bool (mgetP l n).isSome]) :: E) w0 H) : H1 Tryz.prog r N ds next ⟨some d, .lookup t x y true, ty, pos, af, g⟩ Q E w0 H := fun w hM => by
  obtain ⟨o, h1, h2⟩ : ∃ o, w.heap[b]? = some o ∧ pmP l o := hM.all _ hm
  refine W1.run (v := .tuple #[(mgetP l n).getD zv, .bool (mgetP l n).isSome]) (w' := w) (fun a ha' => ?_) rfl hd (h w hM)
  simp only [execOp, ha'.ev hx, ha'.ev hy, Sem.run_bind, run_lookup_pm2 ht.is h1 h2 n, Result.andThen, Sem.run_pure]
theorem H1.pmset {b : Nat} {e : TypeId} {l : List (PK × Value)} {n : PK} {v : Value} {H' : List Atom} [ht : UTy Tryz.prog t (.map 76 e)] (hx : Env.ev E x = some (.map (some b))) (hy : Env.ev E y = some (pkV n)) (hz : Env.ev E z = some v)
    (hr : Rpl (A.pm b l) (A.pm b (msetP l n v)) H H') (h : HN N ds next E w0 H') : H1 Tryz.prog r N ds next ⟨none, .mapUpdate t x y z, ty, pos, af, g⟩ Q E w0 H := fun w hM => by
  obtain ⟨o, hb, ho⟩ : ∃ o, w.heap[b]? = some o ∧ pmP l o := hM.all _ hr.mem
  obtain ⟨o', hrun, ho'⟩ := run_mapUpdate_pm  ht.is hb ho n v
  have hlt := (Array.getElem?_eq_some_iff.1 hb).1
  refine W1.skip (w' := w.putObj b o') (fun a ha => ?_) rfl rfl (h _ (hM.turn hr rfl rfl rfl (by simp) (fun k _ hk' => ?_) ⟨o', World.putObj_heap_same hlt, ho'⟩ (by simp [A.pm, A.obj]) fun b' hb' => .inl hb'))
  · simp only [execOp, ha.ev hx, ha.ev hy, ha.ev hz, Sem.run_bind, hrun, Result.andThen, Sem.run_pure]
  · exact World.putObj_heap_other (by simpa [A.pm, A.obj] using hk')
end
end Go.Sx
/- Chapter 27: a custodian: its state, and the small functions. -/
namespace Go.Sx
open Go Go.Proofs Go.RowKit
/-- A valid place. -/
def okP (p : PK) : Prop := 1 ≤ p.1 ∧ p.1 ≤ 1000000 ∧ 0 ≤ p.2 ∧ p.2 < 9
instance (p : PK) : Decidable (okP p) := by unfold okP; infer_instance
theorem pkV_cells (p : PK) : pkV p = .agg [zv p.1, zv p.2].toArray := rfl
/-- Numbers, written behind a string. -/
def putsB (s : ByteArray) : List Nat → ByteArray
  | [] => s
  | n :: l => putsB (s ++ strN n) l
def intsN (l : List Nat) : List Int := l.map fun n : Nat => (n : Int)
theorem intsN_get {l : List Nat} {i : Nat} (h : i < l.length) : (ints (intsN l))[i]? = some (zv ((l.getD i 0 : Nat) : Int)) := by
  simp [ints, intsN, h]
theorem putsB_snoc : ∀ (l : List Nat) (s : ByteArray) (n : Nat), putsB s (l ++ [n]) = putsB s l ++ strN n
  | [], _, _ => rfl
  | x :: l, s, n => putsB_snoc l (s ++ strN x) n
theorem putsB_size : ∀ (l : List Nat) (s : ByteArray), (∀ n ∈ l, n ≤ 1099511627776) → (putsB s l).size ≤ s.size + 9 * l.length
  | [], _, _ => Nat.le_refl _
  | x :: l, s, h => by
    have h1 := putsB_size l (s ++ strN x) fun n hn => h n (List.mem_cons_of_mem _ hn)
    have h2 := strN_size (h x (List.mem_cons_self ..))
    rw [ByteArray.size_append] at h1
    show (putsB (s ++ strN x) l).size ≤ s.size + 9 * (l.length + 1)
    omega
attribute [local irreducible] WC WL WX POp Then Again Fn NX W1 WA WO QL RP RA Yld LoopAt HC HL HX HN H1 HA HO HQ HB HP A.blk A.grow A.rd A.obj A.mp AgainH CutH
theorem isValid_fn (p : PK) (w : World) : Fn Tryz.prog 42 #[pkV p] w fun v w' => v = .bool (decide (okP p)) ∧ Ext w w' := by
  obtain ⟨o, f⟩ := p
  rw [pkV_cells]
  refine enterH (l := [_]) rfl Tryz.ntmps42 rfl ?_
  refine hwYB ?_
  refine HL.one (H1.boxAgg (cs := [zv o, zv f]) rfl rfl (fun b1 => ?_))
  by_cases h1 : 1 ≤ o
  · by_cases h2 : o ≤ 1000000
    · by_cases h3 : 0 ≤ f
      · by_cases h4 : f < 9
        · refine hwYB ?_
          exact HX.ret1 rfl rfl fun w' hM => ⟨by rw [decide_eq_true h4, decide_eq_true (p := okP (o, f)) ⟨h1, h2, h3, h4⟩], hM.ext⟩
        · refine hwYB ?_
          exact HX.ret1 rfl rfl fun w' hM => ⟨by rw [decide_eq_false h4, decide_eq_false (p := okP (o, f)) fun h => h4 h.2.2.2], hM.ext⟩
      · refine hwYB ?_
        exact HX.ret1 rfl rfl fun w' hM => ⟨by rw [decide_eq_false (p := okP (o, f)) fun h => h3 h.2.2.1], hM.ext⟩
    · refine hwYB ?_
      exact HX.ret1 rfl rfl fun w' hM => ⟨by rw [decide_eq_false (p := okP (o, f)) fun h => h2 h.2.1], hM.ext⟩
  · refine hwYB ?_
    exact HX.ret1 rfl rfl fun w' hM => ⟨by rw [decide_eq_false (p := okP (o, f)) fun h => h1 h.1], hM.ext⟩
theorem put27_fn (s : ByteArray) (l : List Nat) (v : Value) (hs : s.size ≤ 100000) (hn : ∀ n ∈ l, n ≤ 1099511627776) (hl : l.length ≤ 100) (w : World) (hR : Rd w v (ints (intsN l))) :
    Fn Tryz.prog 45 #[.string s, v] w fun v w' => v = .string (putsB s l) ∧ Ext w w' := by
  obtain ⟨a0, c0, rfl, hc0⟩ : ∃ a0 c0, v = .slice a0 l.length c0 ∧ l.length ≤ c0 := by
    obtain ⟨a, c, h1, h2, -⟩ := hR
    rw [ints_len] at h1 h2
    have : (intsN l).length = l.length := by simp [intsN]
    rw [this] at h1 h2
    exact ⟨a, c, h1, h2⟩
  refine enterH (l := [_, _]) rfl Tryz.ntmps45 rfl ?_
  refine hwYB ?_
  refine HC.loop (α := Nat) (fun i => [(0, .string (putsB s (l.take i))), (9, .slice a0 l.length c0), (10, zv (l.length : Int)), (11, zv (i : Int))]) (fun _ => []) (fun i => i ≤ l.length) (fun i => l.length - i) 0 (Nat.zero_le _) esA (Hs.refl _) ?_
  intro i hi
  by_cases hlt : i < l.length
  · obtain ⟨b, off, rfl⟩ : ∃ b off, a0 = some ⟨b, off, none⟩ := by
      obtain ⟨a, c, h1, h2, h3⟩ := hR
      have : (intsN l).length = l.length := by simp [intsN]
      rw [ints_len, this] at h1
      cases h1
      rcases h3 with h3 | ⟨b, off, h4, -⟩
      · have : l = [] := by simpa [ints, intsN] using h3
        subst this; cases hlt
      · exact ⟨b, off, h4⟩
    have hget := hR.cell (intsN_get hlt)
    have htk : l.take (i + 1) = l.take i ++ [l.getD i 0] := by
      rw [List.take_add_one, List.getElem?_eq_getElem hlt]
      simp [hlt]
    have hmem : l.getD i 0 ∈ l := by simp [hlt]
    have hnn := hn _ hmem
    have hsn := putsB_snoc (l.take i) s (l.getD i 0)
    rw [← htk] at hsn
    have hsz := putsB_size (l.take i) s fun n h => hn n (List.mem_of_mem_take h)
    rw [List.length_take] at hsz
    generalize l.getD i 0 = n at hget hnn hsn
    have hns := strN_size hnn
    refine hwYB ?_
    refine HL.one (H1.ld0 rfl hget rfl ?_)
    refine hwYB ?_
    refine HL.one (H1.callx (vs := [zv (n : Int)]) rfl rfl (fun w' _ => putInt_fn n hnn w') ?_)
    refine hwYB ?_
    rw [← hsn]
    refine hwYB ?_
    exact HX.again (i + 1) hlt (by show l.length - (i + 1) < l.length - i; omega) esA (Hs.refl _)
  · obtain rfl : i = l.length := by omega
    rw [List.take_length]
    refine hwYB ?_
    exact HX.ret1 rfl rfl fun w' hM => ⟨rfl, hM.ext⟩
end Go.Sx
/- Chapter 27: Store, Fetch, Expected, Answer: the walks. -/
namespace Go.Sx
open Go Go.Proofs Go.RowKit
theorem hwYC {G G2 : Prop} (x : G2) (hwq : Hold G2 → G := by
    intro hQq
    repeat' (first | refine HL.pa ?_ (POp.pnil1 rfl rfl) | refine HL.pa ?_ (POp.pnil0 rfl rfl) | refine HL.pa ?_ (POp.nilCheck rfl) | apply HL.fold | apply HA.fold | apply HL.nil | apply HX.n_then | apply HC.seq | apply HC.region | refine HL.pa ?_ | refine HL.ga rfl ?_ | refine HL.na rfl ?_ | refine HL.nu rfl rfl ?_ | apply HC.block | apply HC.skip | apply HC.exit | apply HC.ret | apply HX.e_block | refine HX.e_other rfl ?_ | apply HX.e_then | apply HX.e_again | apply HX.n_block | apply HX.r_then | apply HX.r_block | apply HX.r_again | refine HC.cond_yes rfl ?_ | refine HC.cond_no rfl ?_ | refine HL.one (H1.ldb rfl memA rfl rfl ?_) | refine HC.cond rfl (fun hc => ?_) (fun hc => ?_) | refine HC.cond_b rfl (fun hc => ?_) (fun hc => ?_))
    exact hQq.get) : G := hwq ⟨x⟩
abbrev PM := List (PK × ByteArray)
def liftP (m : PM) : List (PK × Value) := m.map fun p => (p.1, .string p.2)
def getM : PM → PK → Option ByteArray
  | [], _ => none
  | (y, u) :: l, x => if x = y then some u else getM l x
def setM : PM → PK → ByteArray → PM
  | [], x, v => [(x, v)]
  | (y, u) :: l, x, v => if x = y then (x, v) :: l else (y, u) :: setM l x v
theorem mgetP_lift (m : PM) (k : PK) : mgetP (liftP m) k = (getM m k).map Value.string := by
  induction m with
  | nil => rfl
  | cons p m ih =>
    obtain ⟨y, u⟩ := p
    show (if k = y then some (Value.string u) else mgetP (liftP m) k) = Option.map Value.string (if k = y then some u else getM m k)
    split
    · rfl
    · exact ih
theorem msetP_lift (m : PM) (k : PK) (s : ByteArray) : msetP (liftP m) k (.string s) = liftP (setM m k s) := by
  induction m with
  | nil => rfl
  | cons p m ih =>
    obtain ⟨y, u⟩ := p
    show (if k = y then (k, Value.string s) :: liftP m else (y, Value.string u) :: msetP (liftP m) k (.string s)) = liftP (if k = y then (k, s) :: m else (y, u) :: setM m k s)
    split
    · rfl
    · rw [ih]; rfl
/-- The cells of a custodian. -/
def cuC (bm bj : Nat) : List Value := [.map (some bm), .pointer (some ⟨bj, 0, none⟩)]
abbrev cuH (bx bm bj bd b1 b2 : Nat) (a : Option Addr) (c : Nat) (pa : Option Addr) (pc : Nat) (m : PM) (j : Jn) (H : List Atom) : List Atom :=
  A.blk bx (cuC bm bj) 84 :: A.pm bm (liftP m) :: jnlH bj bd b1 b2 a c pa pc j H
/-- A fragment's record. -/
def recS (p : PK) (s : ByteArray) : ByteArray := putsB (mkB 115) [p.1.toNat, p.2.toNat] ++ (strN s.size ++ s)
def recD (o : Int) : ByteArray := putsB (mkB 100) [o.toNat]
theorem recS_size {p : PK} {s : ByteArray} (hp : okP p) (hs : s.size ≤ 4096) : (recS p s).size ≤ 4200 := by
  obtain ⟨h1, h2, h3, h4⟩ := hp
  have h5 := putsB_size [p.1.toNat, p.2.toNat] (mkB 115) (by
    intro n hn
    rcases List.mem_cons.1 hn with rfl | hn
    · omega
    rcases List.mem_cons.1 hn with rfl | hn
    · omega
    · cases hn)
  have h6 := strN_size (n := s.size) (by omega)
  have h7 : (mkB 115).size = 1 := rfl
  unfold recS
  rw [ByteArray.size_append, ByteArray.size_append]
  simp only [List.length_cons, List.length_nil] at h5
  omega
theorem recD_size {o : Int} (h2 : o ≤ 1000000) : (recD o).size ≤ 10 := by
  have h5 := putsB_size [o.toNat] (mkB 100) (by
    intro n hn
    rcases List.mem_cons.1 hn with rfl | hn
    · omega
    · cases hn)
  have h7 : (mkB 100).size = 1 := rfl
  unfold recD
  simp only [List.length_cons, List.length_nil] at h5
  omega
/-- Store: the error, the fragments, the journal. -/
def storeF (m : PM) (j : Jn) (p : PK) (s : ByteArray) : Int × PM × Jn :=
  if ¬ okP p ∨ 4096 < s.size then (270, m, j) else ((j.append [recS p s]).1, if (j.append [recS p s]).1 = 0 then setM m p s else m, (j.append [recS p s]).2)
def fetchV (m : PM) (p : PK) : Value := match getM m p with
  | some s => .tuple #[.string s, zv 0]
  | none => .tuple #[.string (ByteArray.mk #[]), zv 271]
/-- The answer to an audit. -/
def expB (s ch : ByteArray) : ByteArray := if 65536 < ch.size then ByteArray.mk #[] else sumS ((strN ch.size ++ ch) ++ s)
attribute [local irreducible] WC WL WX POp Then Again Fn NX W1 WA WO QL RP RA Yld LoopAt HC HL HX HN H1 HA HO HQ HB HP A.blk A.grow A.rd A.obj A.mp AgainH CutH
attribute [local irreducible] A.pm sumS
theorem cappend_fn {w0 w : World} {H : List Atom} {bx bm bj bd b1 b2 c pc : Nat} {a pa : Option Addr} {m : PM} {j : Jn} {s : ByteArray} {r : Int × Jn} (hr : j.append [s] = r) (hG : RoundG w0) (hM : Mm w0 (cuH bx bm bj bd b1 b2 a c pa pc m j H) w) (hj : JOk j) (hs : s.size ≤ 65536) :
    Fn Tryz.prog 44 #[.pointer (some ⟨bx, 0, none⟩), .string s] w fun v w' => ∃ q : (Option Addr × Nat) × (Option Addr × Nat), True ∧ v = zv r.1 ∧ Mm w0 (cuH bx bm bj bd b1 b2 q.1.1 q.1.2 q.2.1 q.2.2 m r.2 H) w' := by
  refine enterK (l := [_, _]) hM rfl Tryz.ntmps44 rfl ?_
  refine hwYC ?_
  refine HL.one (H1.lit (cs := strs [s]) rfl rfl rfl rfl rfl rfl (fun b9 => ?_))
  refine hwYC ?_
  refine HL.one (H1.callk (α := (Option Addr × Nat) × (Option Addr × Nat)) (V := fun _ => zv r.1) (I := fun _ => True) (H' := fun q => jnlH bj bd b1 b2 q.1.1 q.1.2 q.2.1 q.2.2 r.2 (A.blk bx (cuC bm bj) 84 :: A.pm bm (liftP m) :: H)) (vs := [_, .slice (some ⟨b9, 0, none⟩) 1 1]) rfl rfl
    (fun w' hM => appendB_fn (g := [s]) hr hG (hM.sub (Hs.cons Pick.here (Hs.cons (Pick.there (Pick.there Pick.here)) (Hs.cons (Pick.there (Pick.there Pick.here)) (Hs.cons (Pick.there (Pick.there Pick.here)) (Hs.cons (Pick.there (Pick.there Pick.here)) (Hs.cons (Pick.there (Pick.there Pick.here)) (Hs.cons (Pick.there (Pick.there Pick.here)) (Hs.refl _))))))))) hj (by show 1 ≤ 1000; decide) (fun _ => by
      show (outL j.t.head s ++ []).length ≤ _
      have h1 := outL_len j.t.head s
      have h2 := strN_size (n := s.size) (by omega)
      rw [List.append_nil]; omega)) ?_)
  rintro ⟨⟨a2, c2⟩, ⟨pa2, pc2⟩⟩ -
  dsimp only
  refine hwYC ?_
  exact HX.ret1 rfl rfl fun w' hM => ⟨((a2, c2), (pa2, pc2)), trivial, rfl, hM.sub (Hs.cons (Pick.there (Pick.there (Pick.there (Pick.there (Pick.there (Pick.there Pick.here)))))) (Hs.cons (Pick.there (Pick.there (Pick.there (Pick.there (Pick.there (Pick.there Pick.here)))))) (Hs.refl _)))⟩
theorem fetch_fn {w0 w : World} {H : List Atom} {bx bm bj : Nat} {m : PM} (p : PK) (hM : Mm w0 (A.blk bx (cuC bm bj) 84 :: A.pm bm (liftP m) :: H) w) :
    Fn Tryz.prog 26 #[.pointer (some ⟨bx, 0, none⟩), zv p.1, zv p.2] w fun v w' => ∃ _ : Unit, True ∧ v = fetchV m p ∧ Mm w0 (A.blk bx (cuC bm bj) 84 :: A.pm bm (liftP m) :: H) w' := by
  refine enterK (l := [_, _, _]) hM rfl Tryz.ntmps26 rfl ?_
  refine hwYC ?_
  refine HL.build (cs := [zv p.1, zv p.2]) rfl rfl rfl ?_
  refine hwYC ?_
  refine HL.one (H1.pmget2 (n := p) (l := liftP m) rfl rfl memA rfl ?_)
  rw [mgetP_lift]
  unfold fetchV
  cases getM m p with
  | none =>
    dsimp only [Option.map, Option.getD, Option.isSome]
    refine hwYC ?_
    exact HX.ret2 rfl rfl rfl fun w' hM => ⟨(), trivial, rfl, hM⟩
  | some s =>
    dsimp only [Option.map, Option.getD, Option.isSome]
    refine hwYC ?_
    exact HX.ret2 rfl rfl rfl fun w' hM => ⟨(), trivial, rfl, hM⟩
theorem putStringLong_fn (s : ByteArray) (hs : 65536 < s.size) (w : World) : Fn Tryz.prog 43 #[.string s] w fun v w' => v = .tuple #[.string (ByteArray.mk #[]), zv 10] ∧ w = w' := by
  have hs' : (65536 : Int) < (s.size : Int) := by omega
  refine enter (l := [_]) rfl Tryz.ntmps43 rfl ?_
  repeat' (first | apply WL.fold | apply WA.fold | apply WL.nil | apply WX.n_then | apply WC.seq | apply WC.region | refine WL.pa ?_ | refine WL.ga rfl ?_ | refine WL.na rfl ?_ | refine WL.nu rfl rfl ?_ | apply WC.block | apply WC.skip | apply WC.exit | apply WC.ret | apply WX.e_block | refine WX.e_other rfl ?_ | apply WX.e_then | apply WX.e_again | apply WX.n_block | apply WX.r_then | apply WX.r_block | apply WX.r_again | refine WC.cond_yes rfl ?_ | refine WC.cond_no rfl ?_ | refine WC.cond rfl (fun hc => ?_) (fun hc => ?_) | refine WC.cond_b rfl (fun hc => ?_) (fun hc => ?_))
  exact WX.ret2 rfl rfl rfl ⟨rfl, rfl⟩
theorem expected_fn {w : World} (s ch : ByteArray) (hG : RoundG w) (hs : s.size ≤ 100000) : Fn Tryz.prog 15 #[.string s, .string ch] w fun v w' => v = .string (expB s ch) ∧ Ext w w' := by
  refine enterH (l := [_, _]) rfl Tryz.ntmps15 rfl ?_
  unfold expB
  by_cases hc : 65536 < ch.size
  · rw [if_pos hc]
    refine hwYC ?_
    refine HL.one (H1.call0 (vs := [_]) rfl rfl (fun w' _ => putStringLong_fn ch hc w') ?_)
    refine hwYC ?_
    exact HX.ret1 rfl rfl fun w' hM => ⟨rfl, hM.ext⟩
  · have hz := strN_size (n := ch.size) (by omega)
    have h1 := ba_append_size (strN ch.size) ch
    have h2 := ba_append_size (strN ch.size ++ ch) s
    rw [if_neg hc]
    refine hwYC ?_
    refine HL.one (H1.callx (vs := [_]) rfl rfl (fun w' _ => putString_fn ch (by omega) w') ?_)
    refine hwYC ?_
    refine HL.one (H1.callx (vs := [_]) rfl rfl (fun w' hM => sum_fn ((strN ch.size ++ ch) ++ s) (by omega) w' (hG.ext hM.ext)) ?_)
    refine hwYC ?_
    exact HX.ret1 rfl rfl fun w' hM => ⟨rfl, hM.ext⟩
/-- The answer of a custodian. -/
def ansV (m : PM) (p : PK) (ch : ByteArray) : Value := if 65536 < ch.size then .tuple #[.string (ByteArray.mk #[]), zv 270] else match getM m p with
  | some s => .tuple #[.string (expB s ch), zv 0]
  | none => .tuple #[.string (ByteArray.mk #[]), zv 271]
theorem answer_fn {w0 w : World} {H : List Atom} {bx bm bj : Nat} {m : PM} (p : PK) (ch : ByteArray) (hG : RoundG w0) (hM : Mm w0 (A.blk bx (cuC bm bj) 84 :: A.pm bm (liftP m) :: H) w) (hs : ∀ s, getM m p = some s → s.size ≤ 100000) :
    Fn Tryz.prog 14 #[.pointer (some ⟨bx, 0, none⟩), zv p.1, zv p.2, .string ch] w fun v w' => ∃ _ : Unit, True ∧ v = ansV m p ch ∧ Mm w0 (A.blk bx (cuC bm bj) 84 :: A.pm bm (liftP m) :: H) w' := by
  refine enterK (l := [_, _, _, _]) hM rfl Tryz.ntmps14 rfl ?_
  unfold ansV
  by_cases hc : 65536 < ch.size
  · have hc' : (65536 : Int) < (ch.size : Int) := by omega
    rw [if_pos hc]
    refine hwYC ?_
    exact HX.ret2 rfl rfl rfl fun w' hM => ⟨(), trivial, rfl, hM⟩
  · have hc' : ¬ (65536 : Int) < (ch.size : Int) := by omega
    rw [if_neg hc]
    have hf := fun w' => fetch_fn (w0 := w0) (w := w') (bx := bx) (bm := bm) (bj := bj) (m := m) (H := H) p
    unfold fetchV at hf
    cases hg : getM m p with
    | none =>
      rw [hg] at hf
      dsimp only at hf
      refine hwYC ?_
      refine HL.one (H1.callk (α := Unit) (V := fun _ => .tuple #[.string (ByteArray.mk #[]), zv 271]) (I := fun _ => True) (H' := fun _ => A.blk bx (cuC bm bj) 84 :: A.pm bm (liftP m) :: H) (vs := [_, _, _]) rfl rfl (fun w' hM => hf w' hM) ?_)
      rintro - -
      refine hwYC ?_
      exact HX.ret2 rfl rfl rfl fun w' hM => ⟨(), trivial, rfl, hM⟩
    | some s =>
      rw [hg] at hf
      dsimp only at hf
      refine hwYC ?_
      refine HL.one (H1.callk (α := Unit) (V := fun _ => .tuple #[.string s, zv 0]) (I := fun _ => True) (H' := fun _ => A.blk bx (cuC bm bj) 84 :: A.pm bm (liftP m) :: H) (vs := [_, _, _]) rfl rfl (fun w' hM => hf w' hM) ?_)
      rintro - -
      refine hwYC ?_
      refine HL.one (H1.callx (vs := [_, _]) rfl rfl (fun w' hM => expected_fn s ch (hG.ext hM.ext) (hs s hg)) ?_)
      refine hwYC ?_
      exact HX.ret2 rfl rfl rfl fun w' hM => ⟨(), trivial, rfl, hM⟩
set_option maxHeartbeats 1000000 in
theorem store_fn {w0 w : World} {H : List Atom} {bx bm bj bd b1 b2 c pc : Nat} {a pa : Option Addr} {m : PM} {j : Jn} (p : PK) (s : ByteArray) (hG : RoundG w0) (hM : Mm w0 (cuH bx bm bj bd b1 b2 a c pa pc m j H) w) (hj : JOk j) :
    Fn Tryz.prog 13 #[.pointer (some ⟨bx, 0, none⟩), zv p.1, zv p.2, .string s] w fun v w' => ∃ q : (Option Addr × Nat) × (Option Addr × Nat), True ∧ v = zv (storeF m j p s).1 ∧ Mm w0 (cuH bx bm bj bd b1 b2 q.1.1 q.1.2 q.2.1 q.2.2 (storeF m j p s).2.1 (storeF m j p s).2.2 H) w' := by
  refine enterK (l := [_, _, _, _]) hM rfl Tryz.ntmps13 rfl ?_
  refine hwYC ?_
  refine HL.build (cs := [zv p.1, zv p.2]) rfl rfl rfl ?_
  refine hwYC ?_
  refine HL.one (H1.alloc (cs := [zv 0, zv 0]) rfl rfl (fun b9 => ?_))
  refine hwYC ?_
  refine HL.one (H1.stAgg (cs := [zv 0, zv 0]) (vs := [zv p.1, zv p.2]) rfl rfl rfl (by intro v hv; rcases List.mem_cons.1 hv with rfl | hv; rfl; rcases List.mem_cons.1 hv with rfl | hv; rfl; cases hv) rplA rfl ?_)
  refine hwYC ?_
  refine HL.one (H1.ldAgg (vs := [zv p.1, zv p.2]) rfl memA rfl (fun i v hv => by rw [Nat.zero_add]; exact hv) rfl ?_)
  refine hwYC ?_
  refine HL.one (H1.callx (vs := [pkV p]) rfl rfl (fun w' _ => isValid_fn p w') ?_)
  by_cases hv : okP p
  rotate_left
  · have hF : storeF m j p s = (270, m, j) := by unfold storeF; rw [if_pos (.inl hv)]
    rw [hF, decide_eq_false hv]
    refine hwYC ?_
    exact HX.ret1 rfl rfl fun w' hM => ⟨((a, c), (pa, pc)), trivial, rfl, hM.tail⟩
  rw [decide_eq_true hv]
  by_cases hl : 4096 < s.size
  · have hF : storeF m j p s = (270, m, j) := by unfold storeF; rw [if_pos (.inr hl)]
    have hl' : (4096 : Int) < (s.size : Int) := by omega
    rw [hF]
    refine hwYC ?_
    exact HX.ret1 rfl rfl fun w' hM => ⟨((a, c), (pa, pc)), trivial, rfl, hM.tail⟩
  have hl' : ¬ (4096 : Int) < (s.size : Int) := by omega
  obtain ⟨e, j2, hap⟩ : ∃ e j2, j.append [recS p s] = (e, j2) := ⟨_, _, rfl⟩
  have hF : storeF m j p s = (e, if e = 0 then setM m p s else m, j2) := by
    unfold storeF
    rw [if_neg (by rintro (h | h); exact h hv; exact hl h), hap]
  have hrs := recS_size hv (s := s) (by omega)
  rw [hF]
  dsimp only
  refine hwYC ?_
  refine HL.one (H1.callx (vs := [_]) rfl rfl (fun w' _ => putString_fn s (by omega) w') ?_)
  refine hwYC ?_
  refine HL.one (H1.lit (cs := [zv p.1, zv p.2]) rfl rfl rfl rfl rfl rfl (fun b8 => ?_))
  refine hwYC ?_
  have hv0 := hv
  obtain ⟨k1, k2, k3, k4⟩ := hv0
  have hns : ∀ n ∈ [p.1.toNat, p.2.toNat], n ≤ 1099511627776 := by
    intro n hn
    rcases List.mem_cons.1 hn with rfl | hn
    · omega
    rcases List.mem_cons.1 hn with rfl | hn
    · omega
    · cases hn
  have e12 : ints (intsN [p.1.toNat, p.2.toNat]) = [zv p.1, zv p.2] := by
    have e1 : ((p.1.toNat : Nat) : Int) = p.1 := by omega
    have e2 : ((p.2.toNat : Nat) : Int) = p.2 := by omega
    show [zv ((p.1.toNat : Nat) : Int), zv ((p.2.toNat : Nat) : Int)] = _
    rw [e1, e2]
  have hps := putsB_size [p.1.toNat, p.2.toNat] (mkB 115) hns
  have hz := strN_size (n := s.size) (by omega)
  have hzz := ba_append_size (strN s.size) s
  have hm1 : (mkB 115).size = 1 := rfl
  simp only [List.length_cons, List.length_nil] at hps
  refine HL.one (H1.callx (vs := [.string (mkB 115), .slice (some ⟨b8, 0, none⟩) 2 2]) rfl rfl (fun w' hM => put27_fn (mkB 115) [p.1.toNat, p.2.toNat] _ (by decide) hns (by show 2 ≤ 100; decide) w' (by rw [e12]; exact blk_rd (e := 3) (hM.blk (.head _)) rfl)) ?_)
  refine hwYC ?_
  refine HL.one (H1.callk (α := (Option Addr × Nat) × (Option Addr × Nat)) (V := fun _ => zv e) (I := fun _ => True) (H' := fun q => cuH bx bm bj bd b1 b2 q.1.1 q.1.2 q.2.1 q.2.2 m j2 (A.blk b9 [zv p.1, zv p.2] 76 :: H)) (vs := [_, .string (recS p s)]) rfl rfl
    (fun w' hM => cappend_fn hap hG (hM.sub (Hs.cons (Pick.there (Pick.there Pick.here)) (Hs.cons (Pick.there (Pick.there Pick.here)) (Hs.cons (Pick.there (Pick.there Pick.here)) (Hs.cons (Pick.there (Pick.there Pick.here)) (Hs.cons (Pick.there (Pick.there Pick.here)) (Hs.cons (Pick.there (Pick.there Pick.here)) (Hs.cons (Pick.there (Pick.there Pick.here)) (Hs.cons (Pick.there (Pick.there Pick.here)) ((Hs.refl _).skip)))))))))) hj (by omega)) ?_)
  rintro ⟨⟨a2, c2⟩, ⟨pa2, pc2⟩⟩ -
  dsimp only
  by_cases he : e = 0
  · rw [if_pos he]
    refine hwYC ?_
    refine HC.anyC (cellsA b9 [zv p.1, zv p.2] ++ [(⟨bx, 0, none⟩, .map (some bm))]) rfl ?_
    refine HB.pa 0 rfl ?_
    refine HB.pa 1 rfl ?_ (POp.nilCheck rfl)
    refine HB.pa 2 rfl ?_
    refine HB.ld 3 rfl rfl (cellsR (.head _)) ?_
    refine HB.ldA (vs := [zv p.1, zv p.2]) 4 rfl rfl rfl (fun i v hv => cellsL (cellsA_mem hv)) ?_
    refine HB.pa 5 rfl ?_
    refine HB.all (by (exact Keep.blkA (b := b9) memD (Keep.blk (b := bx) memD rfl Keep.nil))) [6] (by kernel_rfl) rfl ⟨⟨_, rfl, ?_⟩, trivial⟩
    refine HP.one ?_
    refine H1.pmset (n := p) (v := .string s) rfl rfl rfl rplA ?_
    rw [msetP_lift]
    apply HB.fold
    refine HB.done (by (exact Keep.blkA (b := b9) memD (Keep.blk (b := bx) memD rfl Keep.nil))) (by kernel_rfl) ?_
    refine hwYC ?_
    exact HX.ret1 rfl rfl fun w' hM => ⟨((a2, c2), (pa2, pc2)), trivial, rfl, hM.sub (Hs.cons Pick.here (Hs.cons Pick.here (Hs.cons Pick.here (Hs.cons Pick.here (Hs.cons Pick.here (Hs.cons Pick.here (Hs.cons Pick.here (Hs.cons Pick.here (Hs.refl _).skip))))))))⟩
  · rw [if_neg he]
    refine hwYC ?_
    exact HX.ret1 rfl rfl fun w' hM => ⟨((a2, c2), (pa2, pc2)), trivial, rfl, hM.sub (Hs.cons Pick.here (Hs.cons Pick.here (Hs.cons Pick.here (Hs.cons Pick.here (Hs.cons Pick.here (Hs.cons Pick.here (Hs.cons Pick.here (Hs.cons Pick.here (Hs.refl _).skip))))))))⟩
end Go.Sx
/-
  DERIVED: THE SHELF's CONTRACTS AT THIS DUMP, IN PLAIN WORDS (tools/lay-plain.mjs out of 'TryzShelf3.lean', which tools/lay-shelf.mjs wrote): THE SAME DECLARATIONS UNDER THE SAME NAMES: 'import', 'namespace', 'open', 'def', 'theorem' AND NOTHING ELSE: no command of the shelf's: FOR A HAND-IN. Each laying: the table of numbers ('.._ren') and one theorem, a field a fact of the dump's own or the kernel's comparison; each contract: ONE APPLICATION.
-/
namespace Go.Proofs
open Go.Shelf
def Tryz.cloneP_ren : Go.Shelf.Ren := ⟨fun | 5 => 53 | 7 => 101 | n => n, fun | 23 => 81 | 25 => 76 | 3 => 9 | 4 => 4 | 20 => 20 | n => n, fun | n => n⟩
theorem Tryz.cloneP : Go.Proofs.SlLaysW.n5 Tryz.prog Tryz.cloneP_ren := {
  mixed := by kernel_rfl
  f5 := ⟨Tryz.f53.name, by decide, Tryz.func53.trans (congrArg some (by kernel_rfl))⟩
  f7 := Tryz.func101.trans (congrArg some (by kernel_rfl))
  t4 := Tryz.underlying4
  a4 := Tryz.isAgg4
  z4 := Tryz.sizeOf4
  v4 := Tryz.zeroValue4
  t20 := Tryz.underlying20
  a20 := Tryz.isAgg20
  z20 := Tryz.sizeOf20
  v20 := Tryz.zeroValue20
  t23 := Tryz.underlying81
  a23 := Tryz.isAgg81
  z23 := Tryz.sizeOf81
  v23 := Tryz.zeroValue81 }
def Tryz.sortP_ren : Go.Shelf.Ren := ⟨fun | 6 => 97 | 15 => 156 | 14 => 155 | 28 => 192 | 29 => 193 | 20 => 184 | 21 => 185 | 22 => 186 | 23 => 187 | 24 => 188 | 25 => 189 | 26 => 190 | 27 => 191 | 46 => 210 | 47 => 211 | 48 => 212 | 49 => 213 | 50 => 214 | 57 => 223 | n => n, fun | 22 => 90 | 24 => 76 | 25 => 95 | 3 => 3 | 39 => 89 | 0 => 0 | 53 => 85 | 55 => 222 | 4 => 4 | 46 => 264 | 45 => 263 | 50 => 268 | 5 => 5 | 9 => 9 | 66 => 284 | 70 => 288 | 76 => 299 | 77 => 300 | n => n, fun | n => n⟩
theorem Tryz.sortP : Go.Proofs.SlLaysF0.n6 Tryz.prog Tryz.sortP_ren := {
  mixed := by kernel_rfl
  f6 := ⟨Tryz.f97.name, by decide, Tryz.func97.trans (congrArg some (by kernel_rfl))⟩
  f14 := ⟨Tryz.f155.name, by decide, Tryz.func155.trans (congrArg some (by kernel_rfl))⟩
  f15 := Tryz.func156.trans (congrArg some (by kernel_rfl))
  f20 := ⟨Tryz.f184.name, by decide, Tryz.func184.trans (congrArg some (by kernel_rfl))⟩
  f21 := ⟨Tryz.f185.name, by decide, Tryz.func185.trans (congrArg some (by kernel_rfl))⟩
  f22 := ⟨Tryz.f186.name, by decide, Tryz.func186.trans (congrArg some (by kernel_rfl))⟩
  f23 := ⟨Tryz.f187.name, by decide, Tryz.func187.trans (congrArg some (by kernel_rfl))⟩
  f24 := ⟨Tryz.f188.name, by decide, Tryz.func188.trans (congrArg some (by kernel_rfl))⟩
  f25 := ⟨Tryz.f189.name, by decide, Tryz.func189.trans (congrArg some (by kernel_rfl))⟩
  f26 := ⟨Tryz.f190.name, by decide, Tryz.func190.trans (congrArg some (by kernel_rfl))⟩
  f27 := ⟨Tryz.f191.name, by decide, Tryz.func191.trans (congrArg some (by kernel_rfl))⟩
  f28 := Tryz.func192.trans (congrArg some (by kernel_rfl))
  f29 := Tryz.func193.trans (congrArg some (by kernel_rfl))
  f46 := ⟨Tryz.f210.name, by decide, Tryz.func210.trans (congrArg some (by kernel_rfl))⟩
  f47 := Tryz.func211.trans (congrArg some (by kernel_rfl))
  f48 := Tryz.func212.trans (congrArg some (by kernel_rfl))
  f49 := ⟨Tryz.f213.name, by decide, Tryz.func213.trans (congrArg some (by kernel_rfl))⟩
  f50 := ⟨Tryz.f214.name, by decide, Tryz.func214.trans (congrArg some (by kernel_rfl))⟩
  f57 := ⟨Tryz.f223.name, by decide, Tryz.func223.trans (congrArg some (by kernel_rfl))⟩
  t0 := Tryz.underlying0
  a0 := Tryz.isAgg0
  z0 := Tryz.sizeOf0
  v0 := Tryz.zeroValue0
  t3 := Tryz.underlying3
  a3 := Tryz.isAgg3
  z3 := Tryz.sizeOf3
  v3 := Tryz.zeroValue3
  t4 := Tryz.underlying4
  a4 := Tryz.isAgg4
  z4 := Tryz.sizeOf4
  v4 := Tryz.zeroValue4
  t5 := Tryz.underlying5
  a5 := Tryz.isAgg5
  z5 := Tryz.sizeOf5
  v5 := Tryz.zeroValue5
  t9 := Tryz.underlying9
  a9 := Tryz.isAgg9
  z9 := Tryz.sizeOf9
  v9 := Tryz.zeroValue9
  t22 := Tryz.underlying90
  a22 := Tryz.isAgg90
  z22 := Tryz.sizeOf90
  v22 := Tryz.zeroValue90
  t25 := Tryz.underlying95
  a25 := Tryz.isAgg95
  z25 := Tryz.sizeOf95
  v25 := Tryz.zeroValue95
  t39 := Tryz.underlying89
  a39 := Tryz.isAgg89
  z39 := Tryz.sizeOf89
  v39 := Tryz.zeroValue89
  t45 := Tryz.underlying263
  a45 := Tryz.isAgg263
  z45 := Tryz.sizeOf263
  v45 := Tryz.zeroValue263
  t46 := Tryz.underlying264
  a46 := Tryz.isAgg264
  z46 := Tryz.sizeOf264
  v46 := Tryz.zeroValue264
  t50 := Tryz.underlying268
  a50 := Tryz.isAgg268
  z50 := Tryz.sizeOf268
  v50 := Tryz.zeroValue268
  t53 := Tryz.underlying85
  a53 := Tryz.isAgg85
  z53 := Tryz.sizeOf85
  v53 := Tryz.zeroValue85
  t55 := Tryz.underlying222
  a55 := Tryz.isAgg222
  z55 := Tryz.sizeOf222
  v55 := Tryz.zeroValue222
  t66 := Tryz.underlying284
  a66 := Tryz.isAgg284
  z66 := Tryz.sizeOf284
  v66 := Tryz.zeroValue284
  t70 := Tryz.underlying288
  a70 := Tryz.isAgg288
  z70 := Tryz.sizeOf288
  v70 := Tryz.zeroValue288
  t76 := Tryz.underlying299
  a76 := Tryz.isAgg299
  z76 := Tryz.sizeOf299
  v76 := Tryz.zeroValue299
  t77 := Tryz.underlying300
  a77 := Tryz.isAgg300
  z77 := Tryz.sizeOf300
  v77 := Tryz.zeroValue300 }
end Go.Proofs
/- Chapter 27: fragments that are removed: maps.DeleteFunc, maps.Clone, Drop: the walks. -/
namespace Go.Sx
open Go Go.Proofs Go.RowKit
theorem hwYE {G G2 : Prop} (x : G2) (hwq : Hold G2 → G := by
    intro hQq
    repeat' (first | refine HL.pa ?_ (POp.pnil1 rfl rfl) | refine HL.pa ?_ (POp.pnil0 rfl rfl) | refine HL.pa ?_ (POp.nilCheck rfl) | apply HL.fold | apply HA.fold | apply HL.nil | apply HX.n_then | apply HC.seq | apply HC.region | refine HL.pa ?_ | refine HL.ga rfl ?_ | refine HL.na rfl ?_ | refine HL.nu rfl rfl ?_ | apply HC.block | apply HC.skip | apply HC.exit | apply HC.ret | apply HX.e_block | refine HX.e_other rfl ?_ | apply HX.e_then | apply HX.e_again | apply HX.n_block | apply HX.r_then | apply HX.r_block | apply HX.r_again | refine HC.cond_yes rfl ?_ | refine HC.cond_no rfl ?_ | refine HL.one (H1.ldb rfl memA rfl rfl ?_) | refine HC.cond rfl (fun hc => ?_) (fun hc => ?_) | refine HC.cond_b rfl (fun hc => ?_) (fun hc => ?_))
    exact hQq.get) : G := hwq ⟨x⟩
theorem hnYE {G G2 : Prop} (x : G2) (hwq : Hold G2 → G := by
    intro hQq
    repeat' (first | refine HL.pa ?_ (POp.pnil1 rfl rfl) | refine HL.pa ?_ (POp.pnil0 rfl rfl) | refine HL.pa ?_ (POp.nilCheck rfl) | apply HL.fold | apply HA.fold | apply HL.nil | apply HX.n_then | apply HC.seq | apply HC.region | refine HL.pa ?_ | refine HL.ga rfl ?_ | refine HL.na rfl ?_ | refine HL.nu rfl rfl ?_ | apply HC.block | apply HC.skip | apply HC.exit | apply HC.ret | apply HX.e_block | refine HX.e_other rfl ?_ | apply HX.e_then | apply HX.e_again | apply HX.n_block | apply HX.r_then | apply HX.r_block | apply HX.r_again | refine HC.cond_yes rfl ?_ | refine HC.cond_no rfl ?_ | refine HL.one (H1.ldb rfl memA rfl rfl ?_))
    exact hQq.get) : G := hwq ⟨x⟩
theorem MPl.erase {L : List (PK × Value)} {es : Array MapEntry} {clk : Nat} (h : MPl L es clk) (i : Nat) : MPl (L.eraseIdx i) (es.eraseIdxIfInBounds i) clk := by
  refine ⟨?_, fun e he => ?_, ?_⟩
  · rw [Array.toList_eraseIdxIfInBounds, ← map_eraseIdx, h.ents, map_eraseIdx]
  · rw [Array.toList_eraseIdxIfInBounds] at he
    exact h.born e (List.mem_of_mem_eraseIdx he)
  · rw [Array.toList_eraseIdxIfInBounds]
    exact List.Nodup.sublist ((List.eraseIdx_sublist _ i).map _) h.nd
theorem Mm.mxpm {w0 w : World} {b clk : Nat} {es : Array MapEntry} {L : List (PK × Value)} {H : List Atom} (h : Mm w0 (A.mx b es clk :: H) w) (hl : MPl L es clk) : Mm w0 (A.pm b L :: H) w := h.head rfl (by
  obtain ⟨o, h1, rfl⟩ : ∃ o, w.heap[b]? = some o ∧ o = .map es clk := h.all _ (List.Mem.head _)
  exact ⟨_, h1, es, clk, rfl, hl⟩)
theorem midxP_no {l : List (PK × Value)} {x : PK} (h : midxP l x = none) : ∀ p ∈ l, p.1 ≠ x := by
  induction l with
  | nil => intro p hp; simp at hp
  | cons q l ih =>
    obtain ⟨y, u⟩ := q
    simp only [midxP] at h
    by_cases hxy : x = y
    · rw [if_pos hxy] at h; cases h
    · rw [if_neg hxy, Option.map_eq_none_iff] at h
      intro p hp
      rcases List.mem_cons.1 hp with rfl | hp
      · exact fun e => hxy e.symm
      · exact ih h p hp
theorem midxP_lift {m : PM} (hk : (m.map Prod.fst).Nodup) {p : PK × ByteArray} (hp : p ∈ m) : ∃ i, m[i]? = some p ∧ midxP (liftP m) p.1 = some (i, .string p.2) := by
  cases h : midxP (liftP m) p.1 with
  | none => exact absurd rfl (midxP_no h _ (List.mem_map.2 ⟨p, hp, rfl⟩))
  | some q =>
    obtain ⟨i, u⟩ := q
    have h1 := (midxP_some u h).2.2
    unfold liftP at h1
    rw [List.getElem?_map, Option.map_eq_some_iff] at h1
    obtain ⟨s, h2, h3⟩ := h1
    obtain ⟨j, hj⟩ := List.mem_iff_getElem?.1 hp
    injection h3 with h3 h4
    have n1 : (m.map Prod.fst)[i]? = some p.1 := by simp [h2, h3]
    have n2 : (m.map Prod.fst)[j]? = some p.1 := by simp [hj]
    have hlt : i < (m.map Prod.fst).length := (List.getElem?_eq_some_iff.1 n1).1
    have e := (List.getElem?_inj hlt hk).1 (n1.trans n2.symm)
    subst e
    rw [hj] at h2
    have e2 := Option.some.inj h2
    refine ⟨i, hj, ?_⟩
    rw [← h4, e2]
theorem mem_eraseP {m : PM} (hk : (m.map Prod.fst).Nodup) {i : Nat} {p : PK × ByteArray} (hi : m[i]? = some p) (q : PK × ByteArray) : q ∈ m.eraseIdx i ↔ q ∈ m ∧ q ≠ p := by
  rw [List.mem_eraseIdx_iff_getElem?]
  constructor
  · rintro ⟨j, hne, hj⟩
    refine ⟨List.mem_of_getElem? hj, fun e => hne ?_⟩
    subst e
    have n1 : (m.map Prod.fst)[i]? = some q.1 := by simp [hi]
    have n2 : (m.map Prod.fst)[j]? = some q.1 := by simp [hj]
    have hlt : j < (m.map Prod.fst).length := (List.getElem?_eq_some_iff.1 n2).1
    exact (List.getElem?_inj hlt hk).1 (n2.trans n1.symm)
  · rintro ⟨hq, hne⟩
    obtain ⟨j, hj⟩ := List.mem_iff_getElem?.1 hq
    refine ⟨j, fun e => hne ?_, hj⟩
    subst e
    rw [hi] at hj
    exact (Option.some.inj hj).symm
section
variable {r : Option Nat} {N : Nat} {ds : List Deferred} {Q : Post} {E : Env} {w0 : World} {H : List Atom} {next : Act → World → Prop} {g : Option (Nat × Bool)}
variable {t ty e : TypeId} {pos : String} {af : Array Edge} {x y : Operand}
theorem HL.openpm {ol l : List Oper} {b : Nat} {L : List (PK × Value)} (h : ∀ es clk, MPl L es clk → HL Tryz.prog r N ds ol l Q E w0 (A.mx b es clk :: H)) : HL Tryz.prog r N ds ol l Q E w0 (A.pm b L :: H) := fun w hM => by
  obtain ⟨o, h1, es, clk, rfl, h2⟩ : ∃ o, w.heap[b]? = some o ∧ pmP L o := hM.all _ (List.Mem.head _)
  exact h es clk h2 w (hM.head rfl ⟨_, h1, rfl⟩)
theorem H1.pmdel {u : TypeId} {b clk i : Nat} {es : Array MapEntry} {L : List (PK × Value)} {n : PK} {v : Value} {H' : List Atom} [ht : UTy Tryz.prog t (.map 76 e)] (hx : Env.ev E x = some (.map (some b))) (hy : Env.ev E y = some (pkV n))
    (hl : MPl L es clk) (hi : midxP L n = some (i, v)) (hr : Rpl (A.mx b es clk) (A.mx b (es.eraseIdxIfInBounds i) clk) H H') (h : HN N ds next E w0 H') :
    H1 Tryz.prog r N ds next ⟨none, .call ⟨.builtin .delete, #[x, y], #[t, u]⟩, ty, pos, af, g⟩ Q E w0 H := fun w hM => by
  have hb := hM.mx hr.mem
  have hlt := (Array.getElem?_eq_some_iff.1 hb).1
  have hf := run_findKeyP (w := w) n es.toList L hl.ents
  rw [hi] at hf
  have hrun : (Builtin.delete_ #[t, u] ty #[.map (some b), pkV n]).run Tryz.prog w = .ok (.tuple #[]) (w.putObj b (.map (es.eraseIdxIfInBounds i) clk)) := by
    unfold Builtin.delete_
    simp [Sem.run_bind, run_underlying ht.is, Result.andThen, run_getMap hb, run_checkKeyP _ 9998 n, hf, run_setMap _ hb]
  refine W1.run (v := .tuple #[]) (w' := w.putObj b (.map (es.eraseIdxIfInBounds i) clk)) (fun a ha => ?_) rfl rfl (h _ (hM.turn hr rfl rfl rfl (by simp) (fun k _ hk' => ?_) ⟨_, World.putObj_heap_same hlt, rfl⟩ (by simp [A.mx, A.obj]) fun b' hb' => .inl hb'))
  · simp only [execOp, resolve, invoke, Go.builtin, Sem.run_bind, Sem.run_pure, Result.andThen, List.map_toArray, List.map_cons, List.map_nil, ha.ev hx, ha.ev hy, hrun]
  · exact World.putObj_heap_other (by simpa [A.mx, A.obj] using hk')
end
theorem MPl.len {L : List (PK × Value)} {es : Array MapEntry} {clk : Nat} (h : MPl L es clk) : es.size = L.length := by
  have := congrArg List.length h.ents
  simpa using this
/-- What is left without an object. -/
def dropM (m : PM) (o : Int) : PM := m.filter fun p => decide (p.1.1 ≠ o)
theorem filter_of {α : Type} {keep : α → Bool} {m m' : List α} (hn : m.Nodup) (hs : m'.Sublist m) (h1 : ∀ p ∈ m', keep p = true) (h2 : ∀ p ∈ m, keep p = true → p ∈ m') : m' = m.filter keep := by
  induction hs with
  | slnil => rfl
  | @cons m' m a hs ih =>
    rw [List.nodup_cons] at hn
    cases hk : keep a with
    | true => exact absurd (hs.subset (h2 a (List.mem_cons_self ..) hk)) hn.1
    | false =>
      rw [List.filter_cons_of_neg (by rw [hk]; exact Bool.false_ne_true)]
      exact ih hn.2 h1 fun p hp h => h2 p (List.mem_cons_of_mem _ hp) h
  | @cons_cons m' m a hs ih =>
    rw [List.nodup_cons] at hn
    rw [List.filter_cons_of_pos (h1 a (List.mem_cons_self ..))]
    congr 1
    refine ih hn.2 (fun p hp => h1 p (List.mem_cons_of_mem _ hp)) fun p hp h => ?_
    rcases List.mem_cons.1 (h2 p (List.mem_cons_of_mem _ hp) h) with rfl | h3
    · exact absurd hp hn.1
    · exact h3
theorem nodup_of_fst {m : PM} (h : (m.map Prod.fst).Nodup) : m.Nodup := List.Pairwise.of_map Prod.fst (fun _ _ h e => h (congrArg _ e)) h
theorem clone27_fn {w0 w : World} {H : List Atom} {b : Nat} {m : PM} (hM : Mm w0 (A.pm b (liftP m) :: H) w) :
    Fn Tryz.prog 53 #[.map (some b)] w fun v w' => ∃ b2 : Nat, True ∧ v = .map (some b2) ∧ Mm w0 (A.pm b2 (liftP m) :: A.pm b (liftP m) :: H) w' := by
  obtain ⟨o, h1, es, clk, rfl, h2⟩ : ∃ o, w.heap[b]? = some o ∧ pmP (liftP m) o := hM.all _ (List.Mem.head _)
  refine Calls.mono (AnyW.maps_Clone Tryz.cloneP b es clk w h1) ?_
  rintro e w' ⟨rfl, rfl⟩
  refine ⟨_, rfl, w.heap.size, trivial, rfl, ?_⟩
  refine (hM.more (Ext.alloc w _)).cons ⟨_, World.alloc_heap_new w _, _, _, rfl, h2⟩ (by simp [A.pm, A.obj]) fun b' hb => ?_
  have hb' : b' = w.heap.size := by simpa [A.pm, A.obj] using hb
  subst hb'
  refine ⟨fun hm => ?_, hM.ext.size, by simp⟩
  have := (hM.rng _ hm).2
  omega
theorem H1.pmlen {r : Option Nat} {N : Nat} {ds : List Deferred} {Q : Post} {E : Env} {w0 : World} {H : List Atom} {next : Act → World → Prop} {g : Option (Nat × Bool)} {d : Nat} {t ty e : TypeId} {pos : String} {af : Array Edge} {x : Operand}
    {b : Nat} {l : List (PK × Value)} [ht : UTy Tryz.prog t (.map 76 e)] (hx : Env.ev E x = some (.map (some b))) (hm : A.pm b l ∈ H) (hd : Nat.blt d N = true)
    (h : HN N ds next ((d, .int .i64 (l.length : Int)) :: E) w0 H) : H1 Tryz.prog r N ds next ⟨some d, .call ⟨.builtin .len, #[x], #[t]⟩, ty, pos, af, g⟩ Q E w0 H := fun w hM => by
  obtain ⟨o, hb, es, clk, rfl, hes⟩ : ∃ o, w.heap[b]? = some o ∧ pmP l o := hM.all _ hm
  have hlen := hes.len
  refine W1.run (v := .int .i64 (l.length : Int)) (w' := w) (fun a ha => ?_) rfl hd (h w hM)
  simp [execOp, ha.ev hx, resolve, invoke, Go.builtin, Builtin.len_, run_underlying ht.is, run_getMap hb, goInt, Sem.run_bind, Result.andThen, hlen]
theorem liftP_len (m : PM) : (liftP m).length = m.length := by simp [liftP]
theorem dropM_len (m : PM) (o : Int) : (dropM m o).length ≤ m.length := List.length_filter_le _ _
attribute [local irreducible] WC WL WX POp Then Again Fn NX W1 WA WO QL RP RA Yld LoopAt HC HL HX HN H1 HA HO HQ HB HP A.blk A.grow A.rd A.obj A.mp AgainH CutH
attribute [local irreducible] A.pm A.mx A.mit sumS
theorem drop1_fn (p : PK) (s : ByteArray) (b3 : Nat) (o : Int) (w : World) (hb : w.cell? ⟨b3, 0, none⟩ = some (zv o)) : Fn Tryz.prog 103 #[pkV p, .string s, .pointer (some ⟨b3, 0, none⟩)] w fun v w' => v = .bool (decide (p.1 = o)) ∧ Ext w w' := by
  rw [pkV_cells]
  refine enterH (l := [_, _, _]) rfl Tryz.ntmps103 rfl ?_
  refine hwYE ?_
  refine HL.one (H1.boxAgg (cs := [zv p.1, zv p.2]) rfl rfl (fun b1 => ?_))
  refine hwYE ?_
  refine HL.one (H1.ld0 rfl hb rfl ?_)
  refine hwYE ?_
  exact HX.ret1 rfl rfl fun w' hM => ⟨rfl, hM.ext⟩
set_option maxHeartbeats 1000000 in
theorem deleteFuncP_fn {w0 w : World} {H : List Atom} {b b3 : Nat} {m : PM} {o : Int} {eb : TypeId} (hM : Mm w0 (A.pm b (liftP m) :: A.blk b3 [zv o] eb :: H) w) (hk : (m.map Prod.fst).Nodup) :
    Fn Tryz.prog 102 #[.map (some b), .func (.func 103) #[] #[.pointer (some ⟨b3, 0, none⟩)]] w fun v w' => ∃ _ : Unit, True ∧ v = .tuple #[] ∧ Mm w0 (A.pm b (liftP (dropM m o)) :: A.blk b3 [zv o] eb :: H) w' := by
  refine enterK (l := [_, _]) hM rfl Tryz.ntmps102 rfl ?_
  refine hwYE ?_
  refine HL.openpm fun es clk hms => ?_
  refine HL.one (H1.mqrange (es := es) (clk := clk) rfl (fun w' hM => hM.mx (.head _)) rfl (fun it => ?_))
  refine hwYE ?_
  refine HC.loop (α := Array MapEntry × Array Nat × PM) (fun _ => [(0, .map (some b)), (1, .func (.func 103) #[] #[.pointer (some ⟨b3, 0, none⟩)]), (7, .pointer (some ⟨it, 0, none⟩))])
    (fun z => A.mit it b clk z.2.1 :: A.mx b z.1 clk :: A.blk b3 [zv o] eb :: H)
    (fun z => MPl (liftP z.2.2) z.1 clk ∧ (z.2.2.map Prod.fst).Nodup ∧ z.2.2.Sublist m ∧ (∀ p ∈ m, decide (p.1.1 ≠ o) = true → p ∈ z.2.2) ∧ ∀ e ∈ z.1.toList, e.born ∈ z.2.1 → ∀ p ∈ z.2.2, e.key = pkV p.1 → decide (p.1.1 ≠ o) = true)
    (fun z => mleft z.1 z.2.1) (es, #[], m) ⟨hms, hk, List.Sublist.refl _, fun _ h _ => h, fun e _ hs => absurd hs (by simp)⟩ esA (Hs.refl _) ?_
  rintro ⟨es', seen, m'⟩ ⟨hI, hk', hs1, hs2, hsn⟩
  dsimp only at hI hk' hs1 hs2 hsn ⊢
  refine hwYE ?_
  refine HL.one (H1.mqnext (H' := fun s => A.mit it b clk s :: A.mx b es' clk :: A.blk b3 [zv o] eb :: H) rfl (fun w' hM => hM.mx (.tail _ (.head _))) hI.born (fun s => Rpl.here) rfl (fun hall => ?_) (fun e he hne => ?_))
  · refine hwYE ?_
    have hfin : m' = dropM m o := filter_of (nodup_of_fst hk) hs1 (fun p hp => by
      obtain ⟨e, he, h1, -⟩ := hI.of (List.mem_map.2 ⟨p, hp, rfl⟩)
      exact hsn e he (hall e he) p hp h1) hs2
    rw [← hfin]
    exact HX.end0 rfl fun w' hM => ⟨(), trivial, rfl, hM.tail.mxpm hI⟩
  obtain ⟨q, hq, hkey, hval⟩ := hI.ent he
  obtain ⟨p, hp, rfl⟩ := List.mem_map.1 hq
  dsimp only at hkey hval
  have hkp : ∀ p' ∈ m', e.key = pkV p'.1 → p' = p := fun p' hp' h => by
    rw [hkey] at h
    have h2 := pkV_inj h
    obtain ⟨i, hi, -⟩ := midxP_lift hk' hp
    obtain ⟨j, hj, -⟩ := midxP_lift hk' hp'
    have n1 : (m'.map Prod.fst)[i]? = some p.1 := by simp [hi]
    have n2 : (m'.map Prod.fst)[j]? = some p.1 := by simp [hj, h2]
    have hlt : i < (m'.map Prod.fst).length := (List.getElem?_eq_some_iff.1 n1).1
    have e2 := (List.getElem?_inj hlt hk').1 (n1.trans n2.symm)
    subst e2
    rw [hi] at hj
    exact (Option.some.inj hj).symm
  rw [hkey, hval]
  refine hwYE ?_
  refine HL.one (H1.mqentry (e := e) rfl (fun w' hM => hM.mx (.tail _ (.head _))) he hI.nd (.head _) rfl ?_)
  rw [hkey, hval, pkV_cells]
  refine hwYE ?_
  refine HL.one (H1.alloc (cs := [zv 0, zv 0]) rfl rfl (fun b5 => ?_))
  refine hwYE ?_
  refine HL.one (H1.stAgg (cs := [zv 0, zv 0]) (vs := [zv p.1.1, zv p.1.2]) rfl rfl rfl (by intro v hv; rcases List.mem_cons.1 hv with rfl | hv; rfl; rcases List.mem_cons.1 hv with rfl | hv; rfl; cases hv) rplA rfl ?_)
  refine hwYE ?_
  refine HL.one (H1.ldAgg (vs := [zv p.1.1, zv p.1.2]) rfl memA rfl (fun i v hv => by rw [Nat.zero_add]; exact hv) rfl ?_)
  refine hwYE ?_
  refine HL.one (H1.callv0 (f := 103) (cap := [.pointer (some ⟨b3, 0, none⟩)]) (vs := [pkV p.1, .string p.2]) rfl rfl rfl (fun w' hM => drop1_fn p.1 p.2 b3 o w' ((hM.blk (b := b3) memA).cell rfl)) ?_)
  have hlt := mleft_lt he hne
  by_cases hg : p.1.1 = o
  rotate_left
  · rw [decide_eq_false hg]
    refine hwYE ?_
    refine HX.again (es', seen.push e.born, m') ⟨hI, hk', hs1, hs2, fun e' he' hs' p' hp' h => ?_⟩ hlt esA (Hs.refl _).skip
    rcases Array.mem_push.1 hs' with h1 | h1
    · exact hsn e' he' h1 p' hp' h
    · have e1 : e' = e := stamp_inj hI.nd he' he h1
      subst e1
      rw [hkp p' hp' h]; exact decide_eq_true hg
  · rw [decide_eq_true hg]
    obtain ⟨i, hi, hmi⟩ := midxP_lift hk' hp
    have hme := mem_eraseP hk' hi
    refine hwYE ?_
    refine HL.one (H1.ldAgg (vs := [zv p.1.1, zv p.1.2]) rfl memA rfl (fun i v hv => by rw [Nat.zero_add]; exact hv) rfl ?_)
    refine hwYE ?_
    refine HL.one (H1.pmdel (n := p.1) rfl rfl hI hmi rplA ?_)
    refine hwYE ?_
    refine HX.again (es'.eraseIdxIfInBounds i, seen.push e.born, m'.eraseIdx i) ⟨?_, ?_, (List.eraseIdx_sublist _ i).trans hs1, fun q hq h => (hme q).2 ⟨hs2 q hq h, fun e1 => ?_⟩, fun e' he' hs' p' hp' h => ?_⟩ (Nat.lt_of_le_of_lt (mleft_erase _ _ _) hlt) esA (Hs.refl _).skip
    · have := hI.erase i
      rwa [show (liftP m').eraseIdx i = liftP (m'.eraseIdx i) from map_eraseIdx _ _ _] at this
    · exact List.Nodup.sublist ((List.eraseIdx_sublist _ i).map _) hk'
    · rw [e1] at h; exact absurd hg (of_decide_eq_true h)
    · dsimp only at he' hs' hp'
      rw [Array.toList_eraseIdxIfInBounds] at he'
      have he2 := List.mem_of_mem_eraseIdx he'
      have hp2 := (hme p').1 hp'
      rcases Array.mem_push.1 hs' with h1 | h1
      · exact hsn e' he2 h1 p' hp2.1 h
      · have e1 : e' = e := stamp_inj hI.nd he2 he h1
        subst e1
        exact absurd (hkp p' hp2.1 h) hp2.2
/-- The fragments of an object are removed. -/
theorem dropP_fn {w0 w : World} {H : List Atom} {b : Nat} {m : PM} {o : Int} (hM : Mm w0 (A.pm b (liftP m) :: H) w) (hk : (m.map Prod.fst).Nodup) (hl : m.length ≤ 1000000) :
    Fn Tryz.prog 54 #[.map (some b), zv o] w fun v w' => ∃ _ : Unit, True ∧ v = zv ((m.length : Int) - ((dropM m o).length : Int)) ∧ Mm w0 (A.pm b (liftP (dropM m o)) :: H) w' := by
  have hdl := dropM_len m o
  have l1 := liftP_len m
  have l2 := liftP_len (dropM m o)
  refine enterK (l := [_, _]) hM rfl Tryz.ntmps54 rfl ?_
  refine hwYE ?_
  refine HL.one (H1.box rfl rfl rfl (fun b3 => ?_))
  refine hwYE ?_
  refine HL.one (H1.pmlen rfl memA rfl ?_)
  rw [l1]
  refine hwYE ?_
  refine HL.one (H1.callk (α := Unit) (V := fun _ => .tuple #[]) (I := fun _ => True) (H' := fun _ => A.pm b (liftP (dropM m o)) :: A.blk b3 [zv o] 3 :: H) (vs := [.map (some b), .func (.func 103) #[] #[.pointer (some ⟨b3, 0, none⟩)]]) rfl rfl
    (fun w' hM => deleteFuncP_fn (hM.sub (Hs.cons (Pick.there Pick.here) (Hs.refl _))) hk) ?_)
  rintro - -
  refine hwYE ?_
  refine HL.one (H1.pmlen rfl memA rfl ?_)
  rw [l2]
  refine hwYE ?_
  exact HX.ret1 rfl rfl fun w' hM => ⟨(), trivial, rfl, hM.sub (Hs.cons Pick.here (Hs.refl _).skip)⟩
/-- Drop: how many there were, the error, the fragments, the journal. -/
def dropF (m : PM) (j : Jn) (o : Int) : Int × Int × PM × Jn :=
  if ¬ okP (o, 0) then (0, 270, m, j) else if (dropM m o).length = m.length then (0, 0, m, j)
  else if (j.append [recD o]).1 = 0 then ((m.length : Int) - ((dropM m o).length : Int), 0, dropM m o, (j.append [recD o]).2) else (0, (j.append [recD o]).1, m, (j.append [recD o]).2)
set_option maxHeartbeats 1000000 in
theorem cdrop_fn {w0 w : World} {H : List Atom} {bx bm bj bd b1 b2 c pc : Nat} {a pa : Option Addr} {m : PM} {j : Jn} (o : Int) (hG : RoundG w0) (hM : Mm w0 (cuH bx bm bj bd b1 b2 a c pa pc m j H) w) (hj : JOk j) (hk : (m.map Prod.fst).Nodup) (hl : m.length ≤ 1000000) :
    Fn Tryz.prog 21 #[.pointer (some ⟨bx, 0, none⟩), zv o] w fun v w' => ∃ q : Nat × (Option Addr × Nat) × (Option Addr × Nat), True ∧ v = .tuple #[zv (dropF m j o).1, zv (dropF m j o).2.1] ∧ Mm w0 (cuH bx q.1 bj bd b1 b2 q.2.1.1 q.2.1.2 q.2.2.1 q.2.2.2 (dropF m j o).2.2.1 (dropF m j o).2.2.2 H) w' := by
  have hdl := dropM_len m o
  refine enterK (l := [_, _]) hM rfl Tryz.ntmps21 rfl ?_
  refine hwYE ?_
  refine HL.build (cs := [zv o, zv 0]) rfl rfl rfl ?_
  refine hwYE ?_
  refine HL.one (H1.callx (vs := [pkV (o, 0)]) rfl rfl (fun w' _ => isValid_fn (o, 0) w') ?_)
  unfold dropF
  by_cases hv : okP (o, 0)
  rotate_left
  · rw [decide_eq_false hv, if_pos hv]
    refine hwYE ?_
    exact HX.ret2 rfl rfl rfl fun w' hM => ⟨(bm, (a, c), (pa, pc)), trivial, rfl, hM⟩
  rw [decide_eq_true hv, if_neg (fun h => h hv)]
  refine hwYE ?_
  refine HL.one (H1.callk (α := Nat) (V := fun b => .map (some b)) (I := fun _ => True) (H' := fun b => A.pm b (liftP m) :: cuH bx bm bj bd b1 b2 a c pa pc m j H) (vs := [.map (some bm)]) rfl rfl
    (fun w' hM => (clone27_fn (hM.sub (Hs.cons (Pick.there Pick.here) (Hs.refl _)))).mono fun v w2 h => by
      obtain ⟨b, h1, h2, h3⟩ := h
      exact ⟨b, h1, h2, h3.sub (Hs.cons Pick.here (Hs.cons (Pick.there Pick.here) (Hs.refl _)))⟩) ?_)
  rintro b2' -
  refine hwYE ?_
  refine HL.one (H1.callk (α := Unit) (V := fun _ => zv ((m.length : Int) - ((dropM m o).length : Int))) (I := fun _ => True) (H' := fun _ => A.pm b2' (liftP (dropM m o)) :: cuH bx bm bj bd b1 b2 a c pa pc m j H) (vs := [.map (some b2'), _]) rfl rfl
    (fun w' hM => dropP_fn hM hk hl) ?_)
  rintro - -
  by_cases h0 : (dropM m o).length = m.length
  · have h0' : (m.length : Int) - ((dropM m o).length : Int) = 0 := by omega
    rw [if_pos h0]
    refine hwYE ?_
    exact HX.ret2 rfl rfl rfl fun w' hM => ⟨(bm, (a, c), (pa, pc)), trivial, rfl, hM.tail⟩
  have h0' : ¬ (m.length : Int) - ((dropM m o).length : Int) = 0 := by omega
  rw [if_neg h0]
  obtain ⟨e, j2, hap⟩ : ∃ e j2, j.append [recD o] = (e, j2) := ⟨_, _, rfl⟩
  rw [hap]
  dsimp only
  have hv0 := hv
  obtain ⟨k1, k2, -, -⟩ := hv0
  dsimp only at k1 k2
  have hns : ∀ n ∈ [o.toNat], n ≤ 1099511627776 := by
    intro n hn
    rcases List.mem_cons.1 hn with rfl | hn
    · omega
    · cases hn
  have e12 : ints (intsN [o.toNat]) = [zv o] := by
    have e1 : ((o.toNat : Nat) : Int) = o := by omega
    show [zv ((o.toNat : Nat) : Int)] = _
    rw [e1]
  have hrs := recD_size k2
  refine hwYE ?_
  refine HL.one (H1.lit (cs := [zv o]) rfl rfl rfl rfl rfl rfl (fun b8 => ?_))
  refine hwYE ?_
  refine HL.one (H1.callx (vs := [.string (mkB 100), .slice (some ⟨b8, 0, none⟩) 1 1]) rfl rfl (fun w' hM => put27_fn (mkB 100) [o.toNat] _ (by decide) hns (by show 1 ≤ 100; decide) w' (by rw [e12]; exact blk_rd (e := 3) (hM.blk (.head _)) rfl)) ?_)
  refine hwYE ?_
  refine HL.one (H1.callk (α := (Option Addr × Nat) × (Option Addr × Nat)) (V := fun _ => zv e) (I := fun _ => True) (H' := fun q => cuH bx bm bj bd b1 b2 q.1.1 q.1.2 q.2.1 q.2.2 m j2 (A.pm b2' (liftP (dropM m o)) :: H)) (vs := [_, .string (recD o)]) rfl rfl
    (fun w' hM => cappend_fn hap hG (hM.sub (Hs.cons (Pick.there (Pick.there Pick.here)) (Hs.cons (Pick.there (Pick.there Pick.here)) (Hs.cons (Pick.there (Pick.there Pick.here)) (Hs.cons (Pick.there (Pick.there Pick.here)) (Hs.cons (Pick.there (Pick.there Pick.here)) (Hs.cons (Pick.there (Pick.there Pick.here)) (Hs.cons (Pick.there (Pick.there Pick.here)) (Hs.cons (Pick.there (Pick.there Pick.here)) ((Hs.refl _).skip)))))))))) hj (by omega)) ?_)
  rintro ⟨⟨a2, c2⟩, ⟨pa2, pc2⟩⟩ -
  dsimp only
  by_cases he : e = 0
  · subst he
    rw [if_pos rfl]
    refine hwYE ?_
    refine HL.one (H1.st (b := bx) rfl rfl (by intro _ h; cases h) (by intro _ h; cases h) rplA (by show 0 < 2; decide) ?_)
    refine hwYE ?_
    exact HX.ret2 rfl rfl rfl fun w' hM => ⟨(b2', (a2, c2), (pa2, pc2)), trivial, rfl, hM.sub (Hs.cons Pick.here (Hs.cons (Pick.there (Pick.there (Pick.there (Pick.there (Pick.there (Pick.there (Pick.there Pick.here))))))) (Hs.cons (Pick.there Pick.here) (Hs.cons (Pick.there Pick.here) (Hs.cons (Pick.there Pick.here) (Hs.cons (Pick.there Pick.here) (Hs.cons (Pick.there Pick.here) (Hs.cons (Pick.there Pick.here) (Hs.refl _).skip))))))))⟩
  · rw [if_neg he]
    refine hwYE ?_
    exact HX.ret2 rfl rfl rfl fun w' hM => ⟨(bm, (a2, c2), (pa2, pc2)), trivial, rfl, hM.sub (Hs.cons Pick.here (Hs.cons Pick.here (Hs.cons Pick.here (Hs.cons Pick.here (Hs.cons Pick.here (Hs.cons Pick.here (Hs.cons Pick.here (Hs.cons Pick.here (Hs.refl _).skip))))))))⟩
end Go.Sx
/- Chapter 27: what a record does: number, text, replay: the walks. -/
namespace Go.Sx
open Go Go.Proofs Go.RowKit
/-- The error of a record that is not right. -/
def CErrG (a : Addr) (w : World) : Prop := w.cell? ⟨0, 0, none⟩ = some (errV a)
theorem CErrG.ext {a : Addr} {w w' : World} (h : CErrG a w) (k : Ext w w') : CErrG a w' := cell_ext k h
/-- What a record does to fragments; none: it is not right. -/
def replayF (m : PM) (s : ByteArray) : Option PM :=
  if s.size = 0 then none else
  match decI s.data.toList 1 with
  | none => none
  | some (z, q) =>
    if sb s 0 = 115 then
      match decI s.data.toList q with
      | none => none
      | some (z2, q2) => match decS s.data.toList q2 with
        | none => none
        | some (r, q3) => if okP (unz z, unz z2) ∧ r.length ≤ 4096 then (if q3 = s.size then some (setM m (unz z, unz z2) (mkBA r)) else none) else none
    else if sb s 0 = 100 then (if okP (unz z, 0) ∧ (dropM m (unz z)).length < m.length then (if q = s.size then some (dropM m (unz z)) else none) else none)
    else none
theorem mkBA_size2 (l : List UInt8) : (mkBA l).size = l.length := by show l.toArray.size = _; rw [List.size_toArray]
theorem decI_le {s : List UInt8} {p : Nat} (_hp : p ≤ s.length) {z q : Nat} (h : decI s p = some (z, q)) : p < q ∧ q ≤ s.length := decG_le 9 0 0 (by omega) h
theorem setM_mem {m : PM} {k : PK} {s : ByteArray} {p : PK × ByteArray} (h : p ∈ setM m k s) : p ∈ m ∨ p = (k, s) := by
  induction m with
  | nil => exact .inr (List.mem_singleton.1 h)
  | cons q m ih =>
    obtain ⟨y, u⟩ := q
    simp only [setM] at h
    split at h
    · rcases List.mem_cons.1 h with h | h
      · exact .inr h
      · exact .inl (List.mem_cons_of_mem _ h)
    · rcases List.mem_cons.1 h with h | h
      · exact .inl (by rw [h]; exact List.mem_cons_self ..)
      · rcases ih h with h | h
        · exact .inl (List.mem_cons_of_mem _ h)
        · exact .inr h
theorem setM_fst {m : PM} {k x : PK} {s : ByteArray} (h : x ∈ (setM m k s).map Prod.fst) : x ∈ m.map Prod.fst ∨ x = k := by
  obtain ⟨p, hp, rfl⟩ := List.mem_map.1 h
  rcases setM_mem hp with h | rfl
  · exact .inl (List.mem_map.2 ⟨p, h, rfl⟩)
  · exact .inr rfl
theorem setM_nodup {m : PM} (k : PK) (s : ByteArray) (h : (m.map Prod.fst).Nodup) : ((setM m k s).map Prod.fst).Nodup := by
  induction m with
  | nil => simp [setM]
  | cons q m ih =>
    obtain ⟨y, u⟩ := q
    rw [List.map_cons, List.nodup_cons] at h
    simp only [setM]
    split
    · rename_i e
      rw [List.map_cons, List.nodup_cons]
      exact ⟨by rw [e]; exact h.1, h.2⟩
    · rename_i e
      rw [List.map_cons, List.nodup_cons]
      refine ⟨fun h2 => ?_, ih h.2⟩
      rcases setM_fst h2 with h3 | h3
      · exact h.1 h3
      · exact e h3.symm
theorem dropM_nodup {m : PM} (o : Int) (h : (m.map Prod.fst).Nodup) : ((dropM m o).map Prod.fst).Nodup := List.Nodup.sublist (List.filter_sublist.map _) h
theorem setM_len (m : PM) (k : PK) (s : ByteArray) : (setM m k s).length ≤ m.length + 1 := by
  induction m with
  | nil => exact Nat.le_refl _
  | cons q m ih =>
    obtain ⟨y, u⟩ := q
    simp only [setM]
    split
    · exact Nat.le_succ _
    · exact Nat.succ_le_succ ih
theorem HX.ret1E {P : Program} {N : Nat} {E : Env} {w0 : World} {H : List Atom} {fn : Func} {t : Nat} {v : Value} {R : Ending → World → Prop} (hr : fn.results = #[.tmp t]) (hv : Env.g E t = some v) (h : ∀ w, Mm w0 H w → R (.returned v) w) : HX N [] .ret (bodyPost P fn R) E w0 H := fun w hM a ha =>
  ⟨ha.defers, _, results_tmp hr _ _ _, by rw [Array.getD_eq_getD_getElem?, ha.get _ _ hv]; exact h w hM⟩
attribute [local irreducible] WC WL WX POp Then Again Fn NX W1 WA WO QL RP RA Yld LoopAt HC HL HX HN H1 HA HO HQ HB HP A.blk A.grow A.rd A.obj A.mp AgainH CutH
attribute [local irreducible] A.pm A.mx A.mit sumS
theorem ccheck_fn {w0 w : World} {H : List Atom} {a : Addr} (b : Bool) (hM : Mm w0 H w) (hE : CErrG a w0) :
    Calls Tryz.prog 112 #[.bool b] w (EndP (fun _ : Unit => b = true) (fun _ => .tuple #[]) (fun _ => H) (fun _ : Unit => b = false) (errP a) (fun _ => H) w0) := by
  refine enterE (l := [_]) hM rfl Tryz.ntmps112 rfl ?_
  cases b
  · refine hwYE ?_
    refine HL.one (H1.ld0 rfl hE rfl ?_)
    refine hwYE ?_
    refine HL.one (H1.panic rfl ?_)
    exact HX.panE fun w' hM => .inr ⟨(), rfl, rfl, hM⟩
  · refine hwYE ?_
    exact HX.end0E rfl fun w' hM => .inl ⟨(), rfl, rfl, hM⟩
theorem number27_fn {w0 w : World} {H : List Atom} {br p : Nat} {ea : Addr} (s : ByteArray) (hE : CErrG ea w0) (hM : Mm w0 (A.blk br [.string s, zv (p : Int)] 190 :: H) w) (hp : p ≤ s.size) (hs : s.size ≤ 5000000) :
    Calls Tryz.prog 113 #[.pointer (some ⟨br, 0, none⟩)] w (EndP (fun x : Nat × Nat => decI s.data.toList p = some x) (fun x => zv (unz x.1)) (fun x => A.blk br [.string s, zv (x.2 : Int)] 190 :: H)
      (fun _ : Unit => decI s.data.toList p = none) (errP ea) (fun _ => H) w0) := by
  have hint := fun w' => int_fn s p hp hs w'
  refine enterE (l := [_]) hM rfl Tryz.ntmps113 rfl ?_
  refine hwYE ?_
  cases hd : decI s.data.toList p with
  | none =>
    rw [hd] at hint
    refine HC.anyC ([(⟨br, 0, none⟩, .string s), (⟨br, 1, none⟩, zv (p : Int))]) rfl ?_
    refine HB.pa 0 rfl ?_
    refine HB.pa 1 rfl ?_ (POp.nilCheck rfl)
    refine HB.pa 2 rfl ?_
    refine HB.ld 3 rfl rfl memD ?_
    refine HB.pa 4 rfl ?_
    refine HB.pa 5 rfl ?_ (POp.nilCheck rfl)
    refine HB.pa 6 rfl ?_
    refine HB.ld 7 rfl rfl memD ?_
    refine HB.all (by (exact Keep.blk (b := br) memD rfl (Keep.blk (b := br) memD rfl Keep.nil))) [8] (by kernel_rfl) rfl ⟨⟨_, rfl, ?_⟩, trivial⟩
    refine HP.one ?_
    refine H1.call0 (vs := [.string s, zv (p : Int)]) rfl rfl (fun w' _ => hint w') ?_
    apply HB.fold
    refine HB.pa 9 rfl ?_
    refine HB.pa 10 rfl ?_
    refine HB.pa 11 rfl ?_
    refine HB.pa 12 rfl ?_
    refine HB.pa 13 rfl ?_
    refine HB.pa 14 rfl ?_
    refine HB.pa 15 rfl ?_
    refine HB.done (by (exact Keep.blk (b := br) memD rfl (Keep.blk (b := br) memD rfl Keep.nil))) (by kernel_rfl) ?_
    refine hwYE ?_
    refine HL.one (H1.callE (vs := [.bool false]) rfl rfl (fun w' hM => ccheck_fn _ hM hE) (fun _ hb2 => ?_) (fun _ hb2 => ?_))
    · cases hb2
    repeat (first | apply HX.p_then | apply HX.p_block | apply HX.p_again)
    exact HX.panE fun w' hM => .inr ⟨(), rfl, rfl, hM.tail⟩
  | some x =>
    obtain ⟨z, q⟩ := x
    rw [hd] at hint
    refine HC.anyC ([(⟨br, 0, none⟩, .string s), (⟨br, 1, none⟩, zv (p : Int))]) rfl ?_
    refine HB.pa 0 rfl ?_
    refine HB.pa 1 rfl ?_ (POp.nilCheck rfl)
    refine HB.pa 2 rfl ?_
    refine HB.ld 3 rfl rfl memD ?_
    refine HB.pa 4 rfl ?_
    refine HB.pa 5 rfl ?_ (POp.nilCheck rfl)
    refine HB.pa 6 rfl ?_
    refine HB.ld 7 rfl rfl memD ?_
    refine HB.all (by (exact Keep.blk (b := br) memD rfl (Keep.blk (b := br) memD rfl Keep.nil))) [8] (by kernel_rfl) rfl ⟨⟨_, rfl, ?_⟩, trivial⟩
    refine HP.one ?_
    refine H1.call0 (vs := [.string s, zv (p : Int)]) rfl rfl (fun w' _ => hint w') ?_
    apply HB.fold
    refine HB.pa 9 rfl ?_
    refine HB.pa 10 rfl ?_
    refine HB.pa 11 rfl ?_
    refine HB.pa 12 rfl ?_
    refine HB.pa 13 rfl ?_
    refine HB.pa 14 rfl ?_
    refine HB.pa 15 rfl ?_
    refine HB.done (by (exact Keep.blk (b := br) memD rfl (Keep.blk (b := br) memD rfl Keep.nil))) (by kernel_rfl) ?_
    refine hwYE ?_
    refine HL.one (H1.callE (vs := [.bool true]) rfl rfl (fun w' hM => ccheck_fn _ hM hE) (fun _ hb2 => ?_) (fun _ hb2 => ?_))
    rotate_left
    · cases hb2
    refine hwYE ?_
    refine HL.one (H1.st rfl rfl (by intro _ h; cases h) (by intro _ h; cases h) rplA (by show 1 < 2; decide) ?_)
    refine hwYE ?_
    exact HX.ret1E rfl rfl fun w' hM => .inl ⟨(z, q), rfl, rfl, hM⟩
theorem text27_fn {w0 w : World} {H : List Atom} {br p : Nat} {ea : Addr} (s : ByteArray) (hE : CErrG ea w0) (hM : Mm w0 (A.blk br [.string s, zv (p : Int)] 190 :: H) w) (hp : p ≤ s.size) (hs : s.size ≤ 5000000) :
    Calls Tryz.prog 114 #[.pointer (some ⟨br, 0, none⟩)] w (EndP (fun x : List UInt8 × Nat => decS s.data.toList p = some x) (fun x => .string (mkBA x.1)) (fun x => A.blk br [.string s, zv (x.2 : Int)] 190 :: H)
      (fun _ : Unit => decS s.data.toList p = none) (errP ea) (fun _ => H) w0) := by
  have hint := fun w' => string_fn s p hp hs w'
  refine enterE (l := [_]) hM rfl Tryz.ntmps114 rfl ?_
  refine hwYE ?_
  cases hd : decS s.data.toList p with
  | none =>
    rw [hd] at hint
    refine HC.anyC ([(⟨br, 0, none⟩, .string s), (⟨br, 1, none⟩, zv (p : Int))]) rfl ?_
    refine HB.pa 0 rfl ?_
    refine HB.pa 1 rfl ?_ (POp.nilCheck rfl)
    refine HB.pa 2 rfl ?_
    refine HB.ld 3 rfl rfl memD ?_
    refine HB.pa 4 rfl ?_
    refine HB.pa 5 rfl ?_ (POp.nilCheck rfl)
    refine HB.pa 6 rfl ?_
    refine HB.ld 7 rfl rfl memD ?_
    refine HB.all (by (exact Keep.blk (b := br) memD rfl (Keep.blk (b := br) memD rfl Keep.nil))) [8] (by kernel_rfl) rfl ⟨⟨_, rfl, ?_⟩, trivial⟩
    refine HP.one ?_
    refine H1.call0 (vs := [.string s, zv (p : Int)]) rfl rfl (fun w' _ => hint w') ?_
    apply HB.fold
    refine HB.pa 9 rfl ?_
    refine HB.pa 10 rfl ?_
    refine HB.pa 11 rfl ?_
    refine HB.pa 12 rfl ?_
    refine HB.pa 13 rfl ?_
    refine HB.pa 14 rfl ?_
    refine HB.pa 15 rfl ?_
    refine HB.done (by (exact Keep.blk (b := br) memD rfl (Keep.blk (b := br) memD rfl Keep.nil))) (by kernel_rfl) ?_
    refine hwYE ?_
    refine HL.one (H1.callE (vs := [.bool false]) rfl rfl (fun w' hM => ccheck_fn _ hM hE) (fun _ hb2 => ?_) (fun _ hb2 => ?_))
    · cases hb2
    repeat (first | apply HX.p_then | apply HX.p_block | apply HX.p_again)
    exact HX.panE fun w' hM => .inr ⟨(), rfl, rfl, hM.tail⟩
  | some x =>
    obtain ⟨z, q⟩ := x
    rw [hd] at hint
    refine HC.anyC ([(⟨br, 0, none⟩, .string s), (⟨br, 1, none⟩, zv (p : Int))]) rfl ?_
    refine HB.pa 0 rfl ?_
    refine HB.pa 1 rfl ?_ (POp.nilCheck rfl)
    refine HB.pa 2 rfl ?_
    refine HB.ld 3 rfl rfl memD ?_
    refine HB.pa 4 rfl ?_
    refine HB.pa 5 rfl ?_ (POp.nilCheck rfl)
    refine HB.pa 6 rfl ?_
    refine HB.ld 7 rfl rfl memD ?_
    refine HB.all (by (exact Keep.blk (b := br) memD rfl (Keep.blk (b := br) memD rfl Keep.nil))) [8] (by kernel_rfl) rfl ⟨⟨_, rfl, ?_⟩, trivial⟩
    refine HP.one ?_
    refine H1.call0 (vs := [.string s, zv (p : Int)]) rfl rfl (fun w' _ => hint w') ?_
    apply HB.fold
    refine HB.pa 9 rfl ?_
    refine HB.pa 10 rfl ?_
    refine HB.pa 11 rfl ?_
    refine HB.pa 12 rfl ?_
    refine HB.pa 13 rfl ?_
    refine HB.pa 14 rfl ?_
    refine HB.pa 15 rfl ?_
    refine HB.done (by (exact Keep.blk (b := br) memD rfl (Keep.blk (b := br) memD rfl Keep.nil))) (by kernel_rfl) ?_
    refine hwYE ?_
    refine HL.one (H1.callE (vs := [.bool true]) rfl rfl (fun w' hM => ccheck_fn _ hM hE) (fun _ hb2 => ?_) (fun _ hb2 => ?_))
    rotate_left
    · cases hb2
    refine hwYE ?_
    refine HL.one (H1.st rfl rfl (by intro _ h; cases h) (by intro _ h; cases h) rplA (by show 1 < 2; decide) ?_)
    refine hwYE ?_
    exact HX.ret1E rfl rfl fun w' hM => .inl ⟨(z, q), rfl, rfl, hM⟩
set_option maxHeartbeats 2000000 in
theorem replay_fn {w0 w : World} {H : List Atom} {b : Nat} {m : PM} {ea : Addr} (s : ByteArray) (hE : CErrG ea w0) (hM : Mm w0 (A.pm b (liftP m) :: H) w) (hs : s.size ≤ 5000000) (hk : (m.map Prod.fst).Nodup) (hl : m.length ≤ 900000) :
    Calls Tryz.prog 63 #[.map (some b), .string s] w (EndP (fun m2 : PM => replayF m s = some m2) (fun _ => .tuple #[]) (fun m2 => A.pm b (liftP m2) :: H) (fun _ : Unit => replayF m s = none) (errP ea) (fun _ => H) w0) := by
  have hlen : s.data.toList.length = s.size := by rw [Array.length_toList]; rfl
  refine enterE (l := [_, _]) hM rfl Tryz.ntmps63 rfl ?_
  refine hwYE ?_
  refine HL.one (H1.callE (vs := [.bool (decide (¬ s = ByteArray.mk #[]))]) rfl rfl (fun w' hM => ccheck_fn _ hM hE) (fun _ hb2 => ?_) (fun _ hb2 => ?_))
  rotate_left
  · have he : s = ByteArray.mk #[] := Classical.not_not.1 (of_decide_eq_false hb2)
    repeat (first | apply HX.p_then | apply HX.p_block | apply HX.p_again)
    exact HX.panE fun w' hM => .inr ⟨(), by unfold replayF; rw [if_pos (by rw [he]; rfl)], rfl, hM.tail⟩
  have hne : ¬ s = ByteArray.mk #[] := of_decide_eq_true hb2
  have hs0 : 0 < s.size := by
    rcases Nat.eq_zero_or_pos s.size with h | h
    · exact absurd (ba_ext (List.eq_nil_of_length_eq_zero (by rw [hlen]; exact h))) hne
    · exact h
  have hF0 : ∀ {r}, (match decI s.data.toList 1 with
    | none => none
    | some (z, q) =>
      if sb s 0 = 115 then
        match decI s.data.toList q with
        | none => none
        | some (z2, q2) => match decS s.data.toList q2 with
          | none => none
          | some (r, q3) => if okP (unz z, unz z2) ∧ r.length ≤ 4096 then (if q3 = s.size then some (setM m (unz z, unz z2) (mkBA r)) else none) else none
      else if sb s 0 = 100 then (if okP (unz z, 0) ∧ (dropM m (unz z)).length < m.length then (if q = s.size then some (dropM m (unz z)) else none) else none)
      else none) = r → replayF m s = r := fun h => by unfold replayF; rw [if_neg (by omega)]; exact h
  refine hwYE ?_
  refine HL.build (cs := [.string s, zv 1]) rfl rfl rfl ?_
  refine hwYE ?_
  refine HL.one (H1.boxAgg (cs := [.string s, zv 1]) rfl rfl (fun br => ?_))
  refine hwYE ?_
  refine HL.one (H1.callE (vs := [.pointer (some ⟨br, 0, none⟩)]) rfl rfl (fun w' hM => number27_fn (p := 1) s hE hM (by omega) hs) (fun x hx => ?_) (fun _ hb2 => ?_))
  rotate_left
  · repeat (first | apply HX.p_then | apply HX.p_block | apply HX.p_again)
    exact HX.panE fun w' hM => .inr ⟨(), hF0 (by rw [hb2]), rfl, hM.tail⟩
  obtain ⟨z, q⟩ := x
  rw [hx] at hF0
  dsimp only at hF0 ⊢
  have hq := decI_le (by omega) hx
  rw [hlen] at hq
  obtain ⟨o, ho⟩ : ∃ o, o = unz z := ⟨_, rfl⟩
  rw [← ho] at hF0 ⊢
  refine hwYE ?_
  refine HL.build (cs := [zv o, zv 0]) rfl rfl rfl ?_
  refine hwYE ?_
  refine HL.one (H1.alloc (cs := [zv 0, zv 0]) rfl rfl (fun b5 => ?_))
  refine hwYE ?_
  refine HL.one (H1.stAgg (cs := [zv 0, zv 0]) (vs := [zv o, zv 0]) rfl rfl rfl (by intro v hv; rcases List.mem_cons.1 hv with rfl | hv; rfl; rcases List.mem_cons.1 hv with rfl | hv; rfl; cases hv) rplA rfl ?_)
  refine hnYE ?_
  by_cases h1 : sb s 0 = 115
  · have h1' : ((sb s 0 : Nat) : Int) = 115 := by omega
    rw [if_pos h1] at hF0
    refine hwYE ?_
    refine HL.one (H1.callE (vs := [.pointer (some ⟨br, 0, none⟩)]) rfl rfl (fun w' hM => number27_fn (p := q) s hE (hM.sub (Hs.cons (Pick.there Pick.here) (Hs.refl _))) (by omega) hs) (fun x hx2 => ?_) (fun _ hb2 => ?_))
    rotate_left
    · repeat (first | apply HX.p_then | apply HX.p_block | apply HX.p_again)
      exact HX.panE fun w' hM => .inr ⟨(), hF0 (by rw [hb2]), rfl, hM.tail.tail⟩
    obtain ⟨z2, q2⟩ := x
    rw [hx2] at hF0
    dsimp only at hF0 ⊢
    have hq2 := decI_le (by omega) hx2
    rw [hlen] at hq2
    obtain ⟨f, hf⟩ : ∃ f, f = unz z2 := ⟨_, rfl⟩
    rw [← hf] at hF0 ⊢
    refine hwYE ?_
    refine HL.one (H1.st (b := b5) rfl rfl (by intro _ h; cases h) (by intro _ h; cases h) rplA (by show 1 < 2; decide) ?_)
    refine hwYE ?_
    refine HL.one (H1.callE (vs := [.pointer (some ⟨br, 0, none⟩)]) rfl rfl (fun w' hM => text27_fn (p := q2) s hE hM (by omega) hs) (fun x hx3 => ?_) (fun _ hb2 => ?_))
    rotate_left
    · repeat (first | apply HX.p_then | apply HX.p_block | apply HX.p_again)
      exact HX.panE fun w' hM => .inr ⟨(), hF0 (by rw [hb2]), rfl, hM.tail.tail⟩
    obtain ⟨r, q3⟩ := x
    rw [hx3] at hF0
    dsimp only at hF0 ⊢
    have hq3 := decS_le hx3
    rw [hlen] at hq3
    have hrs := mkBA_size2 r
    refine hwYE ?_
    refine HL.one (H1.ldAgg (vs := [zv o, zv f]) rfl memA rfl (fun i v hv => by show [zv o, zv f][0 + i]? = _; rw [Nat.zero_add]; exact hv) rfl ?_)
    refine hwYE ?_
    refine HL.one (H1.callx (vs := [pkV (o, f)]) rfl rfl (fun w' _ => isValid_fn (o, f) w') ?_)
    by_cases hok : okP (o, f) ∧ r.length ≤ 4096
    rotate_left
    · rw [if_neg hok] at hF0
      by_cases hv : okP (o, f)
      · have hl2 : ¬ ((mkBA r).size : Int) ≤ 4096 := fun h => hok ⟨hv, by omega⟩
        rw [decide_eq_true hv]
        refine hwYE ?_
        rw [decide_eq_false hl2]
        refine HL.one (H1.callE (vs := [.bool false]) rfl rfl (fun w' hM => ccheck_fn _ hM hE) (fun _ hb2 => by cases hb2) (fun _ hb2 => ?_))
        repeat (first | apply HX.p_then | apply HX.p_block | apply HX.p_again)
        exact HX.panE fun w' hM => .inr ⟨(), hF0 rfl, rfl, hM.tail.tail.tail⟩
      · rw [decide_eq_false hv]
        refine hwYE ?_
        refine HL.one (H1.callE (vs := [.bool false]) rfl rfl (fun w' hM => ccheck_fn _ hM hE) (fun _ hb2 => by cases hb2) (fun _ hb2 => ?_))
        repeat (first | apply HX.p_then | apply HX.p_block | apply HX.p_again)
        exact HX.panE fun w' hM => .inr ⟨(), hF0 rfl, rfl, hM.tail.tail.tail⟩
    rw [if_pos hok] at hF0
    have hl2 : ((mkBA r).size : Int) ≤ 4096 := by have := hok.2; omega
    rw [decide_eq_true hok.1]
    refine hwYE ?_
    rw [decide_eq_true hl2]
    refine HL.one (H1.callE (vs := [.bool true]) rfl rfl (fun w' hM => ccheck_fn _ hM hE) (fun _ hb2 => ?_) (fun _ hb2 => by cases hb2))
    refine hwYE ?_
    refine HL.one (H1.ldAgg (vs := [zv o, zv f]) rfl memA rfl (fun i v hv => by show [zv o, zv f][0 + i]? = _; rw [Nat.zero_add]; exact hv) rfl ?_)
    refine hwYE ?_
    refine HL.one (H1.pmset (n := (o, f)) (v := .string (mkBA r)) rfl rfl rfl rplA ?_)
    rw [msetP_lift]
    refine hwYE ?_
    refine HL.one (H1.callE (vs := [.bool (decide ((q3 : Int) = (s.size : Int)))]) rfl rfl (fun w' hM => ccheck_fn _ hM hE) (fun _ hb2 => ?_) (fun _ hb2 => ?_))
    rotate_left
    · repeat (first | apply HX.p_then | apply HX.p_block | apply HX.p_again)
      exact HX.panE fun w' hM => .inr ⟨(), hF0 (by rw [if_neg (fun h => of_decide_eq_false hb2 (by omega))]), rfl, hM.tail.tail.tail⟩
    have hfin : q3 = s.size := by have h := of_decide_eq_true hb2; omega
    refine hwYE ?_
    exact HX.end0E rfl fun w' hM => .inl ⟨_, hF0 (by rw [if_pos hfin]), rfl, hM.tail.tail⟩
  have h1' : ¬ ((sb s 0 : Nat) : Int) = 115 := by omega
  rw [if_neg h1] at hF0
  by_cases h2 : sb s 0 = 100
  rotate_left
  · have h2' : ¬ ((sb s 0 : Nat) : Int) = 100 := by omega
    rw [if_neg h2] at hF0
    refine hwYE ?_
    refine HL.one (H1.callE (vs := [.bool false]) rfl rfl (fun w' hM => ccheck_fn _ hM hE) (fun _ hb2 => by cases hb2) (fun _ hb2 => ?_))
    repeat (first | apply HX.p_then | apply HX.p_block | apply HX.p_again)
    exact HX.panE fun w' hM => .inr ⟨(), hF0 rfl, rfl, hM.tail.tail.tail⟩
  have h2' : ((sb s 0 : Nat) : Int) = 100 := by omega
  have hdl := dropM_len m o
  rw [if_pos h2] at hF0
  refine hwYE ?_
  refine HL.one (H1.ldAgg (vs := [zv o, zv 0]) rfl memA rfl (fun i v hv => by rw [Nat.zero_add]; exact hv) rfl ?_)
  refine hwYE ?_
  refine HL.one (H1.callx (vs := [pkV (o, 0)]) rfl rfl (fun w' _ => isValid_fn (o, 0) w') ?_)
  by_cases hv : okP (o, 0)
  rotate_left
  · rw [if_neg (fun h => hv h.1)] at hF0
    rw [decide_eq_false hv]
    refine hwYE ?_
    refine HL.one (H1.callE (vs := [.bool false]) rfl rfl (fun w' hM => ccheck_fn _ hM hE) (fun _ hb2 => by cases hb2) (fun _ hb2 => ?_))
    repeat (first | apply HX.p_then | apply HX.p_block | apply HX.p_again)
    exact HX.panE fun w' hM => .inr ⟨(), hF0 rfl, rfl, hM.tail.tail.tail⟩
  rw [decide_eq_true hv]
  refine hwYE ?_
  refine HL.one (H1.callk (α := Unit) (V := fun _ => zv ((m.length : Int) - ((dropM m o).length : Int))) (I := fun _ => True) (H' := fun _ => A.pm b (liftP (dropM m o)) :: A.blk b5 [zv o, zv 0] 76 :: A.blk br [.string s, zv (q : Int)] 190 :: H) (vs := [.map (some b), _]) rfl rfl
    (fun w' hM => dropP_fn (hM.sub (Hs.cons (Pick.there (Pick.there Pick.here)) (Hs.refl _))) hk (by omega)) ?_)
  rintro - -
  refine hwYE ?_
  refine HL.one (H1.callE (vs := [.bool (decide (0 < (m.length : Int) - ((dropM m o).length : Int)))]) rfl rfl (fun w' hM => ccheck_fn _ hM hE) (fun _ hb2 => ?_) (fun _ hb2 => ?_))
  rotate_left
  · repeat (first | apply HX.p_then | apply HX.p_block | apply HX.p_again)
    exact HX.panE fun w' hM => .inr ⟨(), hF0 (by rw [if_neg (fun h => of_decide_eq_false hb2 (by have := h.2; omega))]), rfl, hM.tail.tail.tail⟩
  have hlt : (dropM m o).length < m.length := by have h := of_decide_eq_true hb2; omega
  rw [if_pos ⟨hv, hlt⟩] at hF0
  refine hwYE ?_
  refine HL.one (H1.callE (vs := [.bool (decide ((q : Int) = (s.size : Int)))]) rfl rfl (fun w' hM => ccheck_fn _ hM hE) (fun _ hb2 => ?_) (fun _ hb2 => ?_))
  rotate_left
  · repeat (first | apply HX.p_then | apply HX.p_block | apply HX.p_again)
    exact HX.panE fun w' hM => .inr ⟨(), hF0 (by rw [if_neg (fun h => of_decide_eq_false hb2 (by omega))]), rfl, hM.tail.tail.tail⟩
  have hfin : q = s.size := by have h := of_decide_eq_true hb2; omega
  refine hwYE ?_
  exact HX.end0E rfl fun w' hM => .inl ⟨_, hF0 (by rw [if_pos hfin]), rfl, hM.sub (Hs.cons Pick.here (Hs.refl _).skip.skip)⟩
end Go.Sx
