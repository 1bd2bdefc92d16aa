/- Chapter 26: few, same, content: the walks. -/
import Derived.Test.YtlihcenahjgnmaaGreatDoorJL
namespace Go.Sx
open Go Go.Proofs Go.RowKit
theorem few_snoc {l : List ByteArray} {i : Nat} (h : i < l.length) : (l.take (i + 1)).map (cutS 100) = (l.take i).map (cutS 100) ++ [cutS 100 (fr l i)] := by
  rw [take_fr h, List.map_append]; rfl
theorem few_len {l : List ByteArray} {i : Nat} (h : i ≤ l.length) : ((l.take i).map (cutS 100)).length = i := by rw [List.length_map, List.length_take]; omega
attribute [local irreducible] WC WL WX POp Then Again Fn NX W1 WA WO QL RP RA Yld LoopAt HC HL HX HN H1 HA HO HQ HB HP A.blk A.grow A.rd A.obj A.mp AgainH CutH
set_option maxHeartbeats 1000000 in
theorem few26_fn (v : Value) (l : List ByteArray) (hR0 : ∀ s ∈ l, s.size ≤ 9223372036854775807) (hl : l.length ≤ 9223372036854775807) (w : World) (hR : Rd w v (strs l)) :
    Fn Tryz.prog 11 #[v] w fun u w' => ∃ z : Option Addr × Nat, True ∧ u = .slice z.1 (few26 l).length z.2 ∧ Mm w [A.grow 9 1 z.1 z.2 (few26 l).length (strs (few26 l))] w' := by
  obtain ⟨a0, c0, rfl, hc0⟩ := rd_strs_shape hR
  refine enterH (l := [_]) rfl Tryz.ntmps11 rfl ?_
  repeat' (first | apply HL.fold | apply HA.fold | apply HL.nil | apply HX.n_then | apply HC.seq | apply HC.region | refine HL.pa ?_ | refine HL.ga rfl ?_ | refine HL.na rfl ?_ | refine HL.nu rfl rfl ?_ | apply HC.block | apply HC.skip | apply HC.exit | apply HC.ret | apply HX.e_block | refine HX.e_other rfl ?_ | apply HX.e_then | apply HX.e_again | apply HX.n_block | apply HX.r_then | apply HX.r_block | apply HX.r_again | refine HC.cond_yes rfl ?_ | refine HC.cond_no rfl ?_ | refine HL.one (H1.ldb rfl memA rfl rfl ?_) | refine HC.cond rfl (fun hc => ?_) (fun hc => ?_) | refine HC.cond_b rfl (fun hc => ?_) (fun hc => ?_))
  refine HC.grow0 9 1 ?_
  refine HC.loop (α := Nat × Option Addr × Nat) (fun z => [(0, .slice a0 l.length c0), (3, .slice z.2.1 z.1 z.2.2), (4, zv (z.1 : Int))]) (fun z => [A.grow 9 1 z.2.1 z.2.2 z.1 (strs ((l.take z.1).map (cutS 100)))]) (fun z => z.1 ≤ l.length ∧ z.1 ≤ 6) (fun z => 6 - z.1) (0, none, 0) ⟨Nat.zero_le _, Nat.zero_le _⟩ esA (Hs.refl _) ?_
  rintro ⟨i, a, c⟩ ⟨hi, h6⟩
  dsimp only at hi h6 ⊢
  have hfl := few_len hi
  by_cases hlt : i < l.length ∧ i < 6
  · obtain ⟨hlt, hl6⟩ := hlt
    obtain ⟨b, off, rfl⟩ := rd_some hR (by rintro rfl; simp at hlt)
    have hget := hR.cell (strs_get hlt)
    have hsn := few_snoc hlt
    have hsz := hR0 (fr l i) (by unfold fr; simp [hlt])
    generalize fr l i = s at hget hsn hsz
    have hcut : s.extract 0 (min s.size 100) = cutS 100 s := rfl
    have hmin : min (s.size : Int) 100 = ((min s.size 100 : Nat) : Int) := by omega
    repeat' (first | apply HL.fold | apply HA.fold | apply HL.nil | apply HX.n_then | apply HC.seq | apply HC.region | refine HL.pa ?_ | refine HL.ga rfl ?_ | refine HL.na rfl ?_ | refine HL.nu rfl rfl ?_ | apply HC.block | apply HC.skip | apply HC.exit | apply HC.ret | apply HX.e_block | refine HX.e_other rfl ?_ | apply HX.e_then | apply HX.e_again | apply HX.n_block | apply HX.r_then | apply HX.r_block | apply HX.r_again | refine HC.cond_yes rfl ?_ | refine HC.cond_no rfl ?_ | refine HL.one (H1.ldb rfl memA rfl rfl ?_) | refine HC.cond rfl (fun hc => ?_) (fun hc => ?_) | refine HC.cond_b rfl (fun hc => ?_) (fun hc => ?_))
    refine HC.anyC ([(⟨b, off + i, none⟩, .string s)]) rfl ?_
    refine HB.pa 0 rfl ?_
    refine HB.pa 1 rfl ?_
    refine HB.pa 2 rfl ?_
    refine HB.pa 3 rfl ?_
    refine HB.ld 4 rfl rfl memD ?_
    refine HB.pa 5 rfl ?_
    refine HB.pa 6 rfl ?_
    refine HB.pa 7 rfl ?_
    refine HB.ld 8 rfl rfl memD ?_
    refine HB.pa 9 rfl ?_
    refine HB.pa 10 rfl ?_
    refine HB.pa 11 rfl ?_ (POp.sub_h rfl rfl (by omega) (by omega))
    rw [hmin, Int.toNat_natCast, hcut]
    refine HB.all (by (exact Keep.base hget Keep.nil)) [12] (by kernel_rfl) rfl ⟨⟨_, rfl, ?_⟩, trivial⟩
    refine HP.one ?_
    refine H1.lit (cs := [.string (cutS 100 s)]) rfl rfl rfl rfl rfl rfl (fun b9 => ?_)
    apply HB.fold
    refine HB.all (by (exact Keep.base hget Keep.nil)) [13] (by kernel_rfl) rfl ⟨⟨_, rfl, ?_⟩, trivial⟩
    refine HP.one ?_
    refine H1.app1 (u := .string (cutS 100 s)) rfl rfl (fun _ _ => by first | ((repeat (first | with_reducible exact Rpl.here | with_reducible apply Rpl.there)); done) | (repeat (first | exact Rpl.here | apply Rpl.there))) memA rfl rfl (by omega) rfl rfl (fun a' c' => ?_)
    rw [strs_snoc, ← hsn]
    apply HB.fold
    refine HB.pa 14 rfl ?_
    refine HB.done (by (exact Keep.base hget Keep.nil)) (by kernel_rfl) ?_
    repeat' (first | apply HL.fold | apply HA.fold | apply HL.nil | apply HX.n_then | apply HC.seq | apply HC.region | refine HL.pa ?_ | refine HL.ga rfl ?_ | refine HL.na rfl ?_ | refine HL.nu rfl rfl ?_ | apply HC.block | apply HC.skip | apply HC.exit | apply HC.ret | apply HX.e_block | refine HX.e_other rfl ?_ | apply HX.e_then | apply HX.e_again | apply HX.n_block | apply HX.r_then | apply HX.r_block | apply HX.r_again | refine HC.cond_yes rfl ?_ | refine HC.cond_no rfl ?_ | refine HL.one (H1.ldb rfl memA rfl rfl ?_) | refine HC.cond rfl (fun hc => ?_) (fun hc => ?_) | refine HC.cond_b rfl (fun hc => ?_) (fun hc => ?_))
    exact HX.again (i + 1, some ⟨a', 0, none⟩, c') ⟨hlt, hl6⟩ (by show 6 - (i + 1) < 6 - i; omega) esA (Hs.cons (Pick.there Pick.here) (Hs.nil _))
  · have hfin : few26 l = (l.take i).map (cutS 100) := by
      unfold few26
      by_cases h : i = 6
      · rw [h]
      · have : i = l.length := by omega
        rw [this, List.take_of_length_le (by omega), List.take_length]
    have hn : (few26 l).length = i := by rw [hfin, hfl]
    rw [hn, hfin]
    by_cases hl2 : i < l.length
    · have hl6 : ¬ i < 6 := fun h => hlt ⟨hl2, h⟩
      repeat' (first | apply HL.fold | apply HA.fold | apply HL.nil | apply HX.n_then | apply HC.seq | apply HC.region | refine HL.pa ?_ | refine HL.ga rfl ?_ | refine HL.na rfl ?_ | refine HL.nu rfl rfl ?_ | apply HC.block | apply HC.skip | apply HC.exit | apply HC.ret | apply HX.e_block | refine HX.e_other rfl ?_ | apply HX.e_then | apply HX.e_again | apply HX.n_block | apply HX.r_then | apply HX.r_block | apply HX.r_again | refine HC.cond_yes rfl ?_ | refine HC.cond_no rfl ?_ | refine HL.one (H1.ldb rfl memA rfl rfl ?_) | refine HC.cond rfl (fun hc => ?_) (fun hc => ?_) | refine HC.cond_b rfl (fun hc => ?_) (fun hc => ?_))
      exact HX.ret1 rfl rfl fun w' hM => ⟨(a, c), trivial, rfl, hM⟩
    · repeat' (first | apply HL.fold | apply HA.fold | apply HL.nil | apply HX.n_then | apply HC.seq | apply HC.region | refine HL.pa ?_ | refine HL.ga rfl ?_ | refine HL.na rfl ?_ | refine HL.nu rfl rfl ?_ | apply HC.block | apply HC.skip | apply HC.exit | apply HC.ret | apply HX.e_block | refine HX.e_other rfl ?_ | apply HX.e_then | apply HX.e_again | apply HX.n_block | apply HX.r_then | apply HX.r_block | apply HX.r_again | refine HC.cond_yes rfl ?_ | refine HC.cond_no rfl ?_ | refine HL.one (H1.ldb rfl memA rfl rfl ?_) | refine HC.cond rfl (fun hc => ?_) (fun hc => ?_) | refine HC.cond_b rfl (fun hc => ?_) (fun hc => ?_))
      exact HX.ret1 rfl rfl fun w' hM => ⟨(a, c), trivial, rfl, hM⟩
set_option maxHeartbeats 1000000 in
theorem same26_fn (v u : Value) (l m : List ByteArray) (hl : l.length ≤ 1000000) (hm : m.length ≤ 1000000) (w : World) (hR : Rd w v (strs l)) (hS : Rd w u (strs m)) :
    Fn Tryz.prog 18 #[v, u] w fun x w' => x = .bool (decide (l = m)) ∧ Ext w w' := by
  obtain ⟨a0, c0, rfl, hc0⟩ := rd_strs_shape hR
  obtain ⟨a1, c1, rfl, hc1⟩ := rd_strs_shape hS
  refine enterH (l := [_, _]) rfl Tryz.ntmps18 rfl ?_
  by_cases hlen : l.length = m.length
  rotate_left
  · have hne : ¬ l = m := fun e => hlen (by rw [e])
    repeat' (first | apply HL.fold | apply HA.fold | apply HL.nil | apply HX.n_then | apply HC.seq | apply HC.region | refine HL.pa ?_ | refine HL.ga rfl ?_ | refine HL.na rfl ?_ | refine HL.nu rfl rfl ?_ | apply HC.block | apply HC.skip | apply HC.exit | apply HC.ret | apply HX.e_block | refine HX.e_other rfl ?_ | apply HX.e_then | apply HX.e_again | apply HX.n_block | apply HX.r_then | apply HX.r_block | apply HX.r_again | refine HC.cond_yes rfl ?_ | refine HC.cond_no rfl ?_ | refine HL.one (H1.ldb rfl memA rfl rfl ?_) | refine HC.cond rfl (fun hc => ?_) (fun hc => ?_) | refine HC.cond_b rfl (fun hc => ?_) (fun hc => ?_))
    exact HX.ret1 rfl rfl fun w' hM => ⟨by rw [decide_eq_false hne], hM.ext⟩
  repeat' (first | apply HL.fold | apply HA.fold | apply HL.nil | apply HX.n_then | apply HC.seq | apply HC.region | refine HL.pa ?_ | refine HL.ga rfl ?_ | refine HL.na rfl ?_ | refine HL.nu rfl rfl ?_ | apply HC.block | apply HC.skip | apply HC.exit | apply HC.ret | apply HX.e_block | refine HX.e_other rfl ?_ | apply HX.e_then | apply HX.e_again | apply HX.n_block | apply HX.r_then | apply HX.r_block | apply HX.r_again | refine HC.cond_yes rfl ?_ | refine HC.cond_no rfl ?_ | refine HL.one (H1.ldb rfl memA rfl rfl ?_) | refine HC.cond rfl (fun hc => ?_) (fun hc => ?_) | refine HC.cond_b rfl (fun hc => ?_) (fun hc => ?_))
  refine HC.loop (α := Nat) (fun i => [(0, .slice a0 l.length c0), (1, .slice a1 m.length c1), (5, zv (i : Int))]) (fun _ => []) (fun i => i ≤ l.length ∧ l.take i = m.take i) (fun i => l.length - i) 0 ⟨Nat.zero_le _, rfl⟩ esA (Hs.refl _) ?_
  rintro i ⟨hi, hpre⟩
  by_cases hlt : i < l.length
  · obtain ⟨b, off, rfl⟩ := rd_some hR (by rintro rfl; simp at hlt)
    obtain ⟨b', off', rfl⟩ := rd_some hS (by rintro rfl; simp at hlen; subst hlen; simp at hlt)
    have hget := hR.cell (strs_get hlt)
    have hget' := hS.cell (strs_get (l := m) (i := i) (by omega))
    have h1 := take_fr hlt
    have h2 := take_fr (l := m) (i := i) (by omega)
    have hval : ¬ fr l i = fr m i → ¬ l = m := fun h e => h (by rw [e])
    generalize fr l i = s at hget h1 hval
    generalize fr m i = s' at hget' h2 hval
    repeat' (first | apply HL.fold | apply HA.fold | apply HL.nil | apply HX.n_then | apply HC.seq | apply HC.region | refine HL.pa ?_ | refine HL.ga rfl ?_ | refine HL.na rfl ?_ | refine HL.nu rfl rfl ?_ | apply HC.block | apply HC.skip | apply HC.exit | apply HC.ret | apply HX.e_block | refine HX.e_other rfl ?_ | apply HX.e_then | apply HX.e_again | apply HX.n_block | apply HX.r_then | apply HX.r_block | apply HX.r_again | refine HC.cond_yes rfl ?_ | refine HC.cond_no rfl ?_ | refine HL.one (H1.ldb rfl memA rfl rfl ?_) | refine HC.cond rfl (fun hc => ?_) (fun hc => ?_) | refine HC.cond_b rfl (fun hc => ?_) (fun hc => ?_))
    refine HC.cut (α := Unit) (fun _ => [(0, .slice (some ⟨b, off, none⟩) l.length c0), (1, .slice (some ⟨b', off', none⟩) m.length c1), (5, zv (i : Int)), (25, .bool (decide (¬ s = s')))]) (fun _ => []) (fun _ => True) ?_ ?_
    · refine HC.anyC ([(⟨b, off + i, none⟩, .string s), (⟨b', off' + i, none⟩, .string s')]) rfl ?_
      refine HB.pa 0 rfl ?_
      refine HB.pa 1 rfl ?_
      refine HB.pa 2 rfl ?_
      refine HB.ld 3 rfl rfl memD ?_
      refine HB.pa 4 rfl ?_
      refine HB.pa 5 rfl ?_
      refine HB.pa 6 rfl ?_
      refine HB.ld 7 rfl rfl memD ?_
      refine HB.pa 8 rfl ?_
      refine HB.done (by (exact Keep.base hget (Keep.base hget' Keep.nil))) (by kernel_rfl) ?_
      exact HX.cut () trivial esA (Hs.refl _)
    rintro - -
    by_cases hs : s = s'
    · subst hs
      repeat' (first | apply HL.fold | apply HA.fold | apply HL.nil | apply HX.n_then | apply HC.seq | apply HC.region | refine HL.pa ?_ | refine HL.ga rfl ?_ | refine HL.na rfl ?_ | refine HL.nu rfl rfl ?_ | apply HC.block | apply HC.skip | apply HC.exit | apply HC.ret | apply HX.e_block | refine HX.e_other rfl ?_ | apply HX.e_then | apply HX.e_again | apply HX.n_block | apply HX.r_then | apply HX.r_block | apply HX.r_again | refine HC.cond_yes rfl ?_ | refine HC.cond_no rfl ?_ | refine HL.one (H1.ldb rfl memA rfl rfl ?_) | refine HC.cond rfl (fun hc => ?_) (fun hc => ?_) | refine HC.cond_b rfl (fun hc => ?_) (fun hc => ?_))
      exact HX.again (i + 1) ⟨hlt, by rw [h1, h2, hpre]⟩ (by show l.length - (i + 1) < l.length - i; omega) esA (Hs.refl _)
    · have hne := hval hs
      repeat' (first | apply HL.fold | apply HA.fold | apply HL.nil | apply HX.n_then | apply HC.seq | apply HC.region | refine HL.pa ?_ | refine HL.ga rfl ?_ | refine HL.na rfl ?_ | refine HL.nu rfl rfl ?_ | apply HC.block | apply HC.skip | apply HC.exit | apply HC.ret | apply HX.e_block | refine HX.e_other rfl ?_ | apply HX.e_then | apply HX.e_again | apply HX.n_block | apply HX.r_then | apply HX.r_block | apply HX.r_again | refine HC.cond_yes rfl ?_ | refine HC.cond_no rfl ?_ | refine HL.one (H1.ldb rfl memA rfl rfl ?_) | refine HC.cond rfl (fun hc => ?_) (fun hc => ?_) | refine HC.cond_b rfl (fun hc => ?_) (fun hc => ?_))
      exact HX.ret1 rfl rfl fun w' hM => ⟨by rw [decide_eq_false hne], hM.ext⟩
  · obtain rfl : i = l.length := by omega
    have he : l = m := by rw [List.take_length] at hpre; rw [hpre, hlen, List.take_length]
    repeat' (first | apply HL.fold | apply HA.fold | apply HL.nil | apply HX.n_then | apply HC.seq | apply HC.region | refine HL.pa ?_ | refine HL.ga rfl ?_ | refine HL.na rfl ?_ | refine HL.nu rfl rfl ?_ | apply HC.block | apply HC.skip | apply HC.exit | apply HC.ret | apply HX.e_block | refine HX.e_other rfl ?_ | apply HX.e_then | apply HX.e_again | apply HX.n_block | apply HX.r_then | apply HX.r_block | apply HX.r_again | refine HC.cond_yes rfl ?_ | refine HC.cond_no rfl ?_ | refine HL.one (H1.ldb rfl memA rfl rfl ?_) | refine HC.cond rfl (fun hc => ?_) (fun hc => ?_) | refine HC.cond_b rfl (fun hc => ?_) (fun hc => ?_))
    exact HX.ret1 rfl rfl fun w' hM => ⟨by rw [decide_eq_true he], hM.ext⟩
theorem content26_fn {w : World} {bd b1 b2 pc : Nat} {pa : Option Addr} {k : Dk} (hb : Blk w bd (dkC b1 b2 pa pc k) 97) (hv : Blk w b2 (ub k.vis) 5) (hk : k.Ok) :
    Fn Tryz.prog 22 #[.pointer (some ⟨bd, 0, none⟩)] w fun v w' => v = .string (if k.off then mkBA [] else mkBA k.vis) ∧ Ext w w' := by
  refine enterH (l := [_]) rfl Tryz.ntmps22 rfl ?_
  repeat' (first | apply HL.fold | apply HA.fold | apply HL.nil | apply HX.n_then | apply HC.seq | apply HC.region | refine HL.pa ?_ | refine HL.ga rfl ?_ | refine HL.na rfl ?_ | refine HL.nu rfl rfl ?_ | apply HC.block | apply HC.skip | apply HC.exit | apply HC.ret | apply HX.e_block | refine HX.e_other rfl ?_ | apply HX.e_then | apply HX.e_again | apply HX.n_block | apply HX.r_then | apply HX.r_block | apply HX.r_again | refine HC.cond_yes rfl ?_ | refine HC.cond_no rfl ?_ | refine HL.one (H1.ldb rfl memA rfl rfl ?_) | refine HC.cond rfl (fun hc => ?_) (fun hc => ?_) | refine HC.cond_b rfl (fun hc => ?_) (fun hc => ?_))
  refine HL.one (H1.call0 (vs := [_]) rfl rfl (fun w' hM => dsize_fn (blk_ext hb hM.ext)) ?_)
  repeat' (first | apply HL.fold | apply HA.fold | apply HL.nil | apply HX.n_then | apply HC.seq | apply HC.region | refine HL.pa ?_ | refine HL.ga rfl ?_ | refine HL.na rfl ?_ | refine HL.nu rfl rfl ?_ | apply HC.block | apply HC.skip | apply HC.exit | apply HC.ret | apply HX.e_block | refine HX.e_other rfl ?_ | apply HX.e_then | apply HX.e_again | apply HX.n_block | apply HX.r_then | apply HX.r_block | apply HX.r_again | refine HC.cond_yes rfl ?_ | refine HC.cond_no rfl ?_ | refine HL.one (H1.ldb rfl memA rfl rfl ?_) | refine HC.cond rfl (fun hc => ?_) (fun hc => ?_) | refine HC.cond_b rfl (fun hc => ?_) (fun hc => ?_))
  refine HL.one (H1.callx (vs := [_, zv 0, _]) rfl rfl (fun w' hM => read_fn (blk_ext hb hM.ext) (blk_ext hv hM.ext) hk) ?_)
  repeat' (first | apply HL.fold | apply HA.fold | apply HL.nil | apply HX.n_then | apply HC.seq | apply HC.region | refine HL.pa ?_ | refine HL.ga rfl ?_ | refine HL.na rfl ?_ | refine HL.nu rfl rfl ?_ | apply HC.block | apply HC.skip | apply HC.exit | apply HC.ret | apply HX.e_block | refine HX.e_other rfl ?_ | apply HX.e_then | apply HX.e_again | apply HX.n_block | apply HX.r_then | apply HX.r_block | apply HX.r_again | refine HC.cond_yes rfl ?_ | refine HC.cond_no rfl ?_ | refine HL.one (H1.ldb rfl memA rfl rfl ?_) | refine HC.cond rfl (fun hc => ?_) (fun hc => ?_) | refine HC.cond_b rfl (fun hc => ?_) (fun hc => ?_))
  exact HX.ret1 rfl rfl fun w' hM => ⟨rfl, hM.ext⟩
end Go.Sx
/- Plain, chapter 26: a journal on a disk that has power. -/
namespace Go.Sx
open Go
theorem splice_mid (A : List UInt8) (m : Nat) (o : List UInt8) (h : o.length ≤ m) (ho : o ≠ []) :
    splice (splice (A ++ List.replicate m 0) (A.length + 1) (o.drop 1)) A.length (o.take 1) = A ++ o ++ List.replicate (m - o.length) 0 := by
  obtain ⟨b, o', rfl⟩ := List.exists_cons_of_ne_nil ho
  rw [List.length_cons] at h
  obtain ⟨m', rfl⟩ : ∃ m', m = m' + 1 := ⟨m - 1, by omega⟩
  have e1 : splice (A ++ List.replicate (m' + 1) 0) (A.length + 1) ((b :: o').drop 1) = A ++ (0 :: (o' ++ List.replicate (m' - o'.length) 0)) := by
    unfold splice
    rw [List.drop_one, List.tail_cons, List.replicate_succ, List.take_append, List.take_of_length_le (by omega), show A.length + 1 - A.length = 1 from by omega,
      List.drop_append, List.drop_of_length_le (by omega), show A.length + 1 + o'.length - A.length = 1 + o'.length from by omega]
    simp [Nat.add_comm 1]
  rw [e1]
  unfold splice
  rw [List.take_left, List.drop_append, List.drop_of_length_le (by omega)]
  simp
/-- A journal whose disk has power, and all of which is durable. -/
structure Clean (j : Jn) (n : Nat) (l : List ByteArray) : Prop where
  t : j.t = adds t00 l
  br : j.br = false
  off : j.k.off = false
  left : j.k.left = 0
  pend : j.k.pend = []
  dur : j.k.dur = j.k.vis
  vis : j.k.vis = outsL zero32 l ++ List.replicate (n - j.t.size) 0
  fit : j.t.size ≤ n
  lo : 1 ≤ n
  hi : n ≤ 4194304
theorem adds0_size (l : List ByteArray) : (adds t00 l).size = (outsL zero32 l).length := by
  rw [adds_size]
  show 0 + _ = _
  rw [Nat.zero_add]; rfl
theorem adds0_recs (l : List ByteArray) : (adds t00 l).recs = l := by rw [adds_recs]; rfl
theorem Clean.len {j : Jn} {n : Nat} {l : List ByteArray} (h : Clean j n l) : j.k.vis.length = n := by
  have h1 := h.fit
  rw [h.vis, List.length_append, List.length_replicate]
  rw [h.t, adds0_size] at *
  omega
theorem Clean.ok {j : Jn} {n : Nat} {l : List ByteArray} (h : Clean j n l) : j.k.Ok := by
  have h1 := h.len
  have h2 := h.lo
  have h3 := h.hi
  exact ⟨by rw [h.dur], by rw [h.dur]; omega, by rw [h.dur]; omega, by rw [h.left]; omega, by rw [h.pend]; show 0 ≤ _; omega⟩
theorem clean0 {n : Nat} (h : 1 ≤ n) (h1 : n ≤ 4194304) : Clean ⟨t00, newK n, false⟩ n [] := ⟨rfl, rfl, rfl, rfl, rfl, rfl, rfl, Nat.zero_le _, h, h1⟩
theorem Clean.recs {j : Jn} {n : Nat} {l : List ByteArray} (h : Clean j n l) : j.t.recs = l := by rw [h.t, adds0_recs]
/-- What is on the disk is read back. -/
theorem load_vis {k : Dk} {n : Nat} {l : List ByteArray} (hv : k.vis = outsL zero32 l ++ List.replicate n 0) (hl : ∀ r ∈ l, r.size ≤ 65536) : loadF k.vis t00 = some (adds t00 l) :=
  loadF_all (m := n) hl hv
theorem zero_vis {k : Dk} {n : Nat} {l : List ByteArray} (hv : k.vis = outsL zero32 l ++ List.replicate n 0) : isZero (k.vis.drop (adds t00 l).size) = true := by
  rw [adds0_size, hv, List.drop_left]; exact rep_isZero _
theorem open_vis {k : Dk} {n : Nat} {l : List ByteArray} (ho : k.off = false) (hv : k.vis = outsL zero32 l ++ List.replicate n 0) (hl : ∀ r ∈ l, r.size ≤ 65536) : openF k = (0, k, some (adds t00 l)) :=
  openF_zero ho (load_vis hv hl) (zero_vis hv)
theorem Clean.opens {j : Jn} {n : Nat} {l : List ByteArray} (h : Clean j n l) (hl : ∀ r ∈ l, r.size ≤ 65536) : openF j.k = (0, j.k, some (adds t00 l)) := open_vis h.off h.vis hl
theorem used_zero {k : Dk} (h : k.left = 0) : k.used = k := by unfold Dk.used; rw [if_pos h]
/-- Writes and syncs on a disk whose power stays. -/
theorem run_grp {k : Dk} {t : Tp} {o : List UInt8} (ho : k.off = false) (hl : k.left = 0) (hv : k.vis.length = k.dur.length) (hne : o ≠ []) (hf : t.size + o.length ≤ k.dur.length) :
    runOps (grp t o) k = (0, ⟨false, 0, splice (splice k.vis (t.size + 1) (o.drop 1)) t.size (o.take 1), splice (splice k.vis (t.size + 1) (o.drop 1)) t.size (o.take 1), []⟩) := by
  have hpos : 0 < o.length := List.length_pos_iff.2 hne
  have hz1 : (mkBA (o.drop 1)).size = o.length - 1 := by show (o.drop 1).toArray.size = _; rw [List.size_toArray, List.length_drop]
  have hz2 : (mkBA (o.take 1)).size = 1 := by show (o.take 1).toArray.size = _; rw [List.size_toArray, List.length_take]; omega
  have hsl : (splice k.vis (t.size + 1) (o.drop 1)).length = k.vis.length := splice_len (by rw [List.length_drop]; omega)
  have w1 : k.write (t.size + 1) (mkBA (o.drop 1)) = (0, ⟨false, 0, k.dur, splice k.vis (t.size + 1) (o.drop 1), k.pend ++ [(t.size + 1, mkBA (o.drop 1))]⟩) := by
    rw [Dk.write_on ho (by omega)]
    show (0, Dk.used _) = _
    rw [used_zero (k := ⟨k.off, k.left, k.dur, splice k.vis (t.size + 1) (mkBA (o.drop 1)).data.toList, k.pend ++ [(t.size + 1, mkBA (o.drop 1))]⟩) hl, ho, hl]
    rfl
  have s1 : runOps (grp t o) k = runOps [.wr t.size (mkBA (o.take 1)), .sy] ⟨false, 0, splice k.vis (t.size + 1) (o.drop 1), splice k.vis (t.size + 1) (o.drop 1), []⟩ := by
    unfold grp
    rw [runOps_ok (show ((DOp.wr (t.size + 1) (mkBA (o.drop 1))).run k).1 = 0 by show (k.write _ _).1 = 0; rw [w1])]
    show runOps _ (k.write _ _).2 = _
    rw [w1]
    rw [runOps_ok (show (DOp.sy.run _).1 = 0 from by show (Dk.sync _).1 = 0; rw [Dk.sync_on rfl])]
    show runOps _ (Dk.sync _).2 = _
    rw [Dk.sync_on rfl]
  rw [s1]
  have w2 : (⟨false, 0, splice k.vis (t.size + 1) (o.drop 1), splice k.vis (t.size + 1) (o.drop 1), []⟩ : Dk).write t.size (mkBA (o.take 1)) =
      (0, ⟨false, 0, splice k.vis (t.size + 1) (o.drop 1), splice (splice k.vis (t.size + 1) (o.drop 1)) t.size (o.take 1), [(t.size, mkBA (o.take 1))]⟩) := by
    rw [Dk.write_on rfl (by show t.size + (mkBA (o.take 1)).size ≤ (splice k.vis (t.size + 1) (o.drop 1)).length; rw [hsl]; omega)]
    show (0, Dk.used _) = _
    rw [used_zero rfl]; rfl
  rw [runOps_ok (show ((DOp.wr t.size (mkBA (o.take 1))).run _).1 = 0 by show (Dk.write _ _ _).1 = 0; rw [w2])]
  show runOps _ (Dk.write _ _ _).2 = _
  rw [w2]
  rw [runOps_ok (show (DOp.sy.run _).1 = 0 from by show (Dk.sync _).1 = 0; rw [Dk.sync_on rfl])]
  show (0, (Dk.sync _).2) = _
  rw [Dk.sync_on rfl]
theorem outsL_ne {h : ByteArray} {l : List ByteArray} (hl : l ≠ []) : outsL h l ≠ [] := by
  obtain ⟨r, l', rfl⟩ := List.exists_cons_of_ne_nil hl
  intro e
  have h2 : (outL h r ++ outsL (chainS h r) l').length = 0 := congrArg List.length e
  have h1 := outL_pos h r
  rw [List.length_append] at h2
  omega
theorem Clean.app {j : Jn} {n : Nat} {l g : List ByteArray} (h : Clean j n l) (hg : g.any isLong = false) (hf : j.t.size + (outsL j.t.head g).length ≤ n) : ∃ j', j.append g = (0, j') ∧ Clean j' n (l ++ g) := by
  have hlen := h.len
  have hdl : j.k.dur.length = n := by rw [h.dur, hlen]
  have hnb : ¬ (j.br = true ∨ g.any isLong = true) := by rw [hg, h.br]; rintro (h | h) <;> cases h
  have h1 : ¬ (j.k.dur.length : Int) - (j.t.size : Int) < ((outsL j.t.head g).length : Int) := by omega
  by_cases hgn : g = []
  · subst hgn
    exact ⟨j, append_nil hnb h1 rfl, by rw [List.append_nil]; exact h⟩
  · have hne := outsL_ne (h := j.t.head) hgn
    have hrun := run_grp (t := j.t) h.off h.left (by rw [h.dur]) hne (by omega)
    refine ⟨_, append_ok hnb h1 hne (by rw [hrun]), ?_⟩
    rw [hrun]
    have hA : (outsL zero32 l).length = j.t.size := by rw [h.t, adds0_size]
    have hvis : splice (splice j.k.vis (j.t.size + 1) ((outsL j.t.head g).drop 1)) j.t.size ((outsL j.t.head g).take 1) = outsL zero32 (l ++ g) ++ List.replicate (n - (adds j.t g).size) 0 := by
      have := splice_mid (outsL zero32 l) (n - j.t.size) (outsL j.t.head g) (by omega) hne
      rw [hA, ← h.vis] at this
      rw [this, adds_size, Nat.sub_sub]
      congr 1
      have h3 := outsL_app l g t00
      rw [show (adds t00 l).head = j.t.head from by rw [h.t]] at h3
      exact h3.symm
    refine ⟨by show adds j.t g = _; rw [h.t, adds_app], h.br, rfl, rfl, rfl, rfl, hvis, by show (adds j.t g).size ≤ n; rw [adds_size]; exact hf, h.lo, h.hi⟩
theorem Clean.full {j : Jn} {n : Nat} {l g : List ByteArray} (h : Clean j n l) (hg : g.any isLong = false) (hf : ¬ j.t.size + (outsL j.t.head g).length ≤ n) : j.append g = (261, j) := by
  have hlen := h.len
  have hdl : j.k.dur.length = n := by rw [h.dur, hlen]
  have hnb : ¬ (j.br = true ∨ g.any isLong = true) := by rw [hg, h.br]; rintro (h | h) <;> cases h
  exact append_full hnb (by have := h.fit; omega)
theorem putN_1 {n : Nat} (h : n < 64) : (putN n).length = 1 := by unfold putN; rw [vint_lt (by omega)]; rfl
theorem putN_2 {n : Nat} (h : 64 ≤ n) (h1 : n < 8192) : (putN n).length = 2 := by unfold putN; rw [vint_ge (by omega), vint_lt (by omega)]; rfl
theorem strN_len (n : Nat) : (strN n).size = (putN n).length := by show (putN n).toArray.size = _; rw [List.size_toArray]
/-- How much records take. -/
def needL (l : List ByteArray) : Nat := (l.map fun r => 33 + (strN r.size).size + r.size).sum
theorem outsL_need : ∀ (l : List ByteArray) (h : ByteArray), (outsL h l).length = needL l
  | [], h => rfl
  | r :: l, h => by
    show (outL h r ++ outsL (chainS h r) l).length = (33 + (strN r.size).size + r.size) + needL l
    rw [List.length_append, outL_len, outsL_need l]
theorem not_long {l : List ByteArray} (h : ∀ r ∈ l, r.size ≤ 65536) : l.any isLong = false := by
  refine List.any_eq_false.2 fun r hr => ?_
  have := h r hr
  unfold isLong
  simpa using this
end Go.Sx

