/- Chapter 26: heads, sized; the reference's Chain and Head: the walks. -/
import Derived.Test.YtlihcenahjgnmaaGreatDoorDH
import Derived.Test.YtlihcenahjgnmaaGreatDoorJY
namespace Go.Sx
open Go Go.Proofs Go.RowKit
def sizedZ : List ByteArray → Int → Bool
  | [], _ => false
  | r :: l, at' => if 1 ≤ at' ∧ at' ≤ ((strN r.size).size : Int) then true else sizedZ l (at' - (1 + ((strN r.size).size : Int) + (r.size : Int) + 32))
theorem sizedZ_neg : ∀ (l : List ByteArray) (at' : Int), at' < 1 → sizedZ l at' = false
  | [], _, _ => rfl
  | r :: l, at', h => by
    show (if _ then _ else _) = _
    rw [if_neg (by omega)]
    exact sizedZ_neg l _ (by omega)
theorem sizedZ_eq : ∀ (l : List ByteArray) (n : Nat), sizedZ l (n : Int) = sizedL l n
  | [], _ => rfl
  | r :: l, n => by
    have hz := strN_len r.size
    show (if _ then _ else _) = (if _ then _ else _)
    by_cases h1 : 1 ≤ n ∧ n ≤ (putN r.size).length
    · rw [if_pos h1, if_pos (by omega)]
    · rw [if_neg h1, if_neg (by omega)]
      by_cases h2 : 1 + (putN r.size).length + r.size + 32 ≤ n
      · rw [if_pos h2, ← sizedZ_eq l]
        congr 1; omega
      · rw [if_neg h2]
        exact sizedZ_neg l _ (by omega)
theorem headsL_len : ∀ (l : List ByteArray) (h : ByteArray), (headsL h l).length = l.length
  | [], _ => rfl
  | r :: l, h => by show (headsL (chainS h r) l).length + 1 = _; rw [headsL_len l]; rfl
theorem headsL_app : ∀ (l m : List ByteArray) (t : Tp), headsL t.head (l ++ m) = headsL t.head l ++ headsL (adds t l).head m
  | [], _, _ => rfl
  | r :: l, m, t => by
    show _ :: headsL (t.add r).head (l ++ m) = _ :: headsL (t.add r).head l ++ _
    rw [headsL_app l m (t.add r)]; rfl
theorem headsL_snoc (l : List ByteArray) (r : ByteArray) : headsL zero32 (l ++ [r]) = headsL zero32 l ++ [mkB 2 ++ (adds t00 l).head ++ r] := headsL_app l [r] t00
theorem head_snoc (l : List ByteArray) (r : ByteArray) : (adds t00 (l ++ [r])).head = chainS (adds t00 l).head r := by rw [adds_app]; rfl
theorem head_size (l : List ByteArray) : (adds t00 l).head.size ≤ 32 := adds_head l t00 (Nat.le_refl _)
theorem fr_mem2 {l : List ByteArray} {i : Nat} (h : i < l.length) : fr l i ∈ l := by unfold fr; simp [h]
theorem mkB2_size (h : ByteArray) : (mkB 2 ++ h).size = 1 + h.size := mkB_size 2 h
attribute [local irreducible] WC WL WX POp Then Again Fn NX W1 WA WO QL RP RA Yld LoopAt HC HL HX HN H1 HA HO HQ HB HP A.blk A.grow A.rd A.obj A.mp AgainH CutH
attribute [local irreducible] sumS chainS
theorem refChain_fn (h r : ByteArray) (hs : h.size + r.size ≤ 800000) (w : World) : Fn Tryz.prog 57 #[.string h, .string r] w fun v w' => v = .string (chainS h r) ∧ Ext w w' := by
  have h1 := mkB2_size h
  have h2 := ba_append_size (mkB 2 ++ h) r
  have hm : (mkB 2).size = 1 := rfl
  refine enterH (l := [_, _]) rfl Tryz.ntmps57 rfl ?_
  repeat' (first | apply HL.fold | apply HA.fold | apply HL.nil | apply HX.n_then | apply HC.seq | apply HC.region | refine HL.pa ?_ | refine HL.ga rfl ?_ | refine HL.na rfl ?_ | refine HL.nu rfl rfl ?_ | apply HC.block | apply HC.skip | apply HC.exit | apply HC.ret | apply HX.e_block | refine HX.e_other rfl ?_ | apply HX.e_then | apply HX.e_again | apply HX.n_block | apply HX.r_then | apply HX.r_block | apply HX.r_again | refine HC.cond_yes rfl ?_ | refine HC.cond_no rfl ?_ | refine HL.one (H1.ldb rfl memA rfl rfl ?_) | refine HC.cond rfl (fun hc => ?_) (fun hc => ?_) | refine HC.cond_b rfl (fun hc => ?_) (fun hc => ?_))
  refine HL.pa ?_ (POp.cat (s := mkB 2) (u := h) rfl rfl (by omega))
  repeat' (first | apply HL.fold | apply HA.fold | apply HL.nil | apply HX.n_then | apply HC.seq | apply HC.region | refine HL.pa ?_ | refine HL.ga rfl ?_ | refine HL.na rfl ?_ | refine HL.nu rfl rfl ?_ | apply HC.block | apply HC.skip | apply HC.exit | apply HC.ret | apply HX.e_block | refine HX.e_other rfl ?_ | apply HX.e_then | apply HX.e_again | apply HX.n_block | apply HX.r_then | apply HX.r_block | apply HX.r_again | refine HC.cond_yes rfl ?_ | refine HC.cond_no rfl ?_ | refine HL.one (H1.ldb rfl memA rfl rfl ?_) | refine HC.cond rfl (fun hc => ?_) (fun hc => ?_) | refine HC.cond_b rfl (fun hc => ?_) (fun hc => ?_))
  refine HL.one (H1.callx (vs := [.string (mkB 2 ++ h ++ r)]) rfl rfl (fun w' _ => refSum_fn (mkB 2 ++ h ++ r) (by omega) w') ?_)
  rw [← chainS_sum]
  repeat' (first | apply HL.fold | apply HA.fold | apply HL.nil | apply HX.n_then | apply HC.seq | apply HC.region | refine HL.pa ?_ | refine HL.ga rfl ?_ | refine HL.na rfl ?_ | refine HL.nu rfl rfl ?_ | apply HC.block | apply HC.skip | apply HC.exit | apply HC.ret | apply HX.e_block | refine HX.e_other rfl ?_ | apply HX.e_then | apply HX.e_again | apply HX.n_block | apply HX.r_then | apply HX.r_block | apply HX.r_again | refine HC.cond_yes rfl ?_ | refine HC.cond_no rfl ?_ | refine HL.one (H1.ldb rfl memA rfl rfl ?_) | refine HC.cond rfl (fun hc => ?_) (fun hc => ?_) | refine HC.cond_b rfl (fun hc => ?_) (fun hc => ?_))
  exact HX.ret1 rfl rfl fun w' hM => ⟨rfl, hM.ext⟩
theorem refHead_fn (v : Value) (l : List ByteArray) (hs : ∀ s ∈ l, s.size ≤ 700000) (hl : l.length ≤ 1000000) (w : World) (hR : Rd w v (strs l)) :
    Fn Tryz.prog 43 #[v] w fun v w' => v = .string (adds t00 l).head ∧ Ext w w' := by
  obtain ⟨a0, c0, rfl, hc0⟩ := rd_strs_shape hR
  refine enterH (l := [_]) rfl Tryz.ntmps43 rfl ?_
  repeat' (first | apply HL.fold | apply HA.fold | apply HL.nil | apply HX.n_then | apply HC.seq | apply HC.region | refine HL.pa ?_ | refine HL.ga rfl ?_ | refine HL.na rfl ?_ | refine HL.nu rfl rfl ?_ | apply HC.block | apply HC.skip | apply HC.exit | apply HC.ret | apply HX.e_block | refine HX.e_other rfl ?_ | apply HX.e_then | apply HX.e_again | apply HX.n_block | apply HX.r_then | apply HX.r_block | apply HX.r_again | refine HC.cond_yes rfl ?_ | refine HC.cond_no rfl ?_ | refine HL.one (H1.ldb rfl memA rfl rfl ?_) | refine HC.cond rfl (fun hc => ?_) (fun hc => ?_) | refine HC.cond_b rfl (fun hc => ?_) (fun hc => ?_))
  refine HL.one (H1.make (l := 32) (c := 32) rfl rfl rfl rfl rfl (Nat.le_refl _) (by decide) (by decide) rfl (fun bm => ?_))
  rw [ub_zero]
  repeat' (first | apply HL.fold | apply HA.fold | apply HL.nil | apply HX.n_then | apply HC.seq | apply HC.region | refine HL.pa ?_ | refine HL.ga rfl ?_ | refine HL.na rfl ?_ | refine HL.nu rfl rfl ?_ | apply HC.block | apply HC.skip | apply HC.exit | apply HC.ret | apply HX.e_block | refine HX.e_other rfl ?_ | apply HX.e_then | apply HX.e_again | apply HX.n_block | apply HX.r_then | apply HX.r_block | apply HX.r_again | refine HC.cond_yes rfl ?_ | refine HC.cond_no rfl ?_ | refine HL.one (H1.ldb rfl memA rfl rfl ?_) | refine HC.cond rfl (fun hc => ?_) (fun hc => ?_) | refine HC.cond_b rfl (fun hc => ?_) (fun hc => ?_))
  refine HL.one (H1.bstrB (ys := List.replicate 32 0) rfl memA rfl ?_)
  repeat' (first | apply HL.fold | apply HA.fold | apply HL.nil | apply HX.n_then | apply HC.seq | apply HC.region | refine HL.pa ?_ | refine HL.ga rfl ?_ | refine HL.na rfl ?_ | refine HL.nu rfl rfl ?_ | apply HC.block | apply HC.skip | apply HC.exit | apply HC.ret | apply HX.e_block | refine HX.e_other rfl ?_ | apply HX.e_then | apply HX.e_again | apply HX.n_block | apply HX.r_then | apply HX.r_block | apply HX.r_again | refine HC.cond_yes rfl ?_ | refine HC.cond_no rfl ?_ | refine HL.one (H1.ldb rfl memA rfl rfl ?_) | refine HC.cond rfl (fun hc => ?_) (fun hc => ?_) | refine HC.cond_b rfl (fun hc => ?_) (fun hc => ?_))
  refine HC.loop (α := Nat) (fun i => [(0, .slice a0 l.length c0), (3, .string (adds t00 (l.take i)).head), (4, zv (i : Int))]) (fun _ => []) (fun i => i ≤ l.length) (fun i => l.length - i) 0 (Nat.zero_le _) ⟨rfl, rfl, rfl, trivial⟩ (Hs.refl _).skip ?_
  rintro i hi
  by_cases hlt : i < l.length
  · obtain ⟨b, off, rfl⟩ := rd_some hR (by rintro rfl; simp at hlt)
    have hget := hR.cell (strs_get hlt)
    have htk := take_fr hlt
    have hsz := hs _ (fr_mem2 hlt)
    have hhd := head_size (l.take i)
    have hsn := head_snoc (l.take i) (fr l i)
    rw [← htk] at hsn
    generalize fr l i = s at hget hsz hsn
    repeat' (first | apply HL.fold | apply HA.fold | apply HL.nil | apply HX.n_then | apply HC.seq | apply HC.region | refine HL.pa ?_ | refine HL.ga rfl ?_ | refine HL.na rfl ?_ | refine HL.nu rfl rfl ?_ | apply HC.block | apply HC.skip | apply HC.exit | apply HC.ret | apply HX.e_block | refine HX.e_other rfl ?_ | apply HX.e_then | apply HX.e_again | apply HX.n_block | apply HX.r_then | apply HX.r_block | apply HX.r_again | refine HC.cond_yes rfl ?_ | refine HC.cond_no rfl ?_ | refine HL.one (H1.ldb rfl memA rfl rfl ?_) | refine HC.cond rfl (fun hc => ?_) (fun hc => ?_) | refine HC.cond_b rfl (fun hc => ?_) (fun hc => ?_))
    refine HL.one (H1.ld0 rfl hget rfl ?_)
    repeat' (first | apply HL.fold | apply HA.fold | apply HL.nil | apply HX.n_then | apply HC.seq | apply HC.region | refine HL.pa ?_ | refine HL.ga rfl ?_ | refine HL.na rfl ?_ | refine HL.nu rfl rfl ?_ | apply HC.block | apply HC.skip | apply HC.exit | apply HC.ret | apply HX.e_block | refine HX.e_other rfl ?_ | apply HX.e_then | apply HX.e_again | apply HX.n_block | apply HX.r_then | apply HX.r_block | apply HX.r_again | refine HC.cond_yes rfl ?_ | refine HC.cond_no rfl ?_ | refine HL.one (H1.ldb rfl memA rfl rfl ?_) | refine HC.cond rfl (fun hc => ?_) (fun hc => ?_) | refine HC.cond_b rfl (fun hc => ?_) (fun hc => ?_))
    refine HL.one (H1.callx (vs := [_, _]) rfl rfl (fun w' _ => refChain_fn (adds t00 (l.take i)).head s (by omega) w') ?_)
    rw [← hsn]
    repeat' (first | apply HL.fold | apply HA.fold | apply HL.nil | apply HX.n_then | apply HC.seq | apply HC.region | refine HL.pa ?_ | refine HL.ga rfl ?_ | refine HL.na rfl ?_ | refine HL.nu rfl rfl ?_ | apply HC.block | apply HC.skip | apply HC.exit | apply HC.ret | apply HX.e_block | refine HX.e_other rfl ?_ | apply HX.e_then | apply HX.e_again | apply HX.n_block | apply HX.r_then | apply HX.r_block | apply HX.r_again | refine HC.cond_yes rfl ?_ | refine HC.cond_no rfl ?_ | refine HL.one (H1.ldb rfl memA rfl rfl ?_) | refine HC.cond rfl (fun hc => ?_) (fun hc => ?_) | refine HC.cond_b rfl (fun hc => ?_) (fun hc => ?_))
    exact HX.again (i + 1) hlt (by show l.length - (i + 1) < l.length - i; omega) esA (Hs.refl _)
  · obtain rfl : i = l.length := by omega
    rw [List.take_length]
    repeat' (first | apply HL.fold | apply HA.fold | apply HL.nil | apply HX.n_then | apply HC.seq | apply HC.region | refine HL.pa ?_ | refine HL.ga rfl ?_ | refine HL.na rfl ?_ | refine HL.nu rfl rfl ?_ | apply HC.block | apply HC.skip | apply HC.exit | apply HC.ret | apply HX.e_block | refine HX.e_other rfl ?_ | apply HX.e_then | apply HX.e_again | apply HX.n_block | apply HX.r_then | apply HX.r_block | apply HX.r_again | refine HC.cond_yes rfl ?_ | refine HC.cond_no rfl ?_ | refine HL.one (H1.ldb rfl memA rfl rfl ?_) | refine HC.cond rfl (fun hc => ?_) (fun hc => ?_) | refine HC.cond_b rfl (fun hc => ?_) (fun hc => ?_))
    exact HX.ret1 rfl rfl fun w' hM => ⟨rfl, hM.ext⟩
theorem heads26_fn (v : Value) (l : List ByteArray) (hs : ∀ s ∈ l, s.size ≤ 700000) (hl : l.length ≤ 100000) (w : World) (hR : Rd w v (strs l)) :
    Fn Tryz.prog 27 #[v] w fun v w' => ∃ z : Option Addr × Nat, True ∧ v = .slice z.1 l.length z.2 ∧ Mm w [A.grow 9 1 z.1 z.2 l.length (strs (headsL zero32 l))] w' := by
  obtain ⟨a0, c0, rfl, hc0⟩ := rd_strs_shape hR
  refine enterH (l := [_]) rfl Tryz.ntmps27 rfl ?_
  repeat' (first | apply HL.fold | apply HA.fold | apply HL.nil | apply HX.n_then | apply HC.seq | apply HC.region | refine HL.pa ?_ | refine HL.ga rfl ?_ | refine HL.na rfl ?_ | refine HL.nu rfl rfl ?_ | apply HC.block | apply HC.skip | apply HC.exit | apply HC.ret | apply HX.e_block | refine HX.e_other rfl ?_ | apply HX.e_then | apply HX.e_again | apply HX.n_block | apply HX.r_then | apply HX.r_block | apply HX.r_again | refine HC.cond_yes rfl ?_ | refine HC.cond_no rfl ?_ | refine HL.one (H1.ldb rfl memA rfl rfl ?_) | refine HC.cond rfl (fun hc => ?_) (fun hc => ?_) | refine HC.cond_b rfl (fun hc => ?_) (fun hc => ?_))
  refine HL.one (H1.callx (u := .string zero32) (vs := [.slice none 0 0]) rfl rfl (fun w' _ => refHead_fn (.slice none 0 0) [] (fun _ h => by cases h) (Nat.zero_le _) w' ⟨none, 0, rfl, Nat.le_refl _, .inl rfl⟩) ?_)
  repeat' (first | apply HL.fold | apply HA.fold | apply HL.nil | apply HX.n_then | apply HC.seq | apply HC.region | refine HL.pa ?_ | refine HL.ga rfl ?_ | refine HL.na rfl ?_ | refine HL.nu rfl rfl ?_ | apply HC.block | apply HC.skip | apply HC.exit | apply HC.ret | apply HX.e_block | refine HX.e_other rfl ?_ | apply HX.e_then | apply HX.e_again | apply HX.n_block | apply HX.r_then | apply HX.r_block | apply HX.r_again | refine HC.cond_yes rfl ?_ | refine HC.cond_no rfl ?_ | refine HL.one (H1.ldb rfl memA rfl rfl ?_) | refine HC.cond rfl (fun hc => ?_) (fun hc => ?_) | refine HC.cond_b rfl (fun hc => ?_) (fun hc => ?_))
  refine HC.grow0 9 1 ?_
  refine HC.loop (α := Nat × Option Addr × Nat) (fun z => [(0, .slice a0 l.length c0), (3, .slice z.2.1 z.1 z.2.2), (4, .string (adds t00 (l.take z.1)).head), (5, zv (z.1 : Int))]) (fun z => [A.grow 9 1 z.2.1 z.2.2 z.1 (strs (headsL zero32 (l.take z.1)))]) (fun z => z.1 ≤ l.length) (fun z => l.length - z.1) (0, none, 0) (Nat.zero_le _) ⟨rfl, rfl, rfl, rfl, trivial⟩ (Hs.refl _) ?_
  rintro ⟨i, a, c⟩ hi
  dsimp only at hi ⊢
  by_cases hlt : i < l.length
  · obtain ⟨b, off, rfl⟩ := rd_some hR (by rintro rfl; simp at hlt)
    have hget := hR.cell (strs_get hlt)
    have htk := take_fr hlt
    have hsz := hs _ (fr_mem2 hlt)
    have hhd := head_size (l.take i)
    have hsn := head_snoc (l.take i) (fr l i)
    have hhs := headsL_snoc (l.take i) (fr l i)
    rw [← htk] at hsn hhs
    generalize fr l i = s at hget hsz hsn hhs
    have h1 := mkB2_size (adds t00 (l.take i)).head
    have hm : (mkB 2).size = 1 := rfl
    repeat' (first | apply HL.fold | apply HA.fold | apply HL.nil | apply HX.n_then | apply HC.seq | apply HC.region | refine HL.pa ?_ | refine HL.ga rfl ?_ | refine HL.na rfl ?_ | refine HL.nu rfl rfl ?_ | apply HC.block | apply HC.skip | apply HC.exit | apply HC.ret | apply HX.e_block | refine HX.e_other rfl ?_ | apply HX.e_then | apply HX.e_again | apply HX.n_block | apply HX.r_then | apply HX.r_block | apply HX.r_again | refine HC.cond_yes rfl ?_ | refine HC.cond_no rfl ?_ | refine HL.one (H1.ldb rfl memA rfl rfl ?_) | refine HC.cond rfl (fun hc => ?_) (fun hc => ?_) | refine HC.cond_b rfl (fun hc => ?_) (fun hc => ?_))
    refine HL.pa ?_ (POp.cat (s := mkB 2) (u := (adds t00 (l.take i)).head) rfl rfl (by omega))
    repeat' (first | apply HL.fold | apply HA.fold | apply HL.nil | apply HX.n_then | apply HC.seq | apply HC.region | refine HL.pa ?_ | refine HL.ga rfl ?_ | refine HL.na rfl ?_ | refine HL.nu rfl rfl ?_ | apply HC.block | apply HC.skip | apply HC.exit | apply HC.ret | apply HX.e_block | refine HX.e_other rfl ?_ | apply HX.e_then | apply HX.e_again | apply HX.n_block | apply HX.r_then | apply HX.r_block | apply HX.r_again | refine HC.cond_yes rfl ?_ | refine HC.cond_no rfl ?_ | refine HL.one (H1.ldb rfl memA rfl rfl ?_) | refine HC.cond rfl (fun hc => ?_) (fun hc => ?_) | refine HC.cond_b rfl (fun hc => ?_) (fun hc => ?_))
    refine HL.one (H1.ld0 rfl hget rfl ?_)
    repeat' (first | apply HL.fold | apply HA.fold | apply HL.nil | apply HX.n_then | apply HC.seq | apply HC.region | refine HL.pa ?_ | refine HL.ga rfl ?_ | refine HL.na rfl ?_ | refine HL.nu rfl rfl ?_ | apply HC.block | apply HC.skip | apply HC.exit | apply HC.ret | apply HX.e_block | refine HX.e_other rfl ?_ | apply HX.e_then | apply HX.e_again | apply HX.n_block | apply HX.r_then | apply HX.r_block | apply HX.r_again | refine HC.cond_yes rfl ?_ | refine HC.cond_no rfl ?_ | refine HL.one (H1.ldb rfl memA rfl rfl ?_) | refine HC.cond rfl (fun hc => ?_) (fun hc => ?_) | refine HC.cond_b rfl (fun hc => ?_) (fun hc => ?_))
    refine HL.one (H1.lit (cs := [.string (mkB 2 ++ (adds t00 (l.take i)).head ++ s)]) rfl rfl rfl rfl rfl rfl (fun b9 => ?_))
    repeat' (first | apply HL.fold | apply HA.fold | apply HL.nil | apply HX.n_then | apply HC.seq | apply HC.region | refine HL.pa ?_ | refine HL.ga rfl ?_ | refine HL.na rfl ?_ | refine HL.nu rfl rfl ?_ | apply HC.block | apply HC.skip | apply HC.exit | apply HC.ret | apply HX.e_block | refine HX.e_other rfl ?_ | apply HX.e_then | apply HX.e_again | apply HX.n_block | apply HX.r_then | apply HX.r_block | apply HX.r_again | refine HC.cond_yes rfl ?_ | refine HC.cond_no rfl ?_ | refine HL.one (H1.ldb rfl memA rfl rfl ?_) | refine HC.cond rfl (fun hc => ?_) (fun hc => ?_) | refine HC.cond_b rfl (fun hc => ?_) (fun hc => ?_))
    refine HL.one (H1.app1 (u := .string (mkB 2 ++ (adds t00 (l.take i)).head ++ s)) rfl rfl (fun _ _ => by first | ((repeat (first | with_reducible exact Rpl.here | with_reducible apply Rpl.there)); done) | (repeat (first | exact Rpl.here | apply Rpl.there))) memA rfl rfl (by omega) rfl rfl (fun a' c' => ?_))
    rw [strs_snoc, ← hhs]
    repeat' (first | apply HL.fold | apply HA.fold | apply HL.nil | apply HX.n_then | apply HC.seq | apply HC.region | refine HL.pa ?_ | refine HL.ga rfl ?_ | refine HL.na rfl ?_ | refine HL.nu rfl rfl ?_ | apply HC.block | apply HC.skip | apply HC.exit | apply HC.ret | apply HX.e_block | refine HX.e_other rfl ?_ | apply HX.e_then | apply HX.e_again | apply HX.n_block | apply HX.r_then | apply HX.r_block | apply HX.r_again | refine HC.cond_yes rfl ?_ | refine HC.cond_no rfl ?_ | refine HL.one (H1.ldb rfl memA rfl rfl ?_) | refine HC.cond rfl (fun hc => ?_) (fun hc => ?_) | refine HC.cond_b rfl (fun hc => ?_) (fun hc => ?_))
    refine HL.one (H1.ld0 rfl hget rfl ?_)
    repeat' (first | apply HL.fold | apply HA.fold | apply HL.nil | apply HX.n_then | apply HC.seq | apply HC.region | refine HL.pa ?_ | refine HL.ga rfl ?_ | refine HL.na rfl ?_ | refine HL.nu rfl rfl ?_ | apply HC.block | apply HC.skip | apply HC.exit | apply HC.ret | apply HX.e_block | refine HX.e_other rfl ?_ | apply HX.e_then | apply HX.e_again | apply HX.n_block | apply HX.r_then | apply HX.r_block | apply HX.r_again | refine HC.cond_yes rfl ?_ | refine HC.cond_no rfl ?_ | refine HL.one (H1.ldb rfl memA rfl rfl ?_) | refine HC.cond rfl (fun hc => ?_) (fun hc => ?_) | refine HC.cond_b rfl (fun hc => ?_) (fun hc => ?_))
    refine HL.one (H1.callx (vs := [_, _]) rfl rfl (fun w' _ => refChain_fn (adds t00 (l.take i)).head s (by omega) w') ?_)
    rw [← hsn]
    repeat' (first | apply HL.fold | apply HA.fold | apply HL.nil | apply HX.n_then | apply HC.seq | apply HC.region | refine HL.pa ?_ | refine HL.ga rfl ?_ | refine HL.na rfl ?_ | refine HL.nu rfl rfl ?_ | apply HC.block | apply HC.skip | apply HC.exit | apply HC.ret | apply HX.e_block | refine HX.e_other rfl ?_ | apply HX.e_then | apply HX.e_again | apply HX.n_block | apply HX.r_then | apply HX.r_block | apply HX.r_again | refine HC.cond_yes rfl ?_ | refine HC.cond_no rfl ?_ | refine HL.one (H1.ldb rfl memA rfl rfl ?_) | refine HC.cond rfl (fun hc => ?_) (fun hc => ?_) | refine HC.cond_b rfl (fun hc => ?_) (fun hc => ?_))
    exact HX.again (i + 1, some ⟨a', 0, none⟩, c') hlt (by show l.length - (i + 1) < l.length - i; omega) esA (Hs.cons (Pick.there Pick.here) (Hs.nil _))
  · obtain rfl : i = l.length := by omega
    rw [List.take_length]
    repeat' (first | apply HL.fold | apply HA.fold | apply HL.nil | apply HX.n_then | apply HC.seq | apply HC.region | refine HL.pa ?_ | refine HL.ga rfl ?_ | refine HL.na rfl ?_ | refine HL.nu rfl rfl ?_ | apply HC.block | apply HC.skip | apply HC.exit | apply HC.ret | apply HX.e_block | refine HX.e_other rfl ?_ | apply HX.e_then | apply HX.e_again | apply HX.n_block | apply HX.r_then | apply HX.r_block | apply HX.r_again | refine HC.cond_yes rfl ?_ | refine HC.cond_no rfl ?_ | refine HL.one (H1.ldb rfl memA rfl rfl ?_) | refine HC.cond rfl (fun hc => ?_) (fun hc => ?_) | refine HC.cond_b rfl (fun hc => ?_) (fun hc => ?_))
    exact HX.ret1 rfl rfl fun w' hM => ⟨(a, c), trivial, rfl, hM⟩
theorem sized26_fn (v : Value) (l : List ByteArray) (at' : Int) (h1 : -1000000000 ≤ at') (h2 : at' ≤ 1000000000) (hs : ∀ s ∈ l, s.size ≤ 1000) (hl : l.length ≤ 1000) (w : World) (hR : Rd w v (strs l)) :
    Fn Tryz.prog 26 #[v, zv at'] w fun v w' => v = .bool (sizedZ l at') ∧ Ext w w' := by
  obtain ⟨a0, c0, rfl, hc0⟩ := rd_strs_shape hR
  refine enterH (l := [_, _]) rfl Tryz.ntmps26 rfl ?_
  repeat' (first | apply HL.fold | apply HA.fold | apply HL.nil | apply HX.n_then | apply HC.seq | apply HC.region | refine HL.pa ?_ | refine HL.ga rfl ?_ | refine HL.na rfl ?_ | refine HL.nu rfl rfl ?_ | apply HC.block | apply HC.skip | apply HC.exit | apply HC.ret | apply HX.e_block | refine HX.e_other rfl ?_ | apply HX.e_then | apply HX.e_again | apply HX.n_block | apply HX.r_then | apply HX.r_block | apply HX.r_again | refine HC.cond_yes rfl ?_ | refine HC.cond_no rfl ?_ | refine HL.one (H1.ldb rfl memA rfl rfl ?_) | refine HC.cond rfl (fun hc => ?_) (fun hc => ?_) | refine HC.cond_b rfl (fun hc => ?_) (fun hc => ?_))
  refine HC.loop (α := Nat × Int) (fun z => [(0, .slice a0 l.length c0), (1, zv z.2), (5, zv (z.1 : Int))]) (fun _ => []) (fun z => z.1 ≤ l.length ∧ sizedZ (l.drop z.1) z.2 = sizedZ l at' ∧ -1000000000 - 2000 * (z.1 : Int) ≤ z.2 ∧ z.2 ≤ 1000000000) (fun z => l.length - z.1) (0, at') ⟨Nat.zero_le _, rfl, by show _ - 2000 * ((0 : Nat) : Int) ≤ at'; omega, h2⟩ esA (Hs.refl _) ?_
  rintro ⟨i, x⟩ ⟨hi, heq, hx1, hx2⟩
  dsimp only at hi heq hx1 hx2 ⊢
  by_cases hlt : i < l.length
  · obtain ⟨b, off, rfl⟩ := rd_some hR (by rintro rfl; simp at hlt)
    have hget := hR.cell (strs_get hlt)
    have hsz := hs _ (fr_mem2 hlt)
    have hdr : l.drop i = fr l i :: l.drop (i + 1) := by
      rw [List.drop_eq_getElem_cons hlt]
      congr 1
      unfold fr; simp [hlt]
    rw [hdr] at heq
    generalize fr l i = s at hget hsz heq
    have hz := strN_size (n := s.size) (by omega)
    have hunf : sizedZ (s :: l.drop (i + 1)) x = if 1 ≤ x ∧ x ≤ ((strN s.size).size : Int) then true else sizedZ (l.drop (i + 1)) (x - (1 + ((strN s.size).size : Int) + (s.size : Int) + 32)) := rfl
    rw [hunf] at heq
    repeat' (first | apply HL.fold | apply HA.fold | apply HL.nil | apply HX.n_then | apply HC.seq | apply HC.region | refine HL.pa ?_ | refine HL.ga rfl ?_ | refine HL.na rfl ?_ | refine HL.nu rfl rfl ?_ | apply HC.block | apply HC.skip | apply HC.exit | apply HC.ret | apply HX.e_block | refine HX.e_other rfl ?_ | apply HX.e_then | apply HX.e_again | apply HX.n_block | apply HX.r_then | apply HX.r_block | apply HX.r_again | refine HC.cond_yes rfl ?_ | refine HC.cond_no rfl ?_ | refine HL.one (H1.ldb rfl memA rfl rfl ?_) | refine HC.cond rfl (fun hc => ?_) (fun hc => ?_) | refine HC.cond_b rfl (fun hc => ?_) (fun hc => ?_))
    refine HL.one (H1.ld0 rfl hget rfl ?_)
    repeat' (first | apply HL.fold | apply HA.fold | apply HL.nil | apply HX.n_then | apply HC.seq | apply HC.region | refine HL.pa ?_ | refine HL.ga rfl ?_ | refine HL.na rfl ?_ | refine HL.nu rfl rfl ?_ | apply HC.block | apply HC.skip | apply HC.exit | apply HC.ret | apply HX.e_block | refine HX.e_other rfl ?_ | apply HX.e_then | apply HX.e_again | apply HX.n_block | apply HX.r_then | apply HX.r_block | apply HX.r_again | refine HC.cond_yes rfl ?_ | refine HC.cond_no rfl ?_ | refine HL.one (H1.ldb rfl memA rfl rfl ?_) | refine HC.cond rfl (fun hc => ?_) (fun hc => ?_) | refine HC.cond_b rfl (fun hc => ?_) (fun hc => ?_))
    refine HL.one (H1.callx (vs := [zv (s.size : Int)]) rfl rfl (fun w' _ => refPutInt_fn s.size (by omega) w') ?_)
    by_cases hc1 : 1 ≤ x
    · by_cases hc2 : x ≤ ((strN s.size).size : Int)
      · rw [if_pos ⟨hc1, hc2⟩] at heq
        repeat' (first | apply HL.fold | apply HA.fold | apply HL.nil | apply HX.n_then | apply HC.seq | apply HC.region | refine HL.pa ?_ | refine HL.ga rfl ?_ | refine HL.na rfl ?_ | refine HL.nu rfl rfl ?_ | apply HC.block | apply HC.skip | apply HC.exit | apply HC.ret | apply HX.e_block | refine HX.e_other rfl ?_ | apply HX.e_then | apply HX.e_again | apply HX.n_block | apply HX.r_then | apply HX.r_block | apply HX.r_again | refine HC.cond_yes rfl ?_ | refine HC.cond_no rfl ?_ | refine HL.one (H1.ldb rfl memA rfl rfl ?_) | refine HC.cond rfl (fun hc => ?_) (fun hc => ?_) | refine HC.cond_b rfl (fun hc => ?_) (fun hc => ?_))
        exact HX.ret1 rfl rfl fun w' hM => ⟨by rw [heq], hM.ext⟩
      · rw [if_neg (fun h => hc2 h.2)] at heq
        repeat' (first | apply HL.fold | apply HA.fold | apply HL.nil | apply HX.n_then | apply HC.seq | apply HC.region | refine HL.pa ?_ | refine HL.ga rfl ?_ | refine HL.na rfl ?_ | refine HL.nu rfl rfl ?_ | apply HC.block | apply HC.skip | apply HC.exit | apply HC.ret | apply HX.e_block | refine HX.e_other rfl ?_ | apply HX.e_then | apply HX.e_again | apply HX.n_block | apply HX.r_then | apply HX.r_block | apply HX.r_again | refine HC.cond_yes rfl ?_ | refine HC.cond_no rfl ?_ | refine HL.one (H1.ldb rfl memA rfl rfl ?_) | refine HC.cond rfl (fun hc => ?_) (fun hc => ?_) | refine HC.cond_b rfl (fun hc => ?_) (fun hc => ?_))
        refine HL.one (H1.ld0 rfl hget rfl ?_)
        repeat' (first | apply HL.fold | apply HA.fold | apply HL.nil | apply HX.n_then | apply HC.seq | apply HC.region | refine HL.pa ?_ | refine HL.ga rfl ?_ | refine HL.na rfl ?_ | refine HL.nu rfl rfl ?_ | apply HC.block | apply HC.skip | apply HC.exit | apply HC.ret | apply HX.e_block | refine HX.e_other rfl ?_ | apply HX.e_then | apply HX.e_again | apply HX.n_block | apply HX.r_then | apply HX.r_block | apply HX.r_again | refine HC.cond_yes rfl ?_ | refine HC.cond_no rfl ?_ | refine HL.one (H1.ldb rfl memA rfl rfl ?_) | refine HC.cond rfl (fun hc => ?_) (fun hc => ?_) | refine HC.cond_b rfl (fun hc => ?_) (fun hc => ?_))
        exact HX.again (i + 1, x - (1 + ((strN s.size).size : Int) + (s.size : Int) + 32)) ⟨hlt, heq, by show -1000000000 - 2000 * ((i + 1 : Nat) : Int) ≤ x - (1 + ((strN s.size).size : Int) + (s.size : Int) + 32); omega, by show x - (1 + ((strN s.size).size : Int) + (s.size : Int) + 32) ≤ 1000000000; omega⟩ (by show l.length - (i + 1) < l.length - i; omega) esA (Hs.refl _)
    · rw [if_neg (fun h => hc1 h.1)] at heq
      repeat' (first | apply HL.fold | apply HA.fold | apply HL.nil | apply HX.n_then | apply HC.seq | apply HC.region | refine HL.pa ?_ | refine HL.ga rfl ?_ | refine HL.na rfl ?_ | refine HL.nu rfl rfl ?_ | apply HC.block | apply HC.skip | apply HC.exit | apply HC.ret | apply HX.e_block | refine HX.e_other rfl ?_ | apply HX.e_then | apply HX.e_again | apply HX.n_block | apply HX.r_then | apply HX.r_block | apply HX.r_again | refine HC.cond_yes rfl ?_ | refine HC.cond_no rfl ?_ | refine HL.one (H1.ldb rfl memA rfl rfl ?_) | refine HC.cond rfl (fun hc => ?_) (fun hc => ?_) | refine HC.cond_b rfl (fun hc => ?_) (fun hc => ?_))
      refine HL.one (H1.ld0 rfl hget rfl ?_)
      repeat' (first | apply HL.fold | apply HA.fold | apply HL.nil | apply HX.n_then | apply HC.seq | apply HC.region | refine HL.pa ?_ | refine HL.ga rfl ?_ | refine HL.na rfl ?_ | refine HL.nu rfl rfl ?_ | apply HC.block | apply HC.skip | apply HC.exit | apply HC.ret | apply HX.e_block | refine HX.e_other rfl ?_ | apply HX.e_then | apply HX.e_again | apply HX.n_block | apply HX.r_then | apply HX.r_block | apply HX.r_again | refine HC.cond_yes rfl ?_ | refine HC.cond_no rfl ?_ | refine HL.one (H1.ldb rfl memA rfl rfl ?_) | refine HC.cond rfl (fun hc => ?_) (fun hc => ?_) | refine HC.cond_b rfl (fun hc => ?_) (fun hc => ?_))
      exact HX.again (i + 1, x - (1 + ((strN s.size).size : Int) + (s.size : Int) + 32)) ⟨hlt, heq, by show -1000000000 - 2000 * ((i + 1 : Nat) : Int) ≤ x - (1 + ((strN s.size).size : Int) + (s.size : Int) + 32); omega, by show x - (1 + ((strN s.size).size : Int) + (s.size : Int) + 32) ≤ 1000000000; omega⟩ (by show l.length - (i + 1) < l.length - i; omega) esA (Hs.refl _)
  · obtain rfl : i = l.length := by omega
    rw [List.drop_length] at heq
    repeat' (first | apply HL.fold | apply HA.fold | apply HL.nil | apply HX.n_then | apply HC.seq | apply HC.region | refine HL.pa ?_ | refine HL.ga rfl ?_ | refine HL.na rfl ?_ | refine HL.nu rfl rfl ?_ | apply HC.block | apply HC.skip | apply HC.exit | apply HC.ret | apply HX.e_block | refine HX.e_other rfl ?_ | apply HX.e_then | apply HX.e_again | apply HX.n_block | apply HX.r_then | apply HX.r_block | apply HX.r_again | refine HC.cond_yes rfl ?_ | refine HC.cond_no rfl ?_ | refine HL.one (H1.ldb rfl memA rfl rfl ?_) | refine HC.cond rfl (fun hc => ?_) (fun hc => ?_) | refine HC.cond_b rfl (fun hc => ?_) (fun hc => ?_))
    exact HX.ret1 rfl rfl fun w' hM => ⟨by rw [← heq]; rfl, hM.ext⟩
end Go.Sx

