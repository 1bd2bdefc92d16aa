/- Chapter 25: disks: their state, and the small functions. -/
import Derived.Test.YtionfblneloaiaaGreatDoorKL
import Derived.Test.YtionfblneloaiaaGreatDoorHw
import Derived.Test.YtionfblneloaiaaGreatDoorHj
import Derived.Test.YtionfblneloaiaaGreatDoorMX
import Derived.Test.YtionfblneloaiaaGreatDoorJP
namespace Go.Sx
open Go Go.Proofs Go.RowKit
theorem hwKA {G G2 : Prop} (x : G2) (hwq : Hold G2 → G := by
    intro hQq
    repeat' (first | refine HL.pa ?_ (POp.pnil1 rfl rfl) | refine HL.pa ?_ (POp.pnil0 rfl rfl) | refine HL.pa ?_ (POp.nilCheck rfl) | apply HL.fold | apply HA.fold | apply HL.nil | apply HX.n_then | apply HC.seq | apply HC.region | refine HL.pa ?_ | refine HL.ga rfl ?_ | refine HL.na rfl ?_ | refine HL.nu rfl rfl ?_ | apply HC.block | apply HC.skip | apply HC.exit | apply HC.ret | apply HX.e_block | refine HX.e_other rfl ?_ | apply HX.e_then | apply HX.e_again | apply HX.n_block | apply HX.r_then | apply HX.r_block | apply HX.r_again | refine HC.cond_yes rfl ?_ | refine HC.cond_no rfl ?_ | refine HL.one (H1.ldb rfl memA rfl rfl ?_) | refine HC.cond rfl (fun hc => ?_) (fun hc => ?_) | refine HC.cond_b rfl (fun hc => ?_) (fun hc => ?_))
    exact hQq.get) : G := hwq ⟨x⟩
structure Dk where
  off : Bool
  left : Nat
  dur : List UInt8
  vis : List UInt8
  pend : List (Nat × ByteArray)
def splice (l : List UInt8) (off : Nat) (s : List UInt8) : List UInt8 := l.take off ++ s ++ l.drop (off + s.length)
theorem splice_len {l : List UInt8} {off : Nat} {s : List UInt8} (h : off + s.length ≤ l.length) : (splice l off s).length = l.length := by
  unfold splice; rw [List.length_append, List.length_append, List.length_take, List.length_drop]; omega
def Dk.used (k : Dk) : Dk := if k.left = 0 then k else { k with left := k.left - 1, off := decide (k.left - 1 = 0) }
def Dk.put (k : Dk) (off : Nat) (s : ByteArray) : Dk := Dk.used { k with pend := k.pend ++ [(off, s)], vis := splice k.vis off s.data.toList }
def Dk.write (k : Dk) (off : Nat) (s : ByteArray) : Int × Dk := if k.off then (251, k) else if off + s.size ≤ k.dur.length then (0, k.put off s) else (250, k)
def Dk.sync (k : Dk) : Int × Dk := if k.off then (251, k) else (0, { k with dur := k.vis, pend := [] })
def Dk.cut (k : Dk) (n : Nat) : Int × Dk := if k.off then (251, k) else (0, { k with off := decide (n = 0), left := n })
theorem Dk.sync_on {k : Dk} (h : k.off = false) : k.sync = (0, { k with dur := k.vis, pend := [] }) := by unfold Dk.sync; rw [h]; rfl
theorem Dk.sync_off {k : Dk} (h : k.off = true) : k.sync = (251, k) := by unfold Dk.sync; rw [h]; rfl
theorem Dk.cut_on {k : Dk} {n : Nat} (h : k.off = false) : k.cut n = (0, { k with off := decide (n = 0), left := n }) := by unfold Dk.cut; rw [h]; rfl
theorem Dk.cut_off {k : Dk} {n : Nat} (h : k.off = true) : k.cut n = (251, k) := by unfold Dk.cut; rw [h]; rfl
theorem Dk.write_on {k : Dk} {off : Nat} {s : ByteArray} (h : k.off = false) (h1 : off + s.size ≤ k.dur.length) : k.write off s = (0, k.put off s) := by unfold Dk.write; rw [h, if_pos h1]; rfl
theorem Dk.write_no {k : Dk} {off : Nat} {s : ByteArray} (h : k.off = false) (h1 : ¬ off + s.size ≤ k.dur.length) : k.write off s = (250, k) := by unfold Dk.write; rw [h, if_neg h1]; rfl
theorem Dk.write_off {k : Dk} {off : Nat} {s : ByteArray} (h : k.off = true) : k.write off s = (251, k) := by unfold Dk.write; rw [h]; rfl
structure Dk.Ok (k : Dk) : Prop where
  len : k.vis.length = k.dur.length
  lo : 0 < k.dur.length
  hi : k.dur.length ≤ 4194304
  left : k.left ≤ 1000000
  pend : k.pend.length ≤ 10000
def pendC (l : List (Nat × ByteArray)) : List Value := l.flatMap fun x => [zv (x.1 : Int), .string x.2]
theorem pendC_len (l : List (Nat × ByteArray)) : (pendC l).length = l.length * 2 := by
  induction l with
  | nil => rfl
  | cons x l ih =>
    have : pendC (x :: l) = [zv (x.1 : Int), .string x.2] ++ pendC l := rfl
    rw [this, List.length_append, ih, List.length_cons]
    simp only [List.length_cons, List.length_nil]; omega
theorem pendC_snoc (l : List (Nat × ByteArray)) (x : Nat × ByteArray) : pendC l ++ [zv (x.1 : Int), .string x.2] = pendC (l ++ [x]) := by simp [pendC]
/-- The cells of a disk. -/
def dkC (b1 b2 : Nat) (pa : Option Addr) (pc : Nat) (k : Dk) : List Value :=
  [.bool k.off, zv (k.left : Int), .slice (some ⟨b1, 0, none⟩) k.dur.length k.dur.length, .slice (some ⟨b2, 0, none⟩) k.vis.length k.vis.length, .slice pa k.pend.length pc]
abbrev dkH (bd b1 b2 : Nat) (pa : Option Addr) (pc : Nat) (k : Dk) (H : List Atom) : List Atom :=
  A.blk bd (dkC b1 b2 pa pc k) 102 :: A.blk b1 (ub k.dur) 5 :: A.blk b2 (ub k.vis) 5 :: A.grow 106 2 pa pc k.pend.length (pendC k.pend) :: H
theorem ub_zero (n : Nat) : List.replicate n (Value.int .u8 0) = ub (List.replicate n 0) := by
  unfold ub; rw [List.map_replicate]; rfl
attribute [local irreducible] WC WL WX POp Then Again Fn NX W1 WA WO QL RP RA Yld LoopAt HC HL HX HN H1 HA HO HQ HB HP A.blk A.grow A.rd A.obj A.mp AgainH CutH
theorem dsize_fn {b1 b2 bd pc : Nat} {pa : Option Addr} {k : Dk} {w : World} (hb : Blk w bd (dkC b1 b2 pa pc k) 102) : Fn Tryz.prog 104 #[.pointer (some ⟨bd, 0, none⟩)] w fun v w' => v = zv (k.dur.length : Int) ∧ w = w' := by
  refine enter (l := [_]) rfl Tryz.ntmps104 rfl ?_
  repeat' (first | apply WL.fold | apply WA.fold | apply WL.nil | apply WX.n_then | apply WC.seq | apply WC.region | refine WL.pa ?_ | refine WL.ga rfl ?_ | refine WL.na rfl ?_ | refine WL.nu rfl rfl ?_ | apply WC.block | apply WC.skip | apply WC.exit | apply WC.ret | apply WX.e_block | refine WX.e_other rfl ?_ | apply WX.e_then | apply WX.e_again | apply WX.n_block | apply WX.r_then | apply WX.r_block | apply WX.r_again | refine WC.cond_yes rfl ?_ | refine WC.cond_no rfl ?_ | refine WC.cond rfl (fun hc => ?_) (fun hc => ?_) | refine WC.cond_b rfl (fun hc => ?_) (fun hc => ?_))
  refine WL.pa ?_ (POp.pnil0 rfl rfl)
  repeat' (first | apply WL.fold | apply WA.fold | apply WL.nil | apply WX.n_then | apply WC.seq | apply WC.region | refine WL.pa ?_ | refine WL.ga rfl ?_ | refine WL.na rfl ?_ | refine WL.nu rfl rfl ?_ | apply WC.block | apply WC.skip | apply WC.exit | apply WC.ret | apply WX.e_block | refine WX.e_other rfl ?_ | apply WX.e_then | apply WX.e_again | apply WX.n_block | apply WX.r_then | apply WX.r_block | apply WX.r_again | refine WC.cond_yes rfl ?_ | refine WC.cond_no rfl ?_ | refine WC.cond rfl (fun hc => ?_) (fun hc => ?_) | refine WC.cond_b rfl (fun hc => ?_) (fun hc => ?_))
  refine WL.pa ?_ (POp.nilCheck rfl)
  repeat' (first | apply WL.fold | apply WA.fold | apply WL.nil | apply WX.n_then | apply WC.seq | apply WC.region | refine WL.pa ?_ | refine WL.ga rfl ?_ | refine WL.na rfl ?_ | refine WL.nu rfl rfl ?_ | apply WC.block | apply WC.skip | apply WC.exit | apply WC.ret | apply WX.e_block | refine WX.e_other rfl ?_ | apply WX.e_then | apply WX.e_again | apply WX.n_block | apply WX.r_then | apply WX.r_block | apply WX.r_again | refine WC.cond_yes rfl ?_ | refine WC.cond_no rfl ?_ | refine WC.cond rfl (fun hc => ?_) (fun hc => ?_) | refine WC.cond_b rfl (fun hc => ?_) (fun hc => ?_))
  refine WL.load rfl (hb.cell (i := 2) rfl) rfl ?_
  repeat' (first | apply WL.fold | apply WA.fold | apply WL.nil | apply WX.n_then | apply WC.seq | apply WC.region | refine WL.pa ?_ | refine WL.ga rfl ?_ | refine WL.na rfl ?_ | refine WL.nu rfl rfl ?_ | apply WC.block | apply WC.skip | apply WC.exit | apply WC.ret | apply WX.e_block | refine WX.e_other rfl ?_ | apply WX.e_then | apply WX.e_again | apply WX.n_block | apply WX.r_then | apply WX.r_block | apply WX.r_again | refine WC.cond_yes rfl ?_ | refine WC.cond_no rfl ?_ | refine WC.cond rfl (fun hc => ?_) (fun hc => ?_) | refine WC.cond_b rfl (fun hc => ?_) (fun hc => ?_))
  exact WX.ret1 rfl rfl ⟨rfl, rfl⟩
theorem dcheck_fn {b1 b2 bd pc : Nat} {pa : Option Addr} {k : Dk} {w : World} (hb : Blk w bd (dkC b1 b2 pa pc k) 102) : Fn Tryz.prog 55 #[.pointer (some ⟨bd, 0, none⟩)] w fun v w' => v = zv (if k.off then 251 else 0) ∧ w = w' := by
  have hc := hb.cell (i := 0) (v := .bool k.off) rfl
  refine enter (l := [_]) rfl Tryz.ntmps55 rfl ?_
  repeat' (first | apply WL.fold | apply WA.fold | apply WL.nil | apply WX.n_then | apply WC.seq | apply WC.region | refine WL.pa ?_ | refine WL.ga rfl ?_ | refine WL.na rfl ?_ | refine WL.nu rfl rfl ?_ | apply WC.block | apply WC.skip | apply WC.exit | apply WC.ret | apply WX.e_block | refine WX.e_other rfl ?_ | apply WX.e_then | apply WX.e_again | apply WX.n_block | apply WX.r_then | apply WX.r_block | apply WX.r_again | refine WC.cond_yes rfl ?_ | refine WC.cond_no rfl ?_ | refine WC.cond rfl (fun hc => ?_) (fun hc => ?_) | refine WC.cond_b rfl (fun hc => ?_) (fun hc => ?_))
  refine WL.pa ?_ (POp.pnil0 rfl rfl)
  repeat' (first | apply WL.fold | apply WA.fold | apply WL.nil | apply WX.n_then | apply WC.seq | apply WC.region | refine WL.pa ?_ | refine WL.ga rfl ?_ | refine WL.na rfl ?_ | refine WL.nu rfl rfl ?_ | apply WC.block | apply WC.skip | apply WC.exit | apply WC.ret | apply WX.e_block | refine WX.e_other rfl ?_ | apply WX.e_then | apply WX.e_again | apply WX.n_block | apply WX.r_then | apply WX.r_block | apply WX.r_again | refine WC.cond_yes rfl ?_ | refine WC.cond_no rfl ?_ | refine WC.cond rfl (fun hc => ?_) (fun hc => ?_) | refine WC.cond_b rfl (fun hc => ?_) (fun hc => ?_))
  refine WL.pa ?_ (POp.nilCheck rfl)
  repeat' (first | apply WL.fold | apply WA.fold | apply WL.nil | apply WX.n_then | apply WC.seq | apply WC.region | refine WL.pa ?_ | refine WL.ga rfl ?_ | refine WL.na rfl ?_ | refine WL.nu rfl rfl ?_ | apply WC.block | apply WC.skip | apply WC.exit | apply WC.ret | apply WX.e_block | refine WX.e_other rfl ?_ | apply WX.e_then | apply WX.e_again | apply WX.n_block | apply WX.r_then | apply WX.r_block | apply WX.r_again | refine WC.cond_yes rfl ?_ | refine WC.cond_no rfl ?_ | refine WC.cond rfl (fun hc => ?_) (fun hc => ?_) | refine WC.cond_b rfl (fun hc => ?_) (fun hc => ?_))
  refine WL.load rfl hc rfl ?_
  cases k.off
  · repeat' (first | apply WL.fold | apply WA.fold | apply WL.nil | apply WX.n_then | apply WC.seq | apply WC.region | refine WL.pa ?_ | refine WL.ga rfl ?_ | refine WL.na rfl ?_ | refine WL.nu rfl rfl ?_ | apply WC.block | apply WC.skip | apply WC.exit | apply WC.ret | apply WX.e_block | refine WX.e_other rfl ?_ | apply WX.e_then | apply WX.e_again | apply WX.n_block | apply WX.r_then | apply WX.r_block | apply WX.r_again | refine WC.cond_yes rfl ?_ | refine WC.cond_no rfl ?_ | refine WC.cond rfl (fun hc => ?_) (fun hc => ?_) | refine WC.cond_b rfl (fun hc => ?_) (fun hc => ?_))
    exact WX.ret1 rfl rfl ⟨rfl, rfl⟩
  · repeat' (first | apply WL.fold | apply WA.fold | apply WL.nil | apply WX.n_then | apply WC.seq | apply WC.region | refine WL.pa ?_ | refine WL.ga rfl ?_ | refine WL.na rfl ?_ | refine WL.nu rfl rfl ?_ | apply WC.block | apply WC.skip | apply WC.exit | apply WC.ret | apply WX.e_block | refine WX.e_other rfl ?_ | apply WX.e_then | apply WX.e_again | apply WX.n_block | apply WX.r_then | apply WX.r_block | apply WX.r_again | refine WC.cond_yes rfl ?_ | refine WC.cond_no rfl ?_ | refine WC.cond rfl (fun hc => ?_) (fun hc => ?_) | refine WC.cond_b rfl (fun hc => ?_) (fun hc => ?_))
    exact WX.ret1 rfl rfl ⟨rfl, rfl⟩
theorem dcheck_on {b1 b2 bd pc : Nat} {pa : Option Addr} {k : Dk} {w : World} (hb : Blk w bd (dkC b1 b2 pa pc k) 102) (ho : k.off = false) : Fn Tryz.prog 55 #[.pointer (some ⟨bd, 0, none⟩)] w fun v w' => v = zv 0 ∧ w = w' := by
  have h := dcheck_fn hb
  rw [ho] at h
  exact h
theorem dcheck_off {b1 b2 bd pc : Nat} {pa : Option Addr} {k : Dk} {w : World} (hb : Blk w bd (dkC b1 b2 pa pc k) 102) (ho : k.off = true) : Fn Tryz.prog 55 #[.pointer (some ⟨bd, 0, none⟩)] w fun v w' => v = zv 251 ∧ w = w' := by
  have h := dcheck_fn hb
  rw [ho] at h
  exact h
theorem inside_fn {b1 b2 bd pc : Nat} {pa : Option Addr} {k : Dk} {w : World} (off n : Nat) (hb : Blk w bd (dkC b1 b2 pa pc k) 102) (hk : k.Ok) (ho : off ≤ 10000000) (hn : n ≤ 10000000) :
    Fn Tryz.prog 56 #[.pointer (some ⟨bd, 0, none⟩), zv (off : Int), zv (n : Int)] w fun v w' => v = .bool (decide (off + n ≤ k.dur.length)) ∧ w = w' := by
  have hc := hb.cell (i := 2) (v := .slice (some ⟨b1, 0, none⟩) k.dur.length k.dur.length) rfl
  have h2 := hk.hi
  refine enter (l := [_, _, _]) rfl Tryz.ntmps56 rfl ?_
  have ho0 : (0 : Int) ≤ (off : Int) := by omega
  have hn0 : (0 : Int) ≤ (n : Int) := by omega
  by_cases hle : (off : Int) ≤ (k.dur.length : Int)
  · repeat' (first | apply WL.fold | apply WA.fold | apply WL.nil | apply WX.n_then | apply WC.seq | apply WC.region | refine WL.pa ?_ | refine WL.ga rfl ?_ | refine WL.na rfl ?_ | refine WL.nu rfl rfl ?_ | apply WC.block | apply WC.skip | apply WC.exit | apply WC.ret | apply WX.e_block | refine WX.e_other rfl ?_ | apply WX.e_then | apply WX.e_again | apply WX.n_block | apply WX.r_then | apply WX.r_block | apply WX.r_again | refine WC.cond_yes rfl ?_ | refine WC.cond_no rfl ?_ | refine WC.cond rfl (fun hc => ?_) (fun hc => ?_) | refine WC.cond_b rfl (fun hc => ?_) (fun hc => ?_))
    refine WL.pa ?_ (POp.nilCheck rfl)
    repeat' (first | apply WL.fold | apply WA.fold | apply WL.nil | apply WX.n_then | apply WC.seq | apply WC.region | refine WL.pa ?_ | refine WL.ga rfl ?_ | refine WL.na rfl ?_ | refine WL.nu rfl rfl ?_ | apply WC.block | apply WC.skip | apply WC.exit | apply WC.ret | apply WX.e_block | refine WX.e_other rfl ?_ | apply WX.e_then | apply WX.e_again | apply WX.n_block | apply WX.r_then | apply WX.r_block | apply WX.r_again | refine WC.cond_yes rfl ?_ | refine WC.cond_no rfl ?_ | refine WC.cond rfl (fun hc => ?_) (fun hc => ?_) | refine WC.cond_b rfl (fun hc => ?_) (fun hc => ?_))
    refine WL.load rfl hc rfl ?_
    repeat' (first | apply WL.fold | apply WA.fold | apply WL.nil | apply WX.n_then | apply WC.seq | apply WC.region | refine WL.pa ?_ | refine WL.ga rfl ?_ | refine WL.na rfl ?_ | refine WL.nu rfl rfl ?_ | apply WC.block | apply WC.skip | apply WC.exit | apply WC.ret | apply WX.e_block | refine WX.e_other rfl ?_ | apply WX.e_then | apply WX.e_again | apply WX.n_block | apply WX.r_then | apply WX.r_block | apply WX.r_again | refine WC.cond_yes rfl ?_ | refine WC.cond_no rfl ?_ | refine WC.cond rfl (fun hc => ?_) (fun hc => ?_) | refine WC.cond_b rfl (fun hc => ?_) (fun hc => ?_))
    refine WL.pa ?_ (POp.nilCheck rfl)
    repeat' (first | apply WL.fold | apply WA.fold | apply WL.nil | apply WX.n_then | apply WC.seq | apply WC.region | refine WL.pa ?_ | refine WL.ga rfl ?_ | refine WL.na rfl ?_ | refine WL.nu rfl rfl ?_ | apply WC.block | apply WC.skip | apply WC.exit | apply WC.ret | apply WX.e_block | refine WX.e_other rfl ?_ | apply WX.e_then | apply WX.e_again | apply WX.n_block | apply WX.r_then | apply WX.r_block | apply WX.r_again | refine WC.cond_yes rfl ?_ | refine WC.cond_no rfl ?_ | refine WC.cond rfl (fun hc => ?_) (fun hc => ?_) | refine WC.cond_b rfl (fun hc => ?_) (fun hc => ?_))
    refine WL.load rfl hc rfl ?_
    repeat' (first | apply WL.fold | apply WA.fold | apply WL.nil | apply WX.n_then | apply WC.seq | apply WC.region | refine WL.pa ?_ | refine WL.ga rfl ?_ | refine WL.na rfl ?_ | refine WL.nu rfl rfl ?_ | apply WC.block | apply WC.skip | apply WC.exit | apply WC.ret | apply WX.e_block | refine WX.e_other rfl ?_ | apply WX.e_then | apply WX.e_again | apply WX.n_block | apply WX.r_then | apply WX.r_block | apply WX.r_again | refine WC.cond_yes rfl ?_ | refine WC.cond_no rfl ?_ | refine WC.cond rfl (fun hc => ?_) (fun hc => ?_) | refine WC.cond_b rfl (fun hc => ?_) (fun hc => ?_))
    refine WX.ret1 rfl rfl ⟨?_, rfl⟩
    congr 1
    exact decide_eq_decide.2 (by omega)
  · repeat' (first | apply WL.fold | apply WA.fold | apply WL.nil | apply WX.n_then | apply WC.seq | apply WC.region | refine WL.pa ?_ | refine WL.ga rfl ?_ | refine WL.na rfl ?_ | refine WL.nu rfl rfl ?_ | apply WC.block | apply WC.skip | apply WC.exit | apply WC.ret | apply WX.e_block | refine WX.e_other rfl ?_ | apply WX.e_then | apply WX.e_again | apply WX.n_block | apply WX.r_then | apply WX.r_block | apply WX.r_again | refine WC.cond_yes rfl ?_ | refine WC.cond_no rfl ?_ | refine WC.cond rfl (fun hc => ?_) (fun hc => ?_) | refine WC.cond_b rfl (fun hc => ?_) (fun hc => ?_))
    refine WL.pa ?_ (POp.nilCheck rfl)
    repeat' (first | apply WL.fold | apply WA.fold | apply WL.nil | apply WX.n_then | apply WC.seq | apply WC.region | refine WL.pa ?_ | refine WL.ga rfl ?_ | refine WL.na rfl ?_ | refine WL.nu rfl rfl ?_ | apply WC.block | apply WC.skip | apply WC.exit | apply WC.ret | apply WX.e_block | refine WX.e_other rfl ?_ | apply WX.e_then | apply WX.e_again | apply WX.n_block | apply WX.r_then | apply WX.r_block | apply WX.r_again | refine WC.cond_yes rfl ?_ | refine WC.cond_no rfl ?_ | refine WC.cond rfl (fun hc => ?_) (fun hc => ?_) | refine WC.cond_b rfl (fun hc => ?_) (fun hc => ?_))
    refine WL.load rfl hc rfl ?_
    repeat' (first | apply WL.fold | apply WA.fold | apply WL.nil | apply WX.n_then | apply WC.seq | apply WC.region | refine WL.pa ?_ | refine WL.ga rfl ?_ | refine WL.na rfl ?_ | refine WL.nu rfl rfl ?_ | apply WC.block | apply WC.skip | apply WC.exit | apply WC.ret | apply WX.e_block | refine WX.e_other rfl ?_ | apply WX.e_then | apply WX.e_again | apply WX.n_block | apply WX.r_then | apply WX.r_block | apply WX.r_again | refine WC.cond_yes rfl ?_ | refine WC.cond_no rfl ?_ | refine WC.cond rfl (fun hc => ?_) (fun hc => ?_) | refine WC.cond_b rfl (fun hc => ?_) (fun hc => ?_))
    refine WX.ret1 rfl rfl ⟨?_, rfl⟩
    congr 1
    have : ¬ off + n ≤ k.dur.length := by omega
    rw [decide_eq_false this]
end Go.Sx
/- Chapter 25: New, Write, Sync, Read, Cut: the walks. -/
namespace Go.Sx
open Go Go.Proofs Go.RowKit
attribute [local irreducible] WC WL WX POp Then Again Fn NX W1 WA WO QL RP RA Yld LoopAt HC HL HX HN H1 HA HO HQ HB HP A.blk A.grow A.rd A.obj A.mp AgainH CutH
theorem onto_fn {w0 w : World} {H : List Atom} {b2 : Nat} {l : List UInt8} (off : Nat) (s : ByteArray) (hM : Mm w0 (A.blk b2 (ub l) 5 :: H) w) (h : off + s.size ≤ l.length) (hl : l.length ≤ 4194304) :
    Fn Tryz.prog 57 #[.agg [zv (off : Int), .string s].toArray, .slice (some ⟨b2, 0, none⟩) l.length l.length] w fun v w' => v = .tuple #[] ∧ Mm w0 (A.blk b2 (ub (splice l off s.data.toList)) 5 :: H) w' := by
  have hs : s.data.toList.length = s.size := by rw [Array.length_toList]; rfl
  refine enterK (l := [_, _]) hM rfl Tryz.ntmps57 rfl ?_
  refine hwKA ?_
  refine HL.one (H1.boxAgg (cs := [zv (off : Int), .string s]) rfl rfl (fun bx => ?_))
  refine hwKA ?_
  have hul : (ub l).length = l.length := ub_len l
  have hsp : splice l off s.data.toList = l.take off ++ s.data.toList ++ l.drop (off + s.size) := by unfold splice; rw [hs]
  by_cases ho : off < l.length
  · refine HC.anyC ([(⟨bx, 0, none⟩, zv (off : Int)), (⟨bx, 1, none⟩, .string s)]) rfl ?_
    refine HB.pa 0 rfl ?_
    refine HB.pa 1 rfl ?_
    refine HB.ld 2 rfl rfl memD ?_
    refine HB.pa 3 rfl ?_ (POp.cut_l rfl rfl (by omega) (by omega) (by omega))
    refine HB.pa 4 rfl ?_
    refine HB.ld 5 rfl rfl memD ?_
    refine HB.all (by repeat (first | exact Keep.nil | refine Keep.blk (by (repeat (first | exact List.Mem.head _ | apply List.Mem.tail)); done) rfl ?_ | refine Keep.grow (by (repeat (first | exact List.Mem.head _ | apply List.Mem.tail)); done) (by assumption) ?_ | refine Keep.base (by assumption) ?_)) [6] (by kernel_rfl) rfl ⟨⟨_, rfl, ?_⟩, trivial⟩
    refine HP.one ?_
    refine H1.copyS (b := b2) (o := 0 + (off : Int).toNat * 1) (cur := ub l) (cur' := ub (splice l off s.data.toList)) rfl rfl (by omega) (by omega) ?_ rplA rfl ?_
    · rw [hsp]; unfold ub; simp [List.map_take, List.map_drop]
    apply HB.fold
    refine HB.done (by repeat (first | exact Keep.nil | refine Keep.blk (by (repeat (first | exact List.Mem.head _ | apply List.Mem.tail)); done) rfl ?_ | refine Keep.grow (by (repeat (first | exact List.Mem.head _ | apply List.Mem.tail)); done) (by assumption) ?_ | refine Keep.base (by assumption) ?_)) (by kernel_rfl) ?_
    refine hwKA ?_
    exact HX.end0 rfl fun w' hM => ⟨rfl, hM.tail⟩
  · obtain rfl : off = l.length := by omega
    have hs0 : s.size = 0 := by omega
    have hnil : s.data.toList = [] := List.eq_nil_of_length_eq_zero (by omega)
    refine HC.anyC ([(⟨bx, 0, none⟩, zv (l.length : Int)), (⟨bx, 1, none⟩, .string s)]) rfl ?_
    refine HB.pa 0 rfl ?_
    refine HB.pa 1 rfl ?_
    refine HB.ld 2 rfl rfl memD ?_
    refine HB.pa 3 rfl ?_ (POp.cut_le rfl rfl)
    refine HB.pa 4 rfl ?_
    refine HB.ld 5 rfl rfl memD ?_
    refine HB.all (by repeat (first | exact Keep.nil | refine Keep.blk (by (repeat (first | exact List.Mem.head _ | apply List.Mem.tail)); done) rfl ?_ | refine Keep.grow (by (repeat (first | exact List.Mem.head _ | apply List.Mem.tail)); done) (by assumption) ?_ | refine Keep.base (by assumption) ?_)) [6] (by kernel_rfl) rfl ⟨⟨_, rfl, ?_⟩, trivial⟩
    refine HP.one ?_
    refine H1.copyS (b := b2) (o := 0) (cur := ub l) (cur' := ub (splice l l.length s.data.toList)) rfl rfl (by omega) (by omega) ?_ rplA rfl ?_
    · rw [hsp, hnil, hs0]; simp [ub]
    apply HB.fold
    refine HB.done (by repeat (first | exact Keep.nil | refine Keep.blk (by (repeat (first | exact List.Mem.head _ | apply List.Mem.tail)); done) rfl ?_ | refine Keep.grow (by (repeat (first | exact List.Mem.head _ | apply List.Mem.tail)); done) (by assumption) ?_ | refine Keep.base (by assumption) ?_)) (by kernel_rfl) ?_
    refine hwKA ?_
    exact HX.end0 rfl fun w' hM => ⟨rfl, hM.tail⟩
theorem used_fn {w0 w : World} {H : List Atom} {bd b1 b2 pc : Nat} {pa : Option Addr} {k : Dk} (hM : Mm w0 (A.blk bd (dkC b1 b2 pa pc k) 102 :: H) w) (hk : k.left ≤ 1000000) :
    Fn Tryz.prog 58 #[.pointer (some ⟨bd, 0, none⟩)] w fun v w' => v = .tuple #[] ∧ Mm w0 (A.blk bd (dkC b1 b2 pa pc k.used) 102 :: H) w' := by
  refine enterK (l := [_]) hM rfl Tryz.ntmps58 rfl ?_
  by_cases h0 : k.left = 0
  · have h0' : (k.left : Int) = 0 := by omega
    have e : k.used = k := by unfold Dk.used; rw [if_pos h0]
    rw [e]
    refine hwKA ?_
    exact HX.ret0 rfl fun w' hM => ⟨rfl, hM⟩
  · have h0' : ¬ (k.left : Int) = 0 := by omega
    have e : k.used = { k with left := k.left - 1, off := decide (k.left - 1 = 0) } := by unfold Dk.used; rw [if_neg h0]
    rw [e]
    refine hwKA ?_
    refine HL.one (H1.st rfl rfl (by intro _ h; cases h) (by intro _ h; cases h) rplA (by show 1 < 5; decide) ?_)
    refine hwKA ?_
    refine HL.one (H1.st rfl rfl (by intro _ h; cases h) (by intro _ h; cases h) rplA (by show 0 < 5; decide) ?_)
    refine hwKA ?_
    refine HX.end0 rfl fun w' hM => ⟨rfl, ?_⟩
    have e2 : ((dkC b1 b2 pa pc k).set 1 (.int .i64 ((k.left : Int) - 1))).set 0 (.bool (decide ((k.left : Int) - 1 = 0))) = dkC b1 b2 pa pc { k with left := k.left - 1, off := decide (k.left - 1 = 0) } := by
      show [_, _, _, _, _] = [_, _, _, _, _]
      congr 1
      · congr 1; exact decide_eq_decide.2 (by omega)
      · congr 2
        show (k.left : Int) - 1 = ((k.left - 1 : Nat) : Int)
        omega
    rw [← e2]
    exact hM
theorem settle_fn {w0 w : World} {H : List Atom} {bd b1 b2 pc : Nat} {pa : Option Addr} {k : Dk} (hM : Mm w0 (dkH bd b1 b2 pa pc k H) w) (hl : k.vis.length = k.dur.length) :
    Fn Tryz.prog 77 #[.pointer (some ⟨bd, 0, none⟩), .slice (some ⟨b2, 0, none⟩) k.vis.length k.vis.length, .slice (some ⟨b1, 0, none⟩) k.dur.length k.dur.length] w fun v w' => v = .tuple #[] ∧
      Mm w0 (dkH bd b1 b2 pa pc { k with dur := k.vis, pend := [] } H) w' := by
  have hu1 := ub_len k.dur
  have hu2 := ub_len k.vis
  refine enterK (l := [_, _, _]) hM rfl Tryz.ntmps77 rfl ?_
  refine hwKA ?_
  refine HL.one (H1.copyB (b := b1) (cur := ub k.dur) (cs := ub k.vis) (cur' := ub k.vis) rfl rfl (by omega) (fun w' hM j v hv => ?_) (by
    intro v hv
    obtain ⟨x, -, rfl⟩ := List.mem_map.1 hv
    rfl) (by omega) ?_ rplA rfl ?_)
  · rw [add_lit, Nat.zero_add]
    exact (hM.blk (b := b2) (cs := ub k.vis) memA).cell hv
  · rw [List.take_zero, List.nil_append, Nat.zero_add, hu2, List.drop_of_length_le (by omega), List.append_nil]
  refine hwKA ?_
  refine HL.one (H1.clearG rfl (by intro v hv; rcases List.mem_cons.1 hv with rfl | hv; rfl; rcases List.mem_cons.1 hv with rfl | hv; rfl; cases hv) (by decide) rfl rplA rfl ?_)
  refine hwKA ?_
  refine HL.growCut (e := 106) (sz := 2) (a := pa) (c := pc) (n := k.pend.length) rplA ?_
  refine HL.pa ?_ (POp.pre_any rfl rfl (by decide) (by omega))
  refine hwKA ?_
  refine HL.one (H1.st rfl rfl (by intro _ h; cases h) (by intro _ h; cases h) rplA (by show 4 < 5; decide) ?_)
  refine hwKA ?_
  have e : (dkC b1 b2 pa pc k).set (0 + 4) (Value.slice pa (Int.toNat 0) pc) = dkC b1 b2 pa pc { k with dur := k.vis, pend := [] } := by
    show [_, _, _, _, _] = [_, _, _, _, _]
    rw [hl]; rfl
  rw [e]
  exact HX.end0 rfl fun w' hM => ⟨rfl, hM⟩
theorem sync_fn {w0 w : World} {H : List Atom} {bd b1 b2 pc : Nat} {pa : Option Addr} {k : Dk} (hM : Mm w0 (dkH bd b1 b2 pa pc k H) w) (hk : k.Ok) :
    Fn Tryz.prog 108 #[.pointer (some ⟨bd, 0, none⟩)] w fun v w' => v = zv k.sync.1 ∧ Mm w0 (dkH bd b1 b2 pa pc k.sync.2 H) w' := by
  refine enterK (l := [_]) hM rfl Tryz.ntmps108 rfl ?_
  cases ho : k.off
  · rw [Dk.sync_on ho]
    refine hwKA ?_
    refine HL.one (H1.call0 rfl rfl (fun w' hM => dcheck_on (hM.blk memA) ho) ?_)
    refine hwKA ?_
    refine HC.anyC ([(⟨bd, 3, none⟩, .slice (some ⟨b2, 0, none⟩) k.vis.length k.vis.length), (⟨bd, 2, none⟩, .slice (some ⟨b1, 0, none⟩) k.dur.length k.dur.length)]) rfl ?_
    refine HB.pa 0 rfl ?_
    refine HB.pa 1 rfl ?_
    refine HB.pa 2 rfl ?_ (POp.nilCheck rfl)
    refine HB.pa 3 rfl ?_
    refine HB.ld 4 rfl rfl memD ?_
    refine HB.pa 5 rfl ?_
    refine HB.pa 6 rfl ?_ (POp.nilCheck rfl)
    refine HB.pa 7 rfl ?_
    refine HB.ld 8 rfl rfl memD ?_
    refine HB.all (by (exact Keep.blk (b := bd) memD rfl (Keep.blk (b := bd) memD (by first | rfl | (show some (Value.slice (some ⟨b1, 0, none⟩) k.vis.length k.vis.length) = _; rw [hk.len])) Keep.nil))) [9] (by kernel_rfl) rfl ⟨⟨_, rfl, ?_⟩, trivial⟩
    refine HP.one ?_
    refine H1.callk (α := Unit) (V := fun _ => .tuple #[]) (I := fun _ => True) (H' := fun _ => dkH bd b1 b2 pa pc { k with dur := k.vis, pend := [] } H) (vs := [_, _, _]) rfl rfl (fun w' hM => (settle_fn hM hk.len).mono fun v w2 h => ⟨(), trivial, h⟩) ?_
    rintro - -
    apply HB.fold
    refine HB.done (by (exact Keep.blk (b := bd) memD rfl (Keep.blk (b := bd) memD (by first | rfl | (show some (Value.slice (some ⟨b1, 0, none⟩) k.vis.length k.vis.length) = _; rw [hk.len])) Keep.nil))) (by kernel_rfl) ?_
    refine hwKA ?_
    exact HX.ret1 rfl rfl fun w' hM => ⟨rfl, hM⟩
  · rw [Dk.sync_off ho]
    refine hwKA ?_
    refine HL.one (H1.call0 rfl rfl (fun w' hM => dcheck_off (hM.blk memA) ho) ?_)
    refine hwKA ?_
    exact HX.ret1 rfl rfl fun w' hM => ⟨rfl, hM⟩
theorem blk_ext {w w' : World} {b : Nat} {cs : List Value} {e : TypeId} (h : Blk w b cs e) (k : Ext w w') : Blk w' b cs e := (k.block b (Array.getElem?_eq_some_iff.1 h).1).trans h
theorem read_fn {w : World} {bd b1 b2 pc : Nat} {pa : Option Addr} {k : Dk} (hb : Blk w bd (dkC b1 b2 pa pc k) 102) (hv : Blk w b2 (ub k.vis) 5) (hk : k.Ok) :
    Fn Tryz.prog 27 #[.pointer (some ⟨bd, 0, none⟩), zv 0, zv (k.dur.length : Int)] w fun v w' => v = .tuple #[.string (if k.off then mkBA [] else mkBA k.vis), zv (if k.off then 251 else 0)] ∧ Ext w w' := by
  have hlo := hk.lo
  have hhi := hk.hi
  have hlen := hk.len
  refine enterH (l := [_, _, _]) rfl Tryz.ntmps27 rfl ?_
  cases ho : k.off
  · refine hwKA ?_
    refine HL.one (H1.call0 rfl rfl (fun w' hM => dcheck_on (blk_ext hb hM.ext) ho) ?_)
    refine hwKA ?_
    refine HL.one (H1.call0 rfl rfl (fun w' hM => inside_fn 0 k.dur.length (blk_ext hb hM.ext) hk (by decide) (by omega)) ?_)
    have hin : 0 + k.dur.length ≤ k.dur.length := by omega
    refine hwKA ?_
    refine HL.one (H1.ld0 rfl (hb.cell (i := 3) rfl) rfl ?_)
    refine hwKA ?_
    refine HL.pa ?_ (POp.cut_l rfl rfl (by decide) (by omega) (by omega))
    rw [← hlen]
    refine hwKA ?_
    refine HL.one (H1.bstrC (ys := k.vis) rfl (by omega) (fun w' hM => ?_) rfl ?_)
    · refine ⟨_, _, by rw [ub_len]; rfl, by rw [ub_len]; omega, .inr ⟨b2, _, rfl, Nat.lt_of_lt_of_le (Array.getElem?_eq_some_iff.1 hv).1 hM.ext.size, fun i u hu => ?_⟩⟩
      have h2 := cell_ext hM.ext (hv.cell hu)
      simpa using h2
    refine hwKA ?_
    exact HX.ret2 rfl rfl rfl fun w' hM => ⟨rfl, hM.ext⟩
  · refine hwKA ?_
    refine HL.one (H1.call0 rfl rfl (fun w' hM => dcheck_off (blk_ext hb hM.ext) ho) ?_)
    refine hwKA ?_
    exact HX.ret2 rfl rfl rfl fun w' hM => ⟨rfl, hM.ext⟩
end Go.Sx
/- Chapter 25: New, Write, Cut, Pending: the walks. -/
namespace Go.Sx
open Go Go.Proofs Go.RowKit
def newK (n : Nat) : Dk := ⟨false, 0, List.replicate n 0, List.replicate n 0, []⟩
theorem newK_ok {n : Nat} (h : 1 ≤ n) (h1 : n ≤ 4194304) : (newK n).Ok := ⟨rfl, by show 0 < (List.replicate n (0 : UInt8)).length; rw [List.length_replicate]; omega, by show (List.replicate n (0 : UInt8)).length ≤ _; rw [List.length_replicate]; exact h1, by show 0 ≤ _; omega, by show 0 ≤ _; omega⟩
theorem newK_C (b1 b2 n : Nat) : dkC b1 b2 none 0 (newK n) = [.bool false, zv 0, .slice (some ⟨b1, 0, none⟩) n n, .slice (some ⟨b2, 0, none⟩) n n, .slice none 0 0] := by
  unfold dkC newK
  simp only [List.length_replicate]; rfl
theorem used_parts (k : Dk) : k.used.dur = k.dur ∧ k.used.vis = k.vis ∧ k.used.pend = k.pend := by
  unfold Dk.used
  by_cases h : k.left = 0
  · rw [if_pos h]; exact ⟨rfl, rfl, rfl⟩
  · rw [if_neg h]; exact ⟨rfl, rfl, rfl⟩
theorem put_parts (k : Dk) (off : Nat) (s : ByteArray) : (k.put off s).dur = k.dur ∧ (k.put off s).vis = splice k.vis off s.data.toList ∧ (k.put off s).pend = k.pend ++ [(off, s)] := used_parts _
attribute [local irreducible] WC WL WX POp Then Again Fn NX W1 WA WO QL RP RA Yld LoopAt HC HL HX HN H1 HA HO HQ HB HP A.blk A.grow A.rd A.obj A.mp AgainH CutH
theorem new_fn (n : Nat) (h1 : 1 ≤ n) (h2 : n ≤ 4194304) (w : World) : Fn Tryz.prog 23 #[zv (n : Int)] w fun v w' => ∃ z : Nat × Nat × Nat, True ∧ v = .tuple #[.pointer (some ⟨z.1, 0, none⟩), zv 0] ∧ Mm w (dkH z.1 z.2.1 z.2.2 none 0 (newK n) []) w' := by
  refine enterH (l := [_]) rfl Tryz.ntmps23 rfl ?_
  have h1' : ¬ (n : Int) < 1 := by omega
  have h2' : ¬ (4194304 : Int) < (n : Int) := by omega
  refine hwKA ?_
  refine HC.cut (α := Nat × Nat × Nat) (fun z => [(2, .pointer (some ⟨z.1, 0, none⟩)), (3, zv 0)]) (fun z => dkH z.1 z.2.1 z.2.2 none 0 (newK n) []) (fun _ => True) ?_ ?_
  · refine HC.any rfl ?_
    refine HA.pa 0 rfl ?_
    refine HA.pa 2 rfl ?_
    refine HA.all [1, 3] (by kernel_rfl) rfl ⟨⟨_, rfl, ?_⟩, ⟨_, rfl, ?_⟩, trivial⟩
    · refine HO.one ?_
      refine H1.make (l := n) (c := n) rfl rfl rfl rfl rfl (Nat.le_refl _) (by omega) (by omega) rfl (fun b1 => ?_)
      apply HA.fold
      refine HA.all [3] (by kernel_rfl) rfl ⟨⟨_, rfl, ?_⟩, trivial⟩
      refine HO.one ?_
      refine H1.make (l := n) (c := n) rfl rfl rfl rfl rfl (Nat.le_refl _) (by omega) (by omega) rfl (fun b2 => ?_)
      apply HA.fold
      refine HA.pa 4 rfl ?_ (POp.build (cs := [.bool false, zv 0, .slice (some ⟨b1, 0, none⟩) n n, .slice (some ⟨b2, 0, none⟩) n n, .slice none 0 0]) rfl rfl)
      refine HA.all [5] (by kernel_rfl) rfl ⟨⟨_, rfl, ?_⟩, trivial⟩
      refine HO.one ?_
      refine H1.boxAgg (cs := [.bool false, zv 0, .slice (some ⟨b1, 0, none⟩) n n, .slice (some ⟨b2, 0, none⟩) n n, .slice none 0 0]) rfl rfl (fun bd => ?_)
      apply HA.fold
      refine HA.pa 6 rfl ?_
      refine HA.pa 7 rfl ?_
      refine HA.done (by kernel_rfl) ?_
      rw [ub_zero]
      refine HX.conv (H2 := A.grow 106 2 none 0 0 [] :: _) (fun w h => h.grow0 _ _) ?_
      refine HX.cut (bd, b1, b2) trivial esA ?_
      show Hs _ [A.blk bd (dkC b1 b2 none 0 (newK n)) 102, A.blk b1 (ub (List.replicate n 0)) 5, A.blk b2 (ub (List.replicate n 0)) 5, A.grow 106 2 none 0 0 []]
      rw [newK_C]
      repeat (first | exact Hs.nil _ | (refine Hs.cons pickA ?_))
    · refine HO.one ?_
      refine H1.make (l := n) (c := n) rfl rfl rfl rfl rfl (Nat.le_refl _) (by omega) (by omega) rfl (fun b2 => ?_)
      apply HA.fold
      refine HA.all [1] (by kernel_rfl) rfl ⟨⟨_, rfl, ?_⟩, trivial⟩
      refine HO.one ?_
      refine H1.make (l := n) (c := n) rfl rfl rfl rfl rfl (Nat.le_refl _) (by omega) (by omega) rfl (fun b1 => ?_)
      apply HA.fold
      refine HA.pa 4 rfl ?_ (POp.build (cs := [.bool false, zv 0, .slice (some ⟨b1, 0, none⟩) n n, .slice (some ⟨b2, 0, none⟩) n n, .slice none 0 0]) rfl rfl)
      refine HA.all [5] (by kernel_rfl) rfl ⟨⟨_, rfl, ?_⟩, trivial⟩
      refine HO.one ?_
      refine H1.boxAgg (cs := [.bool false, zv 0, .slice (some ⟨b1, 0, none⟩) n n, .slice (some ⟨b2, 0, none⟩) n n, .slice none 0 0]) rfl rfl (fun bd => ?_)
      apply HA.fold
      refine HA.pa 6 rfl ?_
      refine HA.pa 7 rfl ?_
      refine HA.done (by kernel_rfl) ?_
      rw [ub_zero]
      refine HX.conv (H2 := A.grow 106 2 none 0 0 [] :: _) (fun w h => h.grow0 _ _) ?_
      refine HX.cut (bd, b1, b2) trivial esA ?_
      show Hs _ [A.blk bd (dkC b1 b2 none 0 (newK n)) 102, A.blk b1 (ub (List.replicate n 0)) 5, A.blk b2 (ub (List.replicate n 0)) 5, A.grow 106 2 none 0 0 []]
      rw [newK_C]
      repeat (first | exact Hs.nil _ | (refine Hs.cons pickA ?_))
  rintro ⟨bd, b1, b2⟩ -
  refine hwKA ?_
  exact HX.ret2 rfl rfl rfl fun w' hM => ⟨(bd, b1, b2), trivial, rfl, hM⟩
theorem write_fn {w0 w : World} {H : List Atom} {bd b1 b2 pc : Nat} {pa : Option Addr} {k : Dk} (off : Nat) (s : ByteArray) (hM : Mm w0 (dkH bd b1 b2 pa pc k H) w) (hk : k.Ok) (ho : off ≤ 5000000) (hs : s.size ≤ 5000000) :
    Fn Tryz.prog 24 #[.pointer (some ⟨bd, 0, none⟩), zv (off : Int), .string s] w fun v w' => ∃ q : Option Addr × Nat, True ∧ v = zv (k.write off s).1 ∧ Mm w0 (dkH bd b1 b2 q.1 q.2 (k.write off s).2 H) w' := by
  have hlen := hk.len
  have hhi := hk.hi
  have hp := hk.pend
  refine enterK (l := [_, _, _]) hM rfl Tryz.ntmps24 rfl ?_
  cases hoff : k.off
  · by_cases hin : off + s.size ≤ k.dur.length
    · rw [Dk.write_on hoff hin]
      refine hwKA ?_
      refine HL.one (H1.call0 rfl rfl (fun w' hM => dcheck_on (hM.blk memA) hoff) ?_)
      refine hwKA ?_
      refine HL.one (H1.call0 (vs := [_, _, zv (s.size : Int)]) rfl rfl (fun w' hM => inside_fn off s.size (hM.blk memA) hk (by omega) (by omega)) ?_)
      refine hwKA ?_
      refine HL.build (cs := [zv (off : Int), .string s]) rfl rfl rfl ?_
      refine hwKA ?_
      refine HL.one (H1.alloc (cs := [zv 0, .string (ByteArray.mk #[])]) (by kernel_rfl) rfl (fun bx => ?_))
      refine hwKA ?_
      refine HL.one (H1.stAgg (cs := [zv 0, .string (ByteArray.mk #[])]) rfl rfl rfl (by intro v hv; rcases List.mem_cons.1 hv with rfl | hv; rfl; rcases List.mem_cons.1 hv with rfl | hv; rfl; cases hv) rplA rfl ?_)
      refine hwKA ?_
      have hpl : (k.pend ++ [(off, s)]).length = k.pend.length + 1 := by rw [List.length_append]; rfl
      have hss : s.data.toList.length = s.size := by rw [Array.length_toList]; rfl
      have hsl : (splice k.vis off s.data.toList).length = k.vis.length := splice_len (by omega)
      have e1 : ∀ a' c', dkC b1 b2 a' c' { k with pend := k.pend ++ [(off, s)] } = (dkC b1 b2 pa pc k).set (0 + 4) (.slice a' (k.pend.length + 1) c') := fun a' c' => by
        show [_, _, _, _, _] = [_, _, _, _, _]
        rw [hpl]
      refine HC.cut (α := Option Addr × Nat) (fun q => [(0, .pointer (some ⟨bd, 0, none⟩)), (8, .pointer (some ⟨bx, 0, none⟩))]) (fun q => A.blk bx [zv (off : Int), .string s] 106 :: dkH bd b1 b2 q.1 q.2 { k with pend := k.pend ++ [(off, s)] } H) (fun _ => True) ?_ ?_
      · refine HC.any rfl ?_
        refine HA.pa 0 rfl ?_
        refine HA.pa 1 rfl ?_
        refine HA.pa 2 rfl ?_ (POp.nilCheck rfl)
        refine HA.pa 3 rfl ?_
        refine HA.all [4, 5] (by kernel_rfl) rfl ⟨⟨_, rfl, ?_⟩, ⟨_, rfl, ?_⟩, trivial⟩
        · refine HO.one ?_
          refine H1.ldb rfl memA rfl rfl ?_
          apply HA.fold
          refine HA.all [5] (by kernel_rfl) rfl ⟨⟨_, rfl, ?_⟩, trivial⟩
          refine HO.one ?_
          refine H1.ldAgg (b := bx) (vs := [zv (off : Int), .string s]) rfl memA rfl (fun i v h => by rwa [Nat.zero_add]) rfl ?_
          apply HA.fold
          refine HA.all [6] (by kernel_rfl) rfl ⟨⟨_, rfl, ?_⟩, trivial⟩
          refine HO.one ?_
          refine H1.lit (cs := [zv (off : Int), .string s]) rfl rfl rfl rfl rfl rfl (fun b9 => ?_)
          apply HA.fold
          refine HA.all [7] (by kernel_rfl) rfl ⟨⟨_, rfl, ?_⟩, trivial⟩
          refine HO.one ?_
          refine H1.app (sz := 2) (news := [zv (off : Int), .string s]) rfl (by decide) rfl rfl (fun _ _ => by first | ((repeat (first | with_reducible exact Rpl.here | with_reducible apply Rpl.there)); done) | (repeat (first | exact Rpl.here | apply Rpl.there))) rfl (fun w' hM j u hj => ?_) (by intro v hv; rcases List.mem_cons.1 hv with rfl | hv; rfl; rcases List.mem_cons.1 hv with rfl | hv; rfl; cases hv) (by omega) (by decide) rfl (fun a' c' hac => ?_)
          · rw [add_lit, Nat.zero_add]; exact (hM.blk (b := b9) memA).cell hj
          rw [pendC_snoc k.pend (off, s)]
          apply HA.fold
          refine HA.pa 8 rfl ?_ (POp.nilCheck rfl)
          refine HA.pa 9 rfl ?_
          refine HA.all [10] (by kernel_rfl) rfl ⟨⟨_, rfl, ?_⟩, trivial⟩
          refine HO.one ?_
          refine H1.st (b := bd) rfl rfl (by intro _ h; cases h) (by intro _ h; cases h) rplA (by show 4 < 5; decide) ?_
          apply HA.fold
          refine HA.done (by kernel_rfl) ?_
          refine HX.cut (a', c') trivial esA ?_
          show Hs _ (A.blk bx _ _ :: A.blk bd (dkC b1 b2 a' c' { k with pend := k.pend ++ [(off, s)] }) 102 :: A.blk b1 _ _ :: A.blk b2 _ _ :: A.grow 106 2 a' c' (k.pend ++ [(off, s)]).length _ :: H)
          rw [e1, hpl]
          exact (Hs.refl _).skip
        · refine HO.one ?_
          refine H1.ldAgg (b := bx) (vs := [zv (off : Int), .string s]) rfl memA rfl (fun i v h => by rwa [Nat.zero_add]) rfl ?_
          apply HA.fold
          refine HA.all [4, 6] (by kernel_rfl) rfl ⟨⟨_, rfl, ?_⟩, ⟨_, rfl, ?_⟩, trivial⟩
          · refine HO.one ?_
            refine H1.ldb rfl memA rfl rfl ?_
            apply HA.fold
            refine HA.all [6] (by kernel_rfl) rfl ⟨⟨_, rfl, ?_⟩, trivial⟩
            refine HO.one ?_
            refine H1.lit (cs := [zv (off : Int), .string s]) rfl rfl rfl rfl rfl rfl (fun b9 => ?_)
            apply HA.fold
            refine HA.all [7] (by kernel_rfl) rfl ⟨⟨_, rfl, ?_⟩, trivial⟩
            refine HO.one ?_
            refine H1.app (sz := 2) (news := [zv (off : Int), .string s]) rfl (by decide) rfl rfl (fun _ _ => by first | ((repeat (first | with_reducible exact Rpl.here | with_reducible apply Rpl.there)); done) | (repeat (first | exact Rpl.here | apply Rpl.there))) rfl (fun w' hM j u hj => ?_) (by intro v hv; rcases List.mem_cons.1 hv with rfl | hv; rfl; rcases List.mem_cons.1 hv with rfl | hv; rfl; cases hv) (by omega) (by decide) rfl (fun a' c' hac => ?_)
            · rw [add_lit, Nat.zero_add]; exact (hM.blk (b := b9) memA).cell hj
            rw [pendC_snoc k.pend (off, s)]
            apply HA.fold
            refine HA.pa 8 rfl ?_ (POp.nilCheck rfl)
            refine HA.pa 9 rfl ?_
            refine HA.all [10] (by kernel_rfl) rfl ⟨⟨_, rfl, ?_⟩, trivial⟩
            refine HO.one ?_
            refine H1.st (b := bd) rfl rfl (by intro _ h; cases h) (by intro _ h; cases h) rplA (by show 4 < 5; decide) ?_
            apply HA.fold
            refine HA.done (by kernel_rfl) ?_
            refine HX.cut (a', c') trivial esA ?_
            show Hs _ (A.blk bx _ _ :: A.blk bd (dkC b1 b2 a' c' { k with pend := k.pend ++ [(off, s)] }) 102 :: A.blk b1 _ _ :: A.blk b2 _ _ :: A.grow 106 2 a' c' (k.pend ++ [(off, s)]).length _ :: H)
            rw [e1, hpl]
            exact (Hs.refl _).skip
          · refine HO.one ?_
            refine H1.lit (cs := [zv (off : Int), .string s]) rfl rfl rfl rfl rfl rfl (fun b9 => ?_)
            apply HA.fold
            refine HA.all [4] (by kernel_rfl) rfl ⟨⟨_, rfl, ?_⟩, trivial⟩
            refine HO.one ?_
            refine H1.ldb rfl memA rfl rfl ?_
            apply HA.fold
            refine HA.all [7] (by kernel_rfl) rfl ⟨⟨_, rfl, ?_⟩, trivial⟩
            refine HO.one ?_
            refine H1.app (sz := 2) (news := [zv (off : Int), .string s]) rfl (by decide) rfl rfl (fun _ _ => by first | ((repeat (first | with_reducible exact Rpl.here | with_reducible apply Rpl.there)); done) | (repeat (first | exact Rpl.here | apply Rpl.there))) rfl (fun w' hM j u hj => ?_) (by intro v hv; rcases List.mem_cons.1 hv with rfl | hv; rfl; rcases List.mem_cons.1 hv with rfl | hv; rfl; cases hv) (by omega) (by decide) rfl (fun a' c' hac => ?_)
            · rw [add_lit, Nat.zero_add]; exact (hM.blk (b := b9) memA).cell hj
            rw [pendC_snoc k.pend (off, s)]
            apply HA.fold
            refine HA.pa 8 rfl ?_ (POp.nilCheck rfl)
            refine HA.pa 9 rfl ?_
            refine HA.all [10] (by kernel_rfl) rfl ⟨⟨_, rfl, ?_⟩, trivial⟩
            refine HO.one ?_
            refine H1.st (b := bd) rfl rfl (by intro _ h; cases h) (by intro _ h; cases h) rplA (by show 4 < 5; decide) ?_
            apply HA.fold
            refine HA.done (by kernel_rfl) ?_
            refine HX.cut (a', c') trivial esA ?_
            show Hs _ (A.blk bx _ _ :: A.blk bd (dkC b1 b2 a' c' { k with pend := k.pend ++ [(off, s)] }) 102 :: A.blk b1 _ _ :: A.blk b2 _ _ :: A.grow 106 2 a' c' (k.pend ++ [(off, s)]).length _ :: H)
            rw [e1, hpl]
            exact (Hs.refl _).skip
      rintro ⟨a', c'⟩ -
      dsimp only
      refine hwKA ?_
      refine HC.anyC ([(⟨bd, 3, none⟩, .slice (some ⟨b2, 0, none⟩) k.vis.length k.vis.length)]) rfl ?_
      refine HB.pa 1 rfl ?_
      refine HB.pa 2 rfl ?_ (POp.nilCheck rfl)
      refine HB.pa 3 rfl ?_
      refine HB.ld 4 rfl rfl memD ?_
      refine HB.all (by (exact Keep.blk (b := bd) memD (by first | rfl | (show some (Value.slice (some ⟨b2, 0, none⟩) (splice k.vis off s.data.toList).length (splice k.vis off s.data.toList).length) = _; rw [hsl])) Keep.nil)) [0] (by kernel_rfl) rfl ⟨⟨_, rfl, ?_⟩, trivial⟩
      refine HP.one ?_
      refine H1.ldAgg (b := bx) (vs := [zv (off : Int), .string s]) rfl memA rfl (fun i v h => by rwa [Nat.zero_add]) rfl ?_
      apply HB.fold
      refine HB.all (by (exact Keep.blk (b := bd) memD (by first | rfl | (show some (Value.slice (some ⟨b2, 0, none⟩) (splice k.vis off s.data.toList).length (splice k.vis off s.data.toList).length) = _; rw [hsl])) Keep.nil)) [5] (by kernel_rfl) rfl ⟨⟨_, rfl, ?_⟩, trivial⟩
      refine HP.one ?_
      refine H1.callk (α := Unit) (V := fun _ => .tuple #[]) (I := fun _ => True) (H' := fun _ => A.blk b2 (ub (splice k.vis off s.data.toList)) 5 :: A.blk bd (dkC b1 b2 a' c' { k with pend := k.pend ++ [(off, s)] }) 102 :: A.blk b1 (ub k.dur) 5 :: A.grow 106 2 a' c' (k.pend ++ [(off, s)]).length (pendC (k.pend ++ [(off, s)])) :: H) (vs := [.agg [zv (off : Int), .string s].toArray, .slice (some ⟨b2, 0, none⟩) k.vis.length k.vis.length]) rfl rfl
        (fun w' hM => (onto_fn (l := k.vis) off s (hM.sub (Hs.cons (Pick.there (Pick.there (Pick.there Pick.here))) (Hs.skip (Hs.refl _)))) (by omega) (by omega)).mono fun v w2 h => ⟨(), trivial, h⟩) ?_
      rintro - -
      apply HB.fold
      refine HB.done (by (exact Keep.blk (b := bd) memD (by first | rfl | (show some (Value.slice (some ⟨b2, 0, none⟩) (splice k.vis off s.data.toList).length (splice k.vis off s.data.toList).length) = _; rw [hsl])) Keep.nil)) (by kernel_rfl) ?_
      refine hwKA ?_
      have e3 : dkC b1 b2 a' c' { k with pend := k.pend ++ [(off, s)] } = dkC b1 b2 a' c' { k with pend := k.pend ++ [(off, s)], vis := splice k.vis off s.data.toList } := by
        show [_, _, _, _, _] = [_, _, _, _, _]
        rw [hsl]
      rw [e3]
      refine HL.one (H1.callk (α := Unit) (V := fun _ => .tuple #[]) (I := fun _ => True) (H' := fun _ => A.blk bd (dkC b1 b2 a' c' (k.put off s)) 102 :: A.blk b2 (ub (splice k.vis off s.data.toList)) 5 :: A.blk b1 (ub k.dur) 5 :: A.grow 106 2 a' c' (k.pend ++ [(off, s)]).length (pendC (k.pend ++ [(off, s)])) :: H) (vs := [_]) rfl rfl
            (fun w' hM => (used_fn (k := { k with pend := k.pend ++ [(off, s)], vis := splice k.vis off s.data.toList }) (hM.sub (Hs.cons (Pick.there Pick.here) (Hs.refl _))) hk.left).mono fun v w2 h => ⟨(), trivial, h⟩) ?_)
      rintro - -
      refine hwKA ?_
      refine HX.ret1 rfl rfl fun w' hM => ⟨(a', c'), trivial, rfl, ?_⟩
      obtain ⟨p1, p2, p3⟩ := put_parts k off s
      show Mm w0 (A.blk bd (dkC b1 b2 a' c' (k.put off s)) 102 :: A.blk b1 (ub (k.put off s).dur) 5 :: A.blk b2 (ub (k.put off s).vis) 5 :: A.grow 106 2 a' c' (k.put off s).pend.length (pendC (k.put off s).pend) :: H) w'
      rw [p1, p2, p3]
      exact hM.sub (Hs.cons Pick.here (Hs.cons (Pick.there Pick.here) (Hs.refl _)))
    · rw [Dk.write_no hoff hin]
      refine hwKA ?_
      refine HL.one (H1.call0 rfl rfl (fun w' hM => dcheck_on (hM.blk memA) hoff) ?_)
      refine hwKA ?_
      refine HL.one (H1.call0 (vs := [_, _, zv (s.size : Int)]) rfl rfl (fun w' hM => inside_fn off s.size (hM.blk memA) hk (by omega) (by omega)) ?_)
      refine hwKA ?_
      exact HX.ret1 rfl rfl fun w' hM => ⟨(pa, pc), trivial, rfl, hM⟩
  · rw [Dk.write_off hoff]
    refine hwKA ?_
    refine HL.one (H1.call0 rfl rfl (fun w' hM => dcheck_off (hM.blk memA) hoff) ?_)
    refine hwKA ?_
    exact HX.ret1 rfl rfl fun w' hM => ⟨(pa, pc), trivial, rfl, hM⟩
theorem cut_fn {w0 w : World} {H : List Atom} {bd b1 b2 pc : Nat} {pa : Option Addr} {k : Dk} (n : Nat) (hM : Mm w0 (dkH bd b1 b2 pa pc k H) w) :
    Fn Tryz.prog 31 #[.pointer (some ⟨bd, 0, none⟩), zv (n : Int)] w fun v w' => v = zv (k.cut n).1 ∧ Mm w0 (dkH bd b1 b2 pa pc (k.cut n).2 H) w' := by
  refine enterK (l := [_, _]) hM rfl Tryz.ntmps31 rfl ?_
  have hn : ¬ (n : Int) < 0 := by omega
  cases hoff : k.off
  · rw [Dk.cut_on hoff]
    refine hwKA ?_
    refine HL.one (H1.call0 rfl rfl (fun w' hM => dcheck_on (hM.blk memA) hoff) ?_)
    refine hwKA ?_
    refine HL.build (cs := [.bool (decide ((n : Int) = 0)), zv (n : Int)]) rfl rfl rfl ?_
    refine hwKA ?_
    have e : decide ((n : Int) = 0) = decide (n = 0) := decide_eq_decide.2 (by omega)
    rw [e]
    refine HL.one (H1.stAggO (b := bd) (o := 0) (cs := dkC b1 b2 pa pc k) (cs' := dkC b1 b2 pa pc { k with off := decide (n = 0), left := n }) rfl rfl rfl (by intro v hv; rcases List.mem_cons.1 hv with rfl | hv; rfl; rcases List.mem_cons.1 hv with rfl | hv; rfl; cases hv) (by show 0 + 2 ≤ 5; decide) rfl rplA ?_)
    refine hwKA ?_
    exact HX.ret1 rfl rfl fun w' hM => ⟨rfl, hM⟩
  · rw [Dk.cut_off hoff]
    refine hwKA ?_
    refine HL.one (H1.call0 rfl rfl (fun w' hM => dcheck_off (hM.blk memA) hoff) ?_)
    refine hwKA ?_
    exact HX.ret1 rfl rfl fun w' hM => ⟨rfl, hM⟩
end Go.Sx

