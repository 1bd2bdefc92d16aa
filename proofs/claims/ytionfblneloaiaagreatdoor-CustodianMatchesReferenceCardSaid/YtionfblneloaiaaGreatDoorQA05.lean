/- Chapter 25: disks: their state, and the small functions. -/
import Derived.Test.YtionfblneloaiaaGreatDoorQA04
import Derived.Lib.FrozenHead
import Derived.Laws.Externs
namespace Go.Sx
open Go Go.Proofs Go.RowKit
theorem hwKA {G G2 : Prop} (x : G2) (hwq : Hold G2 → G := by
    intro hQq
    repeat' (first | refine HL.pa ?_ (POp.pnil1 rfl rfl) | refine HL.pa ?_ (POp.pnil0 rfl rfl) | refine HL.pa ?_ (POp.nilCheck rfl) | apply HL.fold | apply HA.fold | apply HL.nil | apply HX.n_then | apply HC.seq | apply HC.region | refine HL.pa ?_ | refine HL.ga rfl ?_ | refine HL.na rfl ?_ | refine HL.nu rfl rfl ?_ | apply HC.block | apply HC.skip | apply HC.exit | apply HC.ret | apply HX.e_block | refine HX.e_other rfl ?_ | apply HX.e_then | apply HX.e_again | apply HX.n_block | apply HX.r_then | apply HX.r_block | apply HX.r_again | refine HC.cond_yes rfl ?_ | refine HC.cond_no rfl ?_ | refine HL.one (H1.ldb rfl memA rfl rfl ?_) | refine HC.cond rfl (fun hc => ?_) (fun hc => ?_) | refine HC.cond_b rfl (fun hc => ?_) (fun hc => ?_))
    exact hQq.get) : G := hwq ⟨x⟩
structure Dk where
  off : Bool
  left : Nat
  dur : List UInt8
  vis : List UInt8
  pend : List (Nat × ByteArray)
def splice (l : List UInt8) (off : Nat) (s : List UInt8) : List UInt8 := l.take off ++ s ++ l.drop (off + s.length)
theorem splice_len {l : List UInt8} {off : Nat} {s : List UInt8} (h : off + s.length ≤ l.length) : (splice l off s).length = l.length := by
  unfold splice; rw [List.length_append, List.length_append, List.length_take, List.length_drop]; omega
def Dk.used (k : Dk) : Dk := if k.left = 0 then k else { k with left := k.left - 1, off := decide (k.left - 1 = 0) }
def Dk.put (k : Dk) (off : Nat) (s : ByteArray) : Dk := Dk.used { k with pend := k.pend ++ [(off, s)], vis := splice k.vis off s.data.toList }
def Dk.write (k : Dk) (off : Nat) (s : ByteArray) : Int × Dk := if k.off then (251, k) else if off + s.size ≤ k.dur.length then (0, k.put off s) else (250, k)
def Dk.sync (k : Dk) : Int × Dk := if k.off then (251, k) else (0, { k with dur := k.vis, pend := [] })
def Dk.cut (k : Dk) (n : Nat) : Int × Dk := if k.off then (251, k) else (0, { k with off := decide (n = 0), left := n })
theorem Dk.sync_on {k : Dk} (h : k.off = false) : k.sync = (0, { k with dur := k.vis, pend := [] }) := by unfold Dk.sync; rw [h]; rfl
theorem Dk.sync_off {k : Dk} (h : k.off = true) : k.sync = (251, k) := by unfold Dk.sync; rw [h]; rfl
theorem Dk.cut_on {k : Dk} {n : Nat} (h : k.off = false) : k.cut n = (0, { k with off := decide (n = 0), left := n }) := by unfold Dk.cut; rw [h]; rfl
theorem Dk.cut_off {k : Dk} {n : Nat} (h : k.off = true) : k.cut n = (251, k) := by unfold Dk.cut; rw [h]; rfl
theorem Dk.write_on {k : Dk} {off : Nat} {s : ByteArray} (h : k.off = false) (h1 : off + s.size ≤ k.dur.length) : k.write off s = (0, k.put off s) := by unfold Dk.write; rw [h, if_pos h1]; rfl
theorem Dk.write_no {k : Dk} {off : Nat} {s : ByteArray} (h : k.off = false) (h1 : ¬ off + s.size ≤ k.dur.length) : k.write off s = (250, k) := by unfold Dk.write; rw [h, if_neg h1]; rfl
theorem Dk.write_off {k : Dk} {off : Nat} {s : ByteArray} (h : k.off = true) : k.write off s = (251, k) := by unfold Dk.write; rw [h]; rfl
structure Dk.Ok (k : Dk) : Prop where
  len : k.vis.length = k.dur.length
  lo : 0 < k.dur.length
  hi : k.dur.length ≤ 4194304
  left : k.left ≤ 1000000
  pend : k.pend.length ≤ 10000
def pendC (l : List (Nat × ByteArray)) : List Value := l.flatMap fun x => [zv (x.1 : Int), .string x.2]
theorem pendC_snoc (l : List (Nat × ByteArray)) (x : Nat × ByteArray) : pendC l ++ [zv (x.1 : Int), .string x.2] = pendC (l ++ [x]) := by simp [pendC]
/-- The cells of a disk. -/
def dkC (b1 b2 : Nat) (pa : Option Addr) (pc : Nat) (k : Dk) : List Value :=
  [.bool k.off, zv (k.left : Int), .slice (some ⟨b1, 0, none⟩) k.dur.length k.dur.length, .slice (some ⟨b2, 0, none⟩) k.vis.length k.vis.length, .slice pa k.pend.length pc]
abbrev dkH (bd b1 b2 : Nat) (pa : Option Addr) (pc : Nat) (k : Dk) (H : List Atom) : List Atom :=
  A.blk bd (dkC b1 b2 pa pc k) 102 :: A.blk b1 (ub k.dur) 5 :: A.blk b2 (ub k.vis) 5 :: A.grow 106 2 pa pc k.pend.length (pendC k.pend) :: H
theorem ub_zero (n : Nat) : List.replicate n (Value.int .u8 0) = ub (List.replicate n 0) := by
  unfold ub; rw [List.map_replicate]; rfl
attribute [local irreducible] WC WL WX POp Then Again Fn NX W1 WA WO QL RP RA Yld LoopAt HC HL HX HN H1 HA HO HQ HB HP A.blk A.grow A.rd A.obj A.mp AgainH CutH
theorem dsize_fn {b1 b2 bd pc : Nat} {pa : Option Addr} {k : Dk} {w : World} (hb : Blk w bd (dkC b1 b2 pa pc k) 102) : Fn Tryz.prog 104 #[.pointer (some ⟨bd, 0, none⟩)] w fun v w' => v = zv (k.dur.length : Int) ∧ w = w' := by
  refine enter (l := [_]) rfl Tryz.ntmps104 rfl ?_
  repeat' (first | apply WL.fold | apply WA.fold | apply WL.nil | apply WX.n_then | apply WC.seq | apply WC.region | refine WL.pa ?_ | refine WL.ga rfl ?_ | refine WL.na rfl ?_ | refine WL.nu rfl rfl ?_ | apply WC.block | apply WC.skip | apply WC.exit | apply WC.ret | apply WX.e_block | refine WX.e_other rfl ?_ | apply WX.e_then | apply WX.e_again | apply WX.n_block | apply WX.r_then | apply WX.r_block | apply WX.r_again | refine WC.cond_yes rfl ?_ | refine WC.cond_no rfl ?_ | refine WC.cond rfl (fun hc => ?_) (fun hc => ?_) | refine WC.cond_b rfl (fun hc => ?_) (fun hc => ?_))
  refine WL.pa ?_ (POp.pnil0 rfl rfl)
  repeat' (first | apply WL.fold | apply WA.fold | apply WL.nil | apply WX.n_then | apply WC.seq | apply WC.region | refine WL.pa ?_ | refine WL.ga rfl ?_ | refine WL.na rfl ?_ | refine WL.nu rfl rfl ?_ | apply WC.block | apply WC.skip | apply WC.exit | apply WC.ret | apply WX.e_block | refine WX.e_other rfl ?_ | apply WX.e_then | apply WX.e_again | apply WX.n_block | apply WX.r_then | apply WX.r_block | apply WX.r_again | refine WC.cond_yes rfl ?_ | refine WC.cond_no rfl ?_ | refine WC.cond rfl (fun hc => ?_) (fun hc => ?_) | refine WC.cond_b rfl (fun hc => ?_) (fun hc => ?_))
  refine WL.pa ?_ (POp.nilCheck rfl)
  repeat' (first | apply WL.fold | apply WA.fold | apply WL.nil | apply WX.n_then | apply WC.seq | apply WC.region | refine WL.pa ?_ | refine WL.ga rfl ?_ | refine WL.na rfl ?_ | refine WL.nu rfl rfl ?_ | apply WC.block | apply WC.skip | apply WC.exit | apply WC.ret | apply WX.e_block | refine WX.e_other rfl ?_ | apply WX.e_then | apply WX.e_again | apply WX.n_block | apply WX.r_then | apply WX.r_block | apply WX.r_again | refine WC.cond_yes rfl ?_ | refine WC.cond_no rfl ?_ | refine WC.cond rfl (fun hc => ?_) (fun hc => ?_) | refine WC.cond_b rfl (fun hc => ?_) (fun hc => ?_))
  refine WL.load rfl (hb.cell (i := 2) rfl) rfl ?_
  repeat' (first | apply WL.fold | apply WA.fold | apply WL.nil | apply WX.n_then | apply WC.seq | apply WC.region | refine WL.pa ?_ | refine WL.ga rfl ?_ | refine WL.na rfl ?_ | refine WL.nu rfl rfl ?_ | apply WC.block | apply WC.skip | apply WC.exit | apply WC.ret | apply WX.e_block | refine WX.e_other rfl ?_ | apply WX.e_then | apply WX.e_again | apply WX.n_block | apply WX.r_then | apply WX.r_block | apply WX.r_again | refine WC.cond_yes rfl ?_ | refine WC.cond_no rfl ?_ | refine WC.cond rfl (fun hc => ?_) (fun hc => ?_) | refine WC.cond_b rfl (fun hc => ?_) (fun hc => ?_))
  exact WX.ret1 rfl rfl ⟨rfl, rfl⟩
theorem dcheck_fn {b1 b2 bd pc : Nat} {pa : Option Addr} {k : Dk} {w : World} (hb : Blk w bd (dkC b1 b2 pa pc k) 102) : Fn Tryz.prog 55 #[.pointer (some ⟨bd, 0, none⟩)] w fun v w' => v = zv (if k.off then 251 else 0) ∧ w = w' := by
  have hc := hb.cell (i := 0) (v := .bool k.off) rfl
  refine enter (l := [_]) rfl Tryz.ntmps55 rfl ?_
  repeat' (first | apply WL.fold | apply WA.fold | apply WL.nil | apply WX.n_then | apply WC.seq | apply WC.region | refine WL.pa ?_ | refine WL.ga rfl ?_ | refine WL.na rfl ?_ | refine WL.nu rfl rfl ?_ | apply WC.block | apply WC.skip | apply WC.exit | apply WC.ret | apply WX.e_block | refine WX.e_other rfl ?_ | apply WX.e_then | apply WX.e_again | apply WX.n_block | apply WX.r_then | apply WX.r_block | apply WX.r_again | refine WC.cond_yes rfl ?_ | refine WC.cond_no rfl ?_ | refine WC.cond rfl (fun hc => ?_) (fun hc => ?_) | refine WC.cond_b rfl (fun hc => ?_) (fun hc => ?_))
  refine WL.pa ?_ (POp.pnil0 rfl rfl)
  repeat' (first | apply WL.fold | apply WA.fold | apply WL.nil | apply WX.n_then | apply WC.seq | apply WC.region | refine WL.pa ?_ | refine WL.ga rfl ?_ | refine WL.na rfl ?_ | refine WL.nu rfl rfl ?_ | apply WC.block | apply WC.skip | apply WC.exit | apply WC.ret | apply WX.e_block | refine WX.e_other rfl ?_ | apply WX.e_then | apply WX.e_again | apply WX.n_block | apply WX.r_then | apply WX.r_block | apply WX.r_again | refine WC.cond_yes rfl ?_ | refine WC.cond_no rfl ?_ | refine WC.cond rfl (fun hc => ?_) (fun hc => ?_) | refine WC.cond_b rfl (fun hc => ?_) (fun hc => ?_))
  refine WL.pa ?_ (POp.nilCheck rfl)
  repeat' (first | apply WL.fold | apply WA.fold | apply WL.nil | apply WX.n_then | apply WC.seq | apply WC.region | refine WL.pa ?_ | refine WL.ga rfl ?_ | refine WL.na rfl ?_ | refine WL.nu rfl rfl ?_ | apply WC.block | apply WC.skip | apply WC.exit | apply WC.ret | apply WX.e_block | refine WX.e_other rfl ?_ | apply WX.e_then | apply WX.e_again | apply WX.n_block | apply WX.r_then | apply WX.r_block | apply WX.r_again | refine WC.cond_yes rfl ?_ | refine WC.cond_no rfl ?_ | refine WC.cond rfl (fun hc => ?_) (fun hc => ?_) | refine WC.cond_b rfl (fun hc => ?_) (fun hc => ?_))
  refine WL.load rfl hc rfl ?_
  cases k.off
  · repeat' (first | apply WL.fold | apply WA.fold | apply WL.nil | apply WX.n_then | apply WC.seq | apply WC.region | refine WL.pa ?_ | refine WL.ga rfl ?_ | refine WL.na rfl ?_ | refine WL.nu rfl rfl ?_ | apply WC.block | apply WC.skip | apply WC.exit | apply WC.ret | apply WX.e_block | refine WX.e_other rfl ?_ | apply WX.e_then | apply WX.e_again | apply WX.n_block | apply WX.r_then | apply WX.r_block | apply WX.r_again | refine WC.cond_yes rfl ?_ | refine WC.cond_no rfl ?_ | refine WC.cond rfl (fun hc => ?_) (fun hc => ?_) | refine WC.cond_b rfl (fun hc => ?_) (fun hc => ?_))
    exact WX.ret1 rfl rfl ⟨rfl, rfl⟩
  · repeat' (first | apply WL.fold | apply WA.fold | apply WL.nil | apply WX.n_then | apply WC.seq | apply WC.region | refine WL.pa ?_ | refine WL.ga rfl ?_ | refine WL.na rfl ?_ | refine WL.nu rfl rfl ?_ | apply WC.block | apply WC.skip | apply WC.exit | apply WC.ret | apply WX.e_block | refine WX.e_other rfl ?_ | apply WX.e_then | apply WX.e_again | apply WX.n_block | apply WX.r_then | apply WX.r_block | apply WX.r_again | refine WC.cond_yes rfl ?_ | refine WC.cond_no rfl ?_ | refine WC.cond rfl (fun hc => ?_) (fun hc => ?_) | refine WC.cond_b rfl (fun hc => ?_) (fun hc => ?_))
    exact WX.ret1 rfl rfl ⟨rfl, rfl⟩
theorem dcheck_on {b1 b2 bd pc : Nat} {pa : Option Addr} {k : Dk} {w : World} (hb : Blk w bd (dkC b1 b2 pa pc k) 102) (ho : k.off = false) : Fn Tryz.prog 55 #[.pointer (some ⟨bd, 0, none⟩)] w fun v w' => v = zv 0 ∧ w = w' := by
  have h := dcheck_fn hb
  rw [ho] at h
  exact h
theorem dcheck_off {b1 b2 bd pc : Nat} {pa : Option Addr} {k : Dk} {w : World} (hb : Blk w bd (dkC b1 b2 pa pc k) 102) (ho : k.off = true) : Fn Tryz.prog 55 #[.pointer (some ⟨bd, 0, none⟩)] w fun v w' => v = zv 251 ∧ w = w' := by
  have h := dcheck_fn hb
  rw [ho] at h
  exact h
theorem inside_fn {b1 b2 bd pc : Nat} {pa : Option Addr} {k : Dk} {w : World} (off n : Nat) (hb : Blk w bd (dkC b1 b2 pa pc k) 102) (hk : k.Ok) (ho : off ≤ 10000000) (hn : n ≤ 10000000) :
    Fn Tryz.prog 56 #[.pointer (some ⟨bd, 0, none⟩), zv (off : Int), zv (n : Int)] w fun v w' => v = .bool (decide (off + n ≤ k.dur.length)) ∧ w = w' := by
  have hc := hb.cell (i := 2) (v := .slice (some ⟨b1, 0, none⟩) k.dur.length k.dur.length) rfl
  have h2 := hk.hi
  refine enter (l := [_, _, _]) rfl Tryz.ntmps56 rfl ?_
  have ho0 : (0 : Int) ≤ (off : Int) := by omega
  have hn0 : (0 : Int) ≤ (n : Int) := by omega
  by_cases hle : (off : Int) ≤ (k.dur.length : Int)
  · repeat' (first | apply WL.fold | apply WA.fold | apply WL.nil | apply WX.n_then | apply WC.seq | apply WC.region | refine WL.pa ?_ | refine WL.ga rfl ?_ | refine WL.na rfl ?_ | refine WL.nu rfl rfl ?_ | apply WC.block | apply WC.skip | apply WC.exit | apply WC.ret | apply WX.e_block | refine WX.e_other rfl ?_ | apply WX.e_then | apply WX.e_again | apply WX.n_block | apply WX.r_then | apply WX.r_block | apply WX.r_again | refine WC.cond_yes rfl ?_ | refine WC.cond_no rfl ?_ | refine WC.cond rfl (fun hc => ?_) (fun hc => ?_) | refine WC.cond_b rfl (fun hc => ?_) (fun hc => ?_))
    refine WL.pa ?_ (POp.nilCheck rfl)
    repeat' (first | apply WL.fold | apply WA.fold | apply WL.nil | apply WX.n_then | apply WC.seq | apply WC.region | refine WL.pa ?_ | refine WL.ga rfl ?_ | refine WL.na rfl ?_ | refine WL.nu rfl rfl ?_ | apply WC.block | apply WC.skip | apply WC.exit | apply WC.ret | apply WX.e_block | refine WX.e_other rfl ?_ | apply WX.e_then | apply WX.e_again | apply WX.n_block | apply WX.r_then | apply WX.r_block | apply WX.r_again | refine WC.cond_yes rfl ?_ | refine WC.cond_no rfl ?_ | refine WC.cond rfl (fun hc => ?_) (fun hc => ?_) | refine WC.cond_b rfl (fun hc => ?_) (fun hc => ?_))
    refine WL.load rfl hc rfl ?_
    repeat' (first | apply WL.fold | apply WA.fold | apply WL.nil | apply WX.n_then | apply WC.seq | apply WC.region | refine WL.pa ?_ | refine WL.ga rfl ?_ | refine WL.na rfl ?_ | refine WL.nu rfl rfl ?_ | apply WC.block | apply WC.skip | apply WC.exit | apply WC.ret | apply WX.e_block | refine WX.e_other rfl ?_ | apply WX.e_then | apply WX.e_again | apply WX.n_block | apply WX.r_then | apply WX.r_block | apply WX.r_again | refine WC.cond_yes rfl ?_ | refine WC.cond_no rfl ?_ | refine WC.cond rfl (fun hc => ?_) (fun hc => ?_) | refine WC.cond_b rfl (fun hc => ?_) (fun hc => ?_))
    refine WL.pa ?_ (POp.nilCheck rfl)
    repeat' (first | apply WL.fold | apply WA.fold | apply WL.nil | apply WX.n_then | apply WC.seq | apply WC.region | refine WL.pa ?_ | refine WL.ga rfl ?_ | refine WL.na rfl ?_ | refine WL.nu rfl rfl ?_ | apply WC.block | apply WC.skip | apply WC.exit | apply WC.ret | apply WX.e_block | refine WX.e_other rfl ?_ | apply WX.e_then | apply WX.e_again | apply WX.n_block | apply WX.r_then | apply WX.r_block | apply WX.r_again | refine WC.cond_yes rfl ?_ | refine WC.cond_no rfl ?_ | refine WC.cond rfl (fun hc => ?_) (fun hc => ?_) | refine WC.cond_b rfl (fun hc => ?_) (fun hc => ?_))
    refine WL.load rfl hc rfl ?_
    repeat' (first | apply WL.fold | apply WA.fold | apply WL.nil | apply WX.n_then | apply WC.seq | apply WC.region | refine WL.pa ?_ | refine WL.ga rfl ?_ | refine WL.na rfl ?_ | refine WL.nu rfl rfl ?_ | apply WC.block | apply WC.skip | apply WC.exit | apply WC.ret | apply WX.e_block | refine WX.e_other rfl ?_ | apply WX.e_then | apply WX.e_again | apply WX.n_block | apply WX.r_then | apply WX.r_block | apply WX.r_again | refine WC.cond_yes rfl ?_ | refine WC.cond_no rfl ?_ | refine WC.cond rfl (fun hc => ?_) (fun hc => ?_) | refine WC.cond_b rfl (fun hc => ?_) (fun hc => ?_))
    refine WX.ret1 rfl rfl ⟨?_, rfl⟩
    congr 1
    exact decide_eq_decide.2 (by omega)
  · repeat' (first | apply WL.fold | apply WA.fold | apply WL.nil | apply WX.n_then | apply WC.seq | apply WC.region | refine WL.pa ?_ | refine WL.ga rfl ?_ | refine WL.na rfl ?_ | refine WL.nu rfl rfl ?_ | apply WC.block | apply WC.skip | apply WC.exit | apply WC.ret | apply WX.e_block | refine WX.e_other rfl ?_ | apply WX.e_then | apply WX.e_again | apply WX.n_block | apply WX.r_then | apply WX.r_block | apply WX.r_again | refine WC.cond_yes rfl ?_ | refine WC.cond_no rfl ?_ | refine WC.cond rfl (fun hc => ?_) (fun hc => ?_) | refine WC.cond_b rfl (fun hc => ?_) (fun hc => ?_))
    refine WL.pa ?_ (POp.nilCheck rfl)
    repeat' (first | apply WL.fold | apply WA.fold | apply WL.nil | apply WX.n_then | apply WC.seq | apply WC.region | refine WL.pa ?_ | refine WL.ga rfl ?_ | refine WL.na rfl ?_ | refine WL.nu rfl rfl ?_ | apply WC.block | apply WC.skip | apply WC.exit | apply WC.ret | apply WX.e_block | refine WX.e_other rfl ?_ | apply WX.e_then | apply WX.e_again | apply WX.n_block | apply WX.r_then | apply WX.r_block | apply WX.r_again | refine WC.cond_yes rfl ?_ | refine WC.cond_no rfl ?_ | refine WC.cond rfl (fun hc => ?_) (fun hc => ?_) | refine WC.cond_b rfl (fun hc => ?_) (fun hc => ?_))
    refine WL.load rfl hc rfl ?_
    repeat' (first | apply WL.fold | apply WA.fold | apply WL.nil | apply WX.n_then | apply WC.seq | apply WC.region | refine WL.pa ?_ | refine WL.ga rfl ?_ | refine WL.na rfl ?_ | refine WL.nu rfl rfl ?_ | apply WC.block | apply WC.skip | apply WC.exit | apply WC.ret | apply WX.e_block | refine WX.e_other rfl ?_ | apply WX.e_then | apply WX.e_again | apply WX.n_block | apply WX.r_then | apply WX.r_block | apply WX.r_again | refine WC.cond_yes rfl ?_ | refine WC.cond_no rfl ?_ | refine WC.cond rfl (fun hc => ?_) (fun hc => ?_) | refine WC.cond_b rfl (fun hc => ?_) (fun hc => ?_))
    refine WX.ret1 rfl rfl ⟨?_, rfl⟩
    congr 1
    have : ¬ off + n ≤ k.dur.length := by omega
    rw [decide_eq_false this]
end Go.Sx
/- Chapter 25: New, Write, Sync, Read, Cut: the walks. -/
namespace Go.Sx
open Go Go.Proofs Go.RowKit
attribute [local irreducible] WC WL WX POp Then Again Fn NX W1 WA WO QL RP RA Yld LoopAt HC HL HX HN H1 HA HO HQ HB HP A.blk A.grow A.rd A.obj A.mp AgainH CutH
theorem onto_fn {w0 w : World} {H : List Atom} {b2 : Nat} {l : List UInt8} (off : Nat) (s : ByteArray) (hM : Mm w0 (A.blk b2 (ub l) 5 :: H) w) (h : off + s.size ≤ l.length) (hl : l.length ≤ 4194304) :
    Fn Tryz.prog 57 #[.agg [zv (off : Int), .string s].toArray, .slice (some ⟨b2, 0, none⟩) l.length l.length] w fun v w' => v = .tuple #[] ∧ Mm w0 (A.blk b2 (ub (splice l off s.data.toList)) 5 :: H) w' := by
  have hs : s.data.toList.length = s.size := by rw [Array.length_toList]; rfl
  refine enterK (l := [_, _]) hM rfl Tryz.ntmps57 rfl ?_
  refine hwKA ?_
  refine HL.one (H1.boxAgg (cs := [zv (off : Int), .string s]) rfl rfl (fun bx => ?_))
  refine hwKA ?_
  have hul : (ub l).length = l.length := ub_len l
  have hsp : splice l off s.data.toList = l.take off ++ s.data.toList ++ l.drop (off + s.size) := by unfold splice; rw [hs]
  by_cases ho : off < l.length
  · refine HC.anyC ([(⟨bx, 0, none⟩, zv (off : Int)), (⟨bx, 1, none⟩, .string s)]) rfl ?_
    refine HB.pa 0 rfl ?_
    refine HB.pa 1 rfl ?_
    refine HB.ld 2 rfl rfl memD ?_
    refine HB.pa 3 rfl ?_ (POp.cut_l rfl rfl (by omega) (by omega) (by omega))
    refine HB.pa 4 rfl ?_
    refine HB.ld 5 rfl rfl memD ?_
    refine HB.all (by repeat (first | exact Keep.nil | refine Keep.blk (by (repeat (first | exact List.Mem.head _ | apply List.Mem.tail)); done) rfl ?_ | refine Keep.grow (by (repeat (first | exact List.Mem.head _ | apply List.Mem.tail)); done) (by assumption) ?_ | refine Keep.base (by assumption) ?_)) [6] (by kernel_rfl) rfl ⟨⟨_, rfl, ?_⟩, trivial⟩
    refine HP.one ?_
    refine H1.copyS (b := b2) (o := 0 + (off : Int).toNat * 1) (cur := ub l) (cur' := ub (splice l off s.data.toList)) rfl rfl (by omega) (by omega) ?_ rplA rfl ?_
    · rw [hsp]; unfold ub; simp [List.map_take, List.map_drop]
    apply HB.fold
    refine HB.done (by repeat (first | exact Keep.nil | refine Keep.blk (by (repeat (first | exact List.Mem.head _ | apply List.Mem.tail)); done) rfl ?_ | refine Keep.grow (by (repeat (first | exact List.Mem.head _ | apply List.Mem.tail)); done) (by assumption) ?_ | refine Keep.base (by assumption) ?_)) (by kernel_rfl) ?_
    refine hwKA ?_
    exact HX.end0 rfl fun w' hM => ⟨rfl, hM.tail⟩
  · obtain rfl : off = l.length := by omega
    have hs0 : s.size = 0 := by omega
    have hnil : s.data.toList = [] := List.eq_nil_of_length_eq_zero (by omega)
    refine HC.anyC ([(⟨bx, 0, none⟩, zv (l.length : Int)), (⟨bx, 1, none⟩, .string s)]) rfl ?_
    refine HB.pa 0 rfl ?_
    refine HB.pa 1 rfl ?_
    refine HB.ld 2 rfl rfl memD ?_
    refine HB.pa 3 rfl ?_ (POp.cut_le rfl rfl)
    refine HB.pa 4 rfl ?_
    refine HB.ld 5 rfl rfl memD ?_
    refine HB.all (by repeat (first | exact Keep.nil | refine Keep.blk (by (repeat (first | exact List.Mem.head _ | apply List.Mem.tail)); done) rfl ?_ | refine Keep.grow (by (repeat (first | exact List.Mem.head _ | apply List.Mem.tail)); done) (by assumption) ?_ | refine Keep.base (by assumption) ?_)) [6] (by kernel_rfl) rfl ⟨⟨_, rfl, ?_⟩, trivial⟩
    refine HP.one ?_
    refine H1.copyS (b := b2) (o := 0) (cur := ub l) (cur' := ub (splice l l.length s.data.toList)) rfl rfl (by omega) (by omega) ?_ rplA rfl ?_
    · rw [hsp, hnil, hs0]; simp [ub]
    apply HB.fold
    refine HB.done (by repeat (first | exact Keep.nil | refine Keep.blk (by (repeat (first | exact List.Mem.head _ | apply List.Mem.tail)); done) rfl ?_ | refine Keep.grow (by (repeat (first | exact List.Mem.head _ | apply List.Mem.tail)); done) (by assumption) ?_ | refine Keep.base (by assumption) ?_)) (by kernel_rfl) ?_
    refine hwKA ?_
    exact HX.end0 rfl fun w' hM => ⟨rfl, hM.tail⟩
theorem used_fn {w0 w : World} {H : List Atom} {bd b1 b2 pc : Nat} {pa : Option Addr} {k : Dk} (hM : Mm w0 (A.blk bd (dkC b1 b2 pa pc k) 102 :: H) w) (hk : k.left ≤ 1000000) :
    Fn Tryz.prog 58 #[.pointer (some ⟨bd, 0, none⟩)] w fun v w' => v = .tuple #[] ∧ Mm w0 (A.blk bd (dkC b1 b2 pa pc k.used) 102 :: H) w' := by
  refine enterK (l := [_]) hM rfl Tryz.ntmps58 rfl ?_
  by_cases h0 : k.left = 0
  · have h0' : (k.left : Int) = 0 := by omega
    have e : k.used = k := by unfold Dk.used; rw [if_pos h0]
    rw [e]
    refine hwKA ?_
    exact HX.ret0 rfl fun w' hM => ⟨rfl, hM⟩
  · have h0' : ¬ (k.left : Int) = 0 := by omega
    have e : k.used = { k with left := k.left - 1, off := decide (k.left - 1 = 0) } := by unfold Dk.used; rw [if_neg h0]
    rw [e]
    refine hwKA ?_
    refine HL.one (H1.st rfl rfl (by intro _ h; cases h) (by intro _ h; cases h) rplA (by show 1 < 5; decide) ?_)
    refine hwKA ?_
    refine HL.one (H1.st rfl rfl (by intro _ h; cases h) (by intro _ h; cases h) rplA (by show 0 < 5; decide) ?_)
    refine hwKA ?_
    refine HX.end0 rfl fun w' hM => ⟨rfl, ?_⟩
    have e2 : ((dkC b1 b2 pa pc k).set 1 (.int .i64 ((k.left : Int) - 1))).set 0 (.bool (decide ((k.left : Int) - 1 = 0))) = dkC b1 b2 pa pc { k with left := k.left - 1, off := decide (k.left - 1 = 0) } := by
      show [_, _, _, _, _] = [_, _, _, _, _]
      congr 1
      · congr 1; exact decide_eq_decide.2 (by omega)
      · congr 2
        show (k.left : Int) - 1 = ((k.left - 1 : Nat) : Int)
        omega
    rw [← e2]
    exact hM
theorem settle_fn {w0 w : World} {H : List Atom} {bd b1 b2 pc : Nat} {pa : Option Addr} {k : Dk} (hM : Mm w0 (dkH bd b1 b2 pa pc k H) w) (hl : k.vis.length = k.dur.length) :
    Fn Tryz.prog 77 #[.pointer (some ⟨bd, 0, none⟩), .slice (some ⟨b2, 0, none⟩) k.vis.length k.vis.length, .slice (some ⟨b1, 0, none⟩) k.dur.length k.dur.length] w fun v w' => v = .tuple #[] ∧
      Mm w0 (dkH bd b1 b2 pa pc { k with dur := k.vis, pend := [] } H) w' := by
  have hu1 := ub_len k.dur
  have hu2 := ub_len k.vis
  refine enterK (l := [_, _, _]) hM rfl Tryz.ntmps77 rfl ?_
  refine hwKA ?_
  refine HL.one (H1.copyB (b := b1) (cur := ub k.dur) (cs := ub k.vis) (cur' := ub k.vis) rfl rfl (by omega) (fun w' hM j v hv => ?_) (by
    intro v hv
    obtain ⟨x, -, rfl⟩ := List.mem_map.1 hv
    rfl) (by omega) ?_ rplA rfl ?_)
  · rw [add_lit, Nat.zero_add]
    exact (hM.blk (b := b2) (cs := ub k.vis) memA).cell hv
  · rw [List.take_zero, List.nil_append, Nat.zero_add, hu2, List.drop_of_length_le (by omega), List.append_nil]
  refine hwKA ?_
  refine HL.one (H1.clearG rfl (by intro v hv; rcases List.mem_cons.1 hv with rfl | hv; rfl; rcases List.mem_cons.1 hv with rfl | hv; rfl; cases hv) (by decide) rfl rplA rfl ?_)
  refine hwKA ?_
  refine HL.growCut (e := 106) (sz := 2) (a := pa) (c := pc) (n := k.pend.length) rplA ?_
  refine HL.pa ?_ (POp.pre_any rfl rfl (by decide) (by omega))
  refine hwKA ?_
  refine HL.one (H1.st rfl rfl (by intro _ h; cases h) (by intro _ h; cases h) rplA (by show 4 < 5; decide) ?_)
  refine hwKA ?_
  have e : (dkC b1 b2 pa pc k).set (0 + 4) (Value.slice pa (Int.toNat 0) pc) = dkC b1 b2 pa pc { k with dur := k.vis, pend := [] } := by
    show [_, _, _, _, _] = [_, _, _, _, _]
    rw [hl]; rfl
  rw [e]
  exact HX.end0 rfl fun w' hM => ⟨rfl, hM⟩
theorem sync_fn {w0 w : World} {H : List Atom} {bd b1 b2 pc : Nat} {pa : Option Addr} {k : Dk} (hM : Mm w0 (dkH bd b1 b2 pa pc k H) w) (hk : k.Ok) :
    Fn Tryz.prog 108 #[.pointer (some ⟨bd, 0, none⟩)] w fun v w' => v = zv k.sync.1 ∧ Mm w0 (dkH bd b1 b2 pa pc k.sync.2 H) w' := by
  refine enterK (l := [_]) hM rfl Tryz.ntmps108 rfl ?_
  cases ho : k.off
  · rw [Dk.sync_on ho]
    refine hwKA ?_
    refine HL.one (H1.call0 rfl rfl (fun w' hM => dcheck_on (hM.blk memA) ho) ?_)
    refine hwKA ?_
    refine HC.anyC ([(⟨bd, 3, none⟩, .slice (some ⟨b2, 0, none⟩) k.vis.length k.vis.length), (⟨bd, 2, none⟩, .slice (some ⟨b1, 0, none⟩) k.dur.length k.dur.length)]) rfl ?_
    refine HB.pa 0 rfl ?_
    refine HB.pa 1 rfl ?_
    refine HB.pa 2 rfl ?_ (POp.nilCheck rfl)
    refine HB.pa 3 rfl ?_
    refine HB.ld 4 rfl rfl memD ?_
    refine HB.pa 5 rfl ?_
    refine HB.pa 6 rfl ?_ (POp.nilCheck rfl)
    refine HB.pa 7 rfl ?_
    refine HB.ld 8 rfl rfl memD ?_
    refine HB.all (by (exact Keep.blk (b := bd) memD rfl (Keep.blk (b := bd) memD (by first | rfl | (show some (Value.slice (some ⟨b1, 0, none⟩) k.vis.length k.vis.length) = _; rw [hk.len])) Keep.nil))) [9] (by kernel_rfl) rfl ⟨⟨_, rfl, ?_⟩, trivial⟩
    refine HP.one ?_
    refine H1.callk (α := Unit) (V := fun _ => .tuple #[]) (I := fun _ => True) (H' := fun _ => dkH bd b1 b2 pa pc { k with dur := k.vis, pend := [] } H) (vs := [_, _, _]) rfl rfl (fun w' hM => (settle_fn hM hk.len).mono fun v w2 h => ⟨(), trivial, h⟩) ?_
    rintro - -
    apply HB.fold
    refine HB.done (by (exact Keep.blk (b := bd) memD rfl (Keep.blk (b := bd) memD (by first | rfl | (show some (Value.slice (some ⟨b1, 0, none⟩) k.vis.length k.vis.length) = _; rw [hk.len])) Keep.nil))) (by kernel_rfl) ?_
    refine hwKA ?_
    exact HX.ret1 rfl rfl fun w' hM => ⟨rfl, hM⟩
  · rw [Dk.sync_off ho]
    refine hwKA ?_
    refine HL.one (H1.call0 rfl rfl (fun w' hM => dcheck_off (hM.blk memA) ho) ?_)
    refine hwKA ?_
    exact HX.ret1 rfl rfl fun w' hM => ⟨rfl, hM⟩
theorem blk_ext {w w' : World} {b : Nat} {cs : List Value} {e : TypeId} (h : Blk w b cs e) (k : Ext w w') : Blk w' b cs e := (k.block b (Array.getElem?_eq_some_iff.1 h).1).trans h
theorem read_fn {w : World} {bd b1 b2 pc : Nat} {pa : Option Addr} {k : Dk} (hb : Blk w bd (dkC b1 b2 pa pc k) 102) (hv : Blk w b2 (ub k.vis) 5) (hk : k.Ok) :
    Fn Tryz.prog 27 #[.pointer (some ⟨bd, 0, none⟩), zv 0, zv (k.dur.length : Int)] w fun v w' => v = .tuple #[.string (if k.off then mkBA [] else mkBA k.vis), zv (if k.off then 251 else 0)] ∧ Ext w w' := by
  have hlo := hk.lo
  have hhi := hk.hi
  have hlen := hk.len
  refine enterH (l := [_, _, _]) rfl Tryz.ntmps27 rfl ?_
  cases ho : k.off
  · refine hwKA ?_
    refine HL.one (H1.call0 rfl rfl (fun w' hM => dcheck_on (blk_ext hb hM.ext) ho) ?_)
    refine hwKA ?_
    refine HL.one (H1.call0 rfl rfl (fun w' hM => inside_fn 0 k.dur.length (blk_ext hb hM.ext) hk (by decide) (by omega)) ?_)
    have hin : 0 + k.dur.length ≤ k.dur.length := by omega
    refine hwKA ?_
    refine HL.one (H1.ld0 rfl (hb.cell (i := 3) rfl) rfl ?_)
    refine hwKA ?_
    refine HL.pa ?_ (POp.cut_l rfl rfl (by decide) (by omega) (by omega))
    rw [← hlen]
    refine hwKA ?_
    refine HL.one (H1.bstrC (ys := k.vis) rfl (by omega) (fun w' hM => ?_) rfl ?_)
    · refine ⟨_, _, by rw [ub_len]; rfl, by rw [ub_len]; omega, .inr ⟨b2, _, rfl, Nat.lt_of_lt_of_le (Array.getElem?_eq_some_iff.1 hv).1 hM.ext.size, fun i u hu => ?_⟩⟩
      have h2 := cell_ext hM.ext (hv.cell hu)
      simpa using h2
    refine hwKA ?_
    exact HX.ret2 rfl rfl rfl fun w' hM => ⟨rfl, hM.ext⟩
  · refine hwKA ?_
    refine HL.one (H1.call0 rfl rfl (fun w' hM => dcheck_off (blk_ext hb hM.ext) ho) ?_)
    refine hwKA ?_
    exact HX.ret2 rfl rfl rfl fun w' hM => ⟨rfl, hM.ext⟩
end Go.Sx
/- Chapter 25: New, Write, Cut, Pending: the walks. -/
namespace Go.Sx
open Go Go.Proofs Go.RowKit
def newK (n : Nat) : Dk := ⟨false, 0, List.replicate n 0, List.replicate n 0, []⟩
theorem newK_C (b1 b2 n : Nat) : dkC b1 b2 none 0 (newK n) = [.bool false, zv 0, .slice (some ⟨b1, 0, none⟩) n n, .slice (some ⟨b2, 0, none⟩) n n, .slice none 0 0] := by
  unfold dkC newK
  simp only [List.length_replicate]; rfl
theorem used_parts (k : Dk) : k.used.dur = k.dur ∧ k.used.vis = k.vis ∧ k.used.pend = k.pend := by
  unfold Dk.used
  by_cases h : k.left = 0
  · rw [if_pos h]; exact ⟨rfl, rfl, rfl⟩
  · rw [if_neg h]; exact ⟨rfl, rfl, rfl⟩
theorem put_parts (k : Dk) (off : Nat) (s : ByteArray) : (k.put off s).dur = k.dur ∧ (k.put off s).vis = splice k.vis off s.data.toList ∧ (k.put off s).pend = k.pend ++ [(off, s)] := used_parts _
attribute [local irreducible] WC WL WX POp Then Again Fn NX W1 WA WO QL RP RA Yld LoopAt HC HL HX HN H1 HA HO HQ HB HP A.blk A.grow A.rd A.obj A.mp AgainH CutH
theorem new_fn (n : Nat) (h1 : 1 ≤ n) (h2 : n ≤ 4194304) (w : World) : Fn Tryz.prog 23 #[zv (n : Int)] w fun v w' => ∃ z : Nat × Nat × Nat, True ∧ v = .tuple #[.pointer (some ⟨z.1, 0, none⟩), zv 0] ∧ Mm w (dkH z.1 z.2.1 z.2.2 none 0 (newK n) []) w' := by
  refine enterH (l := [_]) rfl Tryz.ntmps23 rfl ?_
  have h1' : ¬ (n : Int) < 1 := by omega
  have h2' : ¬ (4194304 : Int) < (n : Int) := by omega
  refine hwKA ?_
  refine HC.cut (α := Nat × Nat × Nat) (fun z => [(2, .pointer (some ⟨z.1, 0, none⟩)), (3, zv 0)]) (fun z => dkH z.1 z.2.1 z.2.2 none 0 (newK n) []) (fun _ => True) ?_ ?_
  · refine HC.any rfl ?_
    refine HA.pa 0 rfl ?_
    refine HA.pa 2 rfl ?_
    refine HA.all [1, 3] (by kernel_rfl) rfl ⟨⟨_, rfl, ?_⟩, ⟨_, rfl, ?_⟩, trivial⟩
    · refine HO.one ?_
      refine H1.make (l := n) (c := n) rfl rfl rfl rfl rfl (Nat.le_refl _) (by omega) (by omega) rfl (fun b1 => ?_)
      apply HA.fold
      refine HA.all [3] (by kernel_rfl) rfl ⟨⟨_, rfl, ?_⟩, trivial⟩
      refine HO.one ?_
      refine H1.make (l := n) (c := n) rfl rfl rfl rfl rfl (Nat.le_refl _) (by omega) (by omega) rfl (fun b2 => ?_)
      apply HA.fold
      refine HA.pa 4 rfl ?_ (POp.build (cs := [.bool false, zv 0, .slice (some ⟨b1, 0, none⟩) n n, .slice (some ⟨b2, 0, none⟩) n n, .slice none 0 0]) rfl rfl)
      refine HA.all [5] (by kernel_rfl) rfl ⟨⟨_, rfl, ?_⟩, trivial⟩
      refine HO.one ?_
      refine H1.boxAgg (cs := [.bool false, zv 0, .slice (some ⟨b1, 0, none⟩) n n, .slice (some ⟨b2, 0, none⟩) n n, .slice none 0 0]) rfl rfl (fun bd => ?_)
      apply HA.fold
      refine HA.pa 6 rfl ?_
      refine HA.pa 7 rfl ?_
      refine HA.done (by kernel_rfl) ?_
      rw [ub_zero]
      refine HX.conv (H2 := A.grow 106 2 none 0 0 [] :: _) (fun w h => h.grow0 _ _) ?_
      refine HX.cut (bd, b1, b2) trivial esA ?_
      show Hs _ [A.blk bd (dkC b1 b2 none 0 (newK n)) 102, A.blk b1 (ub (List.replicate n 0)) 5, A.blk b2 (ub (List.replicate n 0)) 5, A.grow 106 2 none 0 0 []]
      rw [newK_C]
      repeat (first | exact Hs.nil _ | (refine Hs.cons pickA ?_))
    · refine HO.one ?_
      refine H1.make (l := n) (c := n) rfl rfl rfl rfl rfl (Nat.le_refl _) (by omega) (by omega) rfl (fun b2 => ?_)
      apply HA.fold
      refine HA.all [1] (by kernel_rfl) rfl ⟨⟨_, rfl, ?_⟩, trivial⟩
      refine HO.one ?_
      refine H1.make (l := n) (c := n) rfl rfl rfl rfl rfl (Nat.le_refl _) (by omega) (by omega) rfl (fun b1 => ?_)
      apply HA.fold
      refine HA.pa 4 rfl ?_ (POp.build (cs := [.bool false, zv 0, .slice (some ⟨b1, 0, none⟩) n n, .slice (some ⟨b2, 0, none⟩) n n, .slice none 0 0]) rfl rfl)
      refine HA.all [5] (by kernel_rfl) rfl ⟨⟨_, rfl, ?_⟩, trivial⟩
      refine HO.one ?_
      refine H1.boxAgg (cs := [.bool false, zv 0, .slice (some ⟨b1, 0, none⟩) n n, .slice (some ⟨b2, 0, none⟩) n n, .slice none 0 0]) rfl rfl (fun bd => ?_)
      apply HA.fold
      refine HA.pa 6 rfl ?_
      refine HA.pa 7 rfl ?_
      refine HA.done (by kernel_rfl) ?_
      rw [ub_zero]
      refine HX.conv (H2 := A.grow 106 2 none 0 0 [] :: _) (fun w h => h.grow0 _ _) ?_
      refine HX.cut (bd, b1, b2) trivial esA ?_
      show Hs _ [A.blk bd (dkC b1 b2 none 0 (newK n)) 102, A.blk b1 (ub (List.replicate n 0)) 5, A.blk b2 (ub (List.replicate n 0)) 5, A.grow 106 2 none 0 0 []]
      rw [newK_C]
      repeat (first | exact Hs.nil _ | (refine Hs.cons pickA ?_))
  rintro ⟨bd, b1, b2⟩ -
  refine hwKA ?_
  exact HX.ret2 rfl rfl rfl fun w' hM => ⟨(bd, b1, b2), trivial, rfl, hM⟩
theorem write_fn {w0 w : World} {H : List Atom} {bd b1 b2 pc : Nat} {pa : Option Addr} {k : Dk} (off : Nat) (s : ByteArray) (hM : Mm w0 (dkH bd b1 b2 pa pc k H) w) (hk : k.Ok) (ho : off ≤ 5000000) (hs : s.size ≤ 5000000) :
    Fn Tryz.prog 24 #[.pointer (some ⟨bd, 0, none⟩), zv (off : Int), .string s] w fun v w' => ∃ q : Option Addr × Nat, True ∧ v = zv (k.write off s).1 ∧ Mm w0 (dkH bd b1 b2 q.1 q.2 (k.write off s).2 H) w' := by
  have hlen := hk.len
  have hhi := hk.hi
  have hp := hk.pend
  refine enterK (l := [_, _, _]) hM rfl Tryz.ntmps24 rfl ?_
  cases hoff : k.off
  · by_cases hin : off + s.size ≤ k.dur.length
    · rw [Dk.write_on hoff hin]
      refine hwKA ?_
      refine HL.one (H1.call0 rfl rfl (fun w' hM => dcheck_on (hM.blk memA) hoff) ?_)
      refine hwKA ?_
      refine HL.one (H1.call0 (vs := [_, _, zv (s.size : Int)]) rfl rfl (fun w' hM => inside_fn off s.size (hM.blk memA) hk (by omega) (by omega)) ?_)
      refine hwKA ?_
      refine HL.build (cs := [zv (off : Int), .string s]) rfl rfl rfl ?_
      refine hwKA ?_
      refine HL.one (H1.alloc (cs := [zv 0, .string (ByteArray.mk #[])]) (by kernel_rfl) rfl (fun bx => ?_))
      refine hwKA ?_
      refine HL.one (H1.stAgg (cs := [zv 0, .string (ByteArray.mk #[])]) rfl rfl rfl (by intro v hv; rcases List.mem_cons.1 hv with rfl | hv; rfl; rcases List.mem_cons.1 hv with rfl | hv; rfl; cases hv) rplA rfl ?_)
      refine hwKA ?_
      have hpl : (k.pend ++ [(off, s)]).length = k.pend.length + 1 := by rw [List.length_append]; rfl
      have hss : s.data.toList.length = s.size := by rw [Array.length_toList]; rfl
      have hsl : (splice k.vis off s.data.toList).length = k.vis.length := splice_len (by omega)
      have e1 : ∀ a' c', dkC b1 b2 a' c' { k with pend := k.pend ++ [(off, s)] } = (dkC b1 b2 pa pc k).set (0 + 4) (.slice a' (k.pend.length + 1) c') := fun a' c' => by
        show [_, _, _, _, _] = [_, _, _, _, _]
        rw [hpl]
      refine HC.cut (α := Option Addr × Nat) (fun q => [(0, .pointer (some ⟨bd, 0, none⟩)), (8, .pointer (some ⟨bx, 0, none⟩))]) (fun q => A.blk bx [zv (off : Int), .string s] 106 :: dkH bd b1 b2 q.1 q.2 { k with pend := k.pend ++ [(off, s)] } H) (fun _ => True) ?_ ?_
      · refine HC.any rfl ?_
        refine HA.pa 0 rfl ?_
        refine HA.pa 1 rfl ?_
        refine HA.pa 2 rfl ?_ (POp.nilCheck rfl)
        refine HA.pa 3 rfl ?_
        refine HA.all [4, 5] (by kernel_rfl) rfl ⟨⟨_, rfl, ?_⟩, ⟨_, rfl, ?_⟩, trivial⟩
        · refine HO.one ?_
          refine H1.ldb rfl memA rfl rfl ?_
          apply HA.fold
          refine HA.all [5] (by kernel_rfl) rfl ⟨⟨_, rfl, ?_⟩, trivial⟩
          refine HO.one ?_
          refine H1.ldAgg (b := bx) (vs := [zv (off : Int), .string s]) rfl memA rfl (fun i v h => by rwa [Nat.zero_add]) rfl ?_
          apply HA.fold
          refine HA.all [6] (by kernel_rfl) rfl ⟨⟨_, rfl, ?_⟩, trivial⟩
          refine HO.one ?_
          refine H1.lit (cs := [zv (off : Int), .string s]) rfl rfl rfl rfl rfl rfl (fun b9 => ?_)
          apply HA.fold
          refine HA.all [7] (by kernel_rfl) rfl ⟨⟨_, rfl, ?_⟩, trivial⟩
          refine HO.one ?_
          refine H1.app (sz := 2) (news := [zv (off : Int), .string s]) rfl (by decide) rfl rfl (fun _ _ => by first | ((repeat (first | with_reducible exact Rpl.here | with_reducible apply Rpl.there)); done) | (repeat (first | exact Rpl.here | apply Rpl.there))) rfl (fun w' hM j u hj => ?_) (by intro v hv; rcases List.mem_cons.1 hv with rfl | hv; rfl; rcases List.mem_cons.1 hv with rfl | hv; rfl; cases hv) (by omega) (by decide) rfl (fun a' c' hac => ?_)
          · rw [add_lit, Nat.zero_add]; exact (hM.blk (b := b9) memA).cell hj
          rw [pendC_snoc k.pend (off, s)]
          apply HA.fold
          refine HA.pa 8 rfl ?_ (POp.nilCheck rfl)
          refine HA.pa 9 rfl ?_
          refine HA.all [10] (by kernel_rfl) rfl ⟨⟨_, rfl, ?_⟩, trivial⟩
          refine HO.one ?_
          refine H1.st (b := bd) rfl rfl (by intro _ h; cases h) (by intro _ h; cases h) rplA (by show 4 < 5; decide) ?_
          apply HA.fold
          refine HA.done (by kernel_rfl) ?_
          refine HX.cut (a', c') trivial esA ?_
          show Hs _ (A.blk bx _ _ :: A.blk bd (dkC b1 b2 a' c' { k with pend := k.pend ++ [(off, s)] }) 102 :: A.blk b1 _ _ :: A.blk b2 _ _ :: A.grow 106 2 a' c' (k.pend ++ [(off, s)]).length _ :: H)
          rw [e1, hpl]
          exact (Hs.refl _).skip
        · refine HO.one ?_
          refine H1.ldAgg (b := bx) (vs := [zv (off : Int), .string s]) rfl memA rfl (fun i v h => by rwa [Nat.zero_add]) rfl ?_
          apply HA.fold
          refine HA.all [4, 6] (by kernel_rfl) rfl ⟨⟨_, rfl, ?_⟩, ⟨_, rfl, ?_⟩, trivial⟩
          · refine HO.one ?_
            refine H1.ldb rfl memA rfl rfl ?_
            apply HA.fold
            refine HA.all [6] (by kernel_rfl) rfl ⟨⟨_, rfl, ?_⟩, trivial⟩
            refine HO.one ?_
            refine H1.lit (cs := [zv (off : Int), .string s]) rfl rfl rfl rfl rfl rfl (fun b9 => ?_)
            apply HA.fold
            refine HA.all [7] (by kernel_rfl) rfl ⟨⟨_, rfl, ?_⟩, trivial⟩
            refine HO.one ?_
            refine H1.app (sz := 2) (news := [zv (off : Int), .string s]) rfl (by decide) rfl rfl (fun _ _ => by first | ((repeat (first | with_reducible exact Rpl.here | with_reducible apply Rpl.there)); done) | (repeat (first | exact Rpl.here | apply Rpl.there))) rfl (fun w' hM j u hj => ?_) (by intro v hv; rcases List.mem_cons.1 hv with rfl | hv; rfl; rcases List.mem_cons.1 hv with rfl | hv; rfl; cases hv) (by omega) (by decide) rfl (fun a' c' hac => ?_)
            · rw [add_lit, Nat.zero_add]; exact (hM.blk (b := b9) memA).cell hj
            rw [pendC_snoc k.pend (off, s)]
            apply HA.fold
            refine HA.pa 8 rfl ?_ (POp.nilCheck rfl)
            refine HA.pa 9 rfl ?_
            refine HA.all [10] (by kernel_rfl) rfl ⟨⟨_, rfl, ?_⟩, trivial⟩
            refine HO.one ?_
            refine H1.st (b := bd) rfl rfl (by intro _ h; cases h) (by intro _ h; cases h) rplA (by show 4 < 5; decide) ?_
            apply HA.fold
            refine HA.done (by kernel_rfl) ?_
            refine HX.cut (a', c') trivial esA ?_
            show Hs _ (A.blk bx _ _ :: A.blk bd (dkC b1 b2 a' c' { k with pend := k.pend ++ [(off, s)] }) 102 :: A.blk b1 _ _ :: A.blk b2 _ _ :: A.grow 106 2 a' c' (k.pend ++ [(off, s)]).length _ :: H)
            rw [e1, hpl]
            exact (Hs.refl _).skip
          · refine HO.one ?_
            refine H1.lit (cs := [zv (off : Int), .string s]) rfl rfl rfl rfl rfl rfl (fun b9 => ?_)
            apply HA.fold
            refine HA.all [4] (by kernel_rfl) rfl ⟨⟨_, rfl, ?_⟩, trivial⟩
            refine HO.one ?_
            refine H1.ldb rfl memA rfl rfl ?_
            apply HA.fold
            refine HA.all [7] (by kernel_rfl) rfl ⟨⟨_, rfl, ?_⟩, trivial⟩
            refine HO.one ?_
            refine H1.app (sz := 2) (news := [zv (off : Int), .string s]) rfl (by decide) rfl rfl (fun _ _ => by first | ((repeat (first | with_reducible exact Rpl.here | with_reducible apply Rpl.there)); done) | (repeat (first | exact Rpl.here | apply Rpl.there))) rfl (fun w' hM j u hj => ?_) (by intro v hv; rcases List.mem_cons.1 hv with rfl | hv; rfl; rcases List.mem_cons.1 hv with rfl | hv; rfl; cases hv) (by omega) (by decide) rfl (fun a' c' hac => ?_)
            · rw [add_lit, Nat.zero_add]; exact (hM.blk (b := b9) memA).cell hj
            rw [pendC_snoc k.pend (off, s)]
            apply HA.fold
            refine HA.pa 8 rfl ?_ (POp.nilCheck rfl)
            refine HA.pa 9 rfl ?_
            refine HA.all [10] (by kernel_rfl) rfl ⟨⟨_, rfl, ?_⟩, trivial⟩
            refine HO.one ?_
            refine H1.st (b := bd) rfl rfl (by intro _ h; cases h) (by intro _ h; cases h) rplA (by show 4 < 5; decide) ?_
            apply HA.fold
            refine HA.done (by kernel_rfl) ?_
            refine HX.cut (a', c') trivial esA ?_
            show Hs _ (A.blk bx _ _ :: A.blk bd (dkC b1 b2 a' c' { k with pend := k.pend ++ [(off, s)] }) 102 :: A.blk b1 _ _ :: A.blk b2 _ _ :: A.grow 106 2 a' c' (k.pend ++ [(off, s)]).length _ :: H)
            rw [e1, hpl]
            exact (Hs.refl _).skip
      rintro ⟨a', c'⟩ -
      dsimp only
      refine hwKA ?_
      refine HC.anyC ([(⟨bd, 3, none⟩, .slice (some ⟨b2, 0, none⟩) k.vis.length k.vis.length)]) rfl ?_
      refine HB.pa 1 rfl ?_
      refine HB.pa 2 rfl ?_ (POp.nilCheck rfl)
      refine HB.pa 3 rfl ?_
      refine HB.ld 4 rfl rfl memD ?_
      refine HB.all (by (exact Keep.blk (b := bd) memD (by first | rfl | (show some (Value.slice (some ⟨b2, 0, none⟩) (splice k.vis off s.data.toList).length (splice k.vis off s.data.toList).length) = _; rw [hsl])) Keep.nil)) [0] (by kernel_rfl) rfl ⟨⟨_, rfl, ?_⟩, trivial⟩
      refine HP.one ?_
      refine H1.ldAgg (b := bx) (vs := [zv (off : Int), .string s]) rfl memA rfl (fun i v h => by rwa [Nat.zero_add]) rfl ?_
      apply HB.fold
      refine HB.all (by (exact Keep.blk (b := bd) memD (by first | rfl | (show some (Value.slice (some ⟨b2, 0, none⟩) (splice k.vis off s.data.toList).length (splice k.vis off s.data.toList).length) = _; rw [hsl])) Keep.nil)) [5] (by kernel_rfl) rfl ⟨⟨_, rfl, ?_⟩, trivial⟩
      refine HP.one ?_
      refine H1.callk (α := Unit) (V := fun _ => .tuple #[]) (I := fun _ => True) (H' := fun _ => A.blk b2 (ub (splice k.vis off s.data.toList)) 5 :: A.blk bd (dkC b1 b2 a' c' { k with pend := k.pend ++ [(off, s)] }) 102 :: A.blk b1 (ub k.dur) 5 :: A.grow 106 2 a' c' (k.pend ++ [(off, s)]).length (pendC (k.pend ++ [(off, s)])) :: H) (vs := [.agg [zv (off : Int), .string s].toArray, .slice (some ⟨b2, 0, none⟩) k.vis.length k.vis.length]) rfl rfl
        (fun w' hM => (onto_fn (l := k.vis) off s (hM.sub (Hs.cons (Pick.there (Pick.there (Pick.there Pick.here))) (Hs.skip (Hs.refl _)))) (by omega) (by omega)).mono fun v w2 h => ⟨(), trivial, h⟩) ?_
      rintro - -
      apply HB.fold
      refine HB.done (by (exact Keep.blk (b := bd) memD (by first | rfl | (show some (Value.slice (some ⟨b2, 0, none⟩) (splice k.vis off s.data.toList).length (splice k.vis off s.data.toList).length) = _; rw [hsl])) Keep.nil)) (by kernel_rfl) ?_
      refine hwKA ?_
      have e3 : dkC b1 b2 a' c' { k with pend := k.pend ++ [(off, s)] } = dkC b1 b2 a' c' { k with pend := k.pend ++ [(off, s)], vis := splice k.vis off s.data.toList } := by
        show [_, _, _, _, _] = [_, _, _, _, _]
        rw [hsl]
      rw [e3]
      refine HL.one (H1.callk (α := Unit) (V := fun _ => .tuple #[]) (I := fun _ => True) (H' := fun _ => A.blk bd (dkC b1 b2 a' c' (k.put off s)) 102 :: A.blk b2 (ub (splice k.vis off s.data.toList)) 5 :: A.blk b1 (ub k.dur) 5 :: A.grow 106 2 a' c' (k.pend ++ [(off, s)]).length (pendC (k.pend ++ [(off, s)])) :: H) (vs := [_]) rfl rfl
            (fun w' hM => (used_fn (k := { k with pend := k.pend ++ [(off, s)], vis := splice k.vis off s.data.toList }) (hM.sub (Hs.cons (Pick.there Pick.here) (Hs.refl _))) hk.left).mono fun v w2 h => ⟨(), trivial, h⟩) ?_)
      rintro - -
      refine hwKA ?_
      refine HX.ret1 rfl rfl fun w' hM => ⟨(a', c'), trivial, rfl, ?_⟩
      obtain ⟨p1, p2, p3⟩ := put_parts k off s
      show Mm w0 (A.blk bd (dkC b1 b2 a' c' (k.put off s)) 102 :: A.blk b1 (ub (k.put off s).dur) 5 :: A.blk b2 (ub (k.put off s).vis) 5 :: A.grow 106 2 a' c' (k.put off s).pend.length (pendC (k.put off s).pend) :: H) w'
      rw [p1, p2, p3]
      exact hM.sub (Hs.cons Pick.here (Hs.cons (Pick.there Pick.here) (Hs.refl _)))
    · rw [Dk.write_no hoff hin]
      refine hwKA ?_
      refine HL.one (H1.call0 rfl rfl (fun w' hM => dcheck_on (hM.blk memA) hoff) ?_)
      refine hwKA ?_
      refine HL.one (H1.call0 (vs := [_, _, zv (s.size : Int)]) rfl rfl (fun w' hM => inside_fn off s.size (hM.blk memA) hk (by omega) (by omega)) ?_)
      refine hwKA ?_
      exact HX.ret1 rfl rfl fun w' hM => ⟨(pa, pc), trivial, rfl, hM⟩
  · rw [Dk.write_off hoff]
    refine hwKA ?_
    refine HL.one (H1.call0 rfl rfl (fun w' hM => dcheck_off (hM.blk memA) hoff) ?_)
    refine hwKA ?_
    exact HX.ret1 rfl rfl fun w' hM => ⟨(pa, pc), trivial, rfl, hM⟩
theorem cut_fn {w0 w : World} {H : List Atom} {bd b1 b2 pc : Nat} {pa : Option Addr} {k : Dk} (n : Nat) (hM : Mm w0 (dkH bd b1 b2 pa pc k H) w) :
    Fn Tryz.prog 31 #[.pointer (some ⟨bd, 0, none⟩), zv (n : Int)] w fun v w' => v = zv (k.cut n).1 ∧ Mm w0 (dkH bd b1 b2 pa pc (k.cut n).2 H) w' := by
  refine enterK (l := [_, _]) hM rfl Tryz.ntmps31 rfl ?_
  have hn : ¬ (n : Int) < 0 := by omega
  cases hoff : k.off
  · rw [Dk.cut_on hoff]
    refine hwKA ?_
    refine HL.one (H1.call0 rfl rfl (fun w' hM => dcheck_on (hM.blk memA) hoff) ?_)
    refine hwKA ?_
    refine HL.build (cs := [.bool (decide ((n : Int) = 0)), zv (n : Int)]) rfl rfl rfl ?_
    refine hwKA ?_
    have e : decide ((n : Int) = 0) = decide (n = 0) := decide_eq_decide.2 (by omega)
    rw [e]
    refine HL.one (H1.stAggO (b := bd) (o := 0) (cs := dkC b1 b2 pa pc k) (cs' := dkC b1 b2 pa pc { k with off := decide (n = 0), left := n }) rfl rfl rfl (by intro v hv; rcases List.mem_cons.1 hv with rfl | hv; rfl; rcases List.mem_cons.1 hv with rfl | hv; rfl; cases hv) (by show 0 + 2 ≤ 5; decide) rfl rplA ?_)
    refine hwKA ?_
    exact HX.ret1 rfl rfl fun w' hM => ⟨rfl, hM⟩
  · rw [Dk.cut_off hoff]
    refine hwKA ?_
    refine HL.one (H1.call0 rfl rfl (fun w' hM => dcheck_off (hM.blk memA) hoff) ?_)
    refine hwKA ?_
    exact HX.ret1 rfl rfl fun w' hM => ⟨rfl, hM⟩
end Go.Sx
/- Plain, chapter 26: calls one after the other; Append, Open. -/
namespace Go.Sx
open Go
inductive DOp where
  | wr (off : Nat) (s : ByteArray)
  | sy
def DOp.run : DOp → Dk → Int × Dk
  | .wr off s, k => k.write off s
  | .sy, k => k.sync
/-- Calls up to the first error. -/
def runOps : List DOp → Dk → Int × Dk
  | [], k => (0, k)
  | o :: l, k => if (o.run k).1 = 0 then runOps l (o.run k).2 else o.run k
theorem runOps_ok {o : DOp} {l : List DOp} {k : Dk} (h : (o.run k).1 = 0) : runOps (o :: l) k = runOps l (o.run k).2 := by
  show (if _ then _ else _) = _
  rw [if_pos h]
theorem runOps_no {o : DOp} {l : List DOp} {k : Dk} (h : ¬ (o.run k).1 = 0) : runOps (o :: l) k = o.run k := by
  show (if _ then _ else _) = _
  rw [if_neg h]
theorem used_p (k : Dk) : k.used.dur = k.dur ∧ k.used.vis = k.vis ∧ k.used.pend = k.pend ∧ k.used.left ≤ k.left := by
  unfold Dk.used
  by_cases h : k.left = 0
  · rw [if_pos h]; exact ⟨rfl, rfl, rfl, Nat.le_refl _⟩
  · rw [if_neg h]; exact ⟨rfl, rfl, rfl, by show k.left - 1 ≤ k.left; omega⟩
/-- What a call may change of a disk. -/
theorem DOp.run_len (o : DOp) (k : Dk) (hl : k.vis.length = k.dur.length) : (o.run k).2.vis.length = (o.run k).2.dur.length ∧ (o.run k).2.dur.length = k.dur.length ∧ (o.run k).2.left ≤ k.left ∧ (o.run k).2.pend.length ≤ k.pend.length + 1 := by
  cases o with
  | wr off s =>
    show (k.write off s).2.vis.length = _ ∧ _
    have hs : s.data.toList.length = s.size := by rw [Array.length_toList]; rfl
    cases ho : k.off
    · by_cases h1 : off + s.size ≤ k.dur.length
      · have hw := Dk.write_on (s := s) ho h1
        obtain ⟨h2, h3, h4, h5⟩ := used_p { k with pend := k.pend ++ [(off, s)], vis := splice k.vis off s.data.toList }
        have hp : (k.write off s).2 = Dk.used { k with pend := k.pend ++ [(off, s)], vis := splice k.vis off s.data.toList } := by rw [hw]; rfl
        show (k.write off s).2.vis.length = (k.write off s).2.dur.length ∧ (k.write off s).2.dur.length = _ ∧ (k.write off s).2.left ≤ _ ∧ (k.write off s).2.pend.length ≤ _
        rw [hp, h2, h3, h4]
        refine ⟨?_, rfl, h5, ?_⟩
        · show (splice k.vis off s.data.toList).length = k.dur.length
          rw [splice_len (by omega), hl]
        · show (k.pend ++ [(off, s)]).length ≤ _
          rw [List.length_append]; exact Nat.le_refl _
      · show (k.write off s).2.vis.length = (k.write off s).2.dur.length ∧ (k.write off s).2.dur.length = _ ∧ (k.write off s).2.left ≤ _ ∧ (k.write off s).2.pend.length ≤ _
        rw [Dk.write_no ho h1]; exact ⟨hl, rfl, Nat.le_refl _, Nat.le_succ _⟩
    · show (k.write off s).2.vis.length = (k.write off s).2.dur.length ∧ (k.write off s).2.dur.length = _ ∧ (k.write off s).2.left ≤ _ ∧ (k.write off s).2.pend.length ≤ _
      rw [Dk.write_off ho]; exact ⟨hl, rfl, Nat.le_refl _, Nat.le_succ _⟩
  | sy =>
    show k.sync.2.vis.length = k.sync.2.dur.length ∧ k.sync.2.dur.length = _ ∧ k.sync.2.left ≤ _ ∧ k.sync.2.pend.length ≤ _
    cases ho : k.off
    · rw [Dk.sync_on ho]; exact ⟨rfl, hl, Nat.le_refl _, Nat.zero_le _⟩
    · rw [Dk.sync_off ho]; exact ⟨hl, rfl, Nat.le_refl _, Nat.le_succ _⟩
theorem DOp.run_ok (o : DOp) {k : Dk} (hk : k.Ok) (hp : k.pend.length + 1 ≤ 10000) : (o.run k).2.Ok := by
  obtain ⟨h1, h2, h3, h4⟩ := o.run_len k hk.len
  exact ⟨h1, by have := hk.lo; omega, by have := hk.hi; omega, by have := hk.left; omega, by omega⟩
theorem runOps_len : ∀ (l : List DOp) (k : Dk), k.vis.length = k.dur.length → (runOps l k).2.vis.length = (runOps l k).2.dur.length ∧ (runOps l k).2.dur.length = k.dur.length ∧ (runOps l k).2.left ≤ k.left ∧ (runOps l k).2.pend.length ≤ k.pend.length + l.length
  | [], k, h => ⟨h, rfl, Nat.le_refl _, Nat.le_refl _⟩
  | o :: l, k, h => by
    obtain ⟨h1, h2, h3, h4⟩ := o.run_len k h
    rw [List.length_cons]
    by_cases h0 : (o.run k).1 = 0
    · rw [runOps_ok h0]
      obtain ⟨g1, g2, g3, g4⟩ := runOps_len l (o.run k).2 h1
      exact ⟨g1, by omega, by omega, by omega⟩
    · rw [runOps_no h0]; exact ⟨h1, h2, h3, by omega⟩
theorem runOps_okk {l : List DOp} {k : Dk} (hk : k.Ok) (hp : k.pend.length + l.length ≤ 10000) : (runOps l k).2.Ok := by
  obtain ⟨h1, h2, h3, h4⟩ := runOps_len l k hk.len
  exact ⟨h1, by have := hk.lo; omega, by have := hk.hi; omega, by have := hk.left; omega, by omega⟩
def zero32 : ByteArray := mkBA (List.replicate 32 0)
/-- What is kept at first. -/
def t00 : Tp := ⟨[], zero32, 0⟩
/-- A journal: what is kept, its disk, whether it is broken. -/
structure Jn where
  t : Tp
  k : Dk
  br : Bool
def isLong (s : ByteArray) : Bool := decide (65536 < s.size)
def grp (t : Tp) (o : List UInt8) : List DOp := [.wr (t.size + 1) (mkBA (o.drop 1)), .sy, .wr t.size (mkBA (o.take 1)), .sy]
def Jn.append (j : Jn) (l : List ByteArray) : Int × Jn :=
  if j.br = true ∨ l.any isLong = true then (260, j)
  else if (j.k.dur.length : Int) - (j.t.size : Int) < ((outsL j.t.head l).length : Int) then (261, j)
  else if outsL j.t.head l = [] then (0, j)
  else if (runOps (grp j.t (outsL j.t.head l)) j.k).1 = 0 then (0, { j with t := adds j.t l, k := (runOps (grp j.t (outsL j.t.head l)) j.k).2 })
  else ((runOps (grp j.t (outsL j.t.head l)) j.k).1, { j with k := (runOps (grp j.t (outsL j.t.head l)) j.k).2, br := true })
/-- Open: the error, the disk behind it, what is kept. -/
def openF (k : Dk) : Int × Dk × Option Tp :=
  if k.off = true then (251, k, none)
  else match loadF k.vis t00 with
    | none => (262, k, none)
    | some t =>
      if isZero (k.vis.drop t.size) = true then (0, k, some t)
      else if (runOps [.wr t.size (mkBA (List.replicate (k.vis.length - t.size) 0)), .sy] k).1 = 0 then (0, (runOps [.wr t.size (mkBA (List.replicate (k.vis.length - t.size) 0)), .sy] k).2, some t)
      else ((runOps [.wr t.size (mkBA (List.replicate (k.vis.length - t.size) 0)), .sy] k).1, (runOps [.wr t.size (mkBA (List.replicate (k.vis.length - t.size) 0)), .sy] k).2, none)
end Go.Sx
/- Plain, chapter 25: a power failure. -/
namespace Go.Sx
open Go
/-- Which pending writes are kept. -/
def crashL (keep : List Int) (n : Nat) : List Nat := (List.range n).filter fun (i : Nat) => keep.contains (i : Int)
def tornS (torn : Int) (last : Bool) (s : ByteArray) : ByteArray := if last = true ∧ 0 ≤ torn then s.extract 0 (min torn (s.size : Int)).toNat else s
theorem tornS_size (torn : Int) (last : Bool) (s : ByteArray) : (tornS torn last s).size ≤ s.size := by
  unfold tornS
  split
  · rw [ByteArray.size_extract]; omega
  · exact Nat.le_refl _
def pendAt (pend : List (Nat × ByteArray)) (i : Nat) : Nat × ByteArray := pend.getD i (0, ByteArray.mk #[])
def applyL (pend : List (Nat × ByteArray)) (torn : Int) : List Nat → List UInt8 → List UInt8
  | [], d => d
  | i :: l, d => applyL pend torn l (splice d (pendAt pend i).1 (tornS torn l.isEmpty (pendAt pend i).2).data.toList)
def Dk.crash (k : Dk) (keep : List Int) (torn : Int) : Dk := ⟨false, 0, applyL k.pend torn (crashL keep k.pend.length) k.dur, applyL k.pend torn (crashL keep k.pend.length) k.dur, []⟩
/-- Pending writes lie on the disk. -/
def Dk.Fit (k : Dk) : Prop := ∀ x ∈ k.pend, x.1 + x.2.size ≤ k.dur.length
theorem pendAt_mem {pend : List (Nat × ByteArray)} {i : Nat} (h : i < pend.length) : pendAt pend i ∈ pend := by unfold pendAt; simp [h]
theorem crashL_lt {keep : List Int} {n i : Nat} (h : i ∈ crashL keep n) : i < n := List.mem_range.1 (List.mem_filter.1 h).1
theorem applyL_len (pend : List (Nat × ByteArray)) (torn : Int) (n : Nat) (hp : ∀ x ∈ pend, x.1 + x.2.size ≤ n) : ∀ (l : List Nat) (d : List UInt8), (∀ i ∈ l, i < pend.length) → d.length = n → (applyL pend torn l d).length = n
  | [], d, _, hd => hd
  | i :: l, d, hl, hd => by
    have h1 := hp _ (pendAt_mem (hl i (List.mem_cons_self ..)))
    have h2 := tornS_size torn l.isEmpty (pendAt pend i).2
    have h3 : (tornS torn l.isEmpty (pendAt pend i).2).data.toList.length = (tornS torn l.isEmpty (pendAt pend i).2).size := by rw [Array.length_toList]; rfl
    exact applyL_len pend torn n hp l _ (fun j hj => hl j (List.mem_cons_of_mem _ hj)) (by rw [splice_len (by omega), hd])
theorem crash_len {k : Dk} (hf : k.Fit) (keep : List Int) (torn : Int) : (k.crash keep torn).dur.length = k.dur.length :=
  applyL_len k.pend torn k.dur.length hf _ _ (fun _ h => crashL_lt h) rfl
theorem crash_ok {k : Dk} (hk : k.Ok) (hf : k.Fit) (keep : List Int) (torn : Int) : (k.crash keep torn).Ok :=
  ⟨rfl, by rw [crash_len hf]; exact hk.lo, by rw [crash_len hf]; exact hk.hi, Nat.zero_le _, Nat.zero_le _⟩
/-- Strictly ascending. -/
def Asc (l : List Int) : Prop := l.Pairwise (· < ·)
theorem asc_eq : ∀ {l m : List Int}, Asc l → Asc m → (∀ x, x ∈ l ↔ x ∈ m) → l = m
  | [], [], _, _, _ => rfl
  | [], b :: m, _, _, h => by have := (h b).2 (List.mem_cons_self ..); cases this
  | a :: l, [], _, _, h => by have := (h a).1 (List.mem_cons_self ..); cases this
  | a :: l, b :: m, hl, hm, h => by
    have hl' := List.pairwise_cons.1 hl
    have hm' := List.pairwise_cons.1 hm
    have hab : a = b := by
      rcases List.mem_cons.1 ((h a).1 (List.mem_cons_self ..)) with e | h1
      · exact e
      · rcases List.mem_cons.1 ((h b).2 (List.mem_cons_self ..)) with e | h2
        · exact e.symm
        · have h3 := hm'.1 a h1
          have h4 := hl'.1 b h2
          omega
    subst hab
    congr 1
    refine asc_eq hl'.2 hm'.2 fun x => ⟨fun hx => ?_, fun hx => ?_⟩
    · rcases List.mem_cons.1 ((h x).1 (List.mem_cons_of_mem _ hx)) with e | h1
      · have := hl'.1 x hx; omega
      · exact h1
    · rcases List.mem_cons.1 ((h x).2 (List.mem_cons_of_mem _ hx)) with e | h1
      · have := hm'.1 x hx; omega
      · exact h1
theorem crashL_asc (keep : List Int) (n : Nat) : Asc ((crashL keep n).map fun i : Nat => (i : Int)) := by
  unfold Asc crashL
  rw [List.pairwise_map]
  refine List.Pairwise.filter _ ?_
  exact List.pairwise_lt_range.imp fun h => by omega
/-- What is sorted, without repetitions, and within bounds, is what is kept. -/
theorem order_eq {keep l : List Int} {n : Nat} (ha : Asc l) (hm : ∀ x, x ∈ l ↔ x ∈ keep) : (l.filter fun i => !(decide (i < 0) || decide ((n : Int) ≤ i))) = (crashL keep n).map fun i : Nat => (i : Int) := by
  refine asc_eq (List.Pairwise.filter _ ha) (crashL_asc keep n) fun x => ?_
  rw [List.mem_filter, List.mem_map]
  constructor
  · rintro ⟨h1, h2⟩
    have h3 : 0 ≤ x ∧ x < n := by
      simp only [Bool.not_or, Bool.and_eq_true, Bool.not_eq_true', decide_eq_false_iff_not] at h2
      omega
    refine ⟨x.toNat, List.mem_filter.2 ⟨List.mem_range.2 (by omega), ?_⟩, by omega⟩
    rw [Int.toNat_of_nonneg h3.1]
    exact List.contains_iff_mem.2 ((hm x).1 h1)
  · rintro ⟨i, h1, rfl⟩
    obtain ⟨h2, h3⟩ := List.mem_filter.1 h1
    have h4 := List.mem_range.1 h2
    refine ⟨(hm _).2 (List.contains_iff_mem.1 h3), ?_⟩
    simp only [Bool.not_or, Bool.and_eq_true, Bool.not_eq_true', decide_eq_false_iff_not]
    omega
end Go.Sx
/- Chapter 26: a record is added; a content is read: the walks. -/
namespace Go.Sx
open Go Go.Proofs Go.RowKit
theorem hwJF {G G2 : Prop} (x : G2) (hwq : Hold G2 → G := by
    intro hQq
    repeat' (first | refine HL.pa ?_ (POp.nilCheck rfl) | apply HL.fold | apply HA.fold | apply HL.nil | apply HX.n_then | apply HC.seq | apply HC.region | refine HL.pa ?_ | refine HL.ga rfl ?_ | refine HL.na rfl ?_ | refine HL.nu rfl rfl ?_ | apply HC.block | apply HC.skip | apply HC.exit | apply HC.ret | apply HX.e_block | refine HX.e_other rfl ?_ | apply HX.e_then | apply HX.e_again | apply HX.n_block | apply HX.r_then | apply HX.r_block | apply HX.r_again | refine HC.cond_yes rfl ?_ | refine HC.cond_no rfl ?_ | refine HL.one (H1.ldb rfl memA rfl rfl ?_) | refine HC.cond rfl (fun hc => ?_) (fun hc => ?_) | refine HC.cond_b rfl (fun hc => ?_) (fun hc => ?_))
    exact hQq.get) : G := hwq ⟨x⟩
/-- The cells of what is kept. -/
def tpC (a : Option Addr) (c : Nat) (t : Tp) (rest : List Value) : List Value := .slice a t.recs.length c :: .string t.head :: zv (t.size : Int) :: rest
theorem outB_size (h r : ByteArray) : (outB h r).size = (outL h r).length := by
  show (outL h r).toArray.size = _
  rw [List.size_toArray]
theorem outL_len (h r : ByteArray) : (outL h r).length = 33 + (strN r.size).size + r.size := by
  unfold outL
  have h1 : (chainS h r).data.toList.length = 32 := by rw [Array.length_toList]; exact chainS_size h r
  have h2 : r.data.toList.length = r.size := by rw [Array.length_toList]; rfl
  have h3 : (strN r.size).size = (putN r.size).length := by show (putN r.size).toArray.size = _; rw [List.size_toArray]
  rw [List.length_cons, List.length_append, List.length_append, h1, h2, h3]; omega
theorem outB_eq (h r : ByteArray) : (mkB 1 ++ (strN r.size ++ r)) ++ chainS h r = outB h r := ba_ext (by
  rw [ByteArray.data_append, ByteArray.data_append, ByteArray.data_append]
  simp only [Array.toList_append]
  show [1] ++ (putN r.size ++ r.data.toList) ++ _ = outL h r
  unfold outL
  simp)
theorem ba_append_size (a b : ByteArray) : (a ++ b).size = a.size + b.size := ByteArray.size_append
theorem strs_snoc (l : List ByteArray) (r : ByteArray) : strs l ++ [.string r] = strs (l ++ [r]) := by simp [strs]
attribute [local irreducible] WC WL WX POp Then Again Fn NX W1 WA WO QL RP RA Yld LoopAt HC HL HX HN H1 HA HO HQ HB HP A.blk A.grow A.rd A.obj A.mp AgainH CutH
attribute [local irreducible] sumS chainS
set_option maxHeartbeats 1000000 in
theorem tadd_fn {w0 w : World} {H : List Atom} {b c : Nat} {e : TypeId} {a : Option Addr} {t : Tp} {rest : List Value} (r : ByteArray) (hG : RoundG w0) (hM : Mm w0 (A.blk b (tpC a c t rest) e :: A.grow 9 1 a c t.recs.length (strs t.recs) :: H) w)
    (hr : r.size ≤ 65536) (hh : t.head.size ≤ 32) (hn : t.recs.length ≤ 200000) (hs : t.size ≤ 100000000) :
    Fn Tryz.prog 149 #[.pointer (some ⟨b, 0, none⟩), .string r] w fun v w' => ∃ q : Option Addr × Nat, True ∧ v = .string (outB t.head r) ∧ Mm w0 (A.blk b (tpC q.1 q.2 (t.add r) rest) e :: A.grow 9 1 q.1 q.2 (t.recs ++ [r]).length (strs (t.recs ++ [r])) :: H) w' := by
  have hz := strN_size (n := r.size) (by omega)
  have hol := outL_len t.head r
  have hos := outB_size t.head r
  have hc32 := chainS_size t.head r
  have hm1 : (mkB 1).size = 1 := rfl
  have ha1 := ba_append_size (strN r.size) r
  have ha2 := ba_append_size (mkB 1) (strN r.size ++ r)
  have hpl : (t.recs ++ [r]).length = t.recs.length + 1 := by rw [List.length_append]; rfl
  refine enterK (l := [_, _]) hM rfl Tryz.ntmps149 rfl ?_
  refine hwJF ?_
  refine HL.one (H1.callx rfl rfl (fun w' hM => chain_fn t.head r (by omega) w' (hG.ext hM.ext)) ?_)
  refine hwJF ?_
  refine HL.one (H1.st (b := b) rfl rfl (by intro _ h; cases h) (by intro _ h; cases h) rplA (by show 1 < rest.length + 3; omega) ?_)
  refine hwJF ?_
  refine HL.one (H1.lit (cs := [.string r]) rfl rfl rfl rfl rfl rfl (fun b9 => ?_))
  refine hwJF ?_
  refine HL.one (H1.app1 (u := .string r) rfl rfl (fun _ _ => by first | ((repeat (first | with_reducible exact Rpl.here | with_reducible apply Rpl.there)); done) | (repeat (first | exact Rpl.here | apply Rpl.there))) memA rfl rfl (by omega) rfl rfl (fun a' c' => ?_))
  rw [strs_snoc]
  refine hwJF ?_
  refine HL.one (H1.st (b := b) rfl rfl (by intro _ h; cases h) (by intro _ h; cases h) rplA (by show 0 < rest.length + 3; omega) ?_)
  refine hwJF ?_
  refine HL.one (H1.callx rfl rfl (fun w' hM => putString_fn r hr w') ?_)
  refine hwJF ?_
  refine HC.sub [(0, .pointer (some ⟨b, 0, none⟩)), (5, .string (strN r.size ++ r))] (A.blk b (tpC (some ⟨a', 0, none⟩) c' ⟨t.recs ++ [r], chainS t.head r, t.size⟩ rest) e :: A.grow 9 1 (some ⟨a', 0, none⟩) c' (t.recs ++ [r]).length (strs (t.recs ++ [r])) :: H) ?_ esA (by unfold tpC; rw [hpl]; exact (Hs.refl _).skip)
  refine HC.anyC ([(⟨b, 1, none⟩, .string (chainS t.head r))]) rfl ?_
  refine HB.pa 2 rfl ?_
  refine HB.pa 4 rfl ?_
  refine HB.pa 5 rfl ?_ (POp.nilCheck rfl)
  refine HB.pa 6 rfl ?_
  refine HB.ld 7 rfl rfl memD ?_
  refine HB.all (by (exact Keep.blk (b := b) memD rfl Keep.nil)) [0] (by kernel_rfl) rfl ⟨⟨_, rfl, ?_⟩, trivial⟩
  refine HP.one ?_
  refine H1.lit (cs := [b8 1]) rfl rfl rfl rfl rfl rfl (fun b8' => ?_)
  apply HB.fold
  refine HB.all (by (exact Keep.blk (b := b) memD rfl Keep.nil)) [1] (by kernel_rfl) rfl ⟨⟨_, rfl, ?_⟩, trivial⟩
  refine HP.one ?_
  refine H1.bstrB (ys := [1]) rfl memA rfl ?_
  apply HB.fold
  refine HB.pa 3 rfl ?_ (POp.cat (s := mkB 1) (u := strN r.size ++ r) rfl rfl (by omega))
  refine HB.pa 8 rfl ?_ (POp.cat (s := mkB 1 ++ (strN r.size ++ r)) (u := chainS t.head r) rfl rfl (by omega))
  rw [outB_eq]
  refine HB.pa 9 rfl ?_
  refine HB.done (by (exact Keep.blk (b := b) memD rfl Keep.nil)) (by kernel_rfl) ?_
  refine hwJF ?_
  refine HL.pa ?_ (POp.add (m := (t.size : Int)) (n := ((outB t.head r).size : Int)) rfl rfl (by omega) (by omega))
  refine hwJF ?_
  refine HL.one (H1.st (b := b) rfl rfl (by intro _ h; cases h) (by intro _ h; cases h) rplA (by show 2 < rest.length + 3; omega) ?_)
  refine hwJF ?_
  refine HX.ret1 rfl rfl fun w' hM => ⟨(some ⟨a', 0, none⟩, c'), trivial, rfl, ?_⟩
  have e1 : (tpC (some ⟨a', 0, none⟩) c' ⟨t.recs ++ [r], chainS t.head r, t.size⟩ rest).set (0 + 2) (.int .i64 ((t.size : Int) + ((outB t.head r).size : Int))) = tpC (some ⟨a', 0, none⟩) c' (t.add r) rest := by
    rw [hos]; rfl
  rw [← e1]
  exact hM.tail
theorem mkBA_inj {l m : List UInt8} : mkBA l = mkBA m ↔ l = m := by
  constructor
  · intro h
    have := congrArg (fun s : ByteArray => s.data.toList) h
    simpa [mkBA] using this
  · rintro rfl; rfl
set_option maxHeartbeats 4000000 in
theorem load_fn {w0 w : World} {H : List Atom} {b c : Nat} {e : TypeId} {a : Option Addr} {ea : Addr} {t0 : Tp} {rest : List Value} (s : ByteArray) (hG : RoundG w0) (hE : ErrG ea w0)
    (hM : Mm w0 (A.blk b (tpC a c t0 rest) e :: A.grow 9 1 a c t0.recs.length (strs t0.recs) :: H) w) (hs : s.size ≤ 4194304) (hz : t0.size ≤ s.size) (hn : 33 * t0.recs.length ≤ t0.size) (hh : t0.head.size ≤ 32) :
    Calls Tryz.prog 159 #[.pointer (some ⟨b, 0, none⟩), .string s] w
      (EndP (fun z : Option Addr × Nat × Tp => loadF s.data.toList t0 = some z.2.2) (fun _ => .tuple #[]) (fun z => A.blk b (tpC z.1 z.2.1 z.2.2 rest) e :: A.grow 9 1 z.1 z.2.1 z.2.2.recs.length (strs z.2.2.recs) :: H)
        (fun _ : Unit => loadF s.data.toList t0 = none) (errP ea) (fun _ => H) w0) := by
  have hlen : s.data.toList.length = s.size := by rw [Array.length_toList]; rfl
  refine enterE (l := [_, _]) hM rfl Tryz.ntmps159 rfl ?_
  refine hwJF ?_
  refine HC.loop (α := Option Addr × Nat × Tp) (fun z => [(0, .pointer (some ⟨b, 0, none⟩)), (1, .string s)]) (fun z => A.blk b (tpC z.1 z.2.1 z.2.2 rest) e :: A.grow 9 1 z.1 z.2.1 z.2.2.recs.length (strs z.2.2.recs) :: H)
    (fun z => loadF s.data.toList z.2.2 = loadF s.data.toList t0 ∧ z.2.2.size ≤ s.size ∧ 33 * z.2.2.recs.length ≤ z.2.2.size ∧ z.2.2.head.size ≤ 32) (fun z => s.size - z.2.2.size) (a, c, t0) ⟨rfl, hz, hn, hh⟩ esA (Hs.refl _) ?_
  rintro ⟨a1, c1, t⟩ ⟨hF, hts, htn, hth⟩
  dsimp only at hF hts htn hth ⊢
  by_cases hin : t.size < s.size
  · have hsb : ((s.data.toList.getD t.size 0).toNat) = sb s t.size := rfl
    by_cases hz0 : (sb s t.size : Int) = 0
    · have hend := loadF_end (s := s.data.toList) (t := t) (fun h => h.2 (UInt8.toNat_inj.1 (by rw [hsb]; exact_mod_cast hz0)))
      refine hwJF ?_
      exact HX.end0E rfl fun w' hM => .inl ⟨(a1, c1, t), by rw [← hF, hend], rfl, hM⟩
    · have hne : t.size < s.data.toList.length ∧ s.data.toList.getD t.size 0 ≠ 0 := ⟨by omega, fun h => hz0 (by rw [← hsb, h]; rfl)⟩
      refine hwJF ?_
      refine HL.one (H1.callE (vs := [.bool (decide ((sb s t.size : Int) = 1))]) rfl rfl (fun w' hM => check_fn _ hM hE) (fun _ hb1 => ?_) (fun _ hb1 => ?_))
      rotate_left
      · have hbad := loadF_bad (t := t) hne (fun h => of_decide_eq_false hb1 (by rw [← hsb, h]; rfl))
        repeat (first | apply HX.p_then | apply HX.p_block | apply HX.p_again)
        exact HX.panE fun w' hM => .inr ⟨(), by rw [← hF, hbad], rfl, hM.tail.tail⟩
      have hone : s.data.toList.getD t.size 0 = 1 := UInt8.toNat_inj.1 (by rw [hsb]; exact_mod_cast of_decide_eq_true hb1)
      refine hwJF ?_
      refine HL.one (H1.call0 (vs := [.string s, zv ((t.size + 1 : Nat) : Int)]) rfl rfl (fun w' _ => string_fn s (t.size + 1) (by omega) (by omega) w') ?_)
      cases hd : decS s.data.toList (t.size + 1) with
      | none =>
        have hnone := loadF_none (t := t) hne hd
        unfold strV
        refine hwJF ?_
        refine HL.one (H1.callE (vs := [.bool _]) rfl rfl (fun w' hM => check_fn _ hM hE) (fun _ hb2 => ?_) (fun _ hb2 => ?_))
        · cases hb2
        repeat (first | apply HX.p_then | apply HX.p_block | apply HX.p_again)
        exact HX.panE fun w' hM => .inr ⟨(), by rw [← hF, hnone], rfl, hM.tail.tail⟩
      | some x =>
        obtain ⟨r, q⟩ := x
        have hle := decS_le hd
        have hno := fun h => loadF_no (t := t) hne hd h
        have hyes := fun h => loadF_step (t := t) hne hone hd h
        have hrs : (mkBA r).size = r.length := by show r.toArray.size = _; rw [List.size_toArray]
        have hol := outL_len t.head (mkBA r)
        unfold strV
        refine hwJF ?_
        refine HL.one (H1.callE (vs := [.bool (decide ((q : Int) + 32 ≤ (s.size : Int)))]) rfl rfl (fun w' hM => check_fn _ hM hE) (fun _ hb2 => ?_) (fun _ hb2 => ?_))
        rotate_left
        · repeat (first | apply HX.p_then | apply HX.p_block | apply HX.p_again)
          exact HX.panE fun w' hM => .inr ⟨(), by rw [← hF, hno (fun h => of_decide_eq_false hb2 (by omega))], rfl, hM.tail.tail⟩
        have hq32 : (q : Int) + 32 ≤ (s.size : Int) := of_decide_eq_true hb2
        have e1 : ((q : Int) + 32).toNat = q + 32 := by omega
        have e2 := extract_mk s t.size (q + 32)
        refine hwJF ?_
        refine HC.sub [(0, .pointer (some ⟨b, 0, none⟩)), (1, .string s), (4, zv (t.size : Int)), (5, .string (mkBA r)), (6, zv (q : Int))] (A.blk b (tpC a1 c1 t rest) e :: A.grow 9 1 a1 c1 t.recs.length (strs t.recs) :: H) ?_ esA (Hs.refl _)
        refine HC.any rfl ?_
        refine HA.pa 0 rfl ?_
        refine HA.pa 1 rfl ?_
        refine HA.pa 3 rfl ?_
        refine HA.pa 4 rfl ?_
        refine HA.pa 5 rfl ?_
        refine HA.pa 6 rfl ?_
        refine HA.pa 7 rfl ?_ (POp.sub_lh rfl rfl rfl (by omega) (by omega) (by omega))
        rw [Int.toNat_natCast, e1, e2]
        refine HA.all [2] (by kernel_rfl) rfl ⟨⟨_, rfl, ?_⟩, trivial⟩
        refine HO.one ?_
        refine H1.callk (α := Option Addr × Nat) (V := fun _ => .string (outB t.head (mkBA r))) (I := fun _ => True) (H' := fun q => A.blk b (tpC q.1 q.2 (t.add (mkBA r)) rest) e :: A.grow 9 1 q.1 q.2 (t.recs ++ [mkBA r]).length (strs (t.recs ++ [mkBA r])) :: H) (vs := [_, _]) rfl rfl
          (fun w' hM => tadd_fn (mkBA r) hG hM (by omega) hth (by omega) (by omega)) ?_
        rintro ⟨a2, c2⟩ -
        dsimp only
        apply HA.fold
        refine HA.pa 8 rfl ?_ (POp.seql rfl rfl)
        refine HA.all [9] (by kernel_rfl) rfl ⟨⟨_, rfl, ?_⟩, trivial⟩
        refine HO.one ?_
        refine H1.callE (vs := [.bool (decide (outB t.head (mkBA r) = mkBA ((s.data.toList.drop t.size).take (q + 32 - t.size))))]) rfl rfl (fun w' hM => check_fn _ hM hE) (fun _ hb3 => ?_) (fun _ hb3 => ?_)
        rotate_left
        · repeat (first | apply HX.p_then | apply HX.p_block | apply HX.p_again)
          exact HX.panE fun w' hM => .inr ⟨(), by rw [← hF, hno (fun h => of_decide_eq_false hb3 (mkBA_inj.2 h.2))], rfl, hM.tail.tail⟩
        apply HA.fold
        refine HA.done (by kernel_rfl) ?_
        refine hwJF ?_
        have hcmp := mkBA_inj.1 (of_decide_eq_true hb3)
        have hll : (outL t.head (mkBA r)).length = q + 32 - t.size := by rw [hcmp, List.length_take, List.length_drop]; omega
        have hsz : (t.add (mkBA r)).size = q + 32 := by show t.size + (outL t.head (mkBA r)).length = _; omega
        have hrl : (t.recs ++ [mkBA r]).length = t.recs.length + 1 := by rw [List.length_append]; rfl
        refine HX.again (a2, c2, t.add (mkBA r)) ⟨by rw [← hyes ⟨by omega, hcmp⟩]; exact hF, ?_, ?_, ?_⟩ ?_ esA (Hs.refl _)
        · show (t.add (mkBA r)).size ≤ _; omega
        · show 33 * (t.recs ++ [mkBA r]).length ≤ (t.add (mkBA r)).size; omega
        · show (chainS t.head (mkBA r)).size ≤ 32; rw [chainS_size]; exact Nat.le_refl _
        · show s.size - (t.add (mkBA r)).size < s.size - t.size; omega
  · have hend := loadF_end (s := s.data.toList) (t := t) (fun h => hin (by omega))
    refine hwJF ?_
    exact HX.end0E rfl fun w' hM => .inl ⟨(a1, c1, t), by rw [← hF, hend], rfl, hM⟩
end Go.Sx
/- Chapter 26: open, which recovers: the walk. -/
namespace Go.Sx
open Go Go.Proofs Go.RowKit
def jnR (bd : Nat) (br : Bool) : List Value := [.pointer (some ⟨bd, 0, none⟩), .bool br]
abbrev jnH (bj : Nat) (a : Option Addr) (c bd : Nat) (t : Tp) (br : Bool) (H : List Atom) : List Atom := A.blk bj (tpC a c t (jnR bd br)) 179 :: A.grow 9 1 a c t.recs.length (strs t.recs) :: H
def openP (w0 : World) (bd : Nat) (H : List Atom) (o : Option Tp) (v : Value) (w' : World) : Prop :=
  match o with
  | some t => ∃ z : Nat × Option Addr × Nat, v = .tuple #[.pointer (some ⟨z.1, 0, none⟩), zv 0] ∧ Mm w0 (jnH z.1 z.2.1 z.2.2 bd t false H) w'
  | none => v = .tuple #[.pointer none, zv 262] ∧ Mm w0 H w'
theorem res_cells2 {P : Program} {fn : Func} {N : Nat} {ds : List Deferred} {E : Env} {a : Act} {w : World} {p q : Nat} {t1 t2 : TypeId} {b4 b5 : Nat} {v1 v2 : Value} [h1 : ATy P t1 false] [h2 : ATy P t2 false] (hr : fn.results = #[.cell p t1, .cell q t2]) (ha : Rep N ds E a)
    (e1 : Env.g E p = some (.pointer (some ⟨b4, 0, none⟩))) (e2 : Env.g E q = some (.pointer (some ⟨b5, 0, none⟩))) (c1 : w.cell? ⟨b4, 0, none⟩ = some v1) (c2 : w.cell? ⟨b5, 0, none⟩ = some v2) :
    (results fn a.tmps).run P w = .ok (.tuple #[v1, v2]) w := by
  have g1 : a.tmps[p]?.getD undef = .pointer (some ⟨b4, 0, none⟩) := by rw [ha.get _ _ e1]; rfl
  have g2 : a.tmps[q]?.getD undef = .pointer (some ⟨b5, 0, none⟩) := by rw [ha.get _ _ e2]; rfl
  have l1 : (loadVar t1 ⟨b4, 0, none⟩).run P w = .ok v1 w := by
    simp only [loadVar, Sem.run_bind, run_isAgg]
    simp [Result.andThen, c1]
  have l2 : (loadVar t2 ⟨b5, 0, none⟩).run P w = .ok v2 w := by
    simp only [loadVar, Sem.run_bind, run_isAgg]
    simp [Result.andThen, c2]
  simp [results, hr, g1, g2, asAddr, l1, l2]
attribute [local irreducible] WC WL WX POp Then Again Fn NX W1 WA WO QL RP RA Yld LoopAt HC HL HX HN H1 HA HO HQ HB HP A.blk A.grow A.rd A.obj A.mp AgainH CutH
set_option maxHeartbeats 1000000 in
theorem open_all {w0 w : World} {H : List Atom} {ea : Addr} {bd : Nat} (s : ByteArray) (hG : RoundG w0) (hE : ErrG ea w0) (hM : Mm w0 H w) (hs : s.size ≤ 4194304) :
    Calls Tryz.prog 105 #[.pointer (some ⟨bd, 0, none⟩), .string s] w fun e w' => ∃ v, e = .returned v ∧ openP w0 bd H (loadF s.data.toList t00) v w' := by
  refine enterD (l := [_, _]) hM rfl Tryz.ntmps105 rfl ?_
  refine hwJF ?_
  refine HL.one (H1.alloc (cs := [.pointer none]) rfl rfl (fun b4 => ?_))
  refine hwJF ?_
  refine HL.one (H1.alloc (cs := [zv 0]) rfl rfl (fun b5 => ?_))
  refine hwJF ?_
  refine HL.defer (f := 158) (cap := [.pointer (some ⟨b4, 0, none⟩), .pointer (some ⟨b5, 0, none⟩)]) rfl ?_
  refine hwJF ?_
  refine HL.one (H1.make (l := 32) (c := 32) rfl rfl rfl rfl rfl (Nat.le_refl _) (by decide) (by decide) rfl (fun b8' => ?_))
  rw [ub_zero]
  refine hwJF ?_
  refine HL.one (H1.bstrB (ys := List.replicate 32 0) rfl memA rfl ?_)
  refine hwJF ?_
  refine HL.build (cs := [.slice none 0 0, .string zero32, zv 0]) rfl rfl rfl ?_
  refine hwJF ?_
  refine HL.build (cs := tpC none 0 t00 (jnR bd false)) rfl rfl rfl ?_
  refine hwJF ?_
  refine HL.one (H1.boxAgg (cs := tpC none 0 t00 (jnR bd false)) rfl rfl (fun bj => ?_))
  refine hwJF ?_
  refine HL.one (H1.st (b := b4) rfl rfl (by intro _ h; cases h) (by intro _ h; cases h) rplA (by exact Nat.zero_lt_one) ?_)
  refine hwJF ?_
  refine HL.grow0 9 1 ?_
  refine hwJF ?_
  refine HL.one (H1.callE (vs := [_, .string s]) rfl rfl (fun w' hM => load_fn (H := A.blk b4 [.pointer (some ⟨bj, 0, none⟩)] 82 :: A.blk b5 [zv 0] 28 :: H) s hG hE (hM.sub (Hs.cons (Pick.there Pick.here) (Hs.cons Pick.here (Hs.cons (Pick.there (Pick.there Pick.here)) (Hs.cons (Pick.there Pick.here) (Hs.refl _).skip))))) hs (Nat.zero_le _) (Nat.le_refl _) (by decide)) ?_ ?_)
  · rintro ⟨a1, c1, t⟩ hF
    dsimp only at hF ⊢
    rw [hF]
    refine hwJF ?_
    refine HL.one (H1.st rfl rfl (by intro _ h; cases h) (by intro _ h; cases h) rplA (by exact Nat.zero_lt_one) ?_)
    refine hwJF ?_
    refine HL.one (H1.st rfl rfl (by intro _ h; cases h) (by intro _ h; cases h) rplA (by exact Nat.zero_lt_one) ?_)
    refine hwJF ?_
    refine HX.door (u' := .returning) (R' := fun w w' => Ext w w') rfl (fun w hM => recover_no b4 b5) fun w1 w2 hM hx a ha => ?_
    have hM2 := hM.more hx
    exact ⟨.tuple #[.pointer (some ⟨bj, 0, none⟩), zv 0], res_cells2 rfl ha rfl rfl ((hM2.blk (b := b4) (e := 82) (.tail _ (.tail _ (.head _)))).cell rfl) ((hM2.blk (b := b5) (e := 28) (.tail _ (.tail _ (.tail _ (.head _))))).cell rfl), _, rfl, (bj, a1, c1), rfl,
      hM2.sub (Hs.cons Pick.here (Hs.cons Pick.here (Hs.refl _).skip.skip))⟩
  · rintro - hF
    rw [hF]
    repeat (first | apply HX.p_then | apply HX.p_block | apply HX.p_again)
    refine HX.doorP (ch := errP ea) (u' := .panicking (errQ ea)) (R' := fun _ w' => Mm w0 (A.blk b4 [.pointer none] 82 :: A.blk b5 [zv 262] 28 :: H) w') rfl (fun w hM => recover_yes b4 b5 hE hM) fun w1 w2 hM hM2 a ha => ?_
    exact ⟨.tuple #[.pointer none, zv 262], res_cells2 rfl ha rfl rfl ((hM2.blk (b := b4) (e := 82) (.head _)).cell rfl) ((hM2.blk (b := b5) (e := 28) (.tail _ (.head _))).cell rfl), _, rfl, rfl, hM2.tail.tail⟩
end Go.Sx
namespace Go.Sx
open Go Go.Proofs Go.RowKit
theorem open_fn {w0 w : World} {H : List Atom} {ea : Addr} {bd : Nat} (s : ByteArray) (hG : RoundG w0) (hE : ErrG ea w0) (hM : Mm w0 H w) (hs : s.size ≤ 4194304) :
    Fn Tryz.prog 105 #[.pointer (some ⟨bd, 0, none⟩), .string s] w fun v w' => openP w0 bd H (loadF s.data.toList t00) v w' := open_all s hG hE hM hs
end Go.Sx
/- Chapter 26: calls one after the other: the walks. -/
namespace Go.Sx
open Go Go.Proofs Go.RowKit
section
variable {P : Program} {r : Option Nat} {N : Nat} {ds : List Deferred} {ol rest : List Oper} {Q : Post} {E : Env} {w0 : World} {H : List Atom} {next : Act → World → Prop} {g : Option (Nat × Bool)}
variable {d : Option Nat} {ty : TypeId} {pos : String} {af : Array Edge} {x : Operand}
/-- A call of a function value, which may have arguments bound. -/
theorem H1.callvb {α : Type} {V : α → Value} {H' : α → List Atom} {I : α → Prop} {f : FuncId} {bd cap : List Value} {args : List Operand} {ats : Array TypeId} {vs : List Value}
    [hf : CallOk P f] (hd : dOk d N = true) (hx : Env.ev E x = some (.func (.func f) bd.toArray cap.toArray)) (ha : Env.evs E args = some vs) (hc : ∀ w, Mm w0 H w → Fn P f (bd ++ vs ++ cap).toArray w fun v w' => ∃ z, I z ∧ v = V z ∧ Mm w0 (H' z) w')
    (h : ∀ z, I z → HN N ds next (putE d (V z) E) w0 (H' z)) :
    H1 P r N ds next ⟨d, .call ⟨.value x, args.toArray, ats⟩, ty, pos, af, g⟩ Q E w0 H := fun w hM =>
  W1.enter hd (fun a hr => by
    have hm : Array.map a.eval args.toArray = vs.toArray := by simp [hr.evs ha]
    simp [execOp, resolve, hm, hr.ev hx, Deferred.ofValue, invoke, hf.run]) (hc w hM) (by
    rintro v w' ⟨z, hz, rfl, hn⟩; exact h z hz w' hn)
end
/-- A function value without arguments that does to the disk what o says. -/
def Opn (w0 : World) (bd b1 b2 : Nat) (H : List Atom) (fv : Value) (o : DOp) : Prop :=
  ∃ (f : FuncId) (bo cap : List Value), fv = .func (.func f) bo.toArray cap.toArray ∧ CallOk Tryz.prog f ∧ ∀ (k : Dk) (pa : Option Addr) (pc : Nat) (w : World), k.Ok → Mm w0 (dkH bd b1 b2 pa pc k H) w →
    Fn Tryz.prog f (bo ++ [] ++ cap).toArray w fun v w' => ∃ q : Option Addr × Nat, True ∧ v = zv (o.run k).1 ∧ Mm w0 (dkH bd b1 b2 q.1 q.2 (o.run k).2 H) w'
attribute [local irreducible] WC WL WX POp Then Again Fn NX W1 WA WO QL RP RA Yld LoopAt HC HL HX HN H1 HA HO HQ HB HP A.blk A.grow A.rd A.obj A.mp AgainH CutH
theorem opn_sync (w0 : World) (bd b1 b2 : Nat) (H : List Atom) : Opn w0 bd b1 b2 H (.func (.func 108) [.pointer (some ⟨bd, 0, none⟩)].toArray [].toArray) .sy :=
  ⟨108, [.pointer (some ⟨bd, 0, none⟩)], [], rfl, inferInstance, fun _ pa pc _ hk hM => (sync_fn hM hk).mono fun _ _ h => ⟨(pa, pc), trivial, h.1, h.2⟩⟩
theorem writing1_fn {w0 w : World} {H : List Atom} {bd b1 b2 pc bj c1 c2 c3 : Nat} {pa : Option Addr} {k : Dk} {off : Nat} {s : ByteArray} (hM : Mm w0 (dkH bd b1 b2 pa pc k H) w) (hk : k.Ok) (ho : off ≤ 5000000) (hs : s.size ≤ 5000000)
    {jc : List Value} (hj : A.blk bj jc 179 ∈ H) (hd : jc[3]? = some (.pointer (some ⟨bd, 0, none⟩))) (h1 : A.blk c1 [.pointer (some ⟨bj, 0, none⟩)] 82 ∈ H) (h2 : A.blk c2 [zv (off : Int)] 3 ∈ H) (h3 : A.blk c3 [.string s] 9 ∈ H) :
    Fn Tryz.prog 160 #[.pointer (some ⟨c1, 0, none⟩), .pointer (some ⟨c2, 0, none⟩), .pointer (some ⟨c3, 0, none⟩)] w fun v w' => ∃ q : Option Addr × Nat, True ∧ v = zv (k.write off s).1 ∧ Mm w0 (dkH bd b1 b2 q.1 q.2 (k.write off s).2 H) w' := by
  have m1 : ∀ {k' : Dk} {pa' : Option Addr} {pc' : Nat} {x : Atom}, x ∈ H → x ∈ dkH bd b1 b2 pa' pc' k' H := fun h => .tail _ (.tail _ (.tail _ (.tail _ h)))
  refine enterK (l := [_, _, _]) hM rfl Tryz.ntmps160 rfl ?_
  refine hwJF ?_
  refine HC.anyC ([(⟨c1, 0, none⟩, .pointer (some ⟨bj, 0, none⟩)), (⟨bj, 3, none⟩, .pointer (some ⟨bd, 0, none⟩)), (⟨c2, 0, none⟩, zv (off : Int)), (⟨c3, 0, none⟩, .string s)]) rfl ?_
  refine HB.ld 0 rfl rfl memD ?_
  refine HB.pa 1 rfl ?_ (POp.nilCheck rfl)
  refine HB.pa 2 rfl ?_
  refine HB.ld 3 rfl rfl memD ?_
  refine HB.ld 4 rfl rfl memD ?_
  refine HB.ld 5 rfl rfl memD ?_
  refine HB.all (by (exact Keep.blk (b := c1) (cs := [.pointer (some ⟨bj, 0, none⟩)]) (m1 h1) rfl (Keep.blk (b := bj) (m1 hj) hd (Keep.blk (b := c2) (cs := [zv (off : Int)]) (m1 h2) rfl (Keep.blk (b := c3) (cs := [.string s]) (m1 h3) rfl Keep.nil))))) [6] (by kernel_rfl) rfl ⟨⟨_, rfl, ?_⟩, trivial⟩
  refine HP.one ?_
  refine H1.callk (α := Option Addr × Nat) (V := fun _ => zv (k.write off s).1) (I := fun _ => True) (H' := fun q => dkH bd b1 b2 q.1 q.2 (k.write off s).2 H) (vs := [_, _, _]) rfl rfl (fun w' hM => write_fn off s hM hk ho hs) ?_
  rintro ⟨a', c'⟩ -
  dsimp only
  apply HB.fold
  refine HB.pa 7 rfl ?_
  refine HB.done (by (exact Keep.blk (b := c1) (cs := [.pointer (some ⟨bj, 0, none⟩)]) (m1 h1) rfl (Keep.blk (b := bj) (m1 hj) hd (Keep.blk (b := c2) (cs := [zv (off : Int)]) (m1 h2) rfl (Keep.blk (b := c3) (cs := [.string s]) (m1 h3) rfl Keep.nil))))) (by kernel_rfl) ?_
  refine hwJF ?_
  exact HX.ret1 rfl rfl fun w' hM => ⟨(a', c'), trivial, rfl, hM⟩
theorem opn_write {w0 : World} {H : List Atom} {bd b1 b2 bj c1 c2 c3 : Nat} {off : Nat} {s : ByteArray} (ho : off ≤ 5000000) (hs : s.size ≤ 5000000)
    {jc : List Value} (hj : A.blk bj jc 179 ∈ H) (hd : jc[3]? = some (.pointer (some ⟨bd, 0, none⟩))) (h1 : A.blk c1 [.pointer (some ⟨bj, 0, none⟩)] 82 ∈ H) (h2 : A.blk c2 [zv (off : Int)] 3 ∈ H) (h3 : A.blk c3 [.string s] 9 ∈ H) :
    Opn w0 bd b1 b2 H (.func (.func 160) [].toArray [.pointer (some ⟨c1, 0, none⟩), .pointer (some ⟨c2, 0, none⟩), .pointer (some ⟨c3, 0, none⟩)].toArray) (.wr off s) :=
  ⟨160, [], [.pointer (some ⟨c1, 0, none⟩), .pointer (some ⟨c2, 0, none⟩), .pointer (some ⟨c3, 0, none⟩)], rfl, inferInstance, fun _ _ _ _ hk hM => writing1_fn hM hk ho hs hj hd h1 h2 h3⟩
theorem writing_fn (bj off : Nat) (s : ByteArray) (w : World) : Fn Tryz.prog 107 #[.pointer (some ⟨bj, 0, none⟩), zv (off : Int), .string s] w fun v w' => ∃ z : Nat × Nat × Nat, True ∧
    v = .func (.func 160) #[] #[.pointer (some ⟨z.1, 0, none⟩), .pointer (some ⟨z.2.1, 0, none⟩), .pointer (some ⟨z.2.2, 0, none⟩)] ∧
    Mm w [A.blk z.1 [.pointer (some ⟨bj, 0, none⟩)] 82, A.blk z.2.1 [zv (off : Int)] 3, A.blk z.2.2 [.string s] 9] w' := by
  refine enterH (l := [_, _, _]) rfl Tryz.ntmps107 rfl ?_
  refine hwJF ?_
  refine HL.one (H1.box rfl rfl rfl (fun c1 => ?_))
  refine hwJF ?_
  refine HL.one (H1.box rfl rfl rfl (fun c2 => ?_))
  refine hwJF ?_
  refine HL.one (H1.box rfl rfl rfl (fun c3 => ?_))
  refine hwJF ?_
  exact HX.ret1 rfl rfl fun w' hM => ⟨(c1, c2, c3), trivial, rfl, hM.sub (by repeat (first | exact Hs.nil _ | (refine Hs.cons pickA ?_)))⟩
theorem first_fn {w0 w : World} {H : List Atom} {bd b1 b2 pc bl : Nat} {pa : Option Addr} {k : Dk} {fvs : List Value} {ops : List DOp} (hM : Mm w0 (dkH bd b1 b2 pa pc k H) w) (hl : fvs.length = ops.length) (hbl : A.blk bl fvs 103 ∈ H)
    (hops : ∀ (i : Nat) (fv : Value) (o : DOp), fvs[i]? = some fv → ops[i]? = some o → Opn w0 bd b1 b2 H fv o) (hk : k.Ok) (hp : k.pend.length + ops.length ≤ 10000) (hn : ops.length ≤ 100) :
    Fn Tryz.prog 106 #[.slice (some ⟨bl, 0, none⟩) ops.length ops.length] w fun v w' => ∃ q : Option Addr × Nat, True ∧ v = zv (runOps ops k).1 ∧ Mm w0 (dkH bd b1 b2 q.1 q.2 (runOps ops k).2 H) w' := by
  refine enterK (l := [_]) hM rfl Tryz.ntmps106 rfl ?_
  refine hwJF ?_
  refine HC.loop (α := Nat × Option Addr × Nat × Dk) (fun z => [(6, .slice (some ⟨bl, 0, none⟩) ops.length ops.length), (7, zv (ops.length : Int)), (8, zv (z.1 : Int))]) (fun z => dkH bd b1 b2 z.2.1 z.2.2.1 z.2.2.2 H)
    (fun z => z.1 ≤ ops.length ∧ runOps (ops.drop z.1) z.2.2.2 = runOps ops k ∧ z.2.2.2.Ok ∧ z.2.2.2.pend.length + (ops.length - z.1) ≤ 10000) (fun z => ops.length - z.1) (0, pa, pc, k) ⟨Nat.zero_le _, rfl, hk, by omega⟩ esA (Hs.refl _) ?_
  rintro ⟨i, a1, c1, k1⟩ ⟨hi, hrun, hk1, hp1⟩
  dsimp only at hi hrun hk1 hp1 ⊢
  by_cases hlt : i < ops.length
  · obtain ⟨o, ho⟩ : ∃ o, ops[i]? = some o := ⟨_, List.getElem?_eq_getElem hlt⟩
    obtain ⟨fv, hfv⟩ : ∃ fv, fvs[i]? = some fv := ⟨_, List.getElem?_eq_getElem (by omega)⟩
    obtain ⟨f, bo, cap, rfl, hcf, hcall⟩ := hops i fv o hfv ho
    have hdr : ops.drop i = o :: ops.drop (i + 1) := by
      rw [List.drop_eq_getElem_cons hlt]
      congr 1
      rw [List.getElem?_eq_getElem hlt] at ho
      exact Option.some.inj ho
    rw [hdr] at hrun
    refine hwJF ?_
    refine HL.one (H1.ldb (b := bl) (v := .func (.func f) bo.toArray cap.toArray) rfl (.tail _ (.tail _ (.tail _ (.tail _ hbl)))) hfv rfl ?_)
    refine hwJF ?_
    refine HL.one (H1.callvb (hf := hcf) (α := Option Addr × Nat) (V := fun _ => zv (o.run k1).1) (I := fun _ => True) (H' := fun q => dkH bd b1 b2 q.1 q.2 (o.run k1).2 H) (f := f) (bd := bo) (cap := cap) (vs := []) rfl rfl rfl (fun w' hM => hcall k1 a1 c1 w' hk1 hM) ?_)
    rintro ⟨a2, c2⟩ -
    dsimp only
    by_cases h0 : (o.run k1).1 = 0
    · rw [runOps_ok h0] at hrun
      have hpl := (o.run_len k1 hk1.len).2.2.2
      refine hwJF ?_
      exact HX.again (i + 1, a2, c2, (o.run k1).2) ⟨hlt, hrun, o.run_ok hk1 (by omega), by show (o.run k1).2.pend.length + (ops.length - (i + 1)) ≤ _; omega⟩ (by show ops.length - (i + 1) < ops.length - i; omega) esA (Hs.refl _)
    · rw [runOps_no h0] at hrun
      refine hwJF ?_
      exact HX.ret1 rfl rfl fun w' hM => ⟨(a2, c2), trivial, by rw [← hrun], by rw [← hrun]; exact hM⟩
  · obtain rfl : i = ops.length := by omega
    rw [List.drop_length] at hrun
    refine hwJF ?_
    exact HX.ret1 rfl rfl fun w' hM => ⟨(a1, c1), trivial, by rw [← hrun]; rfl, by rw [← hrun]; exact hM⟩
end Go.Sx
/- Chapter 20: strings.Builder inside of the writer; put. -/
namespace Go.Sx
open Go Go.Proofs Go.RowKit
theorem hwXJ {G G2 : Prop} (x : G2) (hwq : Hold G2 → G := by
    intro hQq
    repeat' (first | apply HL.fold | apply HA.fold | apply HL.nil | apply HX.n_then | apply HC.seq | apply HC.region | refine HL.pa ?_ | refine HL.ga rfl ?_ | refine HL.na rfl ?_ | refine HL.nu rfl rfl ?_ | apply HC.block | apply HC.skip | apply HC.exit | apply HC.ret | apply HX.e_block | refine HX.e_other rfl ?_ | apply HX.e_then | apply HX.e_again | apply HX.n_block | apply HX.r_then | apply HX.r_block | apply HX.r_again | refine HC.cond_yes rfl ?_ | refine HC.cond_no rfl ?_ | refine HL.one (H1.ldb rfl memA rfl rfl ?_) | refine HC.cond rfl (fun hc => ?_) (fun hc => ?_) | refine HC.cond_b rfl (fun hc => ?_) (fun hc => ?_))
    exact hQq.get) : G := hwq ⟨x⟩
section
variable {P : Program} {r : Option Nat} {N : Nat} {ds : List Deferred} {Q : Post} {E : Env} {w0 : World} {H : List Atom} {next : Act → World → Prop} {g : Option (Nat × Bool)}
variable {d : Nat} {t t' ty e : TypeId} {pos : String} {af : Array Edge} {x y : Operand}
theorem POp.pneq {a : Addr} {z : Value} {n bb : Nat} [h : UTy P t (.pointer e)] [hi : ITy P e z n bb] (hx : Env.ev E x = some (.pointer (some a))) (hy : Env.ev E y = some (.pointer (some a))) : POp P N ds E (.binOp .neq t x y t') ty (.bool false) :=
  POp.bin hx hy (fun w => by rw [eqGuard_at_pointer]; rfl) fun w => by
    obtain ⟨i, hi1, -⟩ := hi.parts
    exact Lib.run_neq_ptr_same w a h.is hi1
theorem H1.toUnsafe {src dst u eb : TypeId} {b n bb : Nat} {cs : List Value} {z : Value} [h1 : UTy P src (.pointer u)] [h2 : UTy P dst .unsafePointer] [h3 : ITy P u z n bb] (hx : Env.ev E x = some (.pointer (some ⟨b, 0, none⟩))) (hm : A.blk b cs eb ∈ H)
    (hn : Nat.beq n 0 = false) (hc : 0 < cs.length) (hd : Nat.blt d N = true) (h : HN N ds next ((d, .pointer (some ⟨b, 0, none⟩)) :: E) w0 H) : H1 P r N ds next ⟨some d, .convert src dst x, ty, pos, af, g⟩ Q E w0 H := fun w hM =>
  W1.run (fun a ha => by
    obtain ⟨i, hi1, -, hi3, -⟩ := h3.parts
    have hb : w.heap[b]? = some (.cells cs.toArray eb (0, 0)) := hM.blk hm
    have := Lib.run_to_unsafe w ⟨b, 0, none⟩ h1.is h2.is hi1 (by rw [hi3]; intro e; subst e; cases hn) (show w.shape? b = some (eb, cs.length) by simp [World.shape?, hb]) hc
    simp only [execOp, ha.ev hx, Sem.run_bind, this, Result.andThen, Sem.run_pure]) rfl hd (h w hM)
theorem H1.fromUnsafe {src dst u eb : TypeId} {b n bb : Nat} {cs : List Value} {z : Value} [h1 : UTy P src .unsafePointer] [h2 : UTy P dst (.pointer u)] [h3 : ITy P u z n bb] (hx : Env.ev E x = some (.pointer (some ⟨b, 0, none⟩))) (hm : A.blk b cs eb ∈ H)
    (hl : liesAt P P.depth eb (cs.length / P.cellsOf eb) 0 u 1 = true) (hd : Nat.blt d N = true) (h : HN N ds next ((d, .pointer (some ⟨b, 0, none⟩)) :: E) w0 H) : H1 P r N ds next ⟨some d, .convert src dst x, ty, pos, af, g⟩ Q E w0 H := fun w hM =>
  W1.run (fun a ha => by
    obtain ⟨i, hi1, -, hi3, -⟩ := h3.parts
    have hb : w.heap[b]? = some (.cells cs.toArray eb (0, 0)) := hM.blk hm
    have := Lib.run_from_unsafe w ⟨b, 0, none⟩ h1.is h2.is hi1 (show w.shape? b = some (eb, cs.length) by simp [World.shape?, hb]) hl
    simp only [execOp, ha.ev hx, Sem.run_bind, this, Result.andThen, Sem.run_pure]) rfl hd (h w hM)
theorem H1.noEscape {f : FuncId} {fn : Func} {v : Value} {ats : Array TypeId} (hf : P.funcs[f]? = some fn) (hname : (fn.name == "runtime.NumGoroutine") = false) (hb : fn.body.isNone = true) (hn : Extern.findNext fn = none) (he : Extern.find fn = some Extern.AbiNoEscape.same)
    (hx : Env.ev E x = some v) (hd : Nat.blt d N = true) (h : HN N ds next ((d, v) :: E) w0 H) : H1 P r N ds next ⟨some d, .call ⟨.value (.func f), #[x], ats⟩, ty, pos, af, g⟩ Q E w0 H := fun w hM =>
  W1.run (fun a ha => by
    have h1 := run_callFunc_extern hf hname hb hn he #[v] w
    rw [Lib.run_noEscape] at h1
    have h2 := ha.ev hx
    show ((resolve a.eval ⟨.value (.func f), #[x], ats⟩ ty) >>= fun df => invoke df.target df.args).run P w = _
    simp only [resolve, List.map_toArray, List.map_cons, List.map_nil, h2]
    exact h1) rfl hd (h w hM)
theorem run_append_str2 {w : World} {u : TypeId} (i : TypeInfo) (ht : P.underlying t = some (.slice e)) (hu : P.underlying u = some .string) (hi : P.info? e = some i) (hz : i.zero = some (.int .u8 0)) (hsize : i.size = 1) (hby : i.bytes = 1)
    (v : Value) (n : Nat) (xs : List Value) (hown : w.ownsRow 0 e 1 v n xs) (s : ByteArray) (h6 : n + s.size ≤ 1000000) :
    ∃ a' c' w', (Builtin.append_ #[t, u] ty #[v, .string s]).run P w = .ok (.slice a' (n + s.size) c') w' ∧ w'.ownsRow 0 e 1 (.slice a' (n + s.size) c') (n + s.size) (xs ++ Lib.strCells s) ∧ w.grownBy w' v.ownBlock ∧
      (∀ b, (Value.slice a' (n + s.size) c').ownBlock = some b → v.ownBlock = some b ∨ w.heap.size ≤ b) := by
  have h63 : n + s.size ≤ maxLen := by simp only [maxLen]; omega
  have h48 : n + s.size ≤ 140737488355328 := by omega
  obtain ⟨v', w', hr, h2, h3, -⟩ := Lib.run_append_own_string (P := P) (w := w) 0 t u ty e i ht hu hi hz hsize hby v n xs hown s h63 h48 (Nat.zero_le _)
  have hnew : ∀ b, v'.ownBlock = some b → v.ownBlock = some b ∨ w.heap.size ≤ b := by
    intro b hb
    rcases hown.2 with ⟨rfl, rfl⟩ | ⟨g, cap, cur, rfl, hbg, hg, hnc, hcm, hcs, htake⟩
    · have hx : xs = [] := List.eq_nil_of_length_eq_zero (by simpa using hown.1)
      subst hx
      obtain ⟨v'', w'', hr', h2', -, -⟩ := Lib.run_append_own_string (P := P) (w := w) w.heap.size t u ty e i ht hu hi hz hsize hby _ 0 [] (World.ownsRow_nil w w.heap.size e 1) s h63 h48 (Nat.le_refl _)
      rw [hr] at hr'
      cases hr'
      exact .inr (h2'.lt b hb).1
    · by_cases hroom : n + s.size ≤ cap
      · have hr' := Lib.run_append_room_string (P := P) (w := w) t u ty e i ht hu hi hsize g n cap cur hg s hroom (by omega)
        rw [hr] at hr'
        cases hr'
        exact .inl hb
      · have holds : ∀ j u, xs[j]? = some u → w.cell? ((⟨g, 0, none⟩ : Addr).add j) = some u := hown.cells (g := g) rfl
        have hr' := Lib.run_append_grow_string (P := P) (w := w) t u ty e i (.int .u8 0) ht hu hi hz ⟨g, 0, none⟩ n cap xs (by rw [hown.1, hsize]) holds s (by omega) (by omega) (growslice_fits (by omega) (by rw [hby]; omega))
        rw [hr] at hr'
        cases hr'
        right
        simp only [Value.ownBlock, Option.some.injEq] at hb
        subst hb
        simp
  rcases h2.2 with ⟨rfl, h0⟩ | ⟨g, cap, cur, rfl, hbg, hg, hnc, hcm, hcs, htake⟩
  · refine ⟨none, 0, w', ?_, ?_, h3, ?_⟩ <;> rw [h0]
    · exact hr
    · rwa [h0] at h2
    · exact hnew
  · exact ⟨_, cap, w', hr, h2, h3, hnew⟩
theorem ub_str (ys : List UInt8) (s : ByteArray) : ub ys ++ Lib.strCells s = ub (ys ++ s.data.toList) := by
  unfold ub
  rw [List.map_append]; rfl
theorem str_len (ys : List UInt8) (s : ByteArray) : (ys ++ s.data.toList).length = ys.length + s.size := by
  rw [List.length_append, Array.length_toList]; rfl
/-- append of a string, onto a slice of the call's own. -/
theorem H1.appS {u : TypeId} {c : Nat} {a : Option Addr} {ys : List UInt8} {s : ByteArray} {H' : Option Addr → Nat → List Atom} [h : UTy P t (.slice e)] [h2 : UTy P u .string] [hi : ITy P e (.int .u8 0) 1 1]
    (hx : Env.ev E x = some (.slice a ys.length c)) (hy : Env.ev E y = some (.string s)) (hr : ∀ a' c', Rpl (A.grow e 1 a c ys.length (ub ys)) (A.grow e 1 a' c' (ys ++ s.data.toList).length (ub (ys ++ s.data.toList))) H (H' a' c'))
    (hnm : ys.length + s.size ≤ 1000000) (hd : Nat.blt d N = true)
    (hn : ∀ a' c', HN N ds next ((d, .slice a' (ys ++ s.data.toList).length c') :: E) w0 (H' a' c')) :
    H1 P r N ds next ⟨some d, .call ⟨.builtin .append, #[x, y], #[t, u]⟩, ty, pos, af, g⟩ Q E w0 H := fun w hM => by
  obtain ⟨i, hi1, hi2, hi3, hi4⟩ := hi.parts
  obtain ⟨a', c', w', hrun, h3, h4, h5⟩ := run_append_str2 (P := P) (ty := ty) (w := w) i h.is h2.is hi1 hi2 hi3 hi4 (.slice a ys.length c) ys.length (ub ys) (hM.own (hr none 0).mem) s hnm
  rw [ub_str, ← str_len] at h3
  rw [← str_len] at hrun h5
  refine W1.run (v := .slice a' (ys ++ s.data.toList).length c') (w' := w') (fun b ha => ?_) rfl hd (hn a' c' w' (hM.turn (hr a' c') h4.os h4.tape h4.output h4.size (fun k hk hk' => h4.block k hk fun e => hk' (by simp [A.grow, ← e])) h3 ?_ fun b hb => ?_))
  · simp only [execOp, resolve, invoke, Go.builtin, Sem.run_bind, Sem.run_pure, Result.andThen, List.map_toArray, List.map_cons, List.map_nil, ha.ev hx, ha.ev hy, hrun]
  · show (Option.toList _).Nodup
    cases (Value.slice a' (ys ++ s.data.toList).length c').ownBlock <;> simp
  · have hb' : (Value.slice a' (ys ++ s.data.toList).length c').ownBlock = some b := by simpa [A.grow] using hb
    rcases h5 b hb' with h6 | h6
    · left; simp only [A.grow, h6]; simp
    · exact .inr ⟨h6, (h3.lt b hb').2⟩
theorem POp.sliceData {b n c : Nat} {ats : Array TypeId} (hx : Env.ev E x = some (.slice (some ⟨b, 0, none⟩) n c)) (hc : c ≠ 0) : POp P N ds E (.call ⟨.builtin .unsafeSliceData, #[x], ats⟩) ty (.pointer (some ⟨b, 0, none⟩)) := fun a ha d pos af g w => by
  have h1 : (Builtin.unsafeSliceData_ ats ty #[.slice (some ⟨b, 0, none⟩) n c]).run P w = .ok (.pointer (some ⟨b, 0, none⟩)) w := Lib.run_unsafeSliceData_row _ _ _ _ _ _ hc
  simp only [execOp, resolve, invoke, Go.builtin, Sem.run_bind, Sem.run_pure, Result.andThen, List.map_toArray, List.map_cons, List.map_nil, ha.ev hx, h1]
theorem POp.sliceDataN {ty : TypeId} {x : Operand} {n c : Nat} {ats : Array TypeId} (hx : Env.ev E x = some (.slice none n c)) : POp P N ds E (.call ⟨.builtin .unsafeSliceData, #[x], ats⟩) ty (.pointer none) := fun a ha d pos af g w => by
  have h1 : (Builtin.unsafeSliceData_ ats ty #[.slice none n c]).run P w = .ok (.pointer none) w := Lib.run_unsafeSliceData_nil ..
  simp only [execOp, resolve, invoke, Go.builtin, Sem.run_bind, Sem.run_pure, Result.andThen, List.map_toArray, List.map_cons, List.map_nil, ha.ev hx, h1]
theorem POp.unsafeStr0 {ty pt it : TypeId} {x y : Operand} {p : Option Addr} (hx : Env.ev E x = some (.pointer p)) (hy : Env.ev E y = some (zv 0)) : POp P N ds E (.call ⟨.builtin .unsafeString, #[x, y], #[pt, it]⟩) ty (.string (ByteArray.mk #[])) := fun a ha d pos af g w => by
  have h1 : (Builtin.unsafeString_ #[pt, it] ty #[.pointer p, .int .i64 0]).run P w = .ok (.string .empty) w := Lib.run_unsafeString_none ..
  simp only [execOp, resolve, invoke, Go.builtin, Sem.run_bind, Sem.run_pure, Result.andThen, List.map_toArray, List.map_cons, List.map_nil, ha.ev hx, ha.ev hy, h1]
  rfl
theorem HC.capOfG {co : Code} {n c : Nat} {a : Option Addr} {xs : List Value} (hm : A.grow e 1 a c n xs ∈ H) (h : n ≤ c → HC P r N ds co Q E w0 H) : HC P r N ds co Q E w0 H := fun w hM => by
  refine h ?_ w hM
  rcases (hM.own hm).2 with ⟨h1, rfl⟩ | ⟨g, cap, cur, hv, -, -, hnc, -⟩
  · exact Nat.zero_le _
  · cases hv; exact hnc
theorem H1.unsafeStr {pt it : TypeId} {b c : Nat} {ys : List UInt8} {H' : List Atom} [hp : UTy P pt (.pointer e)] (hc : P.cellsOf e = 1) (hx : Env.ev E x = some (.pointer (some ⟨b, 0, none⟩))) (hy : Env.ev E y = some (zv (ys.length : Int))) (h0 : ys ≠ [])
    (hm : Pick (A.grow e 1 (some ⟨b, 0, none⟩) c ys.length (ub ys)) H H') (hd : Nat.blt d N = true) (hn : HN N ds next ((d, .string ⟨ys.toArray⟩) :: E) w0 H') :
    H1 P r N ds next ⟨some d, .call ⟨.builtin .unsafeString, #[x, y], #[pt, it]⟩, ty, pos, af, g⟩ Q E w0 H := fun w hM => by
  have hM2 := hM.perm hm.perm
  have hown := hM2.own (List.Mem.head _)
  obtain ⟨g', cap, cur, hv, -, hg, hnc, hcm, hcs, htake⟩ : ∃ g' cap cur, (Value.slice (some ⟨b, 0, none⟩) ys.length c) = .slice (some ⟨g', 0, none⟩) ys.length cap ∧ 0 ≤ g' ∧ w.heap[g']? = some (.cells cur e (0, 0)) ∧ ys.length ≤ cap ∧ cap ≤ maxLen ∧ cur.size = cap * 1 ∧ cur.toList.take (ys.length * 1) = ub ys := by
    rcases hown.2 with ⟨hv, -⟩ | h
    · cases hv
    · exact h
  cases hv
  have hrun := Lib.run_unsafeString_row (P := P) w pt it ty e hp.is hc b cur.size (by simp [World.shape?, hg]) ys h0 (by omega) (by simp only [maxLen] at hcm; omega) (fun j x hx => by
    rw [add_lit, Nat.zero_add]
    exact ownsRow_cell hown (by simp [ub, hx]))
  refine W1.run (v := .string ⟨ys.toArray⟩) (w' := w.freeze ⟨b, 0, none⟩ ys.length) (fun a ha => ?_) rfl hd (hn _ (hM2.drop1 (l := b) rfl ?_))
  · simp only [execOp, resolve, invoke, Go.builtin, Sem.run_bind, Sem.run_pure, Result.andThen, List.map_toArray, List.map_cons, List.map_nil, ha.ev hx, ha.ev hy, hrun]
  · unfold World.freeze
    by_cases hz : ys.length = 0
    · rw [if_pos hz]; exact ⟨rfl, rfl, rfl, rfl, fun _ _ => rfl⟩
    · rw [if_neg hz]
      refine ⟨rfl, rfl, rfl, by simp, fun k hk => ?_⟩
      simp only [Array.getElem?_modify]
      rw [if_neg (fun e => hk e.symm)]
end
def putL (l : List Int) : List UInt8 := (l.map fun n => putN n.toNat).flatten
abbrev bldH (b : Nat) (p : Option Addr) (a : Option Addr) (c : Nat) (ys : List UInt8) (H : List Atom) : List Atom := A.blk b [.pointer p, .slice a ys.length c] 205 :: A.grow 5 1 a c ys.length (ub ys) :: H
attribute [local irreducible] WC WL WX POp Then Again Fn NX W1 WA WO QL RP RA Yld LoopAt HC HL HX HN H1 HA HO HQ HB HP A.blk A.grow A.rd A.obj A.mp AgainH CutH
theorem copyCheck_fn {w0 w : World} {H : List Atom} {b : Nat} {p : Option Addr} {s : Value} (hM : Mm w0 (A.blk b [.pointer p, s] 205 :: H) w) (hp : p = none ∨ p = some ⟨b, 0, none⟩) :
    Fn Tryz.prog 170 #[.pointer (some ⟨b, 0, none⟩)] w fun v w' => v = .tuple #[] ∧ Mm w0 (A.blk b [.pointer (some ⟨b, 0, none⟩), s] 205 :: H) w' := by
  refine enterK (l := [_]) hM rfl Tryz.ntmps170 rfl ?_
  rcases hp with rfl | rfl
  · refine hwXJ ?_
    refine HL.pa ?_ (POp.nilCheck rfl)
    refine hwXJ ?_
    refine HL.pa ?_ (POp.pnil1 rfl rfl)
    refine hwXJ ?_
    refine HL.one (H1.toUnsafe (cs := [.pointer none, s]) rfl memA rfl (Nat.zero_lt_succ 1) rfl ?_)
    refine hwXJ ?_
    refine HL.one (H1.noEscape Tryz.func204 (by kernel_rfl) (by kernel_rfl) (by kernel_rfl) (by kernel_rfl) rfl rfl ?_)
    refine hwXJ ?_
    refine HL.one (H1.fromUnsafe (cs := [.pointer none, s]) rfl memA (by kernel_rfl) rfl ?_)
    refine hwXJ ?_
    refine HL.pa ?_ (POp.nilCheck rfl)
    refine hwXJ ?_
    refine HL.one (H1.st rfl rfl (by intro _ h; cases h) (by intro _ h; cases h) rplA (by simp) ?_)
    refine hwXJ ?_
    exact HX.end0 rfl fun w' hM => ⟨rfl, hM⟩
  · refine hwXJ ?_
    refine HL.pa ?_ (POp.nilCheck rfl)
    refine hwXJ ?_
    refine HL.pa ?_ (POp.pnil0 rfl rfl)
    refine hwXJ ?_
    refine HL.pa ?_ (POp.nilCheck rfl)
    refine hwXJ ?_
    refine HL.pa ?_ (POp.pneq rfl rfl)
    refine hwXJ ?_
    exact HX.end0 rfl fun w' hM => ⟨rfl, hM⟩
theorem writeString_fn {w0 w : World} {H : List Atom} {b c : Nat} {p a : Option Addr} {ys : List UInt8} (s : ByteArray) (hM : Mm w0 (bldH b p a c ys H) w) (hp : p = none ∨ p = some ⟨b, 0, none⟩) (hs : ys.length + s.size ≤ 1000000) :
    Fn Tryz.prog 132 #[.pointer (some ⟨b, 0, none⟩), .string s] w fun v w' => ∃ q : Option Addr × Nat, True ∧ v = .tuple #[zv (s.size : Int), .nilIface] ∧ Mm w0 (bldH b (some ⟨b, 0, none⟩) q.1 q.2 (ys ++ s.data.toList) H) w' := by
  refine enterK (l := [_, _]) hM rfl Tryz.ntmps132 rfl ?_
  refine hwXJ ?_
  refine HL.one (H1.callk (α := Unit) (V := fun _ => .tuple #[]) (I := fun _ => True) (H' := fun _ => bldH b (some ⟨b, 0, none⟩) a c ys H) (vs := [.pointer (some ⟨b, 0, none⟩)]) rfl rfl (fun w' hM => (copyCheck_fn hM hp).mono fun v w' h => ⟨(), trivial, h⟩) ?_)
  rintro - -
  refine hwXJ ?_
  refine HL.pa ?_ (POp.nilCheck rfl)
  refine hwXJ ?_
  refine HL.one (H1.appS rfl rfl (fun _ _ => by first | ((repeat (first | with_reducible exact Rpl.here | with_reducible apply Rpl.there)); done) | (repeat (first | exact Rpl.here | apply Rpl.there))) hs rfl (fun a' c' => ?_))
  refine hwXJ ?_
  refine HL.pa ?_ (POp.nilCheck rfl)
  refine hwXJ ?_
  refine HL.one (H1.st rfl rfl (by intro _ h; cases h) (by intro _ h; cases h) rplA (by simp) ?_)
  refine hwXJ ?_
  exact HX.ret2 rfl rfl rfl fun w' hM => ⟨(a', c'), trivial, rfl, hM⟩
set_option maxHeartbeats 1000000 in
theorem builderString_fn {w0 w : World} {H : List Atom} {b c : Nat} {p a : Option Addr} {ys : List UInt8} (hM : Mm w0 (bldH b p a c ys H) w) (h0 : ys ≠ []) :
    Fn Tryz.prog 134 #[.pointer (some ⟨b, 0, none⟩)] w fun v w' => v = .string ⟨ys.toArray⟩ ∧ Mm w0 H w' := by
  have hne : ys.length ≠ 0 := by simpa using h0
  refine enterK (l := [_]) hM rfl Tryz.ntmps134 rfl ?_
  refine HC.openg (e := 5) (a := a) (xs := ub ys) memA hne ?_
  rintro g rfl
  refine hwXJ ?_
  refine HC.capOfG (e := 5) (xs := ub ys) memA fun hcap => ?_
  have hc0 : c ≠ 0 := by omega
  refine HC.anyC ([(⟨b, 1, none⟩, .slice (some ⟨g, 0, none⟩) ys.length c)]) rfl ?_
  refine HB.pa 0 rfl ?_
  refine HB.pa 1 rfl ?_ (POp.nilCheck rfl)
  refine HB.pa 2 rfl ?_
  refine HB.ld 3 rfl rfl memD ?_
  refine HB.pa 4 rfl ?_ (POp.sliceData rfl hc0)
  refine HB.pa 5 rfl ?_
  refine HB.pa 6 rfl ?_ (POp.nilCheck rfl)
  refine HB.pa 7 rfl ?_
  refine HB.ld 8 rfl rfl memD ?_
  refine HB.pa 9 rfl ?_
  refine HB.all (by repeat (first | exact Keep.nil | refine Keep.blk (by (repeat (first | exact List.Mem.head _ | apply List.Mem.tail)); done) rfl ?_ | refine Keep.grow (by (repeat (first | exact List.Mem.head _ | apply List.Mem.tail)); done) (by assumption) ?_ | refine Keep.base (by assumption) ?_)) [10] (by kernel_rfl) rfl ⟨⟨_, rfl, ?_⟩, trivial⟩
  refine HP.one ?_
  refine H1.unsafeStr (b := g) (c := c) (ys := ys) (by kernel_rfl) rfl rfl h0 (Pick.there Pick.here) rfl ?_
  apply HB.fold
  refine HB.pa 11 rfl ?_
  refine HB.done (by repeat (first | exact Keep.nil | refine Keep.blk (by (repeat (first | exact List.Mem.head _ | apply List.Mem.tail)); done) rfl ?_ | refine Keep.grow (by (repeat (first | exact List.Mem.head _ | apply List.Mem.tail)); done) (by assumption) ?_ | refine Keep.base (by assumption) ?_)) (by kernel_rfl) ?_
  refine hwXJ ?_
  exact HX.ret1 rfl rfl fun w' hM => ⟨rfl, hM.tail⟩
/-- Nothing was written. -/
theorem builderString_nil {w0 w : World} {H : List Atom} {b : Nat} {p : Option Addr} (hM : Mm w0 (bldH b p none 0 [] H) w) :
    Fn Tryz.prog 134 #[.pointer (some ⟨b, 0, none⟩)] w fun v w' => v = .string (ByteArray.mk #[]) ∧ Mm w0 H w' := by
  refine enterK (l := [_]) hM rfl Tryz.ntmps134 rfl ?_
  refine hwXJ ?_
  refine HC.anyC ([(⟨b, 1, none⟩, .slice none 0 0)]) rfl ?_
  refine HB.pa 0 rfl ?_
  refine HB.pa 1 rfl ?_ (POp.nilCheck rfl)
  refine HB.pa 2 rfl ?_
  refine HB.ld 3 rfl rfl memD ?_
  refine HB.pa 4 rfl ?_ (POp.sliceDataN rfl)
  refine HB.pa 5 rfl ?_
  refine HB.pa 6 rfl ?_ (POp.nilCheck rfl)
  refine HB.pa 7 rfl ?_
  refine HB.ld 8 rfl rfl memD ?_
  refine HB.pa 9 rfl ?_
  refine HB.pa 10 rfl ?_ (POp.unsafeStr0 rfl rfl)
  refine HB.pa 11 rfl ?_
  refine HB.done (by repeat (first | exact Keep.nil | refine Keep.blk (by (repeat (first | exact List.Mem.head _ | apply List.Mem.tail)); done) rfl ?_ | refine Keep.grow (by (repeat (first | exact List.Mem.head _ | apply List.Mem.tail)); done) (by assumption) ?_ | refine Keep.base (by assumption) ?_)) (by kernel_rfl) ?_
  refine hwXJ ?_
  exact HX.ret1 rfl rfl fun w' hM => ⟨rfl, hM.tail.tail⟩
end Go.Sx
/- Chapter 26: Open, Room, Records: the walks. -/
namespace Go.Sx
open Go Go.Proofs Go.RowKit
theorem hwJI {G G2 : Prop} (x : G2) (hwq : Hold G2 → G := by
    intro hQq
    repeat' (first | refine HL.pa ?_ (POp.pnil1 rfl rfl) | refine HL.pa ?_ (POp.pnil0 rfl rfl) | refine HL.pa ?_ (POp.nilCheck rfl) | apply HL.fold | apply HA.fold | apply HL.nil | apply HX.n_then | apply HC.seq | apply HC.region | refine HL.pa ?_ | refine HL.ga rfl ?_ | refine HL.na rfl ?_ | refine HL.nu rfl rfl ?_ | apply HC.block | apply HC.skip | apply HC.exit | apply HC.ret | apply HX.e_block | refine HX.e_other rfl ?_ | apply HX.e_then | apply HX.e_again | apply HX.n_block | apply HX.r_then | apply HX.r_block | apply HX.r_again | refine HC.cond_yes rfl ?_ | refine HC.cond_no rfl ?_ | refine HL.one (H1.ldb rfl memA rfl rfl ?_) | refine HC.cond rfl (fun hc => ?_) (fun hc => ?_) | refine HC.cond_b rfl (fun hc => ?_) (fun hc => ?_))
    exact hQq.get) : G := hwq ⟨x⟩
/-- A journal on its disk. -/
abbrev jnlH (bj bd b1 b2 : Nat) (a : Option Addr) (c : Nat) (pa : Option Addr) (pc : Nat) (j : Jn) (H : List Atom) : List Atom :=
  A.blk bj (tpC a c j.t (jnR bd j.br)) 179 :: A.grow 9 1 a c j.t.recs.length (strs j.t.recs) :: dkH bd b1 b2 pa pc j.k H
def openP2 (w0 : World) (bd b1 b2 : Nat) (H : List Atom) (r : Int × Dk × Option Tp) (v : Value) (w' : World) : Prop :=
  match r.2.2 with
  | some t => ∃ z : Nat × (Option Addr × Nat) × (Option Addr × Nat), v = .tuple #[.pointer (some ⟨z.1, 0, none⟩), zv 0] ∧ Mm w0 (jnlH z.1 bd b1 b2 z.2.1.1 z.2.1.2 z.2.2.1 z.2.2.2 ⟨t, r.2.1, false⟩ H) w'
  | none => ∃ q : Option Addr × Nat, v = .tuple #[.pointer none, zv r.1] ∧ Mm w0 (dkH bd b1 b2 q.1 q.2 r.2.1 H) w'
theorem trimZ_fn (s : ByteArray) (w : World) (hs : s.size ≤ 5000000) :
    Fn Tryz.prog 87 #[.string s, .string (ByteArray.mk #[0])] w fun v w' => v = .string ⟨(Lib.trimB s.data.toList 0).toArray⟩ ∧ Ext w w' := by
  refine Calls.mono (Tryz.strings_Trim_one s 0 (by decide) w (by omega)) ?_
  rintro e w' ⟨rfl, h2⟩
  refine ⟨_, rfl, rfl, ?_⟩
  rcases h2 with rfl | rfl
  · exact Ext.refl _
  · exact Ext.drew _
theorem trimZ_iff (l : List UInt8) : ((⟨(Lib.trimB l 0).toArray⟩ : ByteArray) = ByteArray.mk #[]) ↔ isZero l = true := by
  rw [← dropWhile_dropWhile_zero]
  constructor
  · intro h
    have := congrArg (fun b : ByteArray => b.data.toList) h
    exact this
  · intro h
    have : Lib.trimB l 0 = [] := h
    rw [this]
theorem openF_off {k : Dk} (h : k.off = true) : openF k = (251, k, none) := by unfold openF; rw [if_pos h]
theorem openF_bad {k : Dk} (h : k.off = false) (hF : loadF k.vis t00 = none) : openF k = (262, k, none) := by
  unfold openF; rw [if_neg (by rw [h]; decide), hF]
theorem openF_zero {k : Dk} {t : Tp} (h : k.off = false) (hF : loadF k.vis t00 = some t) (hz : isZero (k.vis.drop t.size) = true) : openF k = (0, k, some t) := by
  unfold openF; rw [if_neg (by rw [h]; decide), hF]; simp only; rw [if_pos hz]
def clr (k : Dk) (t : Tp) : List DOp := [.wr t.size (mkBA (List.replicate (k.vis.length - t.size) 0)), .sy]
theorem openF_clr {k : Dk} {t : Tp} (h : k.off = false) (hF : loadF k.vis t00 = some t) (hz : ¬ isZero (k.vis.drop t.size) = true) (h0 : (runOps (clr k t) k).1 = 0) : openF k = (0, (runOps (clr k t) k).2, some t) := by
  unfold openF; rw [if_neg (by rw [h]; decide), hF]; simp only; rw [if_neg hz]; exact if_pos h0
theorem openF_no {k : Dk} {t : Tp} (h : k.off = false) (hF : loadF k.vis t00 = some t) (hz : ¬ isZero (k.vis.drop t.size) = true) (h0 : ¬ (runOps (clr k t) k).1 = 0) : openF k = ((runOps (clr k t) k).1, (runOps (clr k t) k).2, none) := by
  unfold openF; rw [if_neg (by rw [h]; decide), hF]; simp only; rw [if_neg hz]; exact if_neg h0
theorem loadF_le : ∀ (n : Nat) {s : List UInt8} {t t' : Tp}, s.length - t.size ≤ n → t.size ≤ s.length → loadF s t = some t' → t'.size ≤ s.length
  | n, s, t, t', hn, hs, h => by
    by_cases h1 : t.size < s.length ∧ s.getD t.size 0 ≠ 0
    · by_cases h2 : s.getD t.size 0 = 1
      · cases hd : decS s (t.size + 1) with
        | none => rw [loadF_none h1 hd] at h; cases h
        | some x =>
          obtain ⟨r, q⟩ := x
          by_cases h3 : q + 32 ≤ s.length ∧ outL t.head (mkBA r) = (s.drop t.size).take (q + 32 - t.size)
          · rw [loadF_step h1 h2 hd h3] at h
            have hol := outL_pos t.head (mkBA r)
            have hle := congrArg List.length h3.2
            rw [List.length_take, List.length_drop] at hle
            match n, hn with
            | 0, hn => omega
            | n + 1, hn => exact loadF_le n (by show s.length - (t.size + (outL t.head (mkBA r)).length) ≤ n; omega) (by show t.size + (outL t.head (mkBA r)).length ≤ _; omega) h
          · rw [loadF_no h1 hd h3] at h; cases h
      · rw [loadF_bad h1 h2] at h; cases h
    · rw [loadF_end h1] at h
      injection h with h; subst h; exact hs
theorem ba_size_le (s : ByteArray) (a : Nat) : (s.extract a s.size).size ≤ s.size := by
  rw [ByteArray.size_extract]; omega
attribute [local irreducible] WC WL WX POp Then Again Fn NX W1 WA WO QL RP RA Yld LoopAt HC HL HX HN H1 HA HO HQ HB HP A.blk A.grow A.rd A.obj A.mp AgainH CutH
set_option maxHeartbeats 1000000 in
theorem jopen_fn {w0 w : World} {H : List Atom} {bd b1 b2 pc : Nat} {pa : Option Addr} {k : Dk} {ea : Addr} (hG : RoundG w0) (hE : ErrG ea w0) (hM : Mm w0 (dkH bd b1 b2 pa pc k H) w) (hk : k.Ok) (hp : k.pend.length + 2 ≤ 10000) :
    Fn Tryz.prog 59 #[.pointer (some ⟨bd, 0, none⟩)] w fun v w' => openP2 w0 bd b1 b2 H (openF k) v w' := by
  have hlen := hk.len
  have hhi := hk.hi
  have hsz : (mkBA k.vis).size = k.vis.length := by show k.vis.toArray.size = _; rw [List.size_toArray]
  have hdl : (mkBA k.vis).data.toList = k.vis := rfl
  refine enterK (l := [_]) hM rfl Tryz.ntmps59 rfl ?_
  refine hwJI ?_
  refine HL.one (H1.call0 (vs := [_]) rfl rfl (fun w' hM => dsize_fn (hM.blk memA)) ?_)
  refine hwJI ?_
  cases ho : k.off
  · refine HL.one (H1.callx (u := .tuple #[.string (mkBA k.vis), zv 0]) (vs := [_, zv 0, _]) rfl rfl (fun w' hM => by
      have := read_fn (hM.blk (b := bd) memA) (hM.blk (b := b2) memA) hk
      rw [ho] at this
      exact this) ?_)
    refine hwJI ?_
    cases hF : loadF k.vis t00 with
    | none =>
      rw [openF_bad ho hF]
      refine HL.one (H1.callk (α := Unit) (V := fun _ => .tuple #[.pointer none, zv 262]) (I := fun _ => True) (H' := fun _ => dkH bd b1 b2 pa pc k H) (vs := [_, _]) rfl rfl (fun w' hM => (open_fn (mkBA k.vis) hG hE hM (by omega)).mono fun v w2 h => by
        rw [hdl, hF] at h; exact ⟨(), trivial, h⟩) ?_)
      rintro - -
      refine hwJI ?_
      exact HX.ret2 rfl rfl rfl fun w' hM => ⟨(pa, pc), rfl, hM⟩
    | some t =>
      have hts := loadF_le _ (Nat.le_refl _) (Nat.zero_le _) hF
      refine HL.one (H1.callk (α := Nat × Option Addr × Nat) (V := fun z => .tuple #[.pointer (some ⟨z.1, 0, none⟩), zv 0]) (I := fun _ => True) (H' := fun z => jnH z.1 z.2.1 z.2.2 bd t false (dkH bd b1 b2 pa pc k H)) (vs := [_, _]) rfl rfl (fun w' hM => (open_fn (mkBA k.vis) hG hE hM (by omega)).mono fun v w2 h => by
        rw [hdl, hF] at h; obtain ⟨z, h1, h2⟩ := h; exact ⟨z, trivial, h1, h2⟩) ?_)
      rintro ⟨bj, a, c⟩ -
      dsimp only
      refine hwJI ?_
      have hex : ((mkBA k.vis).extract t.size (mkBA k.vis).size).data.toList = k.vis.drop t.size := by
        rw [extract_L, hsz, hdl, List.take_of_length_le (by rw [List.length_drop]; exact Nat.le_refl _)]
      have hxs := ba_size_le (mkBA k.vis) t.size
      rw [Int.toNat_natCast]
      refine HL.one (H1.callx (u := .string ⟨(Lib.trimB (k.vis.drop t.size) 0).toArray⟩) (vs := [_, _]) rfl rfl (fun w' hM => by
        have := trimZ_fn ((mkBA k.vis).extract t.size (mkBA k.vis).size) w' (by omega)
        rw [hex] at this
        exact this) ?_)
      have hiff := trimZ_iff (k.vis.drop t.size)
      generalize (⟨(Lib.trimB (k.vis.drop t.size) 0).toArray⟩ : ByteArray) = tr at hiff
      by_cases hz : isZero (k.vis.drop t.size) = true
      · rw [openF_zero ho hF hz]
        have htr := hiff.2 hz
        subst htr
        refine hwJI ?_
        exact HX.ret2 rfl rfl rfl fun w' hM => ⟨(bj, (a, c), (pa, pc)), rfl, hM⟩
      · have htr : ¬ tr = ByteArray.mk #[] := fun h => hz (hiff.1 h)
        obtain ⟨m, hm⟩ : ∃ m, m = k.vis.length - t.size := ⟨_, rfl⟩
        have hzl : (mkBA (List.replicate m 0)).size = m := by show (List.replicate m (0 : UInt8)).toArray.size = m; rw [List.size_toArray, List.length_replicate]
        have hclr : clr k t = [.wr t.size (mkBA (List.replicate m 0)), .sy] := by unfold clr; rw [hm]
        have hsub : ((mkBA k.vis).size : Int) - (t.size : Int) = (m : Int) := by omega
        refine hwJI ?_
        refine HC.sub [(0, .pointer (some ⟨bd, 0, none⟩)), (4, .string (mkBA k.vis)), (6, .pointer (some ⟨bj, 0, none⟩))] (jnH bj a c bd t false (dkH bd b1 b2 pa pc k H)) ?_ esA (Hs.refl _)
        refine HC.anyC ([(⟨bj, 2, none⟩, zv (t.size : Int))]) rfl ?_
        refine HB.pa 0 rfl ?_
        refine HB.pa 1 rfl ?_
        refine HB.pa 2 rfl ?_ (POp.nilCheck rfl)
        refine HB.pa 3 rfl ?_
        refine HB.pa 4 rfl ?_
        refine HB.ld 5 rfl rfl memD ?_
        refine HB.pa 6 rfl ?_
        refine HB.pa 7 rfl ?_
        refine HB.pa 8 rfl ?_
        refine HB.pa 9 rfl ?_ (POp.nilCheck rfl)
        refine HB.pa 10 rfl ?_
        refine HB.pa 11 rfl ?_
        refine HB.ld 12 rfl rfl memD ?_
        refine HB.pa 13 rfl ?_ ((POp.sub rfl rfl (by omega) (by omega)).of (congrArg zv hsub))
        refine HB.pa 17 rfl ?_
        refine HB.pa 18 rfl ?_
        refine HB.all (by repeat (first | exact Keep.nil | refine Keep.blk (by (repeat (first | exact List.Mem.head _ | apply List.Mem.tail)); done) rfl ?_ | refine Keep.grow (by (repeat (first | exact List.Mem.head _ | apply List.Mem.tail)); done) (by assumption) ?_ | refine Keep.base (by assumption) ?_)) [14] (by kernel_rfl) rfl ⟨⟨_, rfl, ?_⟩, trivial⟩
        refine HP.one ?_
        refine H1.make (l := m) (c := m) rfl rfl rfl rfl rfl (Nat.le_refl _) (by omega) (by omega) rfl (fun bm => ?_)
        rw [ub_zero]
        apply HB.fold
        refine HB.all (by repeat (first | exact Keep.nil | refine Keep.blk (by (repeat (first | exact List.Mem.head _ | apply List.Mem.tail)); done) rfl ?_ | refine Keep.grow (by (repeat (first | exact List.Mem.head _ | apply List.Mem.tail)); done) (by assumption) ?_ | refine Keep.base (by assumption) ?_)) [15] (by kernel_rfl) rfl ⟨⟨_, rfl, ?_⟩, trivial⟩
        refine HP.one ?_
        refine H1.bstrC (ys := List.replicate m 0) rfl (by rw [List.length_replicate]) (fun w' hM => blk_rd (e := 5) (hM.blk memA) (by rw [ub_len, List.length_replicate])) rfl ?_
        apply HB.fold
        refine HB.all (by repeat (first | exact Keep.nil | refine Keep.blk (by (repeat (first | exact List.Mem.head _ | apply List.Mem.tail)); done) rfl ?_ | refine Keep.grow (by (repeat (first | exact List.Mem.head _ | apply List.Mem.tail)); done) (by assumption) ?_ | refine Keep.base (by assumption) ?_)) [16] (by kernel_rfl) rfl ⟨⟨_, rfl, ?_⟩, trivial⟩
        refine HP.one ?_
        refine H1.callz (vs := [_, zv (t.size : Int), _]) rfl rfl (fun w' hM => writing_fn bj t.size (mkBA (List.replicate m 0)) w') ?_
        rintro ⟨c1, c2, c3⟩ -
        dsimp only
        apply HB.fold
        refine HB.all (by repeat (first | exact Keep.nil | refine Keep.blk (by (repeat (first | exact List.Mem.head _ | apply List.Mem.tail)); done) rfl ?_ | refine Keep.grow (by (repeat (first | exact List.Mem.head _ | apply List.Mem.tail)); done) (by assumption) ?_ | refine Keep.base (by assumption) ?_)) [19] (by kernel_rfl) rfl ⟨⟨_, rfl, ?_⟩, trivial⟩
        refine HP.one ?_
        refine H1.lit (cs := [.func (.func 160) #[] #[.pointer (some ⟨c1, 0, none⟩), .pointer (some ⟨c2, 0, none⟩), .pointer (some ⟨c3, 0, none⟩)], .func (.func 108) #[.pointer (some ⟨bd, 0, none⟩)] #[]]) rfl rfl rfl rfl rfl rfl (fun b9 => ?_)
        apply HB.fold
        refine HB.all (by repeat (first | exact Keep.nil | refine Keep.blk (by (repeat (first | exact List.Mem.head _ | apply List.Mem.tail)); done) rfl ?_ | refine Keep.grow (by (repeat (first | exact List.Mem.head _ | apply List.Mem.tail)); done) (by assumption) ?_ | refine Keep.base (by assumption) ?_)) [20] (by kernel_rfl) rfl ⟨⟨_, rfl, ?_⟩, trivial⟩
        refine HP.one ?_
        refine H1.callk (α := Option Addr × Nat) (V := fun _ => zv (runOps (clr k t) k).1) (I := fun _ => True) (H' := fun q => dkH bd b1 b2 q.1 q.2 (runOps (clr k t) k).2 (A.blk bj (tpC a c t (jnR bd false)) 179 :: A.grow 9 1 a c t.recs.length (strs t.recs) ::
            A.blk b9 [.func (.func 160) #[] #[.pointer (some ⟨c1, 0, none⟩), .pointer (some ⟨c2, 0, none⟩), .pointer (some ⟨c3, 0, none⟩)], .func (.func 108) #[.pointer (some ⟨bd, 0, none⟩)] #[]] 103 ::
            A.blk c1 [.pointer (some ⟨bj, 0, none⟩)] 82 :: A.blk c2 [zv (t.size : Int)] 3 :: A.blk c3 [.string (mkBA (List.replicate m 0))] 9 :: A.blk bm (ub (List.replicate m 0)) 5 :: H)) (vs := [_]) rfl rfl (fun w' hM => ?_) ?_
        · rw [hclr]
          refine (first_fn (pa := pa) (pc := pc) (ops := [.wr t.size (mkBA (List.replicate m 0)), .sy]) (hM.sub ?_) rfl (.tail _ (.tail _ (.head _))) ?_ hk hp (by show 2 ≤ 100; decide)).mono fun v w2 h => h
          · repeat (first | exact Hs.nil _ | (refine Hs.cons pickA ?_))
            exact Hs.refl _
          · intro i fv o h1 h2
            match i, h1, h2 with
            | 0, h1, h2 =>
              cases h1; cases h2
              exact opn_write (jc := tpC a c t (jnR bd false)) (by omega) (by omega) (.head _) rfl (.tail _ (.tail _ (.tail _ (.head _)))) (.tail _ (.tail _ (.tail _ (.tail _ (.head _))))) (.tail _ (.tail _ (.tail _ (.tail _ (.tail _ (.head _))))))
            | 1, h1, h2 =>
              cases h1; cases h2
              exact opn_sync _ _ _ _ _
        rintro ⟨a', c'⟩ -
        dsimp only
        apply HB.fold
        refine HB.pa 21 rfl ?_
        refine HB.done (by repeat (first | exact Keep.nil | refine Keep.blk (by (repeat (first | exact List.Mem.head _ | apply List.Mem.tail)); done) rfl ?_ | refine Keep.grow (by (repeat (first | exact List.Mem.head _ | apply List.Mem.tail)); done) (by assumption) ?_ | refine Keep.base (by assumption) ?_)) (by kernel_rfl) ?_
        by_cases h0 : (runOps (clr k t) k).1 = 0
        · rw [openF_clr ho hF hz h0]
          refine hwJI ?_
          exact HX.ret2 rfl rfl rfl fun w' hM => ⟨(bj, (a, c), (a', c')), rfl, hM.sub (Hs.cons (Pick.there (Pick.there (Pick.there (Pick.there Pick.here)))) (Hs.cons (Pick.there (Pick.there (Pick.there (Pick.there Pick.here)))) (Hs.cons Pick.here (Hs.cons Pick.here (Hs.cons Pick.here (Hs.cons Pick.here (Hs.refl _).skip.skip.skip.skip.skip))))))⟩
        · rw [openF_no ho hF hz h0]
          refine hwJI ?_
          exact HX.ret2 rfl rfl rfl fun w' hM => ⟨(a', c'), rfl, hM.sub (Hs.cons Pick.here (Hs.cons Pick.here (Hs.cons Pick.here (Hs.cons Pick.here (Hs.refl _).skip.skip.skip.skip.skip.skip.skip))))⟩
  · refine HL.one (H1.callx (u := .tuple #[.string (mkBA []), zv 251]) (vs := [_, zv 0, _]) rfl rfl (fun w' hM => by
      have := read_fn (hM.blk (b := bd) memA) (hM.blk (b := b2) memA) hk
      rw [ho] at this
      exact this) ?_)
    rw [openF_off ho]
    refine hwJI ?_
    exact HX.ret2 rfl rfl rfl fun w' hM => ⟨(pa, pc), rfl, hM⟩
end Go.Sx
/- Chapter 26: Room, Records, Append: the walks. -/
namespace Go.Sx
open Go Go.Proofs Go.RowKit
theorem rd_cloneS {w : World} {b off c : Nat} {l : List ByteArray} (hR : Rd w (.slice (some ⟨b, off, none⟩) l.length c) (strs l)) : ∀ j, j < l.length → w.cell? ⟨b, off + j, none⟩ = some (.string (l.getD j ByteArray.empty)) := fun j hj => hR.cell (by simp [strs, hj])
theorem rd_strs_shape {w : World} {v : Value} {l : List ByteArray} (hR : Rd w v (strs l)) : ∃ a c, v = .slice a l.length c ∧ l.length ≤ c := by
  obtain ⟨a, c, h1, h2, -⟩ := hR
  have : (strs l).length = l.length := by simp [strs]
  rw [this] at h1 h2
  exact ⟨a, c, h1, h2⟩
theorem ownFresh2 {w w' : World} {e : TypeId} {sz n c : Nat} {a : Option Addr} {xs : List Value} (hx : Ext w w') (h : w'.ownsRow w.heap.size e sz (.slice a n c) n xs) : Mm w [A.grow e sz a c n xs] w' := by
  refine (Mm.nil hx).cons ⟨h.1, ?_⟩ ?_ fun b hb => ?_
  · rcases h.2 with h2 | ⟨g, cap, cur, hv, -, rest⟩
    · exact .inl h2
    · exact .inr ⟨g, cap, cur, hv, Nat.zero_le _, rest⟩
  · show (Option.toList _).Nodup
    cases (Value.slice a n c).ownBlock <;> simp
  · have hb' : (Value.slice a n c).ownBlock = some b := by simpa [A.grow] using hb
    have := h.lt b hb'
    exact ⟨by simp [fps], this.1, this.2⟩
theorem own_shape2 {w : World} {base : Nat} {e : TypeId} {sz n : Nat} {v : Value} {xs : List Value} (h : w.ownsRow base e sz v n xs) : ∃ a c, v = .slice a n c := by
  rcases h.2 with ⟨rfl, rfl⟩ | ⟨g, cap, cur, rfl, -⟩
  · exact ⟨none, 0, rfl⟩
  · exact ⟨_, cap, rfl⟩
theorem cloneS_fn (v : Value) (l : List ByteArray) (hl : l.length ≤ 1000000) (w : World) (hR : Rd w v (strs l)) :
    Fn Tryz.prog 111 #[v] w fun u w' => ∃ z : Option Addr × Nat, True ∧ u = .slice z.1 l.length z.2 ∧ Mm w [A.grow 9 1 z.1 z.2 l.length (strs l)] w' := by
  by_cases hne : l = []
  · subst hne
    obtain ⟨a, c, rfl, hc⟩ := rd_strs_shape hR
    cases a with
    | none =>
      refine Calls.mono (Tryz.slices_Clone_string_nil 0 c w) ?_
      rintro e w' ⟨rfl, rfl⟩
      exact ⟨_, rfl, (none, 0), trivial, rfl, (Mm.refl _).grow0 _ _⟩
    | some a =>
      refine Calls.mono (Tryz.slices_Clone_string_zero a c w) ?_
      rintro e w' ⟨v', rfl, h1, h2, h3⟩
      obtain ⟨a', c', rfl⟩ := own_shape2 h1
      exact ⟨_, rfl, (a', c'), trivial, rfl, ownFresh2 h3 h1⟩
  · have hlen : (strs l).length = l.length := by simp [strs]
    obtain ⟨b, off, cc, rfl, hcc, hb, -⟩ := hR.at (by intro e; exact hne (by simpa [strs] using e))
    rw [hlen] at hR ⊢
    refine Calls.mono (Tryz.slices_Clone_string b off l.length cc l w (Nat.le_refl _) (by omega) (rd_cloneS hR)) ?_
    rintro e w' ⟨v', rfl, h1, h2, h3⟩
    rw [List.take_length] at h1
    obtain ⟨a', c', rfl⟩ := own_shape2 h1
    exact ⟨_, rfl, (a', c'), trivial, rfl, ownFresh2 h3 h1⟩
attribute [local irreducible] WC WL WX POp Then Again Fn NX W1 WA WO QL RP RA Yld LoopAt HC HL HX HN H1 HA HO HQ HB HP A.blk A.grow A.rd A.obj A.mp AgainH CutH
theorem room_fn {w0 w : World} {H : List Atom} {bj bd b1 b2 c pc : Nat} {a pa : Option Addr} {j : Jn} (hM : Mm w0 (jnlH bj bd b1 b2 a c pa pc j H) w) (hk : j.k.Ok) (ht : j.t.size ≤ 10000000) :
    Fn Tryz.prog 150 #[.pointer (some ⟨bj, 0, none⟩)] w fun v w' => v = zv ((j.k.dur.length : Int) - (j.t.size : Int)) ∧ Mm w0 (jnlH bj bd b1 b2 a c pa pc j H) w' := by
  have hhi := hk.hi
  refine enterK (l := [_]) hM rfl Tryz.ntmps150 rfl ?_
  refine hwJI ?_
  refine HC.anyC ([(⟨bj, 3, none⟩, .pointer (some ⟨bd, 0, none⟩)), (⟨bj, 2, none⟩, zv (j.t.size : Int))]) rfl ?_
  refine HB.pa 0 rfl ?_
  refine HB.pa 1 rfl ?_ (POp.nilCheck rfl)
  refine HB.pa 2 rfl ?_
  refine HB.ld 3 rfl rfl memD ?_
  refine HB.pa 5 rfl ?_
  refine HB.pa 6 rfl ?_ (POp.nilCheck rfl)
  refine HB.pa 7 rfl ?_
  refine HB.pa 8 rfl ?_
  refine HB.ld 9 rfl rfl memD ?_
  refine HB.all (by repeat (first | exact Keep.nil | refine Keep.blk (by (repeat (first | exact List.Mem.head _ | apply List.Mem.tail)); done) rfl ?_ | refine Keep.grow (by (repeat (first | exact List.Mem.head _ | apply List.Mem.tail)); done) (by assumption) ?_ | refine Keep.base (by assumption) ?_)) [4] (by kernel_rfl) rfl ⟨⟨_, rfl, ?_⟩, trivial⟩
  refine HP.one ?_
  refine H1.call0 (vs := [_]) rfl rfl (fun w' hM => dsize_fn (hM.blk (b := bd) memA)) ?_
  apply HB.fold
  refine HB.pa 10 rfl ?_
  refine HB.pa 11 rfl ?_
  refine HB.done (by repeat (first | exact Keep.nil | refine Keep.blk (by (repeat (first | exact List.Mem.head _ | apply List.Mem.tail)); done) rfl ?_ | refine Keep.grow (by (repeat (first | exact List.Mem.head _ | apply List.Mem.tail)); done) (by assumption) ?_ | refine Keep.base (by assumption) ?_)) (by kernel_rfl) ?_
  refine hwJI ?_
  exact HX.ret1 rfl rfl fun w' hM => ⟨rfl, hM⟩
end Go.Sx
/- Chapter 26: Append: the walk. -/
namespace Go.Sx
open Go Go.Proofs Go.RowKit
def idxL (l : List ByteArray) (i : Nat) : Int := if (l.drop i).any isLong then (i : Int) + (((l.drop i).findIdx isLong : Nat) : Int) else -1
theorem any_drop {l : List ByteArray} {i : Nat} (h : i < l.length) : (l.drop i).any isLong = (isLong (fr l i) || (l.drop (i + 1)).any isLong) := by
  rw [List.drop_eq_getElem_cons h, List.any_cons]
  simp [fr, h]
attribute [local irreducible] WC WL WX POp Then Again Fn NX W1 WA WO QL RP RA Yld LoopAt HC HL HX HN H1 HA HO HQ HB HP A.blk A.grow A.rd A.obj A.mp AgainH CutH
theorem append1_fn (s : ByteArray) (w : World) : Fn Tryz.prog 147 #[.string s] w fun v w' => v = .bool (isLong s) ∧ w = w' := by
  refine enter (l := [_]) rfl Tryz.ntmps147 rfl ?_
  repeat' (first | apply WL.fold | apply WA.fold | apply WL.nil | apply WX.n_then | apply WC.seq | apply WC.region | refine WL.pa ?_ | refine WL.ga rfl ?_ | refine WL.na rfl ?_ | refine WL.nu rfl rfl ?_ | apply WC.block | apply WC.skip | apply WC.exit | apply WC.ret | apply WX.e_block | refine WX.e_other rfl ?_ | apply WX.e_then | apply WX.e_again | apply WX.n_block | apply WX.r_then | apply WX.r_block | apply WX.r_again | refine WC.cond_yes rfl ?_ | refine WC.cond_no rfl ?_ | refine WC.cond rfl (fun hc => ?_) (fun hc => ?_) | refine WC.cond_b rfl (fun hc => ?_) (fun hc => ?_))
  refine WX.ret1 rfl rfl ⟨?_, rfl⟩
  unfold isLong
  congr 1
  exact decide_eq_decide.2 (by omega)
theorem indexLong_fn (v : Value) (l : List ByteArray) (hl : l.length ≤ 1000000) (w : World) (hR : Rd w v (strs l)) :
    Fn Tryz.prog 181 #[v, .func (.func 147) #[] #[]] w fun u w' => ∃ n : Int, decide ((0 : Int) ≤ n) = l.any isLong ∧ u = zv n ∧ Mm w [] w' := by
  by_cases hne : l = []
  · subst hne
    obtain ⟨a, c, rfl, -⟩ := rd_strs_shape hR
    refine enterH (l := [_, _]) rfl Tryz.ntmps181 rfl ?_
    refine hwJI ?_
    refine HC.loop (α := Unit) (fun _ => [(7, zv 0), (8, zv 0)]) (fun _ => []) (fun _ => True) (fun _ => 0) () trivial esA (Hs.refl _) ?_
    rintro - -
    refine hwJI ?_
    exact HX.ret1 rfl rfl fun w' hM => ⟨-1, rfl, rfl, hM⟩
  · have hlen : (strs l).length = l.length := by simp [strs]
    obtain ⟨b, off, cc, rfl, hcc, hb, -⟩ := hR.at (by intro e; exact hne (by simpa [strs] using e))
    rw [hlen] at hR ⊢
    refine enterH (l := [_, _]) rfl Tryz.ntmps181 rfl ?_
    refine hwJI ?_
    refine HC.loop (α := Nat) (fun i => [(0, .slice (some ⟨b, off, none⟩) l.length cc), (1, .func (.func 147) #[] #[]), (7, zv (l.length : Int)), (8, zv (i : Int))]) (fun _ => []) (fun i => i ≤ l.length ∧ (l.drop i).any isLong = l.any isLong) (fun i => l.length - i) 0 ⟨Nat.zero_le _, rfl⟩ esA (Hs.refl _) ?_
    rintro i ⟨hi, ha⟩
    by_cases hlt : i < l.length
    · have hget := strs_get hlt
      have had := any_drop hlt
      generalize fr l i = s at hget had
      refine hwJI ?_
      refine HL.one (H1.ldw (v := .string s) rfl (fun w' hM => (hR.ext hM.ext).cell hget) rfl ?_)
      refine hwJI ?_
      refine HL.one (H1.callv0 (f := 147) (u := .bool (isLong s)) (cap := []) (vs := [.string s]) rfl rfl rfl (fun w' hM => (append1_fn s w').mono fun v w2 h => ⟨h.1, h.2 ▸ Ext.refl _⟩) ?_)
      cases hs : isLong s
      · rw [hs, Bool.false_or] at had
        refine hwJI ?_
        exact HX.again (i + 1) ⟨hlt, by rw [← had, ha]⟩ (by show l.length - (i + 1) < l.length - i; omega) esA (Hs.refl _)
      · rw [hs, Bool.true_or] at had
        refine hwJI ?_
        exact HX.ret1 rfl rfl fun w' hM => ⟨(i : Int), by rw [← ha, had]; exact decide_eq_true (by omega), rfl, hM⟩
    · obtain rfl : i = l.length := by omega
      have h0 : l.any isLong = false := by rw [← ha, List.drop_length]; rfl
      refine hwJI ?_
      exact HX.ret1 rfl rfl fun w' hM => ⟨-1, by rw [h0]; rfl, rfl, hM⟩
theorem containsLong_fn (v : Value) (l : List ByteArray) (hl : l.length ≤ 1000000) (w : World) (hR : Rd w v (strs l)) :
    Fn Tryz.prog 148 #[v, .func (.func 147) #[] #[]] w fun u w' => u = .bool (l.any isLong) ∧ Ext w w' := by
  refine enterH (l := [_, _]) rfl Tryz.ntmps148 rfl ?_
  refine hwJI ?_
  refine HL.one (H1.callz (vs := [v, _]) rfl rfl (fun w' hM => indexLong_fn v l hl w' (hR.ext hM.ext)) ?_)
  rintro n hn
  refine hwJI ?_
  exact HX.ret1 rfl rfl fun w' hM => ⟨by rw [← hn], hM.ext⟩
end Go.Sx
