/- Chapter 20: the shapes of records. -/
import Derived.Test.YtehehfcmanccjaaGreatDoorQI06
import Derived.Lib.FrozenHead
import Derived.Laws.Externs
namespace Go.Sx
open Go Go.Proofs Go.RowKit
theorem Mm.blkGrow {w0 w : World} {b n sz : Nat} {cs : List Value} {e : TypeId} {H : List Atom} (h : Mm w0 (A.blk b cs e :: H) w) (hl : cs.length = n * sz) (hn : n ≤ 1000000) : Mm w0 (A.grow e sz (some ⟨b, 0, none⟩) n n cs :: H) w := by
 refine ⟨h.ext, fun x hx => ?_, h.nd, h.rng⟩
 rcases List.mem_cons.1 hx with rfl | hx
 ·refine ⟨hl, .inr ⟨b, n, cs.toArray, rfl, Nat.zero_le _, h.blk (List.Mem.head _), Nat.le_refl _, by simp only [maxLen]; omega, by simpa using hl, ?_⟩⟩
  rw [← hl, List.take_of_length_le (by simp)]
 ·exact h.all x (List.mem_cons_of_mem _ hx)
theorem HL.blkGrow {P : Program} {r : Option Nat} {N : Nat} {ds : List Deferred} {ol l : List Oper} {Q : Post} {E : Env} {w0 : World} {H : List Atom} {b n sz : Nat} {cs : List Value} {e : TypeId} (hl : cs.length = n * sz) (hn : n ≤ 1000000)
  (h : HL P r N ds ol l Q E w0 (A.grow e sz (some ⟨b, 0, none⟩) n n cs :: H)) : HL P r N ds ol l Q E w0 (A.blk b cs e :: H) := fun w hM => h w (hM.blkGrow hl hn)
abbrev fnV (f : Nat) : Value := .func (.func f) #[] #[]
def fid : Nat → Nat
 | 0 => 189
 | 1 => 181
 | 2 => 182
 | 3 => 184
 | 4 => 177
 | 5 => 178
 | 6 => 185
 | 7 => 179
 | 9 => 186
 | _ => 0
def fpos : Nat → Nat
 | 0 => 1
 | 1 => 5
 | 2 => 6
 | 3 => 7
 | 4 => 8
 | 5 => 9
 | 6 => 10
 | 7 => 11
 | 8 => 12
 | 9 => 13
 | _ => 0
def fcells (p : Nat × Int × Int) : List Value := if p.1 = 8 then [.nilFunc, zv 0, zv 0] else [fnV (fid p.1), zv p.2.1, zv p.2.2]
def fcl (l : List (Nat × Int × Int)) : List Value := l.flatMap fcells
theorem fcells_len (p : Nat × Int × Int) : (fcells p).length = 3 := by unfold fcells; split <;> rfl
theorem fcl_len : ∀ l : List (Nat × Int × Int), (fcl l).length = l.length * 3
 | [] => rfl
 | p :: l => by
  have := fcl_len l
  unfold fcl at this ⊢
  rw [List.flatMap_cons, List.length_append, fcells_len, this, List.length_cons]; omega
theorem fcells_one (p : Nat × Int × Int) : ∀ u ∈ fcells p, u.oneCell' = true := by
 unfold fcells
 intro u hu
 split at hu <;> (simp only [List.mem_cons, List.not_mem_nil, or_false] at hu; rcases hu with rfl | rfl | rfl <;> rfl)
theorem fcl_one (l : List (Nat × Int × Int)) : ∀ u ∈ fcl l, u.oneCell' = true := fun u hu => by
 obtain ⟨p, -, h⟩ := List.mem_flatMap.1 hu
 exact fcells_one p u h
def baseF : List (Nat × Int × Int) := [(0, 1, 1000000), (1, 0, 100000), (2, 0, 100000)]
attribute [local irreducible] WC WL WX POp Then Again Fn NX W1 WA WO QL RP RA Yld LoopAt HC HL HX HN H1 HA HO HQ HB HP A.blk A.grow A.rd A.obj A.mp AgainH CutH
theorem id_fn (b : Nat) (w : World) : Fn Tryz.prog 189 #[.pointer (some ⟨b, 0, none⟩)] w fun v w' => v = .pointer (some ⟨b, 1, none⟩) ∧ w = w' := by
 refine enter (l := [_]) rfl Tryz.ntmps189 rfl ?_
 repeat' (first | apply WL.fold | apply WA.fold | apply WL.nil | apply WX.n_then | apply WC.seq | apply WC.region | refine WL.pa ?_ | refine WL.ga rfl ?_ | refine WL.na rfl ?_ | refine WL.nu rfl rfl ?_ | apply WC.block | apply WC.skip | apply WC.exit | apply WC.ret | apply WX.e_block | refine WX.e_other rfl ?_ | apply WX.e_then | apply WX.e_again | apply WX.n_block | apply WX.r_then | apply WX.r_block | apply WX.r_again | refine WC.cond_yes rfl ?_ | refine WC.cond_no rfl ?_ | refine WC.cond rfl (fun hc => ?_) (fun hc => ?_) | refine WC.cond_b rfl (fun hc => ?_) (fun hc => ?_))
 refine WL.pa ?_ (POp.nilCheck rfl)
 repeat' (first | apply WL.fold | apply WA.fold | apply WL.nil | apply WX.n_then | apply WC.seq | apply WC.region | refine WL.pa ?_ | refine WL.ga rfl ?_ | refine WL.na rfl ?_ | refine WL.nu rfl rfl ?_ | apply WC.block | apply WC.skip | apply WC.exit | apply WC.ret | apply WX.e_block | refine WX.e_other rfl ?_ | apply WX.e_then | apply WX.e_again | apply WX.n_block | apply WX.r_then | apply WX.r_block | apply WX.r_again | refine WC.cond_yes rfl ?_ | refine WC.cond_no rfl ?_ | refine WC.cond rfl (fun hc => ?_) (fun hc => ?_) | refine WC.cond_b rfl (fun hc => ?_) (fun hc => ?_))
 exact WX.ret1 rfl rfl ⟨rfl, rfl⟩
theorem from_fn (b : Nat) (w : World) : Fn Tryz.prog 181 #[.pointer (some ⟨b, 0, none⟩)] w fun v w' => v = .pointer (some ⟨b, 5, none⟩) ∧ w = w' := by
 refine enter (l := [_]) rfl Tryz.ntmps181 rfl ?_
 repeat' (first | apply WL.fold | apply WA.fold | apply WL.nil | apply WX.n_then | apply WC.seq | apply WC.region | refine WL.pa ?_ | refine WL.ga rfl ?_ | refine WL.na rfl ?_ | refine WL.nu rfl rfl ?_ | apply WC.block | apply WC.skip | apply WC.exit | apply WC.ret | apply WX.e_block | refine WX.e_other rfl ?_ | apply WX.e_then | apply WX.e_again | apply WX.n_block | apply WX.r_then | apply WX.r_block | apply WX.r_again | refine WC.cond_yes rfl ?_ | refine WC.cond_no rfl ?_ | refine WC.cond rfl (fun hc => ?_) (fun hc => ?_) | refine WC.cond_b rfl (fun hc => ?_) (fun hc => ?_))
 refine WL.pa ?_ (POp.nilCheck rfl)
 repeat' (first | apply WL.fold | apply WA.fold | apply WL.nil | apply WX.n_then | apply WC.seq | apply WC.region | refine WL.pa ?_ | refine WL.ga rfl ?_ | refine WL.na rfl ?_ | refine WL.nu rfl rfl ?_ | apply WC.block | apply WC.skip | apply WC.exit | apply WC.ret | apply WX.e_block | refine WX.e_other rfl ?_ | apply WX.e_then | apply WX.e_again | apply WX.n_block | apply WX.r_then | apply WX.r_block | apply WX.r_again | refine WC.cond_yes rfl ?_ | refine WC.cond_no rfl ?_ | refine WC.cond rfl (fun hc => ?_) (fun hc => ?_) | refine WC.cond_b rfl (fun hc => ?_) (fun hc => ?_))
 exact WX.ret1 rfl rfl ⟨rfl, rfl⟩
theorem until_fn (b : Nat) (w : World) : Fn Tryz.prog 182 #[.pointer (some ⟨b, 0, none⟩)] w fun v w' => v = .pointer (some ⟨b, 6, none⟩) ∧ w = w' := by
 refine enter (l := [_]) rfl Tryz.ntmps182 rfl ?_
 repeat' (first | apply WL.fold | apply WA.fold | apply WL.nil | apply WX.n_then | apply WC.seq | apply WC.region | refine WL.pa ?_ | refine WL.ga rfl ?_ | refine WL.na rfl ?_ | refine WL.nu rfl rfl ?_ | apply WC.block | apply WC.skip | apply WC.exit | apply WC.ret | apply WX.e_block | refine WX.e_other rfl ?_ | apply WX.e_then | apply WX.e_again | apply WX.n_block | apply WX.r_then | apply WX.r_block | apply WX.r_again | refine WC.cond_yes rfl ?_ | refine WC.cond_no rfl ?_ | refine WC.cond rfl (fun hc => ?_) (fun hc => ?_) | refine WC.cond_b rfl (fun hc => ?_) (fun hc => ?_))
 refine WL.pa ?_ (POp.nilCheck rfl)
 repeat' (first | apply WL.fold | apply WA.fold | apply WL.nil | apply WX.n_then | apply WC.seq | apply WC.region | refine WL.pa ?_ | refine WL.ga rfl ?_ | refine WL.na rfl ?_ | refine WL.nu rfl rfl ?_ | apply WC.block | apply WC.skip | apply WC.exit | apply WC.ret | apply WX.e_block | refine WX.e_other rfl ?_ | apply WX.e_then | apply WX.e_again | apply WX.n_block | apply WX.r_then | apply WX.r_block | apply WX.r_again | refine WC.cond_yes rfl ?_ | refine WC.cond_no rfl ?_ | refine WC.cond rfl (fun hc => ?_) (fun hc => ?_) | refine WC.cond_b rfl (fun hc => ?_) (fun hc => ?_))
 exact WX.ret1 rfl rfl ⟨rfl, rfl⟩
theorem pack_fn (b : Nat) (w : World) : Fn Tryz.prog 184 #[.pointer (some ⟨b, 0, none⟩)] w fun v w' => v = .pointer (some ⟨b, 7, none⟩) ∧ w = w' := by
 refine enter (l := [_]) rfl Tryz.ntmps184 rfl ?_
 repeat' (first | apply WL.fold | apply WA.fold | apply WL.nil | apply WX.n_then | apply WC.seq | apply WC.region | refine WL.pa ?_ | refine WL.ga rfl ?_ | refine WL.na rfl ?_ | refine WL.nu rfl rfl ?_ | apply WC.block | apply WC.skip | apply WC.exit | apply WC.ret | apply WX.e_block | refine WX.e_other rfl ?_ | apply WX.e_then | apply WX.e_again | apply WX.n_block | apply WX.r_then | apply WX.r_block | apply WX.r_again | refine WC.cond_yes rfl ?_ | refine WC.cond_no rfl ?_ | refine WC.cond rfl (fun hc => ?_) (fun hc => ?_) | refine WC.cond_b rfl (fun hc => ?_) (fun hc => ?_))
 refine WL.pa ?_ (POp.nilCheck rfl)
 repeat' (first | apply WL.fold | apply WA.fold | apply WL.nil | apply WX.n_then | apply WC.seq | apply WC.region | refine WL.pa ?_ | refine WL.ga rfl ?_ | refine WL.na rfl ?_ | refine WL.nu rfl rfl ?_ | apply WC.block | apply WC.skip | apply WC.exit | apply WC.ret | apply WX.e_block | refine WX.e_other rfl ?_ | apply WX.e_then | apply WX.e_again | apply WX.n_block | apply WX.r_then | apply WX.r_block | apply WX.r_again | refine WC.cond_yes rfl ?_ | refine WC.cond_no rfl ?_ | refine WC.cond rfl (fun hc => ?_) (fun hc => ?_) | refine WC.cond_b rfl (fun hc => ?_) (fun hc => ?_))
 exact WX.ret1 rfl rfl ⟨rfl, rfl⟩
theorem person_fn (b : Nat) (w : World) : Fn Tryz.prog 177 #[.pointer (some ⟨b, 0, none⟩)] w fun v w' => v = .pointer (some ⟨b, 8, none⟩) ∧ w = w' := by
 refine enter (l := [_]) rfl Tryz.ntmps177 rfl ?_
 repeat' (first | apply WL.fold | apply WA.fold | apply WL.nil | apply WX.n_then | apply WC.seq | apply WC.region | refine WL.pa ?_ | refine WL.ga rfl ?_ | refine WL.na rfl ?_ | refine WL.nu rfl rfl ?_ | apply WC.block | apply WC.skip | apply WC.exit | apply WC.ret | apply WX.e_block | refine WX.e_other rfl ?_ | apply WX.e_then | apply WX.e_again | apply WX.n_block | apply WX.r_then | apply WX.r_block | apply WX.r_again | refine WC.cond_yes rfl ?_ | refine WC.cond_no rfl ?_ | refine WC.cond rfl (fun hc => ?_) (fun hc => ?_) | refine WC.cond_b rfl (fun hc => ?_) (fun hc => ?_))
 refine WL.pa ?_ (POp.nilCheck rfl)
 repeat' (first | apply WL.fold | apply WA.fold | apply WL.nil | apply WX.n_then | apply WC.seq | apply WC.region | refine WL.pa ?_ | refine WL.ga rfl ?_ | refine WL.na rfl ?_ | refine WL.nu rfl rfl ?_ | apply WC.block | apply WC.skip | apply WC.exit | apply WC.ret | apply WX.e_block | refine WX.e_other rfl ?_ | apply WX.e_then | apply WX.e_again | apply WX.n_block | apply WX.r_then | apply WX.r_block | apply WX.r_again | refine WC.cond_yes rfl ?_ | refine WC.cond_no rfl ?_ | refine WC.cond rfl (fun hc => ?_) (fun hc => ?_) | refine WC.cond_b rfl (fun hc => ?_) (fun hc => ?_))
 exact WX.ret1 rfl rfl ⟨rfl, rfl⟩
theorem role_fn (b : Nat) (w : World) : Fn Tryz.prog 178 #[.pointer (some ⟨b, 0, none⟩)] w fun v w' => v = .pointer (some ⟨b, 9, none⟩) ∧ w = w' := by
 refine enter (l := [_]) rfl Tryz.ntmps178 rfl ?_
 repeat' (first | apply WL.fold | apply WA.fold | apply WL.nil | apply WX.n_then | apply WC.seq | apply WC.region | refine WL.pa ?_ | refine WL.ga rfl ?_ | refine WL.na rfl ?_ | refine WL.nu rfl rfl ?_ | apply WC.block | apply WC.skip | apply WC.exit | apply WC.ret | apply WX.e_block | refine WX.e_other rfl ?_ | apply WX.e_then | apply WX.e_again | apply WX.n_block | apply WX.r_then | apply WX.r_block | apply WX.r_again | refine WC.cond_yes rfl ?_ | refine WC.cond_no rfl ?_ | refine WC.cond rfl (fun hc => ?_) (fun hc => ?_) | refine WC.cond_b rfl (fun hc => ?_) (fun hc => ?_))
 refine WL.pa ?_ (POp.nilCheck rfl)
 repeat' (first | apply WL.fold | apply WA.fold | apply WL.nil | apply WX.n_then | apply WC.seq | apply WC.region | refine WL.pa ?_ | refine WL.ga rfl ?_ | refine WL.na rfl ?_ | refine WL.nu rfl rfl ?_ | apply WC.block | apply WC.skip | apply WC.exit | apply WC.ret | apply WX.e_block | refine WX.e_other rfl ?_ | apply WX.e_then | apply WX.e_again | apply WX.n_block | apply WX.r_then | apply WX.r_block | apply WX.r_again | refine WC.cond_yes rfl ?_ | refine WC.cond_no rfl ?_ | refine WC.cond rfl (fun hc => ?_) (fun hc => ?_) | refine WC.cond_b rfl (fun hc => ?_) (fun hc => ?_))
 exact WX.ret1 rfl rfl ⟨rfl, rfl⟩
theorem purpose_fn (b : Nat) (w : World) : Fn Tryz.prog 185 #[.pointer (some ⟨b, 0, none⟩)] w fun v w' => v = .pointer (some ⟨b, 10, none⟩) ∧ w = w' := by
 refine enter (l := [_]) rfl Tryz.ntmps185 rfl ?_
 repeat' (first | apply WL.fold | apply WA.fold | apply WL.nil | apply WX.n_then | apply WC.seq | apply WC.region | refine WL.pa ?_ | refine WL.ga rfl ?_ | refine WL.na rfl ?_ | refine WL.nu rfl rfl ?_ | apply WC.block | apply WC.skip | apply WC.exit | apply WC.ret | apply WX.e_block | refine WX.e_other rfl ?_ | apply WX.e_then | apply WX.e_again | apply WX.n_block | apply WX.r_then | apply WX.r_block | apply WX.r_again | refine WC.cond_yes rfl ?_ | refine WC.cond_no rfl ?_ | refine WC.cond rfl (fun hc => ?_) (fun hc => ?_) | refine WC.cond_b rfl (fun hc => ?_) (fun hc => ?_))
 refine WL.pa ?_ (POp.nilCheck rfl)
 repeat' (first | apply WL.fold | apply WA.fold | apply WL.nil | apply WX.n_then | apply WC.seq | apply WC.region | refine WL.pa ?_ | refine WL.ga rfl ?_ | refine WL.na rfl ?_ | refine WL.nu rfl rfl ?_ | apply WC.block | apply WC.skip | apply WC.exit | apply WC.ret | apply WX.e_block | refine WX.e_other rfl ?_ | apply WX.e_then | apply WX.e_again | apply WX.n_block | apply WX.r_then | apply WX.r_block | apply WX.r_again | refine WC.cond_yes rfl ?_ | refine WC.cond_no rfl ?_ | refine WC.cond rfl (fun hc => ?_) (fun hc => ?_) | refine WC.cond_b rfl (fun hc => ?_) (fun hc => ?_))
 exact WX.ret1 rfl rfl ⟨rfl, rfl⟩
theorem clause_fn (b : Nat) (w : World) : Fn Tryz.prog 179 #[.pointer (some ⟨b, 0, none⟩)] w fun v w' => v = .pointer (some ⟨b, 11, none⟩) ∧ w = w' := by
 refine enter (l := [_]) rfl Tryz.ntmps179 rfl ?_
 repeat' (first | apply WL.fold | apply WA.fold | apply WL.nil | apply WX.n_then | apply WC.seq | apply WC.region | refine WL.pa ?_ | refine WL.ga rfl ?_ | refine WL.na rfl ?_ | refine WL.nu rfl rfl ?_ | apply WC.block | apply WC.skip | apply WC.exit | apply WC.ret | apply WX.e_block | refine WX.e_other rfl ?_ | apply WX.e_then | apply WX.e_again | apply WX.n_block | apply WX.r_then | apply WX.r_block | apply WX.r_again | refine WC.cond_yes rfl ?_ | refine WC.cond_no rfl ?_ | refine WC.cond rfl (fun hc => ?_) (fun hc => ?_) | refine WC.cond_b rfl (fun hc => ?_) (fun hc => ?_))
 refine WL.pa ?_ (POp.nilCheck rfl)
 repeat' (first | apply WL.fold | apply WA.fold | apply WL.nil | apply WX.n_then | apply WC.seq | apply WC.region | refine WL.pa ?_ | refine WL.ga rfl ?_ | refine WL.na rfl ?_ | refine WL.nu rfl rfl ?_ | apply WC.block | apply WC.skip | apply WC.exit | apply WC.ret | apply WX.e_block | refine WX.e_other rfl ?_ | apply WX.e_then | apply WX.e_again | apply WX.n_block | apply WX.r_then | apply WX.r_block | apply WX.r_again | refine WC.cond_yes rfl ?_ | refine WC.cond_no rfl ?_ | refine WC.cond rfl (fun hc => ?_) (fun hc => ?_) | refine WC.cond_b rfl (fun hc => ?_) (fun hc => ?_))
 exact WX.ret1 rfl rfl ⟨rfl, rfl⟩
theorem party_fn (b : Nat) (w : World) : Fn Tryz.prog 186 #[.pointer (some ⟨b, 0, none⟩)] w fun v w' => v = .pointer (some ⟨b, 13, none⟩) ∧ w = w' := by
 refine enter (l := [_]) rfl Tryz.ntmps186 rfl ?_
 repeat' (first | apply WL.fold | apply WA.fold | apply WL.nil | apply WX.n_then | apply WC.seq | apply WC.region | refine WL.pa ?_ | refine WL.ga rfl ?_ | refine WL.na rfl ?_ | refine WL.nu rfl rfl ?_ | apply WC.block | apply WC.skip | apply WC.exit | apply WC.ret | apply WX.e_block | refine WX.e_other rfl ?_ | apply WX.e_then | apply WX.e_again | apply WX.n_block | apply WX.r_then | apply WX.r_block | apply WX.r_again | refine WC.cond_yes rfl ?_ | refine WC.cond_no rfl ?_ | refine WC.cond rfl (fun hc => ?_) (fun hc => ?_) | refine WC.cond_b rfl (fun hc => ?_) (fun hc => ?_))
 refine WL.pa ?_ (POp.nilCheck rfl)
 repeat' (first | apply WL.fold | apply WA.fold | apply WL.nil | apply WX.n_then | apply WC.seq | apply WC.region | refine WL.pa ?_ | refine WL.ga rfl ?_ | refine WL.na rfl ?_ | refine WL.nu rfl rfl ?_ | apply WC.block | apply WC.skip | apply WC.exit | apply WC.ret | apply WX.e_block | refine WX.e_other rfl ?_ | apply WX.e_then | apply WX.e_again | apply WX.n_block | apply WX.r_then | apply WX.r_block | apply WX.r_again | refine WC.cond_yes rfl ?_ | refine WC.cond_no rfl ?_ | refine WC.cond rfl (fun hc => ?_) (fun hc => ?_) | refine WC.cond_b rfl (fun hc => ?_) (fun hc => ?_))
 exact WX.ret1 rfl rfl ⟨rfl, rfl⟩
theorem getter_ok {i : Nat} (h : i < 10) (h8 : i ≠ 8) : CallOk Tryz.prog (fid i) ∧ ∀ (b : Nat) (w : World), Fn Tryz.prog (fid i) #[.pointer (some ⟨b, 0, none⟩)] w fun v w' => v = .pointer (some ⟨b, fpos i, none⟩) ∧ w = w' := by
 rcases (show i = 0 ∨ i = 1 ∨ i = 2 ∨ i = 3 ∨ i = 4 ∨ i = 5 ∨ i = 6 ∨ i = 7 ∨ i = 9 by omega) with rfl | rfl | rfl | rfl | rfl | rfl | rfl | rfl | rfl
 ·exact ⟨inferInstanceAs (CallOk Tryz.prog 189), id_fn⟩
 ·exact ⟨inferInstanceAs (CallOk Tryz.prog 181), from_fn⟩
 ·exact ⟨inferInstanceAs (CallOk Tryz.prog 182), until_fn⟩
 ·exact ⟨inferInstanceAs (CallOk Tryz.prog 184), pack_fn⟩
 ·exact ⟨inferInstanceAs (CallOk Tryz.prog 177), person_fn⟩
 ·exact ⟨inferInstanceAs (CallOk Tryz.prog 178), role_fn⟩
 ·exact ⟨inferInstanceAs (CallOk Tryz.prog 185), purpose_fn⟩
 ·exact ⟨inferInstanceAs (CallOk Tryz.prog 179), clause_fn⟩
 ·exact ⟨inferInstanceAs (CallOk Tryz.prog 186), party_fn⟩
theorem number_fn (f : Nat) (w : World) : Fn Tryz.prog 176 #[fnV f] w fun v w' => v = .agg #[fnV f, zv 1, zv 1000000] ∧ Ext w w' := by
 refine enterH (l := [_]) rfl Tryz.ntmps176 rfl ?_
 refine hwNE ?_
 refine HL.one (H1.alloc (cs := [.nilFunc, zv 0, zv 0]) rfl rfl (fun b2 => ?_))
 refine hwNE ?_
 refine HL.build (cs := [fnV f, zv 1, zv 1000000]) rfl rfl rfl ?_
 refine hwNE ?_
 refine HL.one (H1.stAgg (cs := [.nilFunc, zv 0, zv 0]) (vs := [fnV f, zv 1, zv 1000000]) rfl rfl rfl (by intro v hv; simp only [List.mem_cons, List.not_mem_nil, or_false] at hv; rcases hv with rfl | rfl | rfl <;> rfl) rplA rfl ?_)
 refine hwNE ?_
 exact HX.retc1 (cs := [fnV f, zv 1, zv 1000000]) rfl rfl memA rfl fun w' hM => ⟨rfl, hM.ext⟩
theorem day_fn (f : Nat) (w : World) : Fn Tryz.prog 180 #[fnV f] w fun v w' => v = .agg #[fnV f, zv 0, zv 100000] ∧ Ext w w' := by
 refine enterH (l := [_]) rfl Tryz.ntmps180 rfl ?_
 refine hwNE ?_
 refine HL.one (H1.alloc (cs := [.nilFunc, zv 0, zv 0]) rfl rfl (fun b2 => ?_))
 refine hwNE ?_
 refine HL.build (cs := [fnV f, zv 0, zv 100000]) rfl rfl rfl ?_
 refine hwNE ?_
 refine HL.one (H1.stAgg (cs := [.nilFunc, zv 0, zv 0]) (vs := [fnV f, zv 0, zv 100000]) rfl rfl rfl (by intro v hv; simp only [List.mem_cons, List.not_mem_nil, or_false] at hv; rcases hv with rfl | rfl | rfl <;> rfl) rplA rfl ?_)
 refine hwNE ?_
 exact HX.retc1 (cs := [fnV f, zv 0, zv 100000]) rfl rfl memA rfl fun w' hM => ⟨rfl, hM.ext⟩
theorem maybe_fn (f : Nat) (w : World) : Fn Tryz.prog 183 #[fnV f] w fun v w' => v = .agg #[fnV f, zv 0, zv 1000000] ∧ Ext w w' := by
 refine enterH (l := [_]) rfl Tryz.ntmps183 rfl ?_
 refine hwNE ?_
 refine HL.one (H1.alloc (cs := [.nilFunc, zv 0, zv 0]) rfl rfl (fun b2 => ?_))
 refine hwNE ?_
 refine HL.build (cs := [fnV f, zv 0, zv 1000000]) rfl rfl rfl ?_
 refine hwNE ?_
 refine HL.one (H1.stAgg (cs := [.nilFunc, zv 0, zv 0]) (vs := [fnV f, zv 0, zv 1000000]) rfl rfl rfl (by intro v hv; simp only [List.mem_cons, List.not_mem_nil, or_false] at hv; rcases hv with rfl | rfl | rfl <;> rfl) rplA rfl ?_)
 refine hwNE ?_
 exact HX.retc1 (cs := [fnV f, zv 0, zv 1000000]) rfl rfl memA rfl fun w' hM => ⟨rfl, hM.ext⟩
end Go.Sx
/- Chapter 20: spanned, shapeOf. -/
namespace Go.Sx
open Go Go.Proofs Go.RowKit
theorem hwXE {G G2 : Prop} (x : G2) (hwq : Hold G2 → G := by
  intro hQq
  repeat' (first | refine HL.one (H1.callx rfl rfl (fun w' _ => maybe_fn _ w') ?_) | refine HL.one (H1.callx rfl rfl (fun w' _ => day_fn _ w') ?_) | refine HL.one (H1.callx rfl rfl (fun w' _ => number_fn _ w') ?_) | apply HL.fold | apply HA.fold | apply HL.nil | apply HX.n_then | apply HC.seq | apply HC.region | refine HL.pa ?_ | refine HL.ga rfl ?_ | refine HL.na rfl ?_ | refine HL.nu rfl rfl ?_ | apply HC.block | apply HC.skip | apply HC.exit | apply HC.ret | apply HX.e_block | refine HX.e_other rfl ?_ | apply HX.e_then | apply HX.e_again | apply HX.n_block | apply HX.r_then | apply HX.r_block | apply HX.r_again | refine HC.cond_yes rfl ?_ | refine HC.cond_no rfl ?_ | refine HL.one (H1.ldb rfl memA rfl rfl ?_) | refine HC.cond rfl (fun hc => ?_) (fun hc => ?_) | refine HC.cond_b rfl (fun hc => ?_) (fun hc => ?_))
  exact hQq.get) : G := hwq ⟨x⟩
instance restDec (r : Rc) : Decidable (restP r) := by unfold restP; infer_instance
def rid (k : Int) : Nat := if k = 2 then 187 else if k = 6 ∨ k = 8 then 188 else 199
def shapeC (z : Option Addr × Nat) (k : Int) : List Value := [.slice z.1 (specF k).length z.2, fnV (fid (keyF k)), zv 1, zv 1000000, fnV (rid k)]
attribute [local irreducible] WC WL WX POp Then Again Fn NX W1 WA WO QL RP RA Yld LoopAt HC HL HX HN H1 HA HO HQ HB HP A.blk A.grow A.rd A.obj A.mp AgainH CutH
theorem isSpan_fn (r : Rc) (w : World) : Fn Tryz.prog 199 #[recV r] w fun v w' => v = .bool (decide (r.start ≤ r.stop)) ∧ Ext w w' := by
 refine enterH (l := [_]) rfl Tryz.ntmps199 rfl ?_
 refine hwXE ?_
 refine HL.one (H1.boxAgg (cs := rcells r) rfl rfl (fun b1 => ?_))
 refine hwXE ?_
 exact HX.ret1 rfl rfl fun w' hM => ⟨rfl, hM.ext⟩
theorem isClause_fn (r : Rc) (w : World) : Fn Tryz.prog 187 #[recV r] w fun v w' => v = .bool (decide (r.start ≤ r.stop ∧ r.clause ≠ r.party)) ∧ Ext w w' := by
 refine enterH (l := [_]) rfl Tryz.ntmps187 rfl ?_
 refine hwXE ?_
 refine HL.one (H1.boxAgg (cs := rcells r) rfl rfl (fun b1 => ?_))
 refine hwXE ?_
 refine HL.one (H1.ldAgg (vs := rcells r) rfl memA rfl (fun i v hv => by rw [Nat.zero_add]; exact hv) rfl ?_)
 refine hwXE ?_
 refine HL.one (H1.callx (vs := [recV r]) rfl rfl (fun w' _ => isSpan_fn r w') ?_)
 by_cases h1 : r.start ≤ r.stop
 ·rw [decide_eq_true h1]
  refine hwXE ?_
  exact HX.ret1 rfl rfl fun w' hM => ⟨by simp [h1], hM.ext⟩
 ·rw [decide_eq_false h1]
  refine hwXE ?_
  exact HX.ret1 rfl rfl fun w' hM => ⟨by simp [h1], hM.ext⟩
theorem isAny_fn (r : Rc) (w : World) : Fn Tryz.prog 188 #[recV r] w fun v w' => v = .bool true ∧ Ext w w' := by
 refine enterH (l := [_]) rfl Tryz.ntmps188 rfl ?_
 refine hwXE ?_
 refine HL.one (H1.boxAgg (cs := rcells r) rfl rfl (fun b1 => ?_))
 refine hwXE ?_
 exact HX.ret1 rfl rfl fun w' hM => ⟨rfl, hM.ext⟩
theorem rest_ok (r : Rc) : CallOk Tryz.prog (rid r.kind) ∧ ∀ w : World, Fn Tryz.prog (rid r.kind) #[recV r] w fun v w' => v = .bool (decide (restP r)) ∧ Ext w w' := by
 unfold rid
 by_cases h2 : r.kind = 2
 ·rw [if_pos h2]
  refine ⟨inferInstanceAs (CallOk Tryz.prog 187), fun w => (isClause_fn r w).mono fun v w' ⟨h, hx⟩ => ⟨?_, hx⟩⟩
  rw [h]
  congr 1
  simp only [decide_eq_decide]
  unfold restP
  constructor
  ·exact fun h => ⟨fun _ _ => h.1, fun _ => h.2⟩
  ·exact fun h => ⟨h.1 (by omega) (by omega), h.2 h2⟩
 ·rw [if_neg h2]
  by_cases h6 : r.kind = 6 ∨ r.kind = 8
  ·rw [if_pos h6]
   refine ⟨inferInstanceAs (CallOk Tryz.prog 188), fun w => (isAny_fn r w).mono fun v w' ⟨h, hx⟩ => ⟨?_, hx⟩⟩
   rw [h, decide_eq_true]
   exact ⟨fun a b => by omega, fun a => absurd a h2⟩
  ·rw [if_neg h6]
   refine ⟨inferInstanceAs (CallOk Tryz.prog 199), fun w => (isSpan_fn r w).mono fun v w' ⟨h, hx⟩ => ⟨?_, hx⟩⟩
   rw [h]
   congr 1
   simp only [decide_eq_decide]
   unfold restP
   exact ⟨fun h => ⟨fun _ _ => h, fun a => absurd a h2⟩, fun h => h.1 (by omega) (by omega)⟩
theorem spanned_fn (m : List (Nat × Int × Int)) (bm : Nat) (hm : m.length ≤ 10) (w : World) (hc : ∀ j u, (fcl m)[j]? = some u → w.cell? ⟨bm, j, none⟩ = some u) :
  Fn Tryz.prog 175 #[.slice (some ⟨bm, 0, none⟩) m.length m.length] w fun v w' => ∃ z : Option Addr × Nat, True ∧ v = .agg #[.slice z.1 (3 + m.length) z.2, fnV 189, zv 1, zv 1000000, fnV 199] ∧
   Mm w [A.grow 194 3 z.1 z.2 (3 + m.length) (fcl baseF ++ fcl m)] w' := by
 refine enterH (l := [_]) rfl Tryz.ntmps175 rfl ?_
 refine hwXE ?_
 refine HL.one (H1.alloc (cs := [.slice none 0 0, .nilFunc, zv 0, zv 0, .nilFunc]) rfl rfl (fun b2 => ?_))
 refine hwXE ?_
 refine HL.one (H1.lit (cs := fcl baseF) rfl rfl rfl rfl rfl rfl (fun b3 => ?_))
 apply HL.fold
 refine HL.blkGrow (cs := fcl baseF) (n := 3) (sz := 3) rfl (by decide) ?_
 refine hwXE ?_
 refine HL.one (H1.app (sz := 3) (news := fcl m) rfl (by decide) rfl rfl (fun _ _ => by first | ((repeat (first | with_reducible exact Rpl.here | with_reducible apply Rpl.there)); done) | (repeat (first | exact Rpl.here | apply Rpl.there))) (fcl_len m) (fun w' hM j u hu => by
  rw [add_lit, Nat.zero_add]
  exact cell_ext hM.ext (hc j u hu)) (fcl_one m) (by omega) (by decide) rfl (fun a' c' _ => ?_))
 refine hwXE ?_
 refine HL.build (cs := [.slice a' (3 + m.length) c', fnV 189, zv 1, zv 1000000, fnV 199]) rfl rfl rfl ?_
 refine hwXE ?_
 refine HL.one (H1.stAgg (cs := [.slice none 0 0, .nilFunc, zv 0, zv 0, .nilFunc]) (vs := [.slice a' (3 + m.length) c', fnV 189, zv 1, zv 1000000, fnV 199]) rfl rfl rfl (by intro v hv; simp only [List.mem_cons, List.not_mem_nil, or_false] at hv; rcases hv with rfl | rfl | rfl | rfl | rfl <;> rfl) rplA rfl ?_)
 refine hwXE ?_
 exact HX.retc1 (cs := [.slice a' (3 + m.length) c', fnV 189, zv 1, zv 1000000, fnV 199]) rfl rfl memA rfl fun w' hM => ⟨(a', c'), trivial, rfl, hM.sub (by repeat (first | exact Hs.nil _ | (refine Hs.cons pickA ?_)))⟩
set_option maxHeartbeats 2000000 in
theorem shapeOf_fn (k : Int) (hk : 1 ≤ k ∧ k ≤ 8) (w : World) :
  Fn Tryz.prog 152 #[zv k] w fun v w' => ∃ z : Option Addr × Nat, True ∧ v = .tuple #[.agg (shapeC z k).toArray, .bool true] ∧ Mm w [A.grow 194 3 z.1 z.2 (specF k).length (fcl (specF k))] w' := by
 refine enterH (l := [_]) rfl Tryz.ntmps152 rfl ?_
 rcases (show k = 1 ∨ k = 2 ∨ k = 3 ∨ k = 4 ∨ k = 5 ∨ k = 6 ∨ k = 7 ∨ k = 8 by omega) with rfl | rfl | rfl | rfl | rfl | rfl | rfl | rfl
 ·refine hwXE ?_
  refine HL.one (H1.alloc (cs := [.slice none 0 0, .nilFunc, zv 0, zv 0, .nilFunc]) rfl rfl (fun b2 => ?_))
  refine hwXE ?_
  refine HL.one (H1.lit (cs := fcl [(4, 1, 1000000), (5, 1, 1000000)]) rfl rfl rfl rfl rfl rfl (fun b3 => ?_))
  refine hwXE ?_
  refine HL.one (H1.callz1 (vs := [.slice (some ⟨b3, 0, none⟩) 2 2]) rfl rfl (fun w' hM => spanned_fn [(4, 1, 1000000), (5, 1, 1000000)] b3 (by decide) w' fun j u hu => (hM.blk (b := b3) memA).cell hu) ?_)
  rintro ⟨a, c⟩ -
  dsimp only
  rw [show fcl baseF ++ fcl [(4, 1, 1000000), (5, 1, 1000000)] = fcl (specF 1) from rfl]
  refine hwXE ?_
  refine HL.one (H1.stAgg (cs := [.slice none 0 0, .nilFunc, zv 0, zv 0, .nilFunc]) (vs := [.slice a 5 c, fnV 189, zv 1, zv 1000000, fnV 199]) rfl rfl rfl (by intro v hv; simp only [List.mem_cons, List.not_mem_nil, or_false] at hv; rcases hv with rfl | rfl | rfl | rfl | rfl <;> rfl) rplA rfl ?_)
  refine hwXE ?_
  exact HX.retc2 (cs := [.slice a 5 c, fnV 189, zv 1, zv 1000000, fnV 199]) rfl rfl rfl memA rfl fun w' hM => ⟨(a, c), trivial, rfl, hM.sub (by repeat (first | exact Hs.nil _ | (refine Hs.cons pickA ?_)))⟩
 ·refine hwXE ?_
  refine HL.one (H1.alloc (cs := [.slice none 0 0, .nilFunc, zv 0, zv 0, .nilFunc]) rfl rfl (fun b2 => ?_))
  refine hwXE ?_
  refine HL.build (cs := [.nilFunc, zv 0, zv 0]) rfl rfl rfl ?_
  refine hwXE ?_
  refine HL.one (H1.lit (cs := fcl (specF 2)) rfl rfl rfl rfl rfl rfl (fun b3 => ?_))
  apply HL.fold
  refine HL.blkGrow (cs := fcl (specF 2)) (n := 8) (sz := 3) rfl (by decide) ?_
  refine hwXE ?_
  refine HL.build (cs := [.slice (some ⟨b3, 0, none⟩) 8 8, fnV 179, zv 1, zv 1000000, fnV 187]) rfl rfl rfl ?_
  refine hwXE ?_
  refine HL.one (H1.stAgg (cs := [.slice none 0 0, .nilFunc, zv 0, zv 0, .nilFunc]) (vs := [.slice (some ⟨b3, 0, none⟩) 8 8, fnV 179, zv 1, zv 1000000, fnV 187]) rfl rfl rfl (by intro v hv; simp only [List.mem_cons, List.not_mem_nil, or_false] at hv; rcases hv with rfl | rfl | rfl | rfl | rfl <;> rfl) rplA rfl ?_)
  refine hwXE ?_
  exact HX.retc2 (cs := [.slice (some ⟨b3, 0, none⟩) 8 8, fnV 179, zv 1, zv 1000000, fnV 187]) rfl rfl rfl memA rfl fun w' hM => ⟨(some ⟨b3, 0, none⟩, 8), trivial, rfl, hM.sub (by repeat (first | exact Hs.nil _ | (refine Hs.cons pickA ?_)))⟩
 ·refine hwXE ?_
  refine HL.one (H1.alloc (cs := [.slice none 0 0, .nilFunc, zv 0, zv 0, .nilFunc]) rfl rfl (fun b2 => ?_))
  refine hwXE ?_
  refine HL.one (H1.lit (cs := fcl [(3, 1, 1000000), (6, 0, 1000000), (9, 1, 1000000)]) rfl rfl rfl rfl rfl rfl (fun b3 => ?_))
  refine hwXE ?_
  refine HL.one (H1.callz1 (vs := [.slice (some ⟨b3, 0, none⟩) 3 3]) rfl rfl (fun w' hM => spanned_fn [(3, 1, 1000000), (6, 0, 1000000), (9, 1, 1000000)] b3 (by decide) w' fun j u hu => (hM.blk (b := b3) memA).cell hu) ?_)
  rintro ⟨a, c⟩ -
  dsimp only
  rw [show fcl baseF ++ fcl [(3, 1, 1000000), (6, 0, 1000000), (9, 1, 1000000)] = fcl (specF 3) from rfl]
  refine hwXE ?_
  refine HL.one (H1.stAgg (cs := [.slice none 0 0, .nilFunc, zv 0, zv 0, .nilFunc]) (vs := [.slice a 6 c, fnV 189, zv 1, zv 1000000, fnV 199]) rfl rfl rfl (by intro v hv; simp only [List.mem_cons, List.not_mem_nil, or_false] at hv; rcases hv with rfl | rfl | rfl | rfl | rfl <;> rfl) rplA rfl ?_)
  refine hwXE ?_
  exact HX.retc2 (cs := [.slice a 6 c, fnV 189, zv 1, zv 1000000, fnV 199]) rfl rfl rfl memA rfl fun w' hM => ⟨(a, c), trivial, rfl, hM.sub (by repeat (first | exact Hs.nil _ | (refine Hs.cons pickA ?_)))⟩
 ·refine hwXE ?_
  refine HL.one (H1.alloc (cs := [.slice none 0 0, .nilFunc, zv 0, zv 0, .nilFunc]) rfl rfl (fun b2 => ?_))
  refine hwXE ?_
  refine HL.one (H1.lit (cs := fcl [(3, 1, 1000000)]) rfl rfl rfl rfl rfl rfl (fun b3 => ?_))
  refine hwXE ?_
  refine HL.one (H1.callz1 (vs := [.slice (some ⟨b3, 0, none⟩) 1 1]) rfl rfl (fun w' hM => spanned_fn [(3, 1, 1000000)] b3 (by decide) w' fun j u hu => (hM.blk (b := b3) memA).cell hu) ?_)
  rintro ⟨a, c⟩ -
  dsimp only
  rw [show fcl baseF ++ fcl [(3, 1, 1000000)] = fcl (specF 4) from rfl]
  refine hwXE ?_
  refine HL.one (H1.stAgg (cs := [.slice none 0 0, .nilFunc, zv 0, zv 0, .nilFunc]) (vs := [.slice a 4 c, fnV 189, zv 1, zv 1000000, fnV 199]) rfl rfl rfl (by intro v hv; simp only [List.mem_cons, List.not_mem_nil, or_false] at hv; rcases hv with rfl | rfl | rfl | rfl | rfl <;> rfl) rplA rfl ?_)
  refine hwXE ?_
  exact HX.retc2 (cs := [.slice a 4 c, fnV 189, zv 1, zv 1000000, fnV 199]) rfl rfl rfl memA rfl fun w' hM => ⟨(a, c), trivial, rfl, hM.sub (by repeat (first | exact Hs.nil _ | (refine Hs.cons pickA ?_)))⟩
 ·refine hwXE ?_
  refine HL.one (H1.alloc (cs := [.slice none 0 0, .nilFunc, zv 0, zv 0, .nilFunc]) rfl rfl (fun b2 => ?_))
  refine hwXE ?_
  refine HL.one (H1.lit (cs := fcl [(3, 0, 1000000)]) rfl rfl rfl rfl rfl rfl (fun b3 => ?_))
  refine hwXE ?_
  refine HL.one (H1.callz1 (vs := [.slice (some ⟨b3, 0, none⟩) 1 1]) rfl rfl (fun w' hM => spanned_fn [(3, 0, 1000000)] b3 (by decide) w' fun j u hu => (hM.blk (b := b3) memA).cell hu) ?_)
  rintro ⟨a, c⟩ -
  dsimp only
  rw [show fcl baseF ++ fcl [(3, 0, 1000000)] = fcl (specF 5) from rfl]
  refine hwXE ?_
  refine HL.one (H1.stAgg (cs := [.slice none 0 0, .nilFunc, zv 0, zv 0, .nilFunc]) (vs := [.slice a 4 c, fnV 189, zv 1, zv 1000000, fnV 199]) rfl rfl rfl (by intro v hv; simp only [List.mem_cons, List.not_mem_nil, or_false] at hv; rcases hv with rfl | rfl | rfl | rfl | rfl <;> rfl) rplA rfl ?_)
  refine hwXE ?_
  exact HX.retc2 (cs := [.slice a 4 c, fnV 189, zv 1, zv 1000000, fnV 199]) rfl rfl rfl memA rfl fun w' hM => ⟨(a, c), trivial, rfl, hM.sub (by repeat (first | exact Hs.nil _ | (refine Hs.cons pickA ?_)))⟩
 ·refine hwXE ?_
  refine HL.one (H1.alloc (cs := [.slice none 0 0, .nilFunc, zv 0, zv 0, .nilFunc]) rfl rfl (fun b2 => ?_))
  refine hwXE ?_
  refine HL.one (H1.lit (cs := fcl (specF 6)) rfl rfl rfl rfl rfl rfl (fun b3 => ?_))
  apply HL.fold
  refine HL.blkGrow (cs := fcl (specF 6)) (n := 2) (sz := 3) rfl (by decide) ?_
  refine hwXE ?_
  refine HL.build (cs := [.slice (some ⟨b3, 0, none⟩) 2 2, fnV 186, zv 1, zv 1000000, fnV 188]) rfl rfl rfl ?_
  refine hwXE ?_
  refine HL.one (H1.stAgg (cs := [.slice none 0 0, .nilFunc, zv 0, zv 0, .nilFunc]) (vs := [.slice (some ⟨b3, 0, none⟩) 2 2, fnV 186, zv 1, zv 1000000, fnV 188]) rfl rfl rfl (by intro v hv; simp only [List.mem_cons, List.not_mem_nil, or_false] at hv; rcases hv with rfl | rfl | rfl | rfl | rfl <;> rfl) rplA rfl ?_)
  refine hwXE ?_
  exact HX.retc2 (cs := [.slice (some ⟨b3, 0, none⟩) 2 2, fnV 186, zv 1, zv 1000000, fnV 188]) rfl rfl rfl memA rfl fun w' hM => ⟨(some ⟨b3, 0, none⟩, 2), trivial, rfl, hM.sub (by repeat (first | exact Hs.nil _ | (refine Hs.cons pickA ?_)))⟩
 ·refine hwXE ?_
  refine HL.one (H1.alloc (cs := [.slice none 0 0, .nilFunc, zv 0, zv 0, .nilFunc]) rfl rfl (fun b2 => ?_))
  refine hwXE ?_
  refine HL.build (cs := [fnV 179, zv 0, zv 63]) rfl rfl rfl ?_
  refine hwXE ?_
  refine HL.one (H1.lit (cs := fcl [(3, 1, 1000000), (6, 0, 1000000), (7, 0, 63)]) rfl rfl rfl rfl rfl rfl (fun b3 => ?_))
  refine hwXE ?_
  refine HL.one (H1.callz1 (vs := [.slice (some ⟨b3, 0, none⟩) 3 3]) rfl rfl (fun w' hM => spanned_fn [(3, 1, 1000000), (6, 0, 1000000), (7, 0, 63)] b3 (by decide) w' fun j u hu => (hM.blk (b := b3) memA).cell hu) ?_)
  rintro ⟨a, c⟩ -
  dsimp only
  rw [show fcl baseF ++ fcl [(3, 1, 1000000), (6, 0, 1000000), (7, 0, 63)] = fcl (specF 7) from rfl]
  refine hwXE ?_
  refine HL.one (H1.stAgg (cs := [.slice none 0 0, .nilFunc, zv 0, zv 0, .nilFunc]) (vs := [.slice a 6 c, fnV 189, zv 1, zv 1000000, fnV 199]) rfl rfl rfl (by intro v hv; simp only [List.mem_cons, List.not_mem_nil, or_false] at hv; rcases hv with rfl | rfl | rfl | rfl | rfl <;> rfl) rplA rfl ?_)
  refine hwXE ?_
  exact HX.retc2 (cs := [.slice a 6 c, fnV 189, zv 1, zv 1000000, fnV 199]) rfl rfl rfl memA rfl fun w' hM => ⟨(a, c), trivial, rfl, hM.sub (by repeat (first | exact Hs.nil _ | (refine Hs.cons pickA ?_)))⟩
 ·refine hwXE ?_
  refine HL.one (H1.alloc (cs := [.slice none 0 0, .nilFunc, zv 0, zv 0, .nilFunc]) rfl rfl (fun b2 => ?_))
  refine hwXE ?_
  refine HL.one (H1.lit (cs := fcl (specF 8)) rfl rfl rfl rfl rfl rfl (fun b3 => ?_))
  apply HL.fold
  refine HL.blkGrow (cs := fcl (specF 8)) (n := 4) (sz := 3) rfl (by decide) ?_
  refine hwXE ?_
  refine HL.build (cs := [.slice (some ⟨b3, 0, none⟩) 4 4, fnV 189, zv 1, zv 1000000, fnV 188]) rfl rfl rfl ?_
  refine hwXE ?_
  refine HL.one (H1.stAgg (cs := [.slice none 0 0, .nilFunc, zv 0, zv 0, .nilFunc]) (vs := [.slice (some ⟨b3, 0, none⟩) 4 4, fnV 189, zv 1, zv 1000000, fnV 188]) rfl rfl rfl (by intro v hv; simp only [List.mem_cons, List.not_mem_nil, or_false] at hv; rcases hv with rfl | rfl | rfl | rfl | rfl <;> rfl) rplA rfl ?_)
  refine hwXE ?_
  exact HX.retc2 (cs := [.slice (some ⟨b3, 0, none⟩) 4 4, fnV 189, zv 1, zv 1000000, fnV 188]) rfl rfl rfl memA rfl fun w' hM => ⟨(some ⟨b3, 0, none⟩, 4), trivial, rfl, hM.sub (by repeat (first | exact Hs.nil _ | (refine Hs.cons pickA ?_)))⟩
theorem shapeOf_no (k : Int) (hk : ¬ (1 ≤ k ∧ k ≤ 8)) (w : World) :
  Fn Tryz.prog 152 #[zv k] w fun v w' => v = .tuple #[.agg #[.slice none 0 0, .nilFunc, zv 0, zv 0, .nilFunc], .bool false] ∧ Ext w w' := by
 refine enterH (l := [_]) rfl Tryz.ntmps152 rfl ?_
 have h1 : ¬ k = 1 := by omega
 have h2 : ¬ k = 2 := by omega
 have h3 : ¬ k = 3 := by omega
 have h4 : ¬ k = 4 := by omega
 have h5 : ¬ k = 5 := by omega
 have h6 : ¬ k = 6 := by omega
 have h7 : ¬ k = 7 := by omega
 have h8 : ¬ k = 8 := by omega
 refine hwXE ?_
 refine HL.one (H1.alloc (cs := [.slice none 0 0, .nilFunc, zv 0, zv 0, .nilFunc]) rfl rfl (fun b2 => ?_))
 refine hwXE ?_
 refine HL.build (cs := [.slice none 0 0, .nilFunc, zv 0, zv 0, .nilFunc]) rfl rfl rfl ?_
 refine hwXE ?_
 refine HL.one (H1.stAgg (cs := [.slice none 0 0, .nilFunc, zv 0, zv 0, .nilFunc]) (vs := [.slice none 0 0, .nilFunc, zv 0, zv 0, .nilFunc]) rfl rfl rfl (by intro v hv; simp only [List.mem_cons, List.not_mem_nil, or_false] at hv; rcases hv with rfl | rfl | rfl | rfl | rfl <;> rfl) rplA rfl ?_)
 refine hwXE ?_
 exact HX.retc2 (cs := [.slice none 0 0, .nilFunc, zv 0, zv 0, .nilFunc]) rfl rfl rfl memA rfl fun w' hM => ⟨rfl, hM.ext⟩
end Go.Sx
/- Chapter 20: Valid. -/
namespace Go.Sx
open Go Go.Proofs Go.RowKit
section
variable {P : Program} {N : Nat} {ds : List Deferred} {E : Env} {t t' ty : TypeId} {x y : Operand}
theorem run_equalIn_fnil {a b : Array TypeId} {c : Bool} [h : UTy P t (.func a b c)] (w : World) (d : Nat) : (Op.equalIn (d + 1) t .nilFunc .nilFunc).run P w = .ok true w := by
 simp [Op.equalIn, Sem.run_bind, run_underlying h.is, Result.andThen]
theorem run_equalIn_fsome {a b : Array TypeId} {c : Bool} {f : _root_.Go.Fn} {p q : Array Value} [h : UTy P t (.func a b c)] (w : World) (d : Nat) : (Op.equalIn (d + 1) t (.func f p q) .nilFunc).run P w = .ok false w := by
 simp [Op.equalIn, Sem.run_bind, run_underlying h.is, Result.andThen]
theorem POp.fnil1 {a b : Array TypeId} {c : Bool} [h : UTy P t (.func a b c)] (hx : Env.ev E x = some .nilFunc) (hy : Env.ev E y = some .nilFunc) : POp P N ds E (.binOp .eql t x y t') ty (.bool true) :=
 POp.bin hx hy (fun w => by rw [eqGuard_at_nilFunc]; rfl) fun w => by
  have e := run_equalIn_fnil (P := P) (t := t) w 9999
  show ((Op.equalIn (9999 + 1) t .nilFunc .nilFunc) >>= fun r => pure (Value.bool r)).run P w = _
  rw [Sem.run_bind, e]; rfl
theorem POp.fnil0 {a b : Array TypeId} {c : Bool} {f : _root_.Go.Fn} {p q : Array Value} [h : UTy P t (.func a b c)] (hx : Env.ev E x = some (.func f p q)) (hy : Env.ev E y = some .nilFunc) : POp P N ds E (.binOp .eql t x y t') ty (.bool false) :=
 POp.bin hx hy (fun w => by rw [eqGuard_at_func]; rfl) fun w => by
  have e := run_equalIn_fsome (P := P) (t := t) (f := f) (p := p) (q := q) w 9999
  show ((Op.equalIn (9999 + 1) t (.func f p q) .nilFunc) >>= fun r => pure (Value.bool r)).run P w = _
  rw [Sem.run_bind, e]; rfl
end
def Rc.clr (r : Rc) : Nat → Rc
 | 0 => { r with id := 0 }
 | 1 => { r with start := 0 }
 | 2 => { r with stop := 0 }
 | 3 => { r with pack := 0 }
 | 4 => { r with person := 0 }
 | 5 => { r with role := 0 }
 | 6 => { r with purpose := 0 }
 | 7 => { r with clause := 0 }
 | 8 => { r with adm := false }
 | 9 => { r with party := 0 }
 | _ => r
theorem ten {i : Nat} (h : i < 10) : i = 0 ∨ i = 1 ∨ i = 2 ∨ i = 3 ∨ i = 4 ∨ i = 5 ∨ i = 6 ∨ i = 7 ∨ i = 8 ∨ i = 9 := by omega
theorem cells_clr (r : Rc) {i : Nat} (h : i < 10) (h8 : i ≠ 8) : (rcells r).set (fpos i) (zv 0) = rcells (r.clr i) := by
 rcases ten h with rfl | rfl | rfl | rfl | rfl | rfl | rfl | rfl | rfl | rfl <;> first | rfl | exact absurd rfl h8
theorem cells_clr8 (r : Rc) : (rcells r).set 12 (.bool false) = rcells (r.clr 8) := rfl
theorem cells_get (r : Rc) {i : Nat} (h : i < 10) (h8 : i ≠ 8) : (rcells r)[fpos i]? = some (zv (r.get i)) := by
 rcases ten h with rfl | rfl | rfl | rfl | rfl | rfl | rfl | rfl | rfl | rfl <;> first | rfl | exact absurd rfl h8
theorem fpos_lt (i : Nat) : fpos i < 15 := by
 by_cases h : i < 10
 ·rcases ten h with rfl | rfl | rfl | rfl | rfl | rfl | rfl | rfl | rfl | rfl <;> decide
 ·match i, h with
  | n + 10, _ => exact (by decide : 0 < 15)
  | 0, h => omega
  | 1, h => omega
  | 2, h => omega
  | 3, h => omega
  | 4, h => omega
  | 5, h => omega
  | 6, h => omega
  | 7, h => omega
  | 8, h => omega
  | 9, h => omega
theorem get_clr (r : Rc) {i j : Nat} (hi : i < 10) (hj : j < 10) : (r.clr i).get j = if i = j then 0 else r.get j := by
 rcases ten hi with rfl | rfl | rfl | rfl | rfl | rfl | rfl | rfl | rfl | rfl <;> rcases ten hj with rfl | rfl | rfl | rfl | rfl | rfl | rfl | rfl | rfl | rfl <;> rfl
structure SameHead (r s : Rc) : Prop where
 kind : r.kind = s.kind
 version : r.version = s.version
 day : r.day = s.day
 gone : r.gone = s.gone
 text : r.text = s.text
theorem SameHead.clr {r s : Rc} (h : SameHead r s) (i : Nat) : SameHead (r.clr i) s := by
 obtain ⟨h1, h2, h3, h4, h5⟩ := h
 by_cases hi : i < 10
 ·rcases ten hi with rfl | rfl | rfl | rfl | rfl | rfl | rfl | rfl | rfl | rfl <;> exact ⟨h1, h2, h3, h4, h5⟩
 ·have e : r.clr i = r := by
   match i, hi with
   | n + 10, _ => rfl
   | 0, h => omega
   | 1, h => omega
   | 2, h => omega
   | 3, h => omega
   | 4, h => omega
   | 5, h => omega
   | 6, h => omega
   | 7, h => omega
   | 8, h => omega
   | 9, h => omega
  rw [e]; exact ⟨h1, h2, h3, h4, h5⟩
theorem RcOk.clr {r : Rc} (h : RcOk r) {i : Nat} (hi : i < 10) : RcOk (r.clr i) := by
 obtain ⟨h1, h2, h3, h4, h5, h6, h7, h8, h9, h10, h11, h12, h13⟩ := h
 have z : i64W 0 := by unfold i64W; omega
 rcases ten hi with rfl | rfl | rfl | rfl | rfl | rfl | rfl | rfl | rfl | rfl <;> constructor <;> assumption
def zr (r : Rc) (l : List (Nat × Int × Int)) : Rc := l.foldl (fun r p => r.clr p.1) r
theorem zr_snoc (r : Rc) (l : List (Nat × Int × Int)) (p : Nat × Int × Int) : zr r (l ++ [p]) = (zr r l).clr p.1 := by unfold zr; rw [List.foldl_append]; rfl
theorem zr_head : ∀ (l : List (Nat × Int × Int)) (r s : Rc), SameHead r s → SameHead (zr r l) s
 | [], _, _, h => h
 | p :: l, _, _, h => zr_head l _ _ (h.clr p.1)
theorem zr_ok : ∀ (l : List (Nat × Int × Int)) (r : Rc), (∀ p ∈ l, p.1 < 10) → RcOk r → RcOk (zr r l)
 | [], _, _, h => h
 | p :: l, _, hl, h => zr_ok l _ (fun q hq => hl q (List.mem_cons_of_mem _ hq)) (h.clr (hl p (List.mem_cons_self ..)))
theorem zr_get : ∀ (l : List (Nat × Int × Int)) (r : Rc), (∀ p ∈ l, p.1 < 10) → ∀ j, j < 10 → (zr r l).get j = if j ∈ l.map Prod.fst then 0 else r.get j
 | [], _, _, _, _ => rfl
 | p :: l, r, hl, j, hj => by
  show (zr (r.clr p.1) l).get j = _
  rw [zr_get l (r.clr p.1) (fun q hq => hl q (List.mem_cons_of_mem _ hq)) j hj, get_clr r (hl p (List.mem_cons_self ..)) hj]
  by_cases h1 : j ∈ l.map Prod.fst
  ·rw [if_pos h1, if_pos (by rw [List.map_cons]; exact List.mem_cons_of_mem _ h1)]
  ·rw [if_neg h1]
   by_cases h2 : p.1 = j
   ·rw [if_pos h2, if_pos (by rw [List.map_cons, h2]; exact List.mem_cons_self ..)]
   ·rw [if_neg h2, if_neg (by rw [List.map_cons, List.mem_cons]; rintro (h | h); exact h2 h.symm; exact h1 h)]
theorem spec_nodup (k : Int) : ((specF k).map Prod.fst).Nodup := by
 unfold specF
 repeat' split
 all_goals decide
theorem spec_len (k : Int) : (specF k).length ≤ 8 := by
 unfold specF
 repeat' split
 all_goals decide
theorem spec_pos {k : Int} (h : 1 ≤ k ∧ k ≤ 8) : 0 < (specF k).length := by
 rcases (show k = 1 ∨ k = 2 ∨ k = 3 ∨ k = 4 ∨ k = 5 ∨ k = 6 ∨ k = 7 ∨ k = 8 by omega) with rfl | rfl | rfl | rfl | rfl | rfl | rfl | rfl <;> decide
theorem spec8 {k : Int} {p : Nat × Int × Int} (h : p ∈ specF k) (h8 : p.1 = 8) : p.2.1 = 0 ∧ p.2.2 = 1 := by
 unfold specF at h
 repeat' split at h
 all_goals (simp only [List.mem_cons, List.not_mem_nil, or_false] at h)
 all_goals (first | (rcases h with rfl | rfl | rfl | rfl | rfl | rfl | rfl | rfl <;> first | (exact absurd h8 (by decide)) | decide) | (rcases h with rfl | rfl | rfl | rfl | rfl | rfl <;> first | (exact absurd h8 (by decide)) | decide) | (rcases h with rfl | rfl | rfl | rfl | rfl <;> first | (exact absurd h8 (by decide)) | decide) | (rcases h with rfl | rfl | rfl | rfl <;> first | (exact absurd h8 (by decide)) | decide) | (rcases h with rfl | rfl <;> first | (exact absurd h8 (by decide)) | decide))
theorem spec_hi {k : Int} {p : Nat × Int × Int} (h : p ∈ specF k) : p.2.2 ≤ 1000000 := by
 unfold specF at h
 repeat' split at h
 all_goals (simp only [List.mem_cons, List.not_mem_nil, or_false] at h)
 all_goals (first | (rcases h with rfl | rfl | rfl | rfl | rfl | rfl | rfl | rfl <;> decide) | (rcases h with rfl | rfl | rfl | rfl | rfl | rfl <;> decide) | (rcases h with rfl | rfl | rfl | rfl | rfl <;> decide) | (rcases h with rfl | rfl | rfl | rfl <;> decide) | (rcases h with rfl | rfl <;> decide))
def headR (r : Rc) : Rc := ⟨r.kind, 0, r.version, r.day, r.gone, 0, 0, 0, 0, 0, 0, 0, false, 0, r.text⟩
theorem head_get (r : Rc) {j : Nat} (h : j < 10) : (headR r).get j = 0 := by
 rcases ten h with rfl | rfl | rfl | rfl | rfl | rfl | rfl | rfl | rfl | rfl <;> rfl
theorem zr_eq_head (r : Rc) : zr r (specF r.kind) = headR r ↔ ∀ i, i < 10 → i ∉ (specF r.kind).map Prod.fst → r.get i = 0 := by
 have hl : ∀ p ∈ specF r.kind, p.1 < 10 := fun p hp => (spec_lo hp).2
 constructor
 ·intro h i hi hm
  have h1 := zr_get (specF r.kind) r hl i hi
  rw [if_neg hm, h, head_get r hi] at h1
  exact h1.symm
 ·intro h
  have hh := zr_head (specF r.kind) r r ⟨rfl, rfl, rfl, rfl, rfl⟩
  refine Rc.ext_get hh.kind hh.version hh.day hh.gone hh.text fun i hi => ?_
  rw [zr_get (specF r.kind) r hl i hi, head_get r hi]
  by_cases hm : i ∈ (specF r.kind).map Prod.fst
  ·rw [if_pos hm]
  ·rw [if_neg hm]; exact h i hi hm
theorem headR_ok {r : Rc} (h : RcOk r) : RcOk (headR r) := by
 obtain ⟨h1, h2, h3, h4, h5, h6, h7, h8, h9, h10, h11, h12, h13⟩ := h
 have z : i64W 0 := by unfold i64W; omega
 constructor <;> assumption
noncomputable def validB (r : Rc) : Bool := @decide (ValidR r) (Classical.propDecidable _)
theorem validB_yes {r : Rc} (h : ValidR r) : validB r = true := by unfold validB; exact @decide_eq_true _ (Classical.propDecidable _) h
theorem validB_no {r : Rc} (h : ¬ ValidR r) : validB r = false := by unfold validB; exact @decide_eq_false _ (Classical.propDecidable _) h
theorem validB_iff {r : Rc} : validB r = true ↔ ValidR r := by unfold validB; exact @decide_eq_true_iff _ (Classical.propDecidable _)
theorem rcells_one (r : Rc) : ∀ v ∈ rcells r, v.oneCell' = true := by
 unfold rcells
 intro v hv
 simp only [List.mem_cons, List.not_mem_nil, or_false] at hv
 rcases hv with rfl | rfl | rfl | rfl | rfl | rfl | rfl | rfl | rfl | rfl | rfl | rfl | rfl | rfl | rfl <;> rfl
theorem fcl_get {l : List (Nat × Int × Int)} : ∀ {j : Nat} {p : Nat × Int × Int}, l[j]? = some p → ∀ (i : Nat) (v : Value), (fcells p)[i]? = some v → (fcl l)[j * 3 + i]? = some v := by
 induction l with
 | nil => intro j p h; simp at h
 | cons q l ih =>
  intro j p h i v hv
  have e : fcl (q :: l) = fcells q ++ fcl l := rfl
  rw [e]
  cases j with
  | zero =>
   simp only [List.getElem?_cons_zero, Option.some.injEq] at h
   subst h
   rw [Nat.zero_mul, Nat.zero_add, List.getElem?_append_left (by rw [fcells_len]; have := (List.getElem?_eq_some_iff.1 hv).1; rwa [fcells_len] at this)]
   exact hv
  | succ j =>
   rw [List.getElem?_cons_succ] at h
   have h1 := ih h i v hv
   rw [List.getElem?_append_right (by rw [fcells_len]; omega), fcells_len, show (j + 1) * 3 + i - 3 = j * 3 + i by omega]
   exact h1
def rcZ : Rc := ⟨0, 0, 0, 0, false, 0, 0, 0, 0, 0, 0, 0, false, 0, ByteArray.mk #[]⟩
end Go.Sx
/- Chapter 20: Valid is ValidR. -/
namespace Go.Sx
open Go Go.Proofs Go.RowKit
theorem hwXG {G G2 : Prop} (x : G2) (hwq : Hold G2 → G := by
  intro hQq
  repeat' (first | refine HL.pa ?_ (POp.fnil0 rfl rfl) | refine HL.pa ?_ (POp.fnil1 rfl rfl) | refine HL.pa ?_ (POp.nilCheck rfl) | apply HL.fold | apply HA.fold | apply HL.nil | apply HX.n_then | apply HC.seq | apply HC.region | refine HL.pa ?_ | refine HL.ga rfl ?_ | refine HL.na rfl ?_ | refine HL.nu rfl rfl ?_ | apply HC.block | apply HC.skip | apply HC.exit | apply HC.ret | apply HX.e_block | refine HX.e_other rfl ?_ | apply HX.e_then | apply HX.e_again | apply HX.n_block | apply HX.r_then | apply HX.r_block | apply HX.r_again | refine HC.cond_yes rfl ?_ | refine HC.cond_no rfl ?_ | refine HL.one (H1.ldb rfl memA rfl rfl ?_) | refine HC.cond rfl (fun hc => ?_) (fun hc => ?_) | refine HC.cond_b rfl (fun hc => ?_) (fun hc => ?_))
  exact hQq.get) : G := hwq ⟨x⟩
instance utyFn : UTy Tryz.prog 192 (.func #[200] #[199] false) := ⟨by kernel_rfl⟩
theorem call1 {P : Program} {f : FuncId} {v u : Value} {w : World} (h : Fn P f #[v] w fun x w' => x = u ∧ Ext w w') : Fn P f ([v] ++ ([] : List Value)).toArray w fun x w' => x = u ∧ Ext w w' := h
theorem call1w {P : Program} {f : FuncId} {v u : Value} {w : World} (h : Fn P f #[v] w fun x w' => x = u ∧ w = w') : Fn P f ([v] ++ ([] : List Value)).toArray w fun x w' => x = u ∧ Ext w w' := h.mono fun _ _ ⟨h1, h2⟩ => ⟨h1, h2 ▸ Ext.refl _⟩
attribute [local irreducible] WC WL WX POp Then Again Fn NX W1 WA WO QL RP RA Yld LoopAt HC HL HX HN H1 HA HO HQ HB HP A.blk A.grow A.rd A.obj A.mp AgainH CutH
attribute [local irreducible] specF zr
set_option maxHeartbeats 4000000 in
theorem valid_fn (r : Rc) (hr : RcOk r) (w : World) : Fn Tryz.prog 127 #[recV r] w fun v w' => v = .bool (validB r) ∧ Ext w w' := by
 refine enterH (l := [_]) rfl Tryz.ntmps127 rfl ?_
 refine hwXG ?_
 refine HL.one (H1.boxAgg (cs := rcells r) rfl rfl (fun b1 => ?_))
 refine hwXG ?_
 by_cases hk : 1 ≤ r.kind ∧ r.kind ≤ 8
 rotate_left
 ·refine HL.one (H1.callx (vs := [zv r.kind]) rfl rfl (fun w' _ => shapeOf_no r.kind hk w') ?_)
  refine hwXG ?_
  refine HL.one (H1.alloc (cs := [.slice none 0 0, .nilFunc, zv 0, zv 0, .nilFunc]) rfl rfl (fun b3 => ?_))
  refine hwXG ?_
  refine HL.one (H1.stAgg (cs := [.slice none 0 0, .nilFunc, zv 0, zv 0, .nilFunc]) (vs := [.slice none 0 0, .nilFunc, zv 0, zv 0, .nilFunc]) rfl rfl rfl (by intro v hv; simp only [List.mem_cons, List.not_mem_nil, or_false] at hv; rcases hv with rfl | rfl | rfl | rfl | rfl <;> rfl) rplA rfl ?_)
  refine hwXG ?_
  exact HX.ret1 rfl rfl fun w' hM => ⟨by rw [validB_no fun h => hk h.kind], hM.ext⟩
 refine HL.one (H1.callz1 (vs := [zv r.kind]) rfl rfl (fun w' _ => shapeOf_fn r.kind hk w') ?_)
 rintro ⟨a, c⟩ -
 have hlen := spec_len r.kind
 have hpos := spec_pos hk
 refine hwXG ?_
 refine HL.openg (e := 194) (a := a) (xs := fcl (specF r.kind)) memA (by omega) ?_
 rintro bz rfl
 refine HL.one (H1.alloc (cs := [.slice none 0 0, .nilFunc, zv 0, zv 0, .nilFunc]) rfl rfl (fun b3 => ?_))
 refine hwXG ?_
 refine HL.one (H1.stAgg (cs := [.slice none 0 0, .nilFunc, zv 0, zv 0, .nilFunc]) (vs := shapeC (some ⟨bz, 0, none⟩, c) r.kind) rfl rfl rfl (by unfold shapeC; intro v hv; simp only [List.mem_cons, List.not_mem_nil, or_false] at hv; rcases hv with rfl | rfl | rfl | rfl | rfl <;> rfl) rplA rfl ?_)
 simp only [shapeC]
 by_cases c1 : r.version < 1
 ·refine hwXG ?_
  exact HX.ret1 rfl rfl fun w' hM => ⟨by rw [validB_no fun h => by have := h.ver; omega], hM.ext⟩
 by_cases c2 : 1000000 < r.version
 ·refine hwXG ?_
  exact HX.ret1 rfl rfl fun w' hM => ⟨by rw [validB_no fun h => by have := h.ver; omega], hM.ext⟩
 by_cases c3 : r.day < 0
 ·refine hwXG ?_
  exact HX.ret1 rfl rfl fun w' hM => ⟨by rw [validB_no fun h => by have := h.day; omega], hM.ext⟩
 by_cases c4 : 100000 < r.day
 ·refine hwXG ?_
  exact HX.ret1 rfl rfl fun w' hM => ⟨by rw [validB_no fun h => by have := h.day; omega], hM.ext⟩
 by_cases c5 : (200 : Int) < r.text.size
 ·refine hwXG ?_
  exact HX.ret1 rfl rfl fun w' hM => ⟨by rw [validB_no fun h => by have := h.text; omega], hM.ext⟩
 have hro := rest_ok r
 obtain ⟨ho, hrest⟩ := hro
 refine hwXG ?_
 refine HL.one (H1.ldAgg (vs := rcells r) rfl memA rfl (fun i v hv => by rw [Nat.zero_add]; exact hv) rfl ?_)
 refine hwXG ?_
 refine HL.one (H1.callv0 (hf := ho) (f := rid r.kind) (cap := []) (vs := [recV r]) rfl rfl rfl (fun w' _ => call1 (hrest w')) ?_)
 by_cases c6 : restP r
 rotate_left
 ·rw [decide_eq_false c6]
  refine hwXG ?_
  exact HX.ret1 rfl rfl fun w' hM => ⟨by rw [validB_no fun h => c6 h.rest], hM.ext⟩
 rw [decide_eq_true c6]
 refine hwXG ?_
 refine HL.one (H1.ldAgg (vs := rcells r) rfl memA rfl (fun i v hv => by rw [Nat.zero_add]; exact hv) rfl ?_)
 refine hwXG ?_
 refine HL.one (H1.alloc (cs := rcells rcZ) rfl rfl (fun b5 => ?_))
 refine hwXG ?_
 refine HL.one (H1.stAgg (cs := rcells rcZ) (vs := rcells r) rfl rfl rfl (rcells_one r) rplA rfl ?_)
 refine hwXG ?_
 obtain ⟨L, hL⟩ : ∃ L, L = specF r.kind := ⟨_, rfl⟩
 have hl10 : ∀ p ∈ L, p.1 < 10 := fun p hp => (spec_lo (hL ▸ hp)).2
 have hnd : (L.map Prod.fst).Nodup := by rw [hL]; exact spec_nodup r.kind
 have hl8 : ∀ p ∈ L, p.1 = 8 → p.2.1 = 0 ∧ p.2.2 = 1 := fun p hp => spec8 (hL ▸ hp)
 have hhi : ∀ p ∈ L, p.2.2 ≤ 1000000 ∧ 0 ≤ p.2.1 := fun p hp => ⟨spec_hi (hL ▸ hp), (spec_lo (hL ▸ hp)).1⟩
 rw [← hL] at hlen hpos ⊢
 refine HC.loop (α := Nat) (fun j => [(1, .pointer (some ⟨b1, 0, none⟩)), (5, .pointer (some ⟨b5, 0, none⟩)), (52, .slice (some ⟨bz, 0, none⟩) L.length c), (53, zv (L.length : Int)), (54, zv (j : Int))])
  (fun j => [A.blk b5 (rcells (zr r (L.take j))) 46, A.grow 194 3 (some ⟨bz, 0, none⟩) c L.length (fcl L), A.blk b1 (rcells r) 46]) (fun j => j ≤ L.length ∧ ∀ p ∈ L.take j, p.2.1 ≤ r.get p.1 ∧ r.get p.1 ≤ p.2.2) (fun j => L.length - j) 0 ⟨Nat.zero_le _, fun p hp => by rw [List.take_zero] at hp; cases hp⟩ esA (Hs.blk (by rw [List.take_zero, zr]; rfl) (by repeat (first | exact Hs.nil _ | (refine Hs.cons pickA ?_)))) ?_
 rintro j ⟨hj, hI⟩
 by_cases hlt : j < L.length
 ·obtain ⟨p, hp⟩ : ∃ p, L[j]? = some p := ⟨_, List.getElem?_eq_getElem hlt⟩
  have hpm := List.mem_of_getElem? hp
  have htk : L.take (j + 1) = L.take j ++ [p] := by rw [List.take_add_one, hp]; rfl
  have hp10 := hl10 p hpm
  have hz := zr_snoc r (L.take j) p
  rw [← htk] at hz
  have hnot : p.1 ∉ (L.take j).map Prod.fst := by
   have h1 : (L.map Prod.fst)[j]? = some p.1 := by rw [List.getElem?_map, hp]; rfl
   intro hm
   rw [List.map_take] at hm
   obtain ⟨i, hi, e⟩ := List.getElem_of_mem hm
   rw [List.length_take] at hi
   have h2 : (L.map Prod.fst)[i]? = some p.1 := by
    rw [List.getElem?_eq_getElem (by omega)]
    rw [List.getElem_take] at e
    rw [e]
   have := (List.getElem?_inj (by omega) hnd).1 (h2.trans h1.symm)
   omega
  have hget : (zr r (L.take j)).get p.1 = r.get p.1 := by
   rw [zr_get (L.take j) r (fun q hq => hl10 q (List.mem_of_mem_take hq)) p.1 hp10, if_neg hnot]
  have hI2 : p.2.1 ≤ r.get p.1 ∧ r.get p.1 ≤ p.2.2 → ∀ q ∈ L.take (j + 1), q.2.1 ≤ r.get q.1 ∧ r.get q.1 ≤ q.2.2 := fun h q hq => by
   rw [htk] at hq
   rcases List.mem_append.1 hq with hq | hq
   ·exact hI q hq
   ·obtain rfl := List.mem_singleton.1 hq; exact h
  have hno : ¬ (p.2.1 ≤ r.get p.1 ∧ r.get p.1 ≤ p.2.2) → validB r = false := fun h => validB_no fun hv => h (hv.lim p (hL ▸ hpm))
  have hfg := fcl_get hp
  have h8 := hl8 p hpm
  have hb := hhi p hpm
  obtain ⟨i, lo, hi⟩ := p
  dsimp only at hp10 hz hnot hget hI2 hno h8 hb
  refine hwXG ?_
  by_cases e8 : i = 8
  ·subst e8
   obtain ⟨rfl, rfl⟩ := h8 rfl
   refine HL.one (H1.ldAggw (vs := [.nilFunc, zv 0, zv 0]) rfl rfl (fun w' hM i v hv => ownsRow_cell (hM.own memA) (hfg i v hv)) rfl ?_)
   refine hwXG ?_
   refine HL.one (H1.alloc (cs := [.nilFunc, zv 0, zv 0]) rfl rfl (fun b7 => ?_))
   refine hwXG ?_
   refine HL.one (H1.stAgg (cs := [.nilFunc, zv 0, zv 0]) (vs := [.nilFunc, zv 0, zv 0]) rfl rfl rfl (by intro v hv; simp only [List.mem_cons, List.not_mem_nil, or_false] at hv; rcases hv with rfl | rfl | rfl <;> rfl) rplA rfl ?_)
   refine hwXG ?_
   refine HL.one (H1.st rfl rfl (by intro _ h; cases h) (by intro _ h; cases h) rplA (by show 12 < 15; decide) ?_)
   refine hwXG ?_
   have h12 : (rcells (zr r (L.take j))).set (0 + 12) (.bool false) = rcells (zr r (L.take (j + 1))) := by rw [hz]; exact cells_clr8 _
   rw [h12]
   refine hwXG ?_
   exact HX.again (j + 1) ⟨hlt, hI2 (by show (0 : Int) ≤ b01 r.adm ∧ b01 r.adm ≤ 1; cases r.adm <;> decide)⟩ (by omega) esA (by repeat (first | exact Hs.nil _ | (refine Hs.cons pickA ?_)))
  ·have hfc : fcells (i, lo, hi) = [fnV (fid i), zv lo, zv hi] := if_neg e8
   rw [hfc] at hfg
   obtain ⟨go, hgf⟩ := getter_ok hp10 e8
   have hcell := cells_get (zr r (L.take j)) hp10 e8
   rw [hget] at hcell
   have hset := cells_clr (zr r (L.take j)) hp10 e8
   rw [← hz] at hset
   refine HL.one (H1.ldAggw (vs := [fnV (fid i), zv lo, zv hi]) rfl rfl (fun w' hM i v hv => ownsRow_cell (hM.own memA) (hfg i v hv)) rfl ?_)
   refine hwXG ?_
   refine HL.one (H1.alloc (cs := [.nilFunc, zv 0, zv 0]) rfl rfl (fun b7 => ?_))
   refine hwXG ?_
   refine HL.one (H1.stAgg (cs := [.nilFunc, zv 0, zv 0]) (vs := [fnV (fid i), zv lo, zv hi]) rfl rfl rfl (by intro v hv; simp only [List.mem_cons, List.not_mem_nil, or_false] at hv; rcases hv with rfl | rfl | rfl <;> rfl) rplA rfl ?_)
   refine hwXG ?_
   refine HL.one (H1.callv0 (hf := go) (f := fid i) (cap := []) (vs := [.pointer (some ⟨b5, 0, none⟩)]) rfl rfl rfl (fun w' _ => call1w (hgf b5 w')) ?_)
   generalize r.get i = x at *
   refine hwXG ?_
   by_cases d1 : x < lo
   ·refine HC.any rfl ?_
    refine HA.pa 0 rfl ?_
    refine HA.pa 1 rfl ?_ (POp.nilCheck rfl)
    refine HA.pa 3 rfl ?_
    refine HA.all [2, 4] (by kernel_rfl) rfl ⟨⟨_, rfl, ?_⟩, ⟨_, rfl, ?_⟩, trivial⟩
    ·refine HO.one ?_
     refine H1.ldb (v := zv x) rfl memA hcell rfl ?_
     apply HA.fold
     refine HA.all [4] (by kernel_rfl) rfl ⟨⟨_, rfl, ?_⟩, trivial⟩
     refine HO.one ?_
     refine H1.ldb (v := zv lo) rfl memA rfl rfl ?_
     apply HA.fold
     refine HA.pa 5 rfl ?_
     refine HA.pa 6 rfl ?_
     first | refine HA.ga 7 rfl rfl ?_ | refine HA.na 7 rfl rfl ?_ | refine HA.nu 7 rfl rfl ?_
     first | refine HA.ga 8 rfl rfl ?_ | refine HA.na 8 rfl rfl ?_ | refine HA.nu 8 rfl rfl ?_
     first | refine HA.ga 9 rfl rfl ?_ | refine HA.na 9 rfl rfl ?_ | refine HA.nu 9 rfl rfl ?_
     first | refine HA.ga 10 rfl rfl ?_ | refine HA.na 10 rfl rfl ?_ | refine HA.nu 10 rfl rfl ?_
     first | refine HA.ga 11 rfl rfl ?_ | refine HA.na 11 rfl rfl ?_ | refine HA.nu 11 rfl rfl ?_
     first | refine HA.ga 12 rfl rfl ?_ | refine HA.na 12 rfl rfl ?_ | refine HA.nu 12 rfl rfl ?_
     refine HA.pa 13 rfl ?_
     refine HA.done (by kernel_rfl) ?_
     refine hwXG ?_
     exact HX.ret1 rfl rfl fun w' hM => ⟨by rw [hno (by omega)], hM.ext⟩
    ·refine HO.one ?_
     refine H1.ldb (v := zv lo) rfl memA rfl rfl ?_
     apply HA.fold
     refine HA.all [2] (by kernel_rfl) rfl ⟨⟨_, rfl, ?_⟩, trivial⟩
     refine HO.one ?_
     refine H1.ldb (v := zv x) rfl memA hcell rfl ?_
     apply HA.fold
     refine HA.pa 5 rfl ?_
     refine HA.pa 6 rfl ?_
     first | refine HA.ga 7 rfl rfl ?_ | refine HA.na 7 rfl rfl ?_ | refine HA.nu 7 rfl rfl ?_
     first | refine HA.ga 8 rfl rfl ?_ | refine HA.na 8 rfl rfl ?_ | refine HA.nu 8 rfl rfl ?_
     first | refine HA.ga 9 rfl rfl ?_ | refine HA.na 9 rfl rfl ?_ | refine HA.nu 9 rfl rfl ?_
     first | refine HA.ga 10 rfl rfl ?_ | refine HA.na 10 rfl rfl ?_ | refine HA.nu 10 rfl rfl ?_
     first | refine HA.ga 11 rfl rfl ?_ | refine HA.na 11 rfl rfl ?_ | refine HA.nu 11 rfl rfl ?_
     first | refine HA.ga 12 rfl rfl ?_ | refine HA.na 12 rfl rfl ?_ | refine HA.nu 12 rfl rfl ?_
     refine HA.pa 13 rfl ?_
     refine HA.done (by kernel_rfl) ?_
     refine hwXG ?_
     exact HX.ret1 rfl rfl fun w' hM => ⟨by rw [hno (by omega)], hM.ext⟩
   by_cases d2 : hi < x
   ·refine HC.any rfl ?_
    refine HA.pa 0 rfl ?_
    refine HA.pa 1 rfl ?_ (POp.nilCheck rfl)
    refine HA.pa 3 rfl ?_
    refine HA.all [2, 4] (by kernel_rfl) rfl ⟨⟨_, rfl, ?_⟩, ⟨_, rfl, ?_⟩, trivial⟩
    ·refine HO.one ?_
     refine H1.ldb (v := zv x) rfl memA hcell rfl ?_
     apply HA.fold
     refine HA.all [4] (by kernel_rfl) rfl ⟨⟨_, rfl, ?_⟩, trivial⟩
     refine HO.one ?_
     refine H1.ldb (v := zv lo) rfl memA rfl rfl ?_
     apply HA.fold
     refine HA.pa 5 rfl ?_
     refine HA.pa 6 rfl ?_
     first | refine HA.ga 7 rfl rfl ?_ | refine HA.na 7 rfl rfl ?_ | refine HA.nu 7 rfl rfl ?_
     refine HA.ga (hp := POp.nilCheck rfl) 8 rfl rfl ?_
     first | refine HA.ga 10 rfl rfl ?_ | refine HA.na 10 rfl rfl ?_ | refine HA.nu 10 rfl rfl ?_
     refine HA.all [9, 11] (by kernel_rfl) rfl ⟨⟨_, rfl, ?_⟩, ⟨_, rfl, ?_⟩, trivial⟩
     ·refine HO.one_a rfl ?_
      refine H1.ldb (v := zv x) rfl memA hcell rfl ?_
      apply HA.fold
      refine HA.all [11] (by kernel_rfl) rfl ⟨⟨_, rfl, ?_⟩, trivial⟩
      refine HO.one_a rfl ?_
      refine H1.ldb (v := zv hi) rfl memA rfl rfl ?_
      apply HA.fold
      first | refine HA.ga 12 rfl rfl ?_ | refine HA.na 12 rfl rfl ?_ | refine HA.nu 12 rfl rfl ?_
      refine HA.pa 13 rfl ?_
      refine HA.done (by kernel_rfl) ?_
      refine hwXG ?_
      exact HX.ret1 rfl rfl fun w' hM => ⟨by rw [hno (by omega)], hM.ext⟩
     ·refine HO.one_a rfl ?_
      refine H1.ldb (v := zv hi) rfl memA rfl rfl ?_
      apply HA.fold
      refine HA.all [9] (by kernel_rfl) rfl ⟨⟨_, rfl, ?_⟩, trivial⟩
      refine HO.one_a rfl ?_
      refine H1.ldb (v := zv x) rfl memA hcell rfl ?_
      apply HA.fold
      first | refine HA.ga 12 rfl rfl ?_ | refine HA.na 12 rfl rfl ?_ | refine HA.nu 12 rfl rfl ?_
      refine HA.pa 13 rfl ?_
      refine HA.done (by kernel_rfl) ?_
      refine hwXG ?_
      exact HX.ret1 rfl rfl fun w' hM => ⟨by rw [hno (by omega)], hM.ext⟩
    ·refine HO.one ?_
     refine H1.ldb (v := zv lo) rfl memA rfl rfl ?_
     apply HA.fold
     refine HA.all [2] (by kernel_rfl) rfl ⟨⟨_, rfl, ?_⟩, trivial⟩
     refine HO.one ?_
     refine H1.ldb (v := zv x) rfl memA hcell rfl ?_
     apply HA.fold
     refine HA.pa 5 rfl ?_
     refine HA.pa 6 rfl ?_
     first | refine HA.ga 7 rfl rfl ?_ | refine HA.na 7 rfl rfl ?_ | refine HA.nu 7 rfl rfl ?_
     refine HA.ga (hp := POp.nilCheck rfl) 8 rfl rfl ?_
     first | refine HA.ga 10 rfl rfl ?_ | refine HA.na 10 rfl rfl ?_ | refine HA.nu 10 rfl rfl ?_
     refine HA.all [9, 11] (by kernel_rfl) rfl ⟨⟨_, rfl, ?_⟩, ⟨_, rfl, ?_⟩, trivial⟩
     ·refine HO.one_a rfl ?_
      refine H1.ldb (v := zv x) rfl memA hcell rfl ?_
      apply HA.fold
      refine HA.all [11] (by kernel_rfl) rfl ⟨⟨_, rfl, ?_⟩, trivial⟩
      refine HO.one_a rfl ?_
      refine H1.ldb (v := zv hi) rfl memA rfl rfl ?_
      apply HA.fold
      first | refine HA.ga 12 rfl rfl ?_ | refine HA.na 12 rfl rfl ?_ | refine HA.nu 12 rfl rfl ?_
      refine HA.pa 13 rfl ?_
      refine HA.done (by kernel_rfl) ?_
      refine hwXG ?_
      exact HX.ret1 rfl rfl fun w' hM => ⟨by rw [hno (by omega)], hM.ext⟩
     ·refine HO.one_a rfl ?_
      refine H1.ldb (v := zv hi) rfl memA rfl rfl ?_
      apply HA.fold
      refine HA.all [9] (by kernel_rfl) rfl ⟨⟨_, rfl, ?_⟩, trivial⟩
      refine HO.one_a rfl ?_
      refine H1.ldb (v := zv x) rfl memA hcell rfl ?_
      apply HA.fold
      first | refine HA.ga 12 rfl rfl ?_ | refine HA.na 12 rfl rfl ?_ | refine HA.nu 12 rfl rfl ?_
      refine HA.pa 13 rfl ?_
      refine HA.done (by kernel_rfl) ?_
      refine hwXG ?_
      exact HX.ret1 rfl rfl fun w' hM => ⟨by rw [hno (by omega)], hM.ext⟩
   refine HC.any rfl ?_
   refine HA.pa 0 rfl ?_
   refine HA.pa 1 rfl ?_ (POp.nilCheck rfl)
   refine HA.pa 3 rfl ?_
   refine HA.all [2, 4] (by kernel_rfl) rfl ⟨⟨_, rfl, ?_⟩, ⟨_, rfl, ?_⟩, trivial⟩
   ·refine HO.one ?_
    refine H1.ldb (v := zv x) rfl memA hcell rfl ?_
    apply HA.fold
    refine HA.all [4] (by kernel_rfl) rfl ⟨⟨_, rfl, ?_⟩, trivial⟩
    refine HO.one ?_
    refine H1.ldb (v := zv lo) rfl memA rfl rfl ?_
    apply HA.fold
    refine HA.pa 5 rfl ?_
    refine HA.pa 6 rfl ?_
    first | refine HA.ga 7 rfl rfl ?_ | refine HA.na 7 rfl rfl ?_ | refine HA.nu 7 rfl rfl ?_
    refine HA.ga (hp := POp.nilCheck rfl) 8 rfl rfl ?_
    first | refine HA.ga 10 rfl rfl ?_ | refine HA.na 10 rfl rfl ?_ | refine HA.nu 10 rfl rfl ?_
    refine HA.all [9, 11] (by kernel_rfl) rfl ⟨⟨_, rfl, ?_⟩, ⟨_, rfl, ?_⟩, trivial⟩
    ·refine HO.one_a rfl ?_
     refine H1.ldb (v := zv x) rfl memA hcell rfl ?_
     apply HA.fold
     refine HA.all [11] (by kernel_rfl) rfl ⟨⟨_, rfl, ?_⟩, trivial⟩
     refine HO.one_a rfl ?_
     refine H1.ldb (v := zv hi) rfl memA rfl rfl ?_
     apply HA.fold
     first | refine HA.ga 12 rfl rfl ?_ | refine HA.na 12 rfl rfl ?_ | refine HA.nu 12 rfl rfl ?_
     refine HA.pa 13 rfl ?_
     refine HA.done (by kernel_rfl) ?_
     refine hwXG ?_
     refine HL.one (H1.st rfl rfl (by intro _ h; cases h) (by intro _ h; cases h) rplA (by exact fpos_lt i) ?_)
     rw [hset]
     refine hwXG ?_
     exact HX.again (j + 1) ⟨hlt, hI2 (by omega)⟩ (by omega) esA (by repeat (first | exact Hs.nil _ | (refine Hs.cons pickA ?_)))
    ·refine HO.one_a rfl ?_
     refine H1.ldb (v := zv hi) rfl memA rfl rfl ?_
     apply HA.fold
     refine HA.all [9] (by kernel_rfl) rfl ⟨⟨_, rfl, ?_⟩, trivial⟩
     refine HO.one_a rfl ?_
     refine H1.ldb (v := zv x) rfl memA hcell rfl ?_
     apply HA.fold
     first | refine HA.ga 12 rfl rfl ?_ | refine HA.na 12 rfl rfl ?_ | refine HA.nu 12 rfl rfl ?_
     refine HA.pa 13 rfl ?_
     refine HA.done (by kernel_rfl) ?_
     refine hwXG ?_
     refine HL.one (H1.st rfl rfl (by intro _ h; cases h) (by intro _ h; cases h) rplA (by exact fpos_lt i) ?_)
     rw [hset]
     refine hwXG ?_
     exact HX.again (j + 1) ⟨hlt, hI2 (by omega)⟩ (by omega) esA (by repeat (first | exact Hs.nil _ | (refine Hs.cons pickA ?_)))
   ·refine HO.one ?_
    refine H1.ldb (v := zv lo) rfl memA rfl rfl ?_
    apply HA.fold
    refine HA.all [2] (by kernel_rfl) rfl ⟨⟨_, rfl, ?_⟩, trivial⟩
    refine HO.one ?_
    refine H1.ldb (v := zv x) rfl memA hcell rfl ?_
    apply HA.fold
    refine HA.pa 5 rfl ?_
    refine HA.pa 6 rfl ?_
    first | refine HA.ga 7 rfl rfl ?_ | refine HA.na 7 rfl rfl ?_ | refine HA.nu 7 rfl rfl ?_
    refine HA.ga (hp := POp.nilCheck rfl) 8 rfl rfl ?_
    first | refine HA.ga 10 rfl rfl ?_ | refine HA.na 10 rfl rfl ?_ | refine HA.nu 10 rfl rfl ?_
    refine HA.all [9, 11] (by kernel_rfl) rfl ⟨⟨_, rfl, ?_⟩, ⟨_, rfl, ?_⟩, trivial⟩
    ·refine HO.one_a rfl ?_
     refine H1.ldb (v := zv x) rfl memA hcell rfl ?_
     apply HA.fold
     refine HA.all [11] (by kernel_rfl) rfl ⟨⟨_, rfl, ?_⟩, trivial⟩
     refine HO.one_a rfl ?_
     refine H1.ldb (v := zv hi) rfl memA rfl rfl ?_
     apply HA.fold
     first | refine HA.ga 12 rfl rfl ?_ | refine HA.na 12 rfl rfl ?_ | refine HA.nu 12 rfl rfl ?_
     refine HA.pa 13 rfl ?_
     refine HA.done (by kernel_rfl) ?_
     refine hwXG ?_
     refine HL.one (H1.st rfl rfl (by intro _ h; cases h) (by intro _ h; cases h) rplA (by exact fpos_lt i) ?_)
     rw [hset]
     refine hwXG ?_
     exact HX.again (j + 1) ⟨hlt, hI2 (by omega)⟩ (by omega) esA (by repeat (first | exact Hs.nil _ | (refine Hs.cons pickA ?_)))
    ·refine HO.one_a rfl ?_
     refine H1.ldb (v := zv hi) rfl memA rfl rfl ?_
     apply HA.fold
     refine HA.all [9] (by kernel_rfl) rfl ⟨⟨_, rfl, ?_⟩, trivial⟩
     refine HO.one_a rfl ?_
     refine H1.ldb (v := zv x) rfl memA hcell rfl ?_
     apply HA.fold
     first | refine HA.ga 12 rfl rfl ?_ | refine HA.na 12 rfl rfl ?_ | refine HA.nu 12 rfl rfl ?_
     refine HA.pa 13 rfl ?_
     refine HA.done (by kernel_rfl) ?_
     refine hwXG ?_
     refine HL.one (H1.st rfl rfl (by intro _ h; cases h) (by intro _ h; cases h) rplA (by exact fpos_lt i) ?_)
     rw [hset]
     refine hwXG ?_
     exact HX.again (j + 1) ⟨hlt, hI2 (by omega)⟩ (by omega) esA (by repeat (first | exact Hs.nil _ | (refine Hs.cons pickA ?_)))
 obtain rfl : j = L.length := by omega
 rw [List.take_length] at hI ⊢
 have hzk := zr_ok L r hl10 hr
 have hhk := headR_ok hr
 have hzh := zr_eq_head r
 rw [← hL] at hzh
 refine hwXG ?_
 refine HL.one (H1.ldAgg (vs := rcells (zr r L)) rfl memA rfl (fun i v hv => by rw [Nat.zero_add]; exact hv) rfl ?_)
 refine hwXG ?_
 refine HL.build (cs := rcells (headR r)) rfl rfl rfl ?_
 refine HL.pa ?_ (POp.eqRec rfl rfl hzk hhk)
 refine hwXG ?_
 exact HX.ret1 rfl rfl fun w' hM => ⟨congrArg Value.bool (by
  rw [Bool.eq_iff_iff, validB_iff, @decide_eq_true_iff, hzh]
  constructor
  ·exact fun h => ⟨hk, ⟨by omega, by omega⟩, ⟨by omega, by omega⟩, by omega, c6, fun p hp => hI p (hL ▸ hp), fun i hi hm => h i hi (hL ▸ hm)⟩
  ·exact fun h i hi hm => h.zero i hi (hL ▸ hm)), hM.ext⟩
end Go.Sx
/- Chapters 1 and 20: the encoding of a string; flag; strings compared. -/
namespace Go.Sx
open Go Go.Proofs Go.RowKit
theorem less_asym {x y : List UInt8} (h : Op.bytesLess x y = true) : Op.bytesLess y x = false := by
 cases e : Op.bytesLess y x with
 | false => rfl
 | true =>
  have := less_trans x y x h e
  rw [less_irr] at this; cases this
theorem POp.sgtr {P : Program} {N : Nat} {ds : List Deferred} {E : Env} {t t' ty : TypeId} {x y : Operand} {s u : ByteArray} (hx : Env.ev E x = some (.string s)) (hy : Env.ev E y = some (.string u)) :
  POp P N ds E (.binOp .gtr t x y t') ty (.bool (Op.bytesLess u.data.toList s.data.toList)) := POp.bin hx hy guard_str fun w => by
 have e : (!(Op.bytesLess s.toList u.toList || s.toList == u.toList)) = Op.bytesLess u.data.toList s.data.toList := by
  rw [str_eq, ba_toList, ba_toList]
  by_cases h : s = u
  ·subst h; rw [less_irr, decide_eq_true rfl]; rfl
  ·rw [decide_eq_false h, Bool.or_false]
   have hne : s.data.toList ≠ u.data.toList := fun e => h (ByteArray_ext' e)
   rcases less_tri _ _ hne with h1 | h1
   ·rw [h1, less_asym h1]; rfl
   ·rw [h1, less_asym h1]; rfl
 rw [← e]
 simp only [Go.binOp, Op.stringOp]; rfl
attribute [local irreducible] WC WL WX POp Then Again Fn NX W1 WA WO QL RP RA Yld LoopAt HC HL HX HN H1 HA HO HQ HB HP A.blk A.grow A.rd A.obj A.mp AgainH CutH
theorem flag_fn (b : Bool) (w : World) : Fn Tryz.prog 191 #[.bool b] w fun v w' => v = zv (b01 b) ∧ w = w' := by
 refine enter (l := [_]) rfl Tryz.ntmps191 rfl ?_
 cases b <;> (repeat' (first | apply WL.fold | apply WA.fold | apply WL.nil | apply WX.n_then | apply WC.seq | apply WC.region | refine WL.pa ?_ | refine WL.ga rfl ?_ | refine WL.na rfl ?_ | refine WL.nu rfl rfl ?_ | apply WC.block | apply WC.skip | apply WC.exit | apply WC.ret | apply WX.e_block | refine WX.e_other rfl ?_ | apply WX.e_then | apply WX.e_again | apply WX.n_block | apply WX.r_then | apply WX.r_block | apply WX.r_again | refine WC.cond_yes rfl ?_ | refine WC.cond_no rfl ?_ | refine WC.cond rfl (fun hc => ?_) (fun hc => ?_) | refine WC.cond_b rfl (fun hc => ?_) (fun hc => ?_)))
 all_goals exact WX.ret1 rfl rfl ⟨rfl, rfl⟩
end Go.Sx
/- Chapter 20: strings.Builder inside of the writer; put. -/
namespace Go.Sx
open Go Go.Proofs Go.RowKit
section
variable {P : Program} {r : Option Nat} {N : Nat} {ds : List Deferred} {Q : Post} {E : Env} {w0 : World} {H : List Atom} {next : Act → World → Prop} {g : Option (Nat × Bool)}
variable {d : Nat} {t t' ty e : TypeId} {pos : String} {af : Array Edge} {x y : Operand}
theorem POp.pneq {a : Addr} {z : Value} {n bb : Nat} [h : UTy P t (.pointer e)] [hi : ITy P e z n bb] (hx : Env.ev E x = some (.pointer (some a))) (hy : Env.ev E y = some (.pointer (some a))) : POp P N ds E (.binOp .neq t x y t') ty (.bool false) :=
 POp.bin hx hy (fun w => by rw [eqGuard_at_pointer]; rfl) fun w => by
  obtain ⟨i, hi1, -⟩ := hi.parts
  exact Lib.run_neq_ptr_same w a h.is hi1
theorem H1.toUnsafe {src dst u eb : TypeId} {b n bb : Nat} {cs : List Value} {z : Value} [h1 : UTy P src (.pointer u)] [h2 : UTy P dst .unsafePointer] [h3 : ITy P u z n bb] (hx : Env.ev E x = some (.pointer (some ⟨b, 0, none⟩))) (hm : A.blk b cs eb ∈ H)
  (hn : Nat.beq n 0 = false) (hc : 0 < cs.length) (hd : Nat.blt d N = true) (h : HN N ds next ((d, .pointer (some ⟨b, 0, none⟩)) :: E) w0 H) : H1 P r N ds next ⟨some d, .convert src dst x, ty, pos, af, g⟩ Q E w0 H := fun w hM =>
 W1.run (fun a ha => by
  obtain ⟨i, hi1, -, hi3, -⟩ := h3.parts
  have hb : w.heap[b]? = some (.cells cs.toArray eb (0, 0)) := hM.blk hm
  have := Lib.run_to_unsafe w ⟨b, 0, none⟩ h1.is h2.is hi1 (by rw [hi3]; intro e; subst e; cases hn) (show w.shape? b = some (eb, cs.length) by simp [World.shape?, hb]) hc
  simp only [execOp, ha.ev hx, Sem.run_bind, this, Result.andThen, Sem.run_pure]) rfl hd (h w hM)
theorem H1.fromUnsafe {src dst u eb : TypeId} {b n bb : Nat} {cs : List Value} {z : Value} [h1 : UTy P src .unsafePointer] [h2 : UTy P dst (.pointer u)] [h3 : ITy P u z n bb] (hx : Env.ev E x = some (.pointer (some ⟨b, 0, none⟩))) (hm : A.blk b cs eb ∈ H)
  (hl : liesAt P P.depth eb (cs.length / P.cellsOf eb) 0 u 1 = true) (hd : Nat.blt d N = true) (h : HN N ds next ((d, .pointer (some ⟨b, 0, none⟩)) :: E) w0 H) : H1 P r N ds next ⟨some d, .convert src dst x, ty, pos, af, g⟩ Q E w0 H := fun w hM =>
 W1.run (fun a ha => by
  obtain ⟨i, hi1, -, hi3, -⟩ := h3.parts
  have hb : w.heap[b]? = some (.cells cs.toArray eb (0, 0)) := hM.blk hm
  have := Lib.run_from_unsafe w ⟨b, 0, none⟩ h1.is h2.is hi1 (show w.shape? b = some (eb, cs.length) by simp [World.shape?, hb]) hl
  simp only [execOp, ha.ev hx, Sem.run_bind, this, Result.andThen, Sem.run_pure]) rfl hd (h w hM)
theorem H1.noEscape {f : FuncId} {fn : Func} {v : Value} {ats : Array TypeId} (hf : P.funcs[f]? = some fn) (hname : (fn.name == "runtime.NumGoroutine") = false) (hb : fn.body.isNone = true) (hn : Extern.findNext fn = none) (he : Extern.find fn = some Extern.AbiNoEscape.same)
  (hx : Env.ev E x = some v) (hd : Nat.blt d N = true) (h : HN N ds next ((d, v) :: E) w0 H) : H1 P r N ds next ⟨some d, .call ⟨.value (.func f), #[x], ats⟩, ty, pos, af, g⟩ Q E w0 H := fun w hM =>
 W1.run (fun a ha => by
  have h1 := run_callFunc_extern hf hname hb hn he #[v] w
  rw [Lib.run_noEscape] at h1
  have h2 := ha.ev hx
  show ((resolve a.eval ⟨.value (.func f), #[x], ats⟩ ty) >>= fun df => invoke df.target df.args).run P w = _
  simp only [resolve, List.map_toArray, List.map_cons, List.map_nil, h2]
  exact h1) rfl hd (h w hM)
theorem run_append_str2 {w : World} {u : TypeId} (i : TypeInfo) (ht : P.underlying t = some (.slice e)) (hu : P.underlying u = some .string) (hi : P.info? e = some i) (hz : i.zero = some (.int .u8 0)) (hsize : i.size = 1) (hby : i.bytes = 1)
  (v : Value) (n : Nat) (xs : List Value) (hown : w.ownsRow 0 e 1 v n xs) (s : ByteArray) (h6 : n + s.size ≤ 1000000) :
  ∃ a' c' w', (Builtin.append_ #[t, u] ty #[v, .string s]).run P w = .ok (.slice a' (n + s.size) c') w' ∧ w'.ownsRow 0 e 1 (.slice a' (n + s.size) c') (n + s.size) (xs ++ Lib.strCells s) ∧ w.grownBy w' v.ownBlock ∧
   (∀ b, (Value.slice a' (n + s.size) c').ownBlock = some b → v.ownBlock = some b ∨ w.heap.size ≤ b) := by
 have h63 : n + s.size ≤ maxLen := by simp only [maxLen]; omega
 have h48 : n + s.size ≤ 140737488355328 := by omega
 obtain ⟨v', w', hr, h2, h3, -⟩ := Lib.run_append_own_string (P := P) (w := w) 0 t u ty e i ht hu hi hz hsize hby v n xs hown s h63 h48 (Nat.zero_le _)
 have hnew : ∀ b, v'.ownBlock = some b → v.ownBlock = some b ∨ w.heap.size ≤ b := by
  intro b hb
  rcases hown.2 with ⟨rfl, rfl⟩ | ⟨g, cap, cur, rfl, hbg, hg, hnc, hcm, hcs, htake⟩
  ·have hx : xs = [] := List.eq_nil_of_length_eq_zero (by simpa using hown.1)
   subst hx
   obtain ⟨v'', w'', hr', h2', -, -⟩ := Lib.run_append_own_string (P := P) (w := w) w.heap.size t u ty e i ht hu hi hz hsize hby _ 0 [] (World.ownsRow_nil w w.heap.size e 1) s h63 h48 (Nat.le_refl _)
   rw [hr] at hr'
   cases hr'
   exact .inr (h2'.lt b hb).1
  ·by_cases hroom : n + s.size ≤ cap
   ·have hr' := Lib.run_append_room_string (P := P) (w := w) t u ty e i ht hu hi hsize g n cap cur hg s hroom (by omega)
    rw [hr] at hr'
    cases hr'
    exact .inl hb
   ·have holds : ∀ j u, xs[j]? = some u → w.cell? ((⟨g, 0, none⟩ : Addr).add j) = some u := hown.cells (g := g) rfl
    have hr' := Lib.run_append_grow_string (P := P) (w := w) t u ty e i (.int .u8 0) ht hu hi hz ⟨g, 0, none⟩ n cap xs (by rw [hown.1, hsize]) holds s (by omega) (by omega) (growslice_fits (by omega) (by rw [hby]; omega))
    rw [hr] at hr'
    cases hr'
    right
    simp only [Value.ownBlock, Option.some.injEq] at hb
    subst hb
    simp
 rcases h2.2 with ⟨rfl, h0⟩ | ⟨g, cap, cur, rfl, hbg, hg, hnc, hcm, hcs, htake⟩
 ·refine ⟨none, 0, w', ?_, ?_, h3, ?_⟩ <;> rw [h0]
  ·exact hr
  ·rwa [h0] at h2
  ·exact hnew
 ·exact ⟨_, cap, w', hr, h2, h3, hnew⟩
theorem ub_str (ys : List UInt8) (s : ByteArray) : ub ys ++ Lib.strCells s = ub (ys ++ s.data.toList) := by
 unfold ub
 rw [List.map_append]; rfl
theorem str_len (ys : List UInt8) (s : ByteArray) : (ys ++ s.data.toList).length = ys.length + s.size := by
 rw [List.length_append, Array.length_toList]; rfl
theorem H1.appS {u : TypeId} {c : Nat} {a : Option Addr} {ys : List UInt8} {s : ByteArray} {H' : Option Addr → Nat → List Atom} [h : UTy P t (.slice e)] [h2 : UTy P u .string] [hi : ITy P e (.int .u8 0) 1 1]
  (hx : Env.ev E x = some (.slice a ys.length c)) (hy : Env.ev E y = some (.string s)) (hr : ∀ a' c', Rpl (A.grow e 1 a c ys.length (ub ys)) (A.grow e 1 a' c' (ys ++ s.data.toList).length (ub (ys ++ s.data.toList))) H (H' a' c'))
  (hnm : ys.length + s.size ≤ 1000000) (hd : Nat.blt d N = true)
  (hn : ∀ a' c', HN N ds next ((d, .slice a' (ys ++ s.data.toList).length c') :: E) w0 (H' a' c')) :
  H1 P r N ds next ⟨some d, .call ⟨.builtin .append, #[x, y], #[t, u]⟩, ty, pos, af, g⟩ Q E w0 H := fun w hM => by
 obtain ⟨i, hi1, hi2, hi3, hi4⟩ := hi.parts
 obtain ⟨a', c', w', hrun, h3, h4, h5⟩ := run_append_str2 (P := P) (ty := ty) (w := w) i h.is h2.is hi1 hi2 hi3 hi4 (.slice a ys.length c) ys.length (ub ys) (hM.own (hr none 0).mem) s hnm
 rw [ub_str, ← str_len] at h3
 rw [← str_len] at hrun h5
 refine W1.run (v := .slice a' (ys ++ s.data.toList).length c') (w' := w') (fun b ha => ?_) rfl hd (hn a' c' w' (hM.turn (hr a' c') h4.os h4.tape h4.output h4.size (fun k hk hk' => h4.block k hk fun e => hk' (by simp [A.grow, ← e])) h3 ?_ fun b hb => ?_))
 ·simp only [execOp, resolve, invoke, Go.builtin, Sem.run_bind, Sem.run_pure, Result.andThen, List.map_toArray, List.map_cons, List.map_nil, ha.ev hx, ha.ev hy, hrun]
 ·show (Option.toList _).Nodup
  cases (Value.slice a' (ys ++ s.data.toList).length c').ownBlock <;> simp
 ·have hb' : (Value.slice a' (ys ++ s.data.toList).length c').ownBlock = some b := by simpa [A.grow] using hb
  rcases h5 b hb' with h6 | h6
  ·left; simp only [A.grow, h6]; simp
  ·exact .inr ⟨h6, (h3.lt b hb').2⟩
theorem POp.sliceData {b n c : Nat} {ats : Array TypeId} (hx : Env.ev E x = some (.slice (some ⟨b, 0, none⟩) n c)) (hc : c ≠ 0) : POp P N ds E (.call ⟨.builtin .unsafeSliceData, #[x], ats⟩) ty (.pointer (some ⟨b, 0, none⟩)) := fun a ha d pos af g w => by
 have h1 : (Builtin.unsafeSliceData_ ats ty #[.slice (some ⟨b, 0, none⟩) n c]).run P w = .ok (.pointer (some ⟨b, 0, none⟩)) w := Lib.run_unsafeSliceData_row _ _ _ _ _ _ hc
 simp only [execOp, resolve, invoke, Go.builtin, Sem.run_bind, Sem.run_pure, Result.andThen, List.map_toArray, List.map_cons, List.map_nil, ha.ev hx, h1]
theorem HC.capOfG {co : Code} {n c : Nat} {a : Option Addr} {xs : List Value} (hm : A.grow e 1 a c n xs ∈ H) (h : n ≤ c → HC P r N ds co Q E w0 H) : HC P r N ds co Q E w0 H := fun w hM => by
 refine h ?_ w hM
 rcases (hM.own hm).2 with ⟨h1, rfl⟩ | ⟨g, cap, cur, hv, -, -, hnc, -⟩
 ·exact Nat.zero_le _
 ·cases hv; exact hnc
theorem H1.unsafeStr {pt it : TypeId} {b c : Nat} {ys : List UInt8} {H' : List Atom} [hp : UTy P pt (.pointer e)] (hc : P.cellsOf e = 1) (hx : Env.ev E x = some (.pointer (some ⟨b, 0, none⟩))) (hy : Env.ev E y = some (zv (ys.length : Int))) (h0 : ys ≠ [])
  (hm : Pick (A.grow e 1 (some ⟨b, 0, none⟩) c ys.length (ub ys)) H H') (hd : Nat.blt d N = true) (hn : HN N ds next ((d, .string ⟨ys.toArray⟩) :: E) w0 H') :
  H1 P r N ds next ⟨some d, .call ⟨.builtin .unsafeString, #[x, y], #[pt, it]⟩, ty, pos, af, g⟩ Q E w0 H := fun w hM => by
 have hM2 := hM.perm hm.perm
 have hown := hM2.own (List.Mem.head _)
 obtain ⟨g', cap, cur, hv, -, hg, hnc, hcm, hcs, htake⟩ : ∃ g' cap cur, (Value.slice (some ⟨b, 0, none⟩) ys.length c) = .slice (some ⟨g', 0, none⟩) ys.length cap ∧ 0 ≤ g' ∧ w.heap[g']? = some (.cells cur e (0, 0)) ∧ ys.length ≤ cap ∧ cap ≤ maxLen ∧ cur.size = cap * 1 ∧ cur.toList.take (ys.length * 1) = ub ys := by
  rcases hown.2 with ⟨hv, -⟩ | h
  ·cases hv
  ·exact h
 cases hv
 have hrun := Lib.run_unsafeString_row (P := P) w pt it ty e hp.is hc b cur.size (by simp [World.shape?, hg]) ys h0 (by omega) (by simp only [maxLen] at hcm; omega) (fun j x hx => by
  rw [add_lit, Nat.zero_add]
  exact ownsRow_cell hown (by simp [ub, hx]))
 refine W1.run (v := .string ⟨ys.toArray⟩) (w' := w.freeze ⟨b, 0, none⟩ ys.length) (fun a ha => ?_) rfl hd (hn _ (hM2.drop1 (l := b) rfl ?_))
 ·simp only [execOp, resolve, invoke, Go.builtin, Sem.run_bind, Sem.run_pure, Result.andThen, List.map_toArray, List.map_cons, List.map_nil, ha.ev hx, ha.ev hy, hrun]
 ·unfold World.freeze
  by_cases hz : ys.length = 0
  ·rw [if_pos hz]; exact ⟨rfl, rfl, rfl, rfl, fun _ _ => rfl⟩
  ·rw [if_neg hz]
   refine ⟨rfl, rfl, rfl, by simp, fun k hk => ?_⟩
   simp only [Array.getElem?_modify]
   rw [if_neg (fun e => hk e.symm)]
end
def putL (l : List Int) : List UInt8 := (l.map fun n => putN n.toNat).flatten
abbrev bldH (b : Nat) (p : Option Addr) (a : Option Addr) (c : Nat) (ys : List UInt8) (H : List Atom) : List Atom := A.blk b [.pointer p, .slice a ys.length c] 205 :: A.grow 5 1 a c ys.length (ub ys) :: H
attribute [local irreducible] WC WL WX POp Then Again Fn NX W1 WA WO QL RP RA Yld LoopAt HC HL HX HN H1 HA HO HQ HB HP A.blk A.grow A.rd A.obj A.mp AgainH CutH
theorem copyCheck_fn {w0 w : World} {H : List Atom} {b : Nat} {p : Option Addr} {s : Value} (hM : Mm w0 (A.blk b [.pointer p, s] 205 :: H) w) (hp : p = none ∨ p = some ⟨b, 0, none⟩) :
  Fn Tryz.prog 200 #[.pointer (some ⟨b, 0, none⟩)] w fun v w' => v = .tuple #[] ∧ Mm w0 (A.blk b [.pointer (some ⟨b, 0, none⟩), s] 205 :: H) w' := by
 refine enterK (l := [_]) hM rfl Tryz.ntmps200 rfl ?_
 rcases hp with rfl | rfl
 ·refine hwNE ?_
  refine HL.pa ?_ (POp.nilCheck rfl)
  refine hwNE ?_
  refine HL.pa ?_ (POp.pnil1 rfl rfl)
  refine hwNE ?_
  refine HL.one (H1.toUnsafe (cs := [.pointer none, s]) rfl memA rfl (Nat.zero_lt_succ 1) rfl ?_)
  refine hwNE ?_
  refine HL.one (H1.noEscape Tryz.func203 (by kernel_rfl) (by kernel_rfl) (by kernel_rfl) (by kernel_rfl) rfl rfl ?_)
  refine hwNE ?_
  refine HL.one (H1.fromUnsafe (cs := [.pointer none, s]) rfl memA (by kernel_rfl) rfl ?_)
  refine hwNE ?_
  refine HL.pa ?_ (POp.nilCheck rfl)
  refine hwNE ?_
  refine HL.one (H1.st rfl rfl (by intro _ h; cases h) (by intro _ h; cases h) rplA (by simp) ?_)
  refine hwNE ?_
  exact HX.end0 rfl fun w' hM => ⟨rfl, hM⟩
 ·refine hwNE ?_
  refine HL.pa ?_ (POp.nilCheck rfl)
  refine hwNE ?_
  refine HL.pa ?_ (POp.pnil0 rfl rfl)
  refine hwNE ?_
  refine HL.pa ?_ (POp.nilCheck rfl)
  refine hwNE ?_
  refine HL.pa ?_ (POp.pneq rfl rfl)
  refine hwNE ?_
  exact HX.end0 rfl fun w' hM => ⟨rfl, hM⟩
theorem writeString_fn {w0 w : World} {H : List Atom} {b c : Nat} {p a : Option Addr} {ys : List UInt8} (s : ByteArray) (hM : Mm w0 (bldH b p a c ys H) w) (hp : p = none ∨ p = some ⟨b, 0, none⟩) (hs : ys.length + s.size ≤ 1000000) :
  Fn Tryz.prog 190 #[.pointer (some ⟨b, 0, none⟩), .string s] w fun v w' => ∃ q : Option Addr × Nat, True ∧ v = .tuple #[zv (s.size : Int), .nilIface] ∧ Mm w0 (bldH b (some ⟨b, 0, none⟩) q.1 q.2 (ys ++ s.data.toList) H) w' := by
 refine enterK (l := [_, _]) hM rfl Tryz.ntmps190 rfl ?_
 refine hwNE ?_
 refine HL.one (H1.callk (α := Unit) (V := fun _ => .tuple #[]) (I := fun _ => True) (H' := fun _ => bldH b (some ⟨b, 0, none⟩) a c ys H) (vs := [.pointer (some ⟨b, 0, none⟩)]) rfl rfl (fun w' hM => (copyCheck_fn hM hp).mono fun v w' h => ⟨(), trivial, h⟩) ?_)
 rintro - -
 refine hwNE ?_
 refine HL.pa ?_ (POp.nilCheck rfl)
 refine hwNE ?_
 refine HL.one (H1.appS rfl rfl (fun _ _ => by first | ((repeat (first | with_reducible exact Rpl.here | with_reducible apply Rpl.there)); done) | (repeat (first | exact Rpl.here | apply Rpl.there))) hs rfl (fun a' c' => ?_))
 refine hwNE ?_
 refine HL.pa ?_ (POp.nilCheck rfl)
 refine hwNE ?_
 refine HL.one (H1.st rfl rfl (by intro _ h; cases h) (by intro _ h; cases h) rplA (by simp) ?_)
 refine hwNE ?_
 exact HX.ret2 rfl rfl rfl fun w' hM => ⟨(a', c'), trivial, rfl, hM⟩
theorem putL_take {l : List Int} {j : Nat} (h : j < l.length) : putL (l.take (j + 1)) = putL (l.take j) ++ putN (at' l j).toNat := by
 unfold putL
 rw [take_at h, List.map_append, List.flatten_append]
 simp
theorem putL_len {l : List Int} (h : ∀ x ∈ l, 0 ≤ x ∧ x ≤ 1099511627776) : (putL l).length ≤ 9 * l.length := by
 induction l with
 | nil => simp [putL]
 | cons x l ih =>
  have h1 := ih fun y hy => h y (List.mem_cons_of_mem _ hy)
  have h2 := h x (List.mem_cons_self ..)
  have h3 : (putN x.toNat).length ≤ 9 := strN_size (n := x.toNat) (by omega)
  have e : putL (x :: l) = putN x.toNat ++ putL l := rfl
  rw [e, List.length_append, List.length_cons]; omega
theorem put_fn {w0 w : World} {H : List Atom} {b bl c : Nat} {p a : Option Addr} {ys : List UInt8} (l : List Int) (hM : Mm w0 (bldH b p a c ys (A.blk bl (ints l) 3 :: H)) w) (hp : p = none ∨ p = some ⟨b, 0, none⟩) (hl : ∀ x ∈ l, 0 ≤ x ∧ x ≤ 1099511627776) (hlen : ys.length + 9 * l.length ≤ 1000000) :
  Fn Tryz.prog 153 #[.pointer (some ⟨b, 0, none⟩), .slice (some ⟨bl, 0, none⟩) l.length l.length] w fun v w' => ∃ q : Option Addr × Option Addr × Nat, (q.1 = none ∨ q.1 = some ⟨b, 0, none⟩) ∧ v = .tuple #[] ∧ Mm w0 (bldH b q.1 q.2.1 q.2.2 (ys ++ putL l) H) w' := by
 refine enterK (l := [_, _]) hM rfl Tryz.ntmps153 rfl ?_
 refine hwNE ?_
 refine HC.loop (α := Nat × Option Addr × Option Addr × Nat) (fun z => [(0, .pointer (some ⟨b, 0, none⟩)), (8, .slice (some ⟨bl, 0, none⟩) l.length l.length), (9, zv (l.length : Int)), (10, zv (z.1 : Int))])
  (fun z => bldH b z.2.1 z.2.2.1 z.2.2.2 (ys ++ putL (l.take z.1)) (A.blk bl (ints l) 3 :: H)) (fun z => z.1 ≤ l.length ∧ (z.2.1 = none ∨ z.2.1 = some ⟨b, 0, none⟩)) (fun z => l.length - z.1) (0, p, a, c) ⟨Nat.zero_le _, hp⟩ esA
  (by show Hs (bldH b p a c ys _) (bldH b p a c (ys ++ putL (l.take 0)) _); rw [List.take_zero, show putL [] = [] from rfl, List.append_nil]; exact Hs.refl _) ?_
 rintro ⟨j, p', a', c'⟩ ⟨hj, hp'⟩
 dsimp only at hj hp' ⊢
 by_cases hlt : j < l.length
 ·have hx := hl _ (at_mem hlt)
  have hget := ints_get hlt
  have htk := putL_take hlt
  obtain ⟨n, hn⟩ := Int.eq_ofNat_of_zero_le hx.1
  rw [hn] at hget htk hx
  rw [Int.toNat_natCast] at htk
  have hpl := putL_len (l := l.take j) fun x hx => hl x (List.mem_of_mem_take hx)
  rw [List.length_take, Nat.min_eq_left hj] at hpl
  have hsz := strN_size (n := n) (by omega)
  refine hwNE ?_
  refine HL.one (H1.ldb (v := zv (n : Int)) rfl memA hget rfl ?_)
  refine hwNE ?_
  refine HL.one (H1.callx (vs := [zv (n : Int)]) rfl rfl (fun w' _ => putInt_fn n (by omega) w') ?_)
  refine hwNE ?_
  refine HL.pa ?_ (POp.nilCheck rfl)
  refine hwNE ?_
  refine HL.one (H1.callk (α := Option Addr × Nat) (V := fun _ => .tuple #[zv ((strN n).size : Int), .nilIface]) (I := fun _ => True) (H' := fun q => bldH b (some ⟨b, 0, none⟩) q.1 q.2 (ys ++ putL (l.take j) ++ (strN n).data.toList) (A.blk bl (ints l) 3 :: H)) (vs := [.pointer (some ⟨b, 0, none⟩), .string (strN n)]) rfl rfl
   (fun w' hM => writeString_fn (strN n) hM hp' (by rw [List.length_append]; omega)) ?_)
  rintro ⟨a2, c2⟩ -
  dsimp only
  rw [List.append_assoc, show (strN n).data.toList = putN n from rfl, ← htk]
  refine hwNE ?_
  exact HX.again (j + 1, some ⟨b, 0, none⟩, a2, c2) ⟨hlt, .inr rfl⟩ (by show l.length - (j + 1) < l.length - j; omega) esA (Hs.refl _)
 ·obtain rfl : j = l.length := by omega
  rw [List.take_length]
  refine hwNE ?_
  exact HX.end0 rfl fun w' hM => ⟨(p', a', c'), hp', rfl, hM.sub (Hs.cons Pick.here (Hs.cons Pick.here (Hs.refl _).skip))⟩
set_option maxHeartbeats 1000000 in
theorem builderString_fn {w0 w : World} {H : List Atom} {b c : Nat} {p a : Option Addr} {ys : List UInt8} (hM : Mm w0 (bldH b p a c ys H) w) (h0 : ys ≠ []) :
  Fn Tryz.prog 154 #[.pointer (some ⟨b, 0, none⟩)] w fun v w' => v = .string ⟨ys.toArray⟩ ∧ Mm w0 H w' := by
 have hne : ys.length ≠ 0 := by simpa using h0
 refine enterK (l := [_]) hM rfl Tryz.ntmps154 rfl ?_
 refine HC.openg (e := 5) (a := a) (xs := ub ys) memA hne ?_
 rintro g rfl
 refine hwNE ?_
 refine HC.capOfG (e := 5) (xs := ub ys) memA fun hcap => ?_
 have hc0 : c ≠ 0 := by omega
 refine HC.anyC ([(⟨b, 1, none⟩, .slice (some ⟨g, 0, none⟩) ys.length c)]) rfl ?_
 refine HB.pa 0 rfl ?_
 refine HB.pa 1 rfl ?_ (POp.nilCheck rfl)
 refine HB.pa 2 rfl ?_
 refine HB.ld 3 rfl rfl memD ?_
 refine HB.pa 4 rfl ?_ (POp.sliceData rfl hc0)
 refine HB.pa 5 rfl ?_
 refine HB.pa 6 rfl ?_ (POp.nilCheck rfl)
 refine HB.pa 7 rfl ?_
 refine HB.ld 8 rfl rfl memD ?_
 refine HB.pa 9 rfl ?_
 refine HB.all keepA [10] (by kernel_rfl) rfl ⟨⟨_, rfl, ?_⟩, trivial⟩
 refine HP.one ?_
 refine H1.unsafeStr (b := g) (c := c) (ys := ys) (by kernel_rfl) rfl rfl h0 (Pick.there Pick.here) rfl ?_
 apply HB.fold
 refine HB.pa 11 rfl ?_
 refine HB.done keepA (by kernel_rfl) ?_
 refine hwNE ?_
 exact HX.ret1 rfl rfl fun w' hM => ⟨rfl, hM.tail⟩
end Go.Sx
/- Chapter 20: Key, Encode. -/
namespace Go.Sx
open Go Go.Proofs Go.RowKit
noncomputable def keyS (r : Rc) : ByteArray := if validB r = true then ⟨(keyR r).toArray⟩ else ⟨#[]⟩
noncomputable def encS (r : Rc) : ByteArray := if validB r = true then ⟨(encR r).toArray⟩ else ⟨#[]⟩
theorem keyF_ok (k : Int) : keyF k < 10 ∧ keyF k ≠ 8 := by
 unfold keyF
 repeat' split
 all_goals decide
theorem key_field {k : Int} (h : 1 ≤ k ∧ k ≤ 8) : (keyF k, 1, 1000000) ∈ specF k := by
 rcases (show k = 1 ∨ k = 2 ∨ k = 3 ∨ k = 4 ∨ k = 5 ∨ k = 6 ∨ k = 7 ∨ k = 8 by omega) with rfl | rfl | rfl | rfl | rfl | rfl | rfl | rfl <;> decide
theorem num_lim {r : Rc} (h : ValidR r) : 1 ≤ r.get (keyF r.kind) ∧ r.get (keyF r.kind) ≤ 1000000 := h.lim _ (key_field h.kind)
theorem keyR_put (r : Rc) : [] ++ putL [r.kind, r.get (keyF r.kind)] = keyR r := by
 unfold putL keyR
 simp
theorem putN_ne (n : Nat) : 0 < (putN n).length := vint_pos _
theorem keyR_ne (r : Rc) : keyR r ≠ [] := fun e => by
 have h1 := putN_ne r.kind.toNat
 have h2 := congrArg List.length e
 unfold keyR at h2
 rw [List.length_append, List.length_nil] at h2
 omega
theorem shapeC_one (z : Option Addr × Nat) (k : Int) : ∀ v ∈ shapeC z k, v.oneCell' = true := by
 unfold shapeC; intro v hv; simp only [List.mem_cons, List.not_mem_nil, or_false] at hv; rcases hv with rfl | rfl | rfl | rfl | rfl <;> rfl
attribute [local irreducible] WC WL WX POp Then Again Fn NX W1 WA WO QL RP RA Yld LoopAt HC HL HX HN H1 HA HO HQ HB HP A.blk A.grow A.rd A.obj A.mp AgainH CutH
attribute [local irreducible] specF keyF
set_option maxHeartbeats 2000000 in
theorem key_fn (r : Rc) (hr : RcOk r) (w : World) : Fn Tryz.prog 128 #[recV r] w fun v w' => v = .string (keyS r) ∧ Ext w w' := by
 refine enterH (l := [_]) rfl Tryz.ntmps128 rfl ?_
 refine hwXG ?_
 refine HL.one (H1.boxAgg (cs := rcells r) rfl rfl (fun b1 => ?_))
 refine hwXG ?_
 refine HL.one (H1.ldAgg (vs := rcells r) rfl memA rfl (fun i v hv => by rw [Nat.zero_add]; exact hv) rfl ?_)
 refine hwXG ?_
 refine HL.one (H1.callx (vs := [recV r]) rfl rfl (fun w' _ => valid_fn r hr w') ?_)
 by_cases hv : ValidR r
 rotate_left
 ·rw [validB_no hv]
  refine hwXG ?_
  exact HX.ret1 rfl rfl fun w' hM => ⟨by unfold keyS; rw [validB_no hv]; rfl, hM.ext⟩
 rw [validB_yes hv]
 refine hwXG ?_
 refine HL.one (H1.callz1 (vs := [zv r.kind]) rfl rfl (fun w' _ => shapeOf_fn r.kind hv.kind w') ?_)
 rintro ⟨a, c⟩ -
 refine hwXG ?_
 refine HL.one (H1.alloc (cs := [.slice none 0 0, .nilFunc, zv 0, zv 0, .nilFunc]) rfl rfl (fun b3 => ?_))
 refine hwXG ?_
 refine HL.one (H1.stAgg (cs := [.slice none 0 0, .nilFunc, zv 0, zv 0, .nilFunc]) (vs := shapeC (a, c) r.kind) rfl rfl rfl (shapeC_one _ _) rplA rfl ?_)
 simp only [shapeC]
 refine hwXG ?_
 refine HL.one (H1.alloc (cs := [.pointer none, .slice none 0 0]) rfl rfl (fun b5 => ?_))
 refine hwXG ?_
 refine HC.grow0 5 1 ?_
 have hkf := keyF_ok r.kind
 have hnum := num_lim hv
 have hkind := hv.kind
 have hkR := keyR_put r
 obtain ⟨go, hgf⟩ := getter_ok hkf.1 hkf.2
 have hcell := cells_get r hkf.1 hkf.2
 have hok : ∀ x ∈ [r.kind, r.get (keyF r.kind)], 0 ≤ x ∧ x ≤ 1099511627776 := by
  intro x hx
  simp only [List.mem_cons, List.not_mem_nil, or_false] at hx
  rcases hx with rfl | rfl <;> omega
 refine HC.anyC ([(⟨b1, 0, none⟩, zv r.kind), (⟨b3, 1, none⟩, fnV (fid (keyF r.kind)))]) rfl ?_
 refine HB.pa 0 rfl ?_
 refine HB.ld 1 rfl rfl memD ?_
 refine HB.pa 2 rfl ?_
 refine HB.pa 3 rfl ?_
 refine HB.ld 4 rfl rfl memD ?_
 refine HB.all keepA [5] (by kernel_rfl) rfl ⟨⟨_, rfl, ?_⟩, trivial⟩
 refine HP.one ?_
 refine H1.callv0 (hf := go) (f := fid (keyF r.kind)) (cap := []) (vs := [.pointer (some ⟨b1, 0, none⟩)]) rfl rfl rfl (fun w' _ => call1w (hgf b1 w')) ?_
 apply HB.fold
 refine HB.pa 6 rfl ?_ (POp.nilCheck rfl)
 refine HB.all keepA [7] (by kernel_rfl) rfl ⟨⟨_, rfl, ?_⟩, trivial⟩
 refine HP.one ?_
 refine H1.ldb (v := zv (r.get (keyF r.kind))) rfl memA hcell rfl ?_
 apply HB.fold
 refine HB.all keepA [8] (by kernel_rfl) rfl ⟨⟨_, rfl, ?_⟩, trivial⟩
 refine HP.one ?_
 refine H1.lit (cs := [zv r.kind, zv (r.get (keyF r.kind))]) rfl rfl rfl rfl rfl rfl (fun b8 => ?_)
 apply HB.fold
 refine HB.all keepA [9] (by kernel_rfl) rfl ⟨⟨_, rfl, ?_⟩, trivial⟩
 refine HP.one ?_
 refine H1.callk (α := Option Addr × Option Addr × Nat) (V := fun _ => .tuple #[]) (I := fun q => q.1 = none ∨ q.1 = some ⟨b5, 0, none⟩) (H' := fun q => bldH b5 q.1 q.2.1 q.2.2 ([] ++ putL [r.kind, r.get (keyF r.kind)]) [A.blk b3 [.slice a (specF r.kind).length c, fnV (fid (keyF r.kind)), zv 1, zv 1000000, fnV (rid r.kind)] 196, A.blk b1 (rcells r) 46]) (vs := [.pointer (some ⟨b5, 0, none⟩), .slice (some ⟨b8, 0, none⟩) 2 2]) rfl rfl (fun w' hM => put_fn (ys := []) (p := none) (a := none) (c := 0) [r.kind, r.get (keyF r.kind)] (hM.sub (by show Hs _ [A.blk b5 [.pointer none, .slice none 0 0] 205, A.grow 5 1 none 0 0 [], A.blk b8 [zv r.kind, zv (r.get (keyF r.kind))] 3, A.blk b3 _ _, A.blk b1 _ _]; repeat (first | exact Hs.nil _ | (refine Hs.cons pickA ?_)))) (.inl rfl) hok (by show 0 + 9 * 2 ≤ 1000000; decide)) ?_
 rintro ⟨p', a', c'⟩ hp'
 rw [hkR]
 apply HB.fold
 refine HB.done keepA (by kernel_rfl) ?_
 refine hwXG ?_
 refine HL.one (H1.callk (α := Unit) (V := fun _ => .string ⟨(keyR r).toArray⟩) (I := fun _ => True) (H' := fun _ => []) (vs := [.pointer (some ⟨b5, 0, none⟩)]) rfl rfl (fun w' hM => (builderString_fn (hM.sub (Hs.cons Pick.here (Hs.cons Pick.here (Hs.nil _)))) (keyR_ne r)).mono fun v w' h => ⟨(), trivial, h⟩) ?_)
 rintro - -
 refine hwXG ?_
 exact HX.ret1 rfl rfl fun w' hM => ⟨by unfold keyS; rw [validB_yes hv]; rfl, hM.ext⟩
end Go.Sx
/- Chapter 20: Encode. -/
namespace Go.Sx
open Go Go.Proofs Go.RowKit
def headL (r : Rc) : List Int := [r.kind, r.version, r.day, b01 r.gone]
def fldL (r : Rc) (l : List (Nat × Int × Int)) : List Int := l.map fun p => r.get p.1
theorem putL_app (l m : List Int) : putL (l ++ m) = putL l ++ putL m := by unfold putL; rw [List.map_append, List.flatten_append]
theorem encR_put (r : Rc) : encR r = putL (headL r) ++ putL (fldL r (specF r.kind)) ++ putN r.text.size ++ r.text.data.toList := by
 unfold encR encF headL fldL putL
 simp only [List.map_cons, List.map_nil, List.flatten_cons, List.flatten_nil, List.map_map, List.append_assoc]
 rfl
theorem encR_ne (r : Rc) : encR r ≠ [] := fun e => by
 have h1 := putN_ne r.kind.toNat
 have h2 := congrArg List.length e
 unfold encR at h2
 rw [List.length_append, List.length_nil] at h2
 omega
theorem b01_lim (b : Bool) : 0 ≤ b01 b ∧ b01 b ≤ 1 := by cases b <;> decide
theorem headL_ok {r : Rc} (h : ValidR r) : ∀ x ∈ headL r, 0 ≤ x ∧ x ≤ 1099511627776 := by
 intro x hx
 have h1 := h.kind
 have h2 := h.ver
 have h3 := h.day
 have h4 := b01_lim r.gone
 simp only [headL, List.mem_cons, List.not_mem_nil, or_false] at hx
 rcases hx with rfl | rfl | rfl | rfl <;> omega
theorem fldL_ok {r : Rc} (h : ValidR r) : ∀ p ∈ specF r.kind, 0 ≤ r.get p.1 ∧ r.get p.1 ≤ 1099511627776 := fun p hp => by
 have h1 := h.lim p hp
 have h2 := spec_hi hp
 have h3 := (spec_lo hp).1
 omega
attribute [local irreducible] WC WL WX POp Then Again Fn NX W1 WA WO QL RP RA Yld LoopAt HC HL HX HN H1 HA HO HQ HB HP A.blk A.grow A.rd A.obj A.mp AgainH CutH
attribute [local irreducible] specF keyF
set_option maxHeartbeats 4000000 in
theorem encode_fn (r : Rc) (hr : RcOk r) (w : World) : Fn Tryz.prog 155 #[recV r] w fun v w' => v = .tuple #[.string (encS r), zv (if validB r = true then 0 else 200)] ∧ Ext w w' := by
 refine enterH (l := [_]) rfl Tryz.ntmps155 rfl ?_
 refine hwXG ?_
 refine HL.one (H1.boxAgg (cs := rcells r) rfl rfl (fun b1 => ?_))
 refine hwXG ?_
 refine HL.one (H1.ldAgg (vs := rcells r) rfl memA rfl (fun i v hv => by rw [Nat.zero_add]; exact hv) rfl ?_)
 refine hwXG ?_
 refine HL.one (H1.callx (vs := [recV r]) rfl rfl (fun w' _ => valid_fn r hr w') ?_)
 by_cases hv : ValidR r
 rotate_left
 ·rw [validB_no hv]
  refine hwXG ?_
  exact HX.ret2 rfl rfl rfl fun w' hM => ⟨by unfold encS; rw [validB_no hv]; rfl, hM.ext⟩
 rw [validB_yes hv]
 refine hwXG ?_
 refine HL.one (H1.callz1 (vs := [zv r.kind]) rfl rfl (fun w' _ => shapeOf_fn r.kind hv.kind w') ?_)
 rintro ⟨a, c⟩ -
 have hlen := spec_len r.kind
 have hpos := spec_pos hv.kind
 refine hwXG ?_
 refine HL.openg (e := 194) (a := a) (xs := fcl (specF r.kind)) memA (by omega) ?_
 rintro bz rfl
 refine HL.one (H1.alloc (cs := [.slice none 0 0, .nilFunc, zv 0, zv 0, .nilFunc]) rfl rfl (fun b4 => ?_))
 refine hwXG ?_
 refine HL.one (H1.stAgg (cs := [.slice none 0 0, .nilFunc, zv 0, zv 0, .nilFunc]) (vs := shapeC (some ⟨bz, 0, none⟩, c) r.kind) rfl rfl rfl (shapeC_one _ _) rplA rfl ?_)
 simp only [shapeC]
 refine hwXG ?_
 refine HL.one (H1.alloc (cs := [.pointer none, .slice none 0 0]) rfl rfl (fun b6 => ?_))
 refine hwXG ?_
 refine HC.grow0 5 1 ?_
 have hhl := headL_ok hv
 have hfl := fldL_ok hv
 have hhz := putL_len hhl
 have hhz' : (headL r).length = 4 := rfl
 refine HC.cut (α := Option Addr × Option Addr × Nat) (fun q => [(1, .pointer (some ⟨b1, 0, none⟩)), (4, .pointer (some ⟨b4, 0, none⟩)), (6, .pointer (some ⟨b6, 0, none⟩))])
  (fun q => bldH b6 q.1 q.2.1 q.2.2 (putL (headL r)) [A.blk b4 [.slice (some ⟨bz, 0, none⟩) (specF r.kind).length c, fnV (fid (keyF r.kind)), zv 1, zv 1000000, fnV (rid r.kind)] 196, A.grow 194 3 (some ⟨bz, 0, none⟩) c (specF r.kind).length (fcl (specF r.kind)), A.blk b1 (rcells r) 46]) (fun q => q.1 = none ∨ q.1 = some ⟨b6, 0, none⟩) ?_ ?_
 ·refine HC.anyC ([(⟨b1, 0, none⟩, zv r.kind), (⟨b1, 2, none⟩, zv r.version), (⟨b1, 3, none⟩, zv r.day), (⟨b1, 4, none⟩, .bool r.gone)]) rfl ?_
  refine HB.pa 0 rfl ?_
  refine HB.ld 1 rfl rfl memD ?_
  refine HB.pa 2 rfl ?_
  refine HB.ld 3 rfl rfl memD ?_
  refine HB.pa 4 rfl ?_
  refine HB.ld 5 rfl rfl memD ?_
  refine HB.pa 6 rfl ?_
  refine HB.ld 7 rfl rfl memD ?_
  refine HB.all keepA [8] (by kernel_rfl) rfl ⟨⟨_, rfl, ?_⟩, trivial⟩
  refine HP.one ?_
  refine H1.call0 (vs := [.bool r.gone]) rfl rfl (fun w' _ => flag_fn r.gone w') ?_
  apply HB.fold
  refine HB.all keepA [9] (by kernel_rfl) rfl ⟨⟨_, rfl, ?_⟩, trivial⟩
  refine HP.one ?_
  refine H1.lit (cs := [zv r.kind, zv r.version, zv r.day, zv (b01 r.gone)]) rfl rfl rfl rfl rfl rfl (fun b8 => ?_)
  apply HB.fold
  refine HB.all keepA [10] (by kernel_rfl) rfl ⟨⟨_, rfl, ?_⟩, trivial⟩
  refine HP.one ?_
  refine H1.callk (α := Option Addr × Option Addr × Nat) (V := fun _ => .tuple #[]) (I := fun q => q.1 = none ∨ q.1 = some ⟨b6, 0, none⟩) (H' := fun q => bldH b6 q.1 q.2.1 q.2.2 ([] ++ putL (headL r)) [A.blk b4 [.slice (some ⟨bz, 0, none⟩) (specF r.kind).length c, fnV (fid (keyF r.kind)), zv 1, zv 1000000, fnV (rid r.kind)] 196, A.grow 194 3 (some ⟨bz, 0, none⟩) c (specF r.kind).length (fcl (specF r.kind)), A.blk b1 (rcells r) 46]) (vs := [.pointer (some ⟨b6, 0, none⟩), .slice (some ⟨b8, 0, none⟩) 4 4]) rfl rfl (fun w' hM => put_fn (ys := []) (p := none) (a := none) (c := 0) (headL r) (hM.sub (by show Hs _ [A.blk b6 [.pointer none, .slice none 0 0] 205, A.grow 5 1 none 0 0 [], A.blk b8 [zv r.kind, zv r.version, zv r.day, zv (b01 r.gone)] 3, A.blk b4 _ _, A.grow _ _ _ _ _ _, A.blk b1 _ _]; repeat (first | exact Hs.nil _ | (refine Hs.cons pickA ?_)))) (.inl rfl) hhl (by show 0 + 9 * 4 ≤ 1000000; decide)) ?_
  rintro ⟨p', a', c'⟩ hp'
  rw [List.nil_append]
  apply HB.fold
  refine HB.done keepA (by kernel_rfl) ?_
  exact HX.cut (p', a', c') hp' esA (by repeat (first | exact Hs.nil _ | (refine Hs.cons pickA ?_)))
 rintro ⟨p0, a0, c0⟩ hp0
 dsimp only at hp0 ⊢
 refine hwXG ?_
 obtain ⟨L, hL⟩ : ∃ L, L = specF r.kind := ⟨_, rfl⟩
 have hl10 : ∀ p ∈ L, p.1 < 10 := fun p hp => (spec_lo (hL ▸ hp)).2
 have hl8 : ∀ p ∈ L, p.1 = 8 → p.2.1 = 0 ∧ p.2.2 = 1 := fun p hp => spec8 (hL ▸ hp)
 rw [← hL] at hlen hpos hfl ⊢
 have hfx : ∀ j, ∀ x ∈ fldL r (L.take j), 0 ≤ x ∧ x ≤ 1099511627776 := fun j x hx => by
  obtain ⟨p, hp, rfl⟩ := List.mem_map.1 hx
  exact hfl p (List.mem_of_mem_take hp)
 have hfz : ∀ j, (putL (headL r) ++ putL (fldL r (L.take j))).length ≤ 120 := fun j => by
  have h1 := putL_len (hfx j)
  have h2 : (fldL r (L.take j)).length ≤ 8 := by
   unfold fldL
   rw [List.length_map, List.length_take]; omega
  rw [List.length_append]; omega
 refine HC.loop (α := Nat × Option Addr × Option Addr × Nat) (fun z => [(1, .pointer (some ⟨b1, 0, none⟩)), (6, .pointer (some ⟨b6, 0, none⟩)), (32, .slice (some ⟨bz, 0, none⟩) L.length c), (33, zv (L.length : Int)), (34, zv (z.1 : Int))])
  (fun z => bldH b6 z.2.1 z.2.2.1 z.2.2.2 (putL (headL r) ++ putL (fldL r (L.take z.1))) [A.grow 194 3 (some ⟨bz, 0, none⟩) c L.length (fcl L), A.blk b1 (rcells r) 46]) (fun z => z.1 ≤ L.length ∧ (z.2.1 = none ∨ z.2.1 = some ⟨b6, 0, none⟩)) (fun z => L.length - z.1) (0, p0, a0, c0) ⟨Nat.zero_le _, hp0⟩ esA
  (by show Hs _ (bldH b6 p0 a0 c0 (putL (headL r) ++ putL (fldL r (L.take 0))) _); rw [List.take_zero, show putL (fldL r []) = [] from rfl, List.append_nil]; repeat (first | exact Hs.nil _ | (refine Hs.cons pickA ?_))) ?_
 rintro ⟨j, p1, a1, c1⟩ ⟨hj, hp1⟩
 dsimp only at hj hp1 ⊢
 by_cases hlt : j < L.length
 ·obtain ⟨p, hp⟩ : ∃ p, L[j]? = some p := ⟨_, List.getElem?_eq_getElem hlt⟩
  have hpm := List.mem_of_getElem? hp
  have htk : L.take (j + 1) = L.take j ++ [p] := by rw [List.take_add_one, hp]; rfl
  have hp10 := hl10 p hpm
  have hfg := fcl_get hp
  have h8 := hl8 p hpm
  have hpl := hfl p hpm
  have hzz := hfz j
  have hpt : putL (headL r) ++ putL (fldL r (L.take j)) ++ putL [r.get p.1] = putL (headL r) ++ putL (fldL r (L.take (j + 1))) := by
   rw [htk, List.append_assoc, ← putL_app]
   unfold fldL
   rw [List.map_append]; rfl
  have h1ok : ∀ x ∈ [r.get p.1], 0 ≤ x ∧ x ≤ 1099511627776 := fun x hx => by
   obtain rfl := List.mem_singleton.1 hx; exact hpl
  obtain ⟨i, lo, hi⟩ := p
  dsimp only at hp10 h8 hpt h1ok
  refine hwXG ?_
  by_cases e8 : i = 8
  ·subst e8
   obtain ⟨rfl, rfl⟩ := h8 rfl
   refine HL.one (H1.ldAggw (vs := [.nilFunc, zv 0, zv 0]) rfl rfl (fun w' hM i v hv => ownsRow_cell (hM.own memA) (hfg i v hv)) rfl ?_)
   refine hwXG ?_
   refine HL.one (H1.alloc (cs := [.nilFunc, zv 0, zv 0]) rfl rfl (fun b7 => ?_))
   refine hwXG ?_
   refine HL.one (H1.stAgg (cs := [.nilFunc, zv 0, zv 0]) (vs := [.nilFunc, zv 0, zv 0]) rfl rfl rfl (by intro v hv; simp only [List.mem_cons, List.not_mem_nil, or_false] at hv; rcases hv with rfl | rfl | rfl <;> rfl) rplA rfl ?_)
   refine hwXG ?_
   refine HL.one (H1.call0 (vs := [.bool r.adm]) rfl rfl (fun w' _ => flag_fn r.adm w') ?_)
   refine hwXG ?_
   refine HL.one (H1.lit (cs := [zv (b01 r.adm)]) rfl rfl rfl rfl rfl rfl (fun b8 => ?_))
   refine hwXG ?_
   refine HL.one (H1.callk (α := Option Addr × Option Addr × Nat) (V := fun _ => .tuple #[]) (I := fun q => q.1 = none ∨ q.1 = some ⟨b6, 0, none⟩) (H' := fun q => bldH b6 q.1 q.2.1 q.2.2 (putL (headL r) ++ putL (fldL r (L.take j)) ++ putL [r.get 8]) [A.grow 194 3 (some ⟨bz, 0, none⟩) c L.length (fcl L), A.blk b1 (rcells r) 46]) (vs := [.pointer (some ⟨b6, 0, none⟩), .slice (some ⟨b8, 0, none⟩) 1 1]) rfl rfl (fun w' hM => put_fn [r.get 8] (hM.sub (by show Hs _ (bldH b6 p1 a1 c1 (putL (headL r) ++ putL (fldL r (L.take j))) [A.blk b8 [zv (b01 r.adm)] 3, A.grow _ _ _ _ _ _, A.blk b1 _ _]); repeat (first | exact Hs.nil _ | (refine Hs.cons pickA ?_)))) hp1 h1ok (by show _ + 9 * 1 ≤ 1000000; omega)) ?_)
   rintro ⟨p2, a2, c2⟩ hp2
   dsimp only
   rw [hpt]
   refine hwXG ?_
   exact HX.again (j + 1, p2, a2, c2) ⟨hlt, hp2⟩ (by show L.length - (j + 1) < L.length - j; omega) esA (Hs.refl _)
  ·have hfc : fcells (i, lo, hi) = [fnV (fid i), zv lo, zv hi] := if_neg e8
   rw [hfc] at hfg
   obtain ⟨go, hgf⟩ := getter_ok hp10 e8
   have hcell := cells_get r hp10 e8
   refine HL.one (H1.ldAggw (vs := [fnV (fid i), zv lo, zv hi]) rfl rfl (fun w' hM i v hv => ownsRow_cell (hM.own memA) (hfg i v hv)) rfl ?_)
   refine hwXG ?_
   refine HL.one (H1.alloc (cs := [.nilFunc, zv 0, zv 0]) rfl rfl (fun b7 => ?_))
   refine hwXG ?_
   refine HL.one (H1.stAgg (cs := [.nilFunc, zv 0, zv 0]) (vs := [fnV (fid i), zv lo, zv hi]) rfl rfl rfl (by intro v hv; simp only [List.mem_cons, List.not_mem_nil, or_false] at hv; rcases hv with rfl | rfl | rfl <;> rfl) rplA rfl ?_)
   refine hwXG ?_
   refine HL.one (H1.callv0 (hf := go) (f := fid i) (cap := []) (vs := [.pointer (some ⟨b1, 0, none⟩)]) rfl rfl rfl (fun w' _ => call1w (hgf b1 w')) ?_)
   generalize r.get i = x at *
   refine hwXG ?_
   refine HL.one (H1.ldb (v := zv x) rfl memA hcell rfl ?_)
   refine hwXG ?_
   refine HL.one (H1.lit (cs := [zv x]) rfl rfl rfl rfl rfl rfl (fun b8 => ?_))
   refine hwXG ?_
   refine HL.one (H1.callk (α := Option Addr × Option Addr × Nat) (V := fun _ => .tuple #[]) (I := fun q => q.1 = none ∨ q.1 = some ⟨b6, 0, none⟩) (H' := fun q => bldH b6 q.1 q.2.1 q.2.2 (putL (headL r) ++ putL (fldL r (L.take j)) ++ putL [x]) [A.grow 194 3 (some ⟨bz, 0, none⟩) c L.length (fcl L), A.blk b1 (rcells r) 46]) (vs := [.pointer (some ⟨b6, 0, none⟩), .slice (some ⟨b8, 0, none⟩) 1 1]) rfl rfl (fun w' hM => put_fn [x] (hM.sub (by show Hs _ (bldH b6 p1 a1 c1 (putL (headL r) ++ putL (fldL r (L.take j))) [A.blk b8 [zv x] 3, A.grow _ _ _ _ _ _, A.blk b1 _ _]); repeat (first | exact Hs.nil _ | (refine Hs.cons pickA ?_)))) hp1 h1ok (by show _ + 9 * 1 ≤ 1000000; omega)) ?_)
   rintro ⟨p2, a2, c2⟩ hp2
   dsimp only
   rw [hpt]
   refine hwXG ?_
   exact HX.again (j + 1, p2, a2, c2) ⟨hlt, hp2⟩ (by show L.length - (j + 1) < L.length - j; omega) esA (Hs.refl _)
 obtain rfl : j = L.length := by omega
 rw [List.take_length]
 have hzz := hfz L.length
 rw [List.take_length] at hzz
 have htx := hv.text
 have hsz := strN_size (n := r.text.size) (by omega)
 have hss : (strN r.text.size ++ r.text).size ≤ 209 := by rw [ByteArray.size_append]; omega
 have hfin : putL (headL r) ++ putL (fldL r L) ++ (strN r.text.size ++ r.text).data.toList = encR r := by
  rw [encR_put, hL, ByteArray.data_append, Array.toList_append, List.append_assoc, List.append_assoc, List.append_assoc]
  rfl
 refine hwXG ?_
 refine HL.one (H1.callx (vs := [.string r.text]) rfl rfl (fun w' _ => putString_fn r.text (by omega) w') ?_)
 generalize strN r.text.size ++ r.text = st at hss hfin ⊢
 refine hwXG ?_
 refine HL.one (H1.callk (α := Option Addr × Nat) (V := fun _ => .tuple #[zv (st.size : Int), .nilIface]) (I := fun _ => True) (H' := fun q => bldH b6 (some ⟨b6, 0, none⟩) q.1 q.2 (putL (headL r) ++ putL (fldL r L) ++ st.data.toList) []) (vs := [.pointer (some ⟨b6, 0, none⟩), .string st]) rfl rfl
  (fun w' hM => writeString_fn st (hM.sub (Hs.cons Pick.here (Hs.cons Pick.here (Hs.nil _)))) hp1 (by omega)) ?_)
 rintro ⟨a2, c2⟩ -
 dsimp only
 rw [hfin]
 refine hwXG ?_
 refine HL.one (H1.callk (α := Unit) (V := fun _ => .string ⟨(encR r).toArray⟩) (I := fun _ => True) (H' := fun _ => []) (vs := [.pointer (some ⟨b6, 0, none⟩)]) rfl rfl (fun w' hM => (builderString_fn hM (encR_ne r)).mono fun v w' h => ⟨(), trivial, h⟩) ?_)
 rintro - -
 refine hwXG ?_
 exact HX.ret2 rfl rfl rfl fun w' hM => ⟨by unfold encS; rw [validB_yes hv]; rfl, hM.ext⟩
end Go.Sx
/- Chapter 20: Prevails. -/
namespace Go.Sx
open Go Go.Proofs Go.RowKit
noncomputable def prevB (a b : Rc) : Bool := @decide (Prev a b) (Classical.propDecidable _)
theorem prevB_yes {a b : Rc} (h : Prev a b) : prevB a b = true := by unfold prevB; exact @decide_eq_true _ (Classical.propDecidable _) h
theorem prevB_no {a b : Rc} (h : ¬ Prev a b) : prevB a b = false := by unfold prevB; exact @decide_eq_false _ (Classical.propDecidable _) h
theorem prevB_iff {a b : Rc} : prevB a b = true ↔ Prev a b := by unfold prevB; exact @decide_eq_true_iff _ (Classical.propDecidable _)
theorem keyS_yes {r : Rc} (h : ValidR r) : keyS r = ⟨(keyR r).toArray⟩ := by unfold keyS; rw [validB_yes h]; rfl
theorem encS_yes {r : Rc} (h : ValidR r) : encS r = ⟨(encR r).toArray⟩ := by unfold encS; rw [validB_yes h]; rfl
theorem keyS_inj {a b : Rc} (ha : ValidR a) (hb : ValidR b) : keyS a = keyS b ↔ keyR a = keyR b := by
 rw [keyS_yes ha, keyS_yes hb]
 constructor
 ·intro h
  injection h with h
  exact List.toArray_inj h
 ·intro h; rw [h]
attribute [local irreducible] WC WL WX POp Then Again Fn NX W1 WA WO QL RP RA Yld LoopAt HC HL HX HN H1 HA HO HQ HB HP A.blk A.grow A.rd A.obj A.mp AgainH CutH
set_option maxHeartbeats 4000000 in
theorem prevails_fn (r s : Rc) (hr : RcOk r) (hs : RcOk s) (w : World) : Fn Tryz.prog 129 #[recV r, recV s] w fun v w' => v = .bool (prevB r s) ∧ Ext w w' := by
 refine enterH (l := [_, _]) rfl Tryz.ntmps129 rfl ?_
 refine hwNE ?_
 refine HL.one (H1.boxAgg (cs := rcells r) rfl rfl (fun b2 => ?_))
 refine hwNE ?_
 refine HL.one (H1.boxAgg (cs := rcells s) rfl rfl (fun b3 => ?_))
 refine hwNE ?_
 refine HL.one (H1.ldAgg (vs := rcells r) rfl memA rfl (fun i v hv => by rw [Nat.zero_add]; exact hv) rfl ?_)
 refine hwNE ?_
 refine HL.one (H1.callx (vs := [recV r]) rfl rfl (fun w' _ => encode_fn r hr w') ?_)
 refine hwNE ?_
 refine HL.one (H1.ldAgg (vs := rcells s) rfl memA rfl (fun i v hv => by rw [Nat.zero_add]; exact hv) rfl ?_)
 refine hwNE ?_
 refine HL.one (H1.callx (vs := [recV s]) rfl rfl (fun w' _ => encode_fn s hs w') ?_)
 refine hwNE ?_
 by_cases h1 : ValidR r
 rotate_left
 ·rw [validB_no h1, if_neg Bool.false_ne_true]
  refine HC.any rfl ?_
  refine HA.pa 0 rfl ?_
  refine HA.pa 1 rfl ?_
  refine HA.pa 2 rfl ?_
  first | refine HA.ga 3 rfl rfl ?_ | refine HA.na 3 rfl rfl ?_ | refine HA.nu 3 rfl rfl ?_
  first | refine HA.ga 4 rfl rfl ?_ | refine HA.na 4 rfl rfl ?_ | refine HA.nu 4 rfl rfl ?_
  refine HA.pa 5 rfl ?_
  refine HA.pa 6 rfl ?_
  refine HA.all [7, 9] (by kernel_rfl) rfl ⟨⟨_, rfl, ?_⟩, ⟨_, rfl, ?_⟩, trivial⟩
  ·refine HO.drop_a rfl ?_
   refine HA.all [8, 9] (by kernel_rfl) rfl ⟨⟨_, rfl, ?_⟩, ⟨_, rfl, ?_⟩, trivial⟩
   ·refine HO.drop_a rfl ?_
    refine HA.all [9] (by kernel_rfl) rfl ⟨⟨_, rfl, ?_⟩, trivial⟩
    refine HO.drop_a rfl ?_
    refine HA.all [10] (by kernel_rfl) rfl ⟨⟨_, rfl, ?_⟩, trivial⟩
    refine HO.drop_a rfl ?_
    first | refine HA.ga 11 rfl rfl ?_ | refine HA.na 11 rfl rfl ?_ | refine HA.nu 11 rfl rfl ?_
    refine HA.pa 12 rfl ?_
    refine HA.done (by kernel_rfl) ?_
    refine hwNE ?_
    exact HX.ret1 rfl rfl fun w' hM => ⟨by rw [prevB_no fun h => h1 h.1.1], hM.ext⟩
   ·refine HO.drop_a rfl ?_
    refine HA.all [8] (by kernel_rfl) rfl ⟨⟨_, rfl, ?_⟩, trivial⟩
    refine HO.drop_a rfl ?_
    refine HA.all [10] (by kernel_rfl) rfl ⟨⟨_, rfl, ?_⟩, trivial⟩
    refine HO.drop_a rfl ?_
    first | refine HA.ga 11 rfl rfl ?_ | refine HA.na 11 rfl rfl ?_ | refine HA.nu 11 rfl rfl ?_
    refine HA.pa 12 rfl ?_
    refine HA.done (by kernel_rfl) ?_
    refine hwNE ?_
    exact HX.ret1 rfl rfl fun w' hM => ⟨by rw [prevB_no fun h => h1 h.1.1], hM.ext⟩
  ·refine HO.drop_a rfl ?_
   refine HA.all [7] (by kernel_rfl) rfl ⟨⟨_, rfl, ?_⟩, trivial⟩
   refine HO.drop_a rfl ?_
   refine HA.all [8] (by kernel_rfl) rfl ⟨⟨_, rfl, ?_⟩, trivial⟩
   refine HO.drop_a rfl ?_
   refine HA.all [10] (by kernel_rfl) rfl ⟨⟨_, rfl, ?_⟩, trivial⟩
   refine HO.drop_a rfl ?_
   first | refine HA.ga 11 rfl rfl ?_ | refine HA.na 11 rfl rfl ?_ | refine HA.nu 11 rfl rfl ?_
   refine HA.pa 12 rfl ?_
   refine HA.done (by kernel_rfl) ?_
   refine hwNE ?_
   exact HX.ret1 rfl rfl fun w' hM => ⟨by rw [prevB_no fun h => h1 h.1.1], hM.ext⟩
 by_cases h2 : ValidR s
 rotate_left
 ·rw [validB_no h2, validB_yes h1, if_neg Bool.false_ne_true, if_pos rfl]
  refine HC.any rfl ?_
  refine HA.pa 0 rfl ?_
  refine HA.pa 1 rfl ?_
  refine HA.pa 2 rfl ?_
  first | refine HA.ga 3 rfl rfl ?_ | refine HA.na 3 rfl rfl ?_ | refine HA.nu 3 rfl rfl ?_
  first | refine HA.ga 4 rfl rfl ?_ | refine HA.na 4 rfl rfl ?_ | refine HA.nu 4 rfl rfl ?_
  refine HA.pa 5 rfl ?_
  refine HA.pa 6 rfl ?_
  refine HA.all [7, 9] (by kernel_rfl) rfl ⟨⟨_, rfl, ?_⟩, ⟨_, rfl, ?_⟩, trivial⟩
  ·refine HO.drop_a rfl ?_
   refine HA.all [8, 9] (by kernel_rfl) rfl ⟨⟨_, rfl, ?_⟩, ⟨_, rfl, ?_⟩, trivial⟩
   ·refine HO.drop_a rfl ?_
    refine HA.all [9] (by kernel_rfl) rfl ⟨⟨_, rfl, ?_⟩, trivial⟩
    refine HO.drop_a rfl ?_
    refine HA.all [10] (by kernel_rfl) rfl ⟨⟨_, rfl, ?_⟩, trivial⟩
    refine HO.drop_a rfl ?_
    first | refine HA.ga 11 rfl rfl ?_ | refine HA.na 11 rfl rfl ?_ | refine HA.nu 11 rfl rfl ?_
    refine HA.pa 12 rfl ?_
    refine HA.done (by kernel_rfl) ?_
    refine hwNE ?_
    exact HX.ret1 rfl rfl fun w' hM => ⟨by rw [prevB_no fun h => h2 h.1.2.1], hM.ext⟩
   ·refine HO.drop_a rfl ?_
    refine HA.all [8] (by kernel_rfl) rfl ⟨⟨_, rfl, ?_⟩, trivial⟩
    refine HO.drop_a rfl ?_
    refine HA.all [10] (by kernel_rfl) rfl ⟨⟨_, rfl, ?_⟩, trivial⟩
    refine HO.drop_a rfl ?_
    first | refine HA.ga 11 rfl rfl ?_ | refine HA.na 11 rfl rfl ?_ | refine HA.nu 11 rfl rfl ?_
    refine HA.pa 12 rfl ?_
    refine HA.done (by kernel_rfl) ?_
    refine hwNE ?_
    exact HX.ret1 rfl rfl fun w' hM => ⟨by rw [prevB_no fun h => h2 h.1.2.1], hM.ext⟩
  ·refine HO.drop_a rfl ?_
   refine HA.all [7] (by kernel_rfl) rfl ⟨⟨_, rfl, ?_⟩, trivial⟩
   refine HO.drop_a rfl ?_
   refine HA.all [8] (by kernel_rfl) rfl ⟨⟨_, rfl, ?_⟩, trivial⟩
   refine HO.drop_a rfl ?_
   refine HA.all [10] (by kernel_rfl) rfl ⟨⟨_, rfl, ?_⟩, trivial⟩
   refine HO.drop_a rfl ?_
   first | refine HA.ga 11 rfl rfl ?_ | refine HA.na 11 rfl rfl ?_ | refine HA.nu 11 rfl rfl ?_
   refine HA.pa 12 rfl ?_
   refine HA.done (by kernel_rfl) ?_
   refine hwNE ?_
   exact HX.ret1 rfl rfl fun w' hM => ⟨by rw [prevB_no fun h => h2 h.1.2.1], hM.ext⟩
 rw [validB_yes h1, validB_yes h2, if_pos rfl]
 have e1 := encS_yes h1
 have e2 := encS_yes h2
 have ek := keyS_inj h1 h2
 have hP : Prev r s ↔ keyS r = keyS s ∧ (s.version < r.version ∨ r.version = s.version ∧ Op.bytesLess (encS s).data.toList (encS r).data.toList = true) := by
  rw [ek, e1, e2]
  exact ⟨fun h => ⟨h.1.2.2, h.2⟩, fun h => ⟨⟨h1, h2, h.1⟩, h.2⟩⟩
 clear e1 e2 ek
 refine HC.cut (α := Unit) (fun _ => [(2, .pointer (some ⟨b2, 0, none⟩)), (3, .pointer (some ⟨b3, 0, none⟩)), (5, .string (encS r)), (7, .string (encS s)), (31, .bool (decide (¬ keyS r = keyS s)))])
  (fun _ => [A.blk b2 (rcells r) 46, A.blk b3 (rcells s) 46]) (fun _ => True) ?_ ?_
 ·refine HC.any rfl ?_
  refine HA.pa 0 rfl ?_
  refine HA.pa 1 rfl ?_
  refine HA.pa 2 rfl ?_
  first | refine HA.ga 3 rfl rfl ?_ | refine HA.na 3 rfl rfl ?_ | refine HA.nu 3 rfl rfl ?_
  first | refine HA.ga 4 rfl rfl ?_ | refine HA.na 4 rfl rfl ?_ | refine HA.nu 4 rfl rfl ?_
  refine HA.pa 5 rfl ?_
  refine HA.pa 6 rfl ?_
  refine HA.all [7, 9] (by kernel_rfl) rfl ⟨⟨_, rfl, ?_⟩, ⟨_, rfl, ?_⟩, trivial⟩
  ·refine HO.one_a rfl ?_
   refine H1.ldAgg (vs := rcells r) rfl memA rfl (fun i v hv => by rw [Nat.zero_add]; exact hv) rfl ?_
   apply HA.fold
   refine HA.all [8, 9] (by kernel_rfl) rfl ⟨⟨_, rfl, ?_⟩, ⟨_, rfl, ?_⟩, trivial⟩
   ·refine HO.one_a rfl ?_
    refine H1.callx (vs := [recV r]) rfl rfl (fun w' _ => key_fn r hr w') ?_
    apply HA.fold
    refine HA.all [9] (by kernel_rfl) rfl ⟨⟨_, rfl, ?_⟩, trivial⟩
    refine HO.one_a rfl ?_
    refine H1.ldAgg (vs := rcells s) rfl memA rfl (fun i v hv => by rw [Nat.zero_add]; exact hv) rfl ?_
    apply HA.fold
    refine HA.all [10] (by kernel_rfl) rfl ⟨⟨_, rfl, ?_⟩, trivial⟩
    refine HO.one_a rfl ?_
    refine H1.callx (vs := [recV s]) rfl rfl (fun w' _ => key_fn s hs w') ?_
    apply HA.fold
    first | refine HA.ga 11 rfl rfl ?_ | refine HA.na 11 rfl rfl ?_ | refine HA.nu 11 rfl rfl ?_
    refine HA.pa 12 rfl ?_
    refine HA.done (by kernel_rfl) ?_
    exact HX.cut () trivial esA (by repeat (first | exact Hs.nil _ | (refine Hs.cons pickA ?_)))
   ·refine HO.one_a rfl ?_
    refine H1.ldAgg (vs := rcells s) rfl memA rfl (fun i v hv => by rw [Nat.zero_add]; exact hv) rfl ?_
    apply HA.fold
    refine HA.all [8] (by kernel_rfl) rfl ⟨⟨_, rfl, ?_⟩, trivial⟩
    refine HO.one_a rfl ?_
    refine H1.callx (vs := [recV r]) rfl rfl (fun w' _ => key_fn r hr w') ?_
    apply HA.fold
    refine HA.all [10] (by kernel_rfl) rfl ⟨⟨_, rfl, ?_⟩, trivial⟩
    refine HO.one_a rfl ?_
    refine H1.callx (vs := [recV s]) rfl rfl (fun w' _ => key_fn s hs w') ?_
    apply HA.fold
    first | refine HA.ga 11 rfl rfl ?_ | refine HA.na 11 rfl rfl ?_ | refine HA.nu 11 rfl rfl ?_
    refine HA.pa 12 rfl ?_
    refine HA.done (by kernel_rfl) ?_
    exact HX.cut () trivial esA (by repeat (first | exact Hs.nil _ | (refine Hs.cons pickA ?_)))
  ·refine HO.one_a rfl ?_
   refine H1.ldAgg (vs := rcells s) rfl memA rfl (fun i v hv => by rw [Nat.zero_add]; exact hv) rfl ?_
   apply HA.fold
   refine HA.all [7] (by kernel_rfl) rfl ⟨⟨_, rfl, ?_⟩, trivial⟩
   refine HO.one_a rfl ?_
   refine H1.ldAgg (vs := rcells r) rfl memA rfl (fun i v hv => by rw [Nat.zero_add]; exact hv) rfl ?_
   apply HA.fold
   refine HA.all [8] (by kernel_rfl) rfl ⟨⟨_, rfl, ?_⟩, trivial⟩
   refine HO.one_a rfl ?_
   refine H1.callx (vs := [recV r]) rfl rfl (fun w' _ => key_fn r hr w') ?_
   apply HA.fold
   refine HA.all [10] (by kernel_rfl) rfl ⟨⟨_, rfl, ?_⟩, trivial⟩
   refine HO.one_a rfl ?_
   refine H1.callx (vs := [recV s]) rfl rfl (fun w' _ => key_fn s hs w') ?_
   apply HA.fold
   first | refine HA.ga 11 rfl rfl ?_ | refine HA.na 11 rfl rfl ?_ | refine HA.nu 11 rfl rfl ?_
   refine HA.pa 12 rfl ?_
   refine HA.done (by kernel_rfl) ?_
   exact HX.cut () trivial esA (by repeat (first | exact Hs.nil _ | (refine Hs.cons pickA ?_)))
 rintro - -
 generalize keyS r = k1 at *
 generalize keyS s = k2 at *
 generalize encS r = s1 at *
 generalize encS s = s2 at *
 have hR : ∀ x : Bool, (x = true ↔ Prev r s) → x = prevB r s := fun x h => by rw [Bool.eq_iff_iff, prevB_iff]; exact h
 by_cases c1 : k1 = k2
 rotate_left
 ·have c1' : (decide (¬ k1 = k2)) = true := decide_eq_true c1
  rw [c1']
  refine hwNE ?_
  exact HX.ret1 rfl rfl fun w' hM => ⟨congrArg Value.bool (hR _ (by rw [hP]; simp [c1])), hM.ext⟩
 have c1' : (decide (¬ k1 = k2)) = false := decide_eq_false (fun h => h c1)
 rw [c1']
 by_cases c2 : s.version < r.version
 ·refine hwNE ?_
  exact HX.ret1 rfl rfl fun w' hM => ⟨congrArg Value.bool (hR _ (by rw [hP]; simp [c1, c2])), hM.ext⟩
 by_cases c3 : r.version = s.version
 ·refine hwNE ?_
  refine HL.pa ?_ (POp.sgtr rfl rfl)
  refine hwNE ?_
  exact HX.ret1 rfl rfl fun w' hM => ⟨congrArg Value.bool (hR _ (by rw [hP]; simp [c1, c3])), hM.ext⟩
 ·refine hwNE ?_
  exact HX.ret1 rfl rfl fun w' hM => ⟨congrArg Value.bool (hR _ (by rw [hP]; simp [c2, c3])), hM.ext⟩
end Go.Sx
/- Chapter 21: what is in effect: a map by keys; maps.DeleteFunc. -/
namespace Go.Sx
open Go Go.Proofs Go.RowKit
theorem Mm.mxms {w0 w : World} {b clk : Nat} {es : Array MapEntry} {L : List (ByteArray × Value)} {H : List Atom} (h : Mm w0 (A.mx b es clk :: H) w) (hl : MS L es clk) : Mm w0 (A.ms b L :: H) w := h.head rfl (by
 obtain ⟨o, h1, rfl⟩ : ∃ o, w.heap[b]? = some o ∧ o = .map es clk := h.all _ (List.Mem.head _)
 exact ⟨_, h1, es, clk, rfl, hl⟩)
theorem MS.erase {L : List (ByteArray × Value)} {es : Array MapEntry} {clk : Nat} (h : MS L es clk) (i : Nat) : MS (L.eraseIdx i) (es.eraseIdxIfInBounds i) clk := by
 refine ⟨?_, fun e he => ?_, ?_⟩
 ·rw [Array.toList_eraseIdxIfInBounds, ← map_eraseIdx, h.ents, map_eraseIdx]
 ·rw [Array.toList_eraseIdxIfInBounds] at he
  exact h.born e (List.mem_of_mem_eraseIdx he)
 ·rw [Array.toList_eraseIdxIfInBounds]
  exact List.Nodup.sublist ((List.eraseIdx_sublist _ i).map _) h.nd
def liftM (m : List (List UInt8 × Rc)) : List (ByteArray × Value) := m.map fun p => ((⟨p.1.toArray⟩ : ByteArray), recV p.2)
theorem ba_inj {x y : List UInt8} (h : (⟨x.toArray⟩ : ByteArray) = ⟨y.toArray⟩) : x = y := by
 injection h with h
 exact List.toArray_inj h
theorem midxS_no {l : List (ByteArray × Value)} {x : ByteArray} (h : midxS l x = none) : ∀ p ∈ l, p.1 ≠ x := by
 induction l with
 | nil => intro p hp; simp at hp
 | cons q l ih =>
  obtain ⟨y, u⟩ := q
  simp only [midxS] at h
  by_cases hxy : x = y
  ·rw [if_pos hxy] at h; cases h
  ·rw [if_neg hxy, Option.map_eq_none_iff] at h
   intro p hp
   rcases List.mem_cons.1 hp with rfl | hp
   ·exact fun e => hxy e.symm
   ·exact ih h p hp
theorem midx_lift_no {m : List (List UInt8 × Rc)} {x : List UInt8} (h : midxS (liftM m) ⟨x.toArray⟩ = none) : ∀ p ∈ m, p.1 ≠ x := fun p hp e =>
 midxS_no h _ (List.mem_map.2 ⟨p, hp, rfl⟩) (by rw [e])
theorem liftM_get {m : List (List UInt8 × Rc)} {i : Nat} {x : List UInt8} {u : Value} (h : (liftM m)[i]? = some (⟨x.toArray⟩, u)) : ∃ s, u = recV s ∧ m[i]? = some (x, s) := by
 unfold liftM at h
 rw [List.getElem?_map, Option.map_eq_some_iff] at h
 obtain ⟨⟨y, s⟩, h1, h2⟩ := h
 injection h2 with h2 h3
 have := ba_inj h2
 subst this
 exact ⟨s, h3.symm, h1⟩
theorem midx_lift_some {m : List (List UInt8 × Rc)} {x : List UInt8} {i : Nat} {u : Value} (h : midxS (liftM m) ⟨x.toArray⟩ = some (i, u)) : ∃ s, u = recV s ∧ m[i]? = some (x, s) :=
 liftM_get (midxS_some u h).2.2
theorem midx_lift {m : List (List UInt8 × Rc)} (hk : (m.map Prod.fst).Nodup) {p : List UInt8 × Rc} (hp : p ∈ m) : ∃ i, m[i]? = some p ∧ midxS (liftM m) ⟨p.1.toArray⟩ = some (i, recV p.2) := by
 cases h : midxS (liftM m) ⟨p.1.toArray⟩ with
 | none => exact absurd rfl (midx_lift_no h p hp)
 | some q =>
  obtain ⟨i, u⟩ := q
  obtain ⟨s, rfl, h2⟩ := midx_lift_some h
  obtain ⟨j, hj⟩ := List.mem_iff_getElem?.1 hp
  have n1 : (m.map Prod.fst)[i]? = some p.1 := by simp [h2]
  have n2 : (m.map Prod.fst)[j]? = some p.1 := by simp [hj]
  have hlt : i < (m.map Prod.fst).length := (List.getElem?_eq_some_iff.1 n1).1
  have e := (List.getElem?_inj hlt hk).1 (n1.trans n2.symm)
  subst e
  rw [hj] at h2
  have e2 := Option.some.inj h2
  refine ⟨i, hj, ?_⟩
  rw [e2]
theorem mem_erase_at {m : List (List UInt8 × Rc)} (hk : (m.map Prod.fst).Nodup) {i : Nat} {p : List UInt8 × Rc} (hi : m[i]? = some p) (q : List UInt8 × Rc) : q ∈ m.eraseIdx i ↔ q ∈ m ∧ q ≠ p := by
 rw [List.mem_eraseIdx_iff_getElem?]
 constructor
 ·rintro ⟨j, hne, hj⟩
  refine ⟨List.mem_of_getElem? hj, fun e => hne ?_⟩
  subst e
  have n1 : (m.map Prod.fst)[i]? = some q.1 := by simp [hi]
  have n2 : (m.map Prod.fst)[j]? = some q.1 := by simp [hj]
  have hlt : j < (m.map Prod.fst).length := (List.getElem?_eq_some_iff.1 n2).1
  exact (List.getElem?_inj hlt hk).1 (n2.trans n1.symm)
 ·rintro ⟨hq, hne⟩
  obtain ⟨j, hj⟩ := List.mem_iff_getElem?.1 hq
  refine ⟨j, fun e => hne ?_, hj⟩
  subst e
  rw [hi] at hj
  exact (Option.some.inj hj).symm
section
variable {P : Program} {r : Option Nat} {N : Nat} {ds : List Deferred} {Q : Post} {E : Env} {w0 : World} {H : List Atom} {next : Act → World → Prop} {g : Option (Nat × Bool)}
variable {t ty k e : TypeId} {pos : String} {af : Array Edge} {x y : Operand}
theorem HL.openms {ol l : List Oper} {b : Nat} {L : List (ByteArray × Value)} (h : ∀ es clk, MS L es clk → HL P r N ds ol l Q E w0 (A.mx b es clk :: H)) : HL P r N ds ol l Q E w0 (A.ms b L :: H) := fun w hM => by
 obtain ⟨o, h1, es, clk, rfl, h2⟩ : ∃ o, w.heap[b]? = some o ∧ msP L o := hM.all _ (List.Mem.head _)
 exact h es clk h2 w (hM.head rfl ⟨_, h1, rfl⟩)
theorem H1.msdel {u : TypeId} {b clk i : Nat} {es : Array MapEntry} {L : List (ByteArray × Value)} {n : ByteArray} {v : Value} {H' : List Atom} [ht : UTy P t (.map k e)] [hk : UTy P k .string] (hx : Env.ev E x = some (.map (some b))) (hy : Env.ev E y = some (.string n))
  (hl : MS L es clk) (hi : midxS L n = some (i, v)) (hr : Rpl (A.mx b es clk) (A.mx b (es.eraseIdxIfInBounds i) clk) H H') (h : HN N ds next E w0 H') :
  H1 P r N ds next ⟨none, .call ⟨.builtin .delete, #[x, y], #[t, u]⟩, ty, pos, af, g⟩ Q E w0 H := fun w hM => by
 have hb := hM.mx hr.mem
 have hlt := (Array.getElem?_eq_some_iff.1 hb).1
 have hf := run_findKey_str (P := P) (w := w) hk.is n es.toList L hl.ents
 rw [hi] at hf
 have hrun : (Builtin.delete_ #[t, u] ty #[.map (some b), .string n]).run P w = .ok (.tuple #[]) (w.putObj b (.map (es.eraseIdxIfInBounds i) clk)) := by
  unfold Builtin.delete_
  simp [Sem.run_bind, run_underlying ht.is, Result.andThen, run_getMap hb, run_checkKey_str hk.is _ 9999 n, hf, run_setMap _ hb]
 refine W1.run (v := .tuple #[]) (w' := w.putObj b (.map (es.eraseIdxIfInBounds i) clk)) (fun a ha => ?_) rfl rfl (h _ (hM.turn hr rfl rfl rfl (by simp) (fun k _ hk' => ?_) ⟨_, World.putObj_heap_same hlt, rfl⟩ (by simp [A.mx, A.obj]) fun b' hb' => .inl hb'))
 ·simp only [execOp, resolve, invoke, Go.builtin, Sem.run_bind, Sem.run_pure, Result.andThen, List.map_toArray, List.map_cons, List.map_nil, ha.ev hx, ha.ev hy, hrun]
 ·exact World.putObj_heap_other (by simpa [A.mx, A.obj] using hk')
end
attribute [local irreducible] WC WL WX POp Then Again Fn NX W1 WA WO QL RP RA Yld LoopAt HC HL HX HN H1 HA HO HQ HB HP A.blk A.grow A.rd A.obj A.mp AgainH CutH
attribute [local irreducible] A.ms A.mx A.mit
theorem effect1_fn (k : ByteArray) (r : Rc) (w : World) : Fn Tryz.prog 131 #[.string k, recV r] w fun v w' => v = .bool r.gone ∧ Ext w w' := by
 refine enterH (l := [_, _]) rfl Tryz.ntmps131 rfl ?_
 refine hwNE ?_
 refine HL.one (H1.boxAgg (cs := rcells r) rfl rfl (fun b1 => ?_))
 refine hwNE ?_
 exact HX.ret1 rfl rfl fun w' hM => ⟨rfl, hM.ext⟩
set_option maxHeartbeats 1000000 in
theorem deleteFunc_fn {w0 w : World} {H : List Atom} {b : Nat} {m : List (List UInt8 × Rc)} (hM : Mm w0 (A.ms b (liftM m) :: H) w) (hk : (m.map Prod.fst).Nodup) :
  Fn Tryz.prog 130 #[.map (some b), fnV 131] w fun v w' => ∃ m', ((m'.map Prod.fst).Nodup ∧ ∀ p, p ∈ m' ↔ p ∈ m ∧ p.2.gone = false) ∧ v = .tuple #[] ∧ Mm w0 (A.ms b (liftM m') :: H) w' := by
 refine enterK (l := [_, _]) hM rfl Tryz.ntmps130 rfl ?_
 refine hwNE ?_
 refine HL.openms fun es clk hms => ?_
 refine HL.one (H1.mqrange (es := es) (clk := clk) rfl (fun w' hM => hM.mx (.head _)) rfl (fun it => ?_))
 refine hwNE ?_
 refine HC.loop (α := Array MapEntry × Array Nat × List (List UInt8 × Rc)) (fun _ => [(0, .map (some b)), (1, fnV 131), (7, .pointer (some ⟨it, 0, none⟩))])
  (fun z => A.mit it b clk z.2.1 :: A.mx b z.1 clk :: H)
  (fun z => MS (liftM z.2.2) z.1 clk ∧ (z.2.2.map Prod.fst).Nodup ∧ (∀ p ∈ z.2.2, p ∈ m) ∧ (∀ p ∈ m, p.2.gone = false → p ∈ z.2.2) ∧ ∀ e ∈ z.1.toList, e.born ∈ z.2.1 → ∀ p ∈ z.2.2, e.key = .string ⟨p.1.toArray⟩ → p.2.gone = false)
  (fun z => mleft z.1 z.2.1) (es, #[], m) ⟨hms, hk, fun _ h => h, fun _ h _ => h, fun e _ hs => absurd hs (by simp)⟩ esA (Hs.refl _) ?_
 rintro ⟨es', seen, m'⟩ ⟨hI, hk', hs1, hs2, hsn⟩
 dsimp only at hI hk' hs1 hs2 hsn ⊢
 refine hwNE ?_
 refine HL.one (H1.mqnext (H' := fun s => A.mit it b clk s :: A.mx b es' clk :: H) rfl (fun w' hM => hM.mx (.tail _ (.head _))) hI.born (fun s => Rpl.here) rfl (fun hall => ?_) (fun e he hne => ?_))
 ·refine hwNE ?_
  refine HX.end0 rfl fun w' hM => ⟨m', ⟨hk', fun p => ⟨fun hp => ⟨hs1 p hp, ?_⟩, fun hp => hs2 p hp.1 hp.2⟩⟩, rfl, hM.tail.mxms hI⟩
  obtain ⟨e, he, h1, -⟩ := hI.of (List.mem_map.2 ⟨p, hp, rfl⟩)
  exact hsn e he (hall e he) p hp h1
 obtain ⟨q, hq, hkey, hval⟩ := hI.ent he
 obtain ⟨p, hp, rfl⟩ := List.mem_map.1 hq
 dsimp only at hkey hval
 have hkp : ∀ p' ∈ m', e.key = .string ⟨p'.1.toArray⟩ → p' = p := fun p' hp' h => by
  rw [hkey] at h
  injection h with h
  have h2 := ba_inj h
  obtain ⟨i, hi, -⟩ := midx_lift hk' hp
  obtain ⟨j, hj, -⟩ := midx_lift hk' hp'
  have n1 : (m'.map Prod.fst)[i]? = some p.1 := by simp [hi]
  have n2 : (m'.map Prod.fst)[j]? = some p.1 := by simp [hj, h2]
  have hlt : i < (m'.map Prod.fst).length := (List.getElem?_eq_some_iff.1 n1).1
  have e2 := (List.getElem?_inj hlt hk').1 (n1.trans n2.symm)
  subst e2
  rw [hi] at hj
  exact (Option.some.inj hj).symm
 rw [hkey, hval]
 refine hwNE ?_
 refine HL.one (H1.mqentry (e := e) rfl (fun w' hM => hM.mx (.tail _ (.head _))) he hI.nd (.head _) rfl ?_)
 rw [hkey, hval]
 refine hwNE ?_
 refine HL.one (H1.alloc (cs := rcells rcZ) rfl rfl (fun b5 => ?_))
 refine hwNE ?_
 refine HL.one (H1.stAgg (cs := rcells rcZ) (vs := rcells p.2) rfl rfl rfl (rcells_one _) rplA rfl ?_)
 refine hwNE ?_
 refine HL.one (H1.ldAgg (vs := rcells p.2) rfl memA rfl (fun i v hv => by rw [Nat.zero_add]; exact hv) rfl ?_)
 refine hwNE ?_
 refine HL.one (H1.callv0 (f := 131) (cap := []) (vs := [.string ⟨p.1.toArray⟩, recV p.2]) rfl rfl rfl (fun w' _ => effect1_fn _ p.2 w') ?_)
 have hlt := mleft_lt he hne
 cases hg : p.2.gone
 ·refine hwNE ?_
  refine HX.again (es', seen.push e.born, m') ⟨hI, hk', hs1, hs2, fun e' he' hs' p' hp' h => ?_⟩ hlt esA (Hs.refl _).skip
  rcases Array.mem_push.1 hs' with h1 | h1
  ·exact hsn e' he' h1 p' hp' h
  ·have e1 : e' = e := stamp_inj hI.nd he' he h1
   subst e1
   rw [hkp p' hp' h]; exact hg
 ·obtain ⟨i, hi, hmi⟩ := midx_lift hk' hp
  have hme := mem_erase_at hk' hi
  refine hwNE ?_
  refine HL.one (H1.msdel rfl rfl hI hmi rplA ?_)
  refine hwNE ?_
  refine HX.again (es'.eraseIdxIfInBounds i, seen.push e.born, m'.eraseIdx i) ⟨?_, ?_, fun q hq => hs1 q (List.mem_of_mem_eraseIdx hq), fun q hq h => (hme q).2 ⟨hs2 q hq h, fun e1 => ?_⟩, fun e' he' hs' p' hp' h => ?_⟩ (Nat.lt_of_le_of_lt (mleft_erase _ _ _) hlt) esA (Hs.refl _).skip
  ·have := hI.erase i
   rwa [show (liftM m').eraseIdx i = liftM (m'.eraseIdx i) from map_eraseIdx _ _ _] at this
  ·exact List.Nodup.sublist ((List.eraseIdx_sublist _ i).map _) hk'
  ·rw [e1, hg] at h; cases h
  ·dsimp only at he' hs' hp'
   rw [Array.toList_eraseIdxIfInBounds] at he'
   have he2 := List.mem_of_mem_eraseIdx he'
   have hp2 := (hme p').1 hp'
   rcases Array.mem_push.1 hs' with h1 | h1
   ·exact hsn e' he2 h1 p' hp2.1 h
   ·have e1 : e' = e := stamp_inj hI.nd he2 he h1
    subst e1
    exact absurd (hkp p' hp2.1 h) hp2.2
end Go.Sx
