/- abstraction.read at the fixed example: the walks. -/
import Derived.Test.YtfmiakflhkpnfaaGreatDoorQT06
import Derived.Shelf.GgClosure.StringsIndexFuncTop
import Derived.Shelf.SlSortCmp.NoneTotal
import Derived.Shelf.SlGeneric
import Derived.Shelf.Spec.SlicesGrow
import Derived.Ground.Names8Prog
import Derived.Test.YtfmiakflhkpnfaaGreatDoorProg
namespace Go.Sx
open Go Go.Proofs Go.RowKit
theorem hwF7 {G G2 : Prop} (x : G2) (hwq : Hold G2 → G := by
  intro hQq
  repeat' (first | refine HL.pa ?_ (POp.seqN rfl rfl (by assumption)) | refine HL.pa ?_ (POp.nilCheck rfl) | apply HL.fold | apply HA.fold | apply HL.nil | apply HX.n_then | apply HC.seq | apply HC.region | refine HL.pa ?_ | refine HL.ga rfl ?_ | refine HL.na rfl ?_ | refine HL.nu rfl rfl ?_ | apply HC.block | apply HC.skip | apply HC.exit | apply HC.ret | apply HX.e_block | refine HX.e_other rfl ?_ | apply HX.e_then | apply HX.e_again | apply HX.n_block | apply HX.r_then | apply HX.r_block | apply HX.r_again | refine HC.cond_yes rfl ?_ | refine HC.cond_no rfl ?_ | refine HL.one (H1.ldb rfl memA rfl rfl ?_) | refine HC.cond rfl (fun hc => ?_) (fun hc => ?_) | refine HC.cond_b rfl (fun hc => ?_) (fun hc => ?_))
  exact hQq.get) : G := hwq ⟨x⟩
theorem POp.seqN {P : Program} {N : Nat} {ds : List Deferred} {E : Env} {x y : Operand} {t t' ty : TypeId} {s u : ByteArray} [UTy P t .string] (hx : Env.ev E x = some (.string s)) (hy : Env.ev E y = some (.string u)) (h : ¬ s = u) : POp P N ds E (.binOp .eql t x y t') ty (.bool false) := by
 rw [← decide_eq_false h]
 exact POp.seql hx hy
theorem awithin_w (n lo hi : Int) (w : World) : Calls Tryz.prog 96 #[zv n, zv lo, zv hi] w fun e w' => e = .returned (.bool (decide (lo ≤ n) && decide (n ≤ hi))) ∧ w' = w := by
 by_cases h1 : lo ≤ n <;> by_cases h2 : n ≤ hi
 all_goals
  go_enter Tryz.func96, Tryz.ntmps96
  go_wp2
  all_goals first | (exfalso; omega) | (go_ret; exact ⟨by simp [h1, h2], rfl⟩)
def notLine (r : Nat) : Bool := !decide (32 ≤ wrap64 (r : Int)) || !decide (wrap64 (r : Int) ≤ 126)
theorem isLine_at (w : World) : PredAt Tryz.prog 169 #[] Go.Proofs.encR notLine w := fun W r _ => by
 have cI := fun n w => awithin_w n 32 126 w
 have e96 : ∀ args w, (callFunc 96 args).run Tryz.prog w = .ok (.enter 96 args) w := enters_of Tryz.func96 (by kernel_rfl) rfl
 unfold FnGives
 go_enter Tryz.func169, Tryz.ntmps169
 go_wp2_with (go_at_fn 96; refine (cI _ _).mono ?_; rintro e w' ⟨rfl, rfl⟩)
 go_ret
 exact ⟨rfl, 0, rfl⟩
theorem rLine_fn (s : ByteArray) (hs : Lib.idxFunc notLine true s = -1) (w : World) : Fn Tryz.prog 168 #[.string s, .func (.func 169) #[] #[]] w fun u w' => u = .bool false ∧ Ext w w' := by
 have h : Calls Tryz.prog 168 #[.string s, .func (.func 169) #[] #[]] w _ := Any.strings_ContainsFunc Tryz.conP 169 #[] (enters_of Tryz.func169 (by kernel_rfl) rfl) notLine s w (isLine_at w)
 unfold Fn
 refine Calls.mono h ?_
 rintro e w' ⟨h1, h2⟩
 exact ⟨_, h1, by rw [hs]; rfl, h2⟩
attribute [local irreducible] WC WL WX POp Then Again Fn NX W1 WA WO QL RP RA Yld LoopAt HC HL HX HN H1 HA HO HQ HB HP A.blk A.grow A.rd A.obj A.mp AgainH CutH
attribute [local irreducible] A.mq A.mit
theorem rdNumber_fn {w0 w : World} {H : List Atom} {br p q : Nat} {s : ByteArray} {v lo hi : Int} (hp : p ≤ s.size) (hs : s.size ≤ 5000000) (hd : intV (decI s.data.toList p) = .tuple #[zv v, zv (q : Int), zv 0]) (h1 : lo ≤ v) (h2 : v ≤ hi) (hM : Mm w0 (A.blk br [.string s, zv (p : Int)] 169 :: H) w) :
  Fn Tryz.prog 100 #[.pointer (some ⟨br, 0, none⟩), zv lo, zv hi] w fun u w' => u = zv v ∧ Mm w0 (A.blk br [.string s, zv (q : Int)] 169 :: H) w' := by
 refine enterK (l := [_, _, _]) hM rfl Tryz.ntmps100 rfl ?_
 refine hwF7 ?_
 refine HC.anyC ([(⟨br, 0, none⟩, .string s), (⟨br, 1, none⟩, zv (p : Int))]) rfl ?_
 refine HB.pa 0 rfl ?_
 refine HB.pa 1 rfl ?_ (POp.nilCheck rfl)
 refine HB.pa 2 rfl ?_
 refine HB.ld 3 rfl rfl memD ?_
 refine HB.pa 4 rfl ?_
 refine HB.pa 5 rfl ?_ (POp.nilCheck rfl)
 refine HB.pa 6 rfl ?_
 refine HB.ld 7 rfl rfl memD ?_
 refine HB.all keepA [8] (by kernel_rfl) rfl ⟨⟨_, rfl, ?_⟩, trivial⟩
 refine HP.one ?_
 refine H1.call0 (u := .tuple #[zv v, zv (q : Int), zv 0]) (vs := [_, _]) rfl rfl (fun w' _ => (int_fn s p hp hs w').mono fun u w'' h => ⟨h.1.trans hd, h.2⟩) ?_
 apply HB.fold
 refine HB.pa 9 rfl ?_
 refine HB.pa 10 rfl ?_
 refine HB.pa 11 rfl ?_
 refine HB.pa 12 rfl ?_
 refine HB.pa 13 rfl ?_
 refine HB.pa 14 rfl ?_
 refine HB.pa 15 rfl ?_
 refine HB.done keepA (by kernel_rfl) ?_
 refine hwF7 ?_
 refine HL.one (H1.callx (vs := [_, _, _]) rfl rfl (fun w' _ => awithin_yes h1 h2 w') ?_)
 refine hwF7 ?_
 refine HL.one (H1.callx (vs := [_]) rfl rfl (fun w' _ => amust_yes w') ?_)
 refine hwF7 ?_
 refine HL.one (H1.st rfl rfl (by intro _ h; cases h) (by intro _ h; cases h) rplA (by simp) ?_)
 refine hwF7 ?_
 exact HX.ret1 rfl rfl fun w' hM => ⟨rfl, hM⟩
theorem rdText_fn {w0 w : World} {H : List Atom} {br p q : Nat} {s r : ByteArray} (hp : p ≤ s.size) (hs : s.size ≤ 5000000) (hd : strV (decS s.data.toList p) = .tuple #[.string r, zv (q : Int), zv 0]) (hM : Mm w0 (A.blk br [.string s, zv (p : Int)] 169 :: H) w) :
  Fn Tryz.prog 101 #[.pointer (some ⟨br, 0, none⟩)] w fun u w' => u = .string r ∧ Mm w0 (A.blk br [.string s, zv (q : Int)] 169 :: H) w' := by
 refine enterK (l := [_]) hM rfl Tryz.ntmps101 rfl ?_
 refine hwF7 ?_
 refine HC.anyC ([(⟨br, 0, none⟩, .string s), (⟨br, 1, none⟩, zv (p : Int))]) rfl ?_
 refine HB.pa 0 rfl ?_
 refine HB.pa 1 rfl ?_ (POp.nilCheck rfl)
 refine HB.pa 2 rfl ?_
 refine HB.ld 3 rfl rfl memD ?_
 refine HB.pa 4 rfl ?_
 refine HB.pa 5 rfl ?_ (POp.nilCheck rfl)
 refine HB.pa 6 rfl ?_
 refine HB.ld 7 rfl rfl memD ?_
 refine HB.all keepA [8] (by kernel_rfl) rfl ⟨⟨_, rfl, ?_⟩, trivial⟩
 refine HP.one ?_
 refine H1.call0 (u := .tuple #[.string r, zv (q : Int), zv 0]) (vs := [_, _]) rfl rfl (fun w' _ => (string_fn s p hp hs w').mono fun u w'' h => ⟨h.1.trans hd, h.2⟩) ?_
 apply HB.fold
 refine HB.pa 9 rfl ?_
 refine HB.pa 10 rfl ?_
 refine HB.pa 11 rfl ?_
 refine HB.pa 12 rfl ?_
 refine HB.pa 13 rfl ?_
 refine HB.pa 14 rfl ?_
 refine HB.pa 15 rfl ?_
 refine HB.done keepA (by kernel_rfl) ?_
 refine hwF7 ?_
 refine HL.one (H1.callx (vs := [_]) rfl rfl (fun w' _ => amust_yes w') ?_)
 refine hwF7 ?_
 refine HL.one (H1.st rfl rfl (by intro _ h; cases h) (by intro _ h; cases h) rplA (by simp) ?_)
 refine hwF7 ?_
 exact HX.ret1 rfl rfl fun w' hM => ⟨rfl, hM⟩
theorem ln_one {r : ByteArray} : ∀ v ∈ [Value.string r, .slice none 0 0], v.oneCell' = true := by
 intro v hv
 simp only [List.mem_cons, List.not_mem_nil, or_false] at hv
 rcases hv with rfl | rfl <;> rfl
set_option maxHeartbeats 1000000 in
theorem rdLine1_fn {w0 w : World} {H : List Atom} {br p q : Nat} {s r : ByteArray} (vz : Value) (hp : p ≤ s.size) (hs : s.size ≤ 5000000) (hd : strV (decS s.data.toList p) = .tuple #[.string r, zv (q : Int), zv 0]) (hl : r.size ≤ 80) (hc : Lib.idxFunc notLine true r = -1) (hM : Mm w0 (A.blk br [.string s, zv (p : Int)] 169 :: H) w) :
  Fn Tryz.prog 103 #[.pointer (some ⟨br, 0, none⟩), zv 1, vz] w fun u w' => u = .agg #[.string r, .slice none 0 0] ∧ Mm w0 (A.blk br [.string s, zv (q : Int)] 169 :: H) w' := by
 have hl' : ((r.size : Nat) : Int) ≤ 80 := by omega
 refine enterK (l := [_, _, _]) hM rfl Tryz.ntmps103 rfl ?_
 refine hwF7 ?_
 refine HL.one (H1.alloc (cs := [.string ⟨#[]⟩, .slice none 0 0]) rfl rfl (fun b6 => ?_))
 refine hwF7 ?_
 refine HL.one (H1.alloc (cs := [.string ⟨#[]⟩, .slice none 0 0]) rfl rfl (fun b7 => ?_))
 refine hwF7 ?_
 refine HL.one (H1.callk (α := Unit) (V := fun _ => .string r) (I := fun _ => True) (H' := fun _ => A.blk br [.string s, zv (q : Int)] 169 :: A.blk b7 [.string ⟨#[]⟩, .slice none 0 0] 172 :: A.blk b6 [.string ⟨#[]⟩, .slice none 0 0] 172 :: H) (vs := [.pointer (some ⟨br, 0, none⟩)]) rfl rfl (fun w' hM => (rdText_fn hp hs hd (hM.sub (Hs.cons (Pick.there (Pick.there Pick.here)) (Hs.cons Pick.here (Hs.cons Pick.here (Hs.refl _)))))).mono fun u w'' h => ⟨(), trivial, h.1, h.2⟩) ?_)
 rintro - -
 refine hwF7 ?_
 refine HL.one (H1.st rfl rfl (by intro _ h; cases h) (by intro _ h; cases h) rplA (by simp) ?_)
 refine hwF7 ?_
 refine HL.one (H1.callx (vs := [_, _]) rfl rfl (fun w' _ => rLine_fn r hc w') ?_)
 refine hwF7 ?_
 refine HL.one (H1.callx (vs := [_]) rfl rfl (fun w' _ => amust_yes w') ?_)
 refine hwF7 ?_
 refine HL.one (H1.ldAgg (b := b7) (vs := [.string r, .slice none 0 0]) rfl memA rfl (fun i v hv => by show ([Value.string r, .slice none 0 0] : List Value)[0 + i]? = some v; rw [Nat.zero_add]; exact hv) rfl ?_)
 refine hwF7 ?_
 refine HL.one (H1.stAgg (b := b6) (cs := [.string ⟨#[]⟩, .slice none 0 0]) (vs := [.string r, .slice none 0 0]) rfl rfl rfl ln_one rplA rfl ?_)
 refine hwF7 ?_
 exact HX.retc1 (b := b6) (cs := [.string r, .slice none 0 0]) rfl rfl memA rfl fun w' hM => ⟨rfl, hM.sub (Hs.cons Pick.here ((Hs.refl _).skip.skip))⟩
def xpB : ByteArray := ⟨#[2, 4, 65, 98]⟩
theorem xpB_int : decI xpB.data.toList 0 = some (2, 1) := (decI_putN (s := xpB.data.toList) (p := 0) (n := 1) (rest := [4, 65, 98]) (by decide) (by decide +kernel)).trans (by decide +kernel)
theorem xpB_int1 : decI xpB.data.toList 1 = some (4, 2) := (decI_putN (s := xpB.data.toList) (p := 1) (n := 2) (rest := [65, 98]) (by decide) (by decide +kernel)).trans (by decide +kernel)
theorem xpB_str : decS xpB.data.toList 1 = some ([65, 98], 4) := by
 unfold decS
 rw [xpB_int1]
 decide +kernel
theorem xpAb_line : Lib.idxFunc notLine true xpAb = -1 := by decide +kernel
def avZ : List Value := [.bool false, .slice none 0 0, zv 0, zv 0, .string ⟨#[]⟩]
def vL (k : Nat) (a : Option Addr) (c : Nat) : List Value := [.bool false, .slice a k c, zv 0, zv 0, .string ⟨#[]⟩]
theorem vL_one {k : Nat} {a : Option Addr} {c : Nat} : ∀ v ∈ vL k a c, v.oneCell' = true := by
 intro v hv
 simp only [vL, List.mem_cons, List.not_mem_nil, or_false] at hv
 rcases hv with rfl | rfl | rfl | rfl | rfl <;> rfl
def lnX (k : Nat) : List Value := if k = 0 then [] else [.string xpAb, .slice none 0 0]
def atX (k : Nat) : Int := if k = 0 then 1 else 4
set_option maxHeartbeats 2000000 in
theorem aread_fn (w : World) : Fn Tryz.prog 48 #[zv 1, .string xpB] w fun u w' => ∃ z : Nat × Nat, True ∧ u = .agg (vL 1 (some ⟨z.1, 0, none⟩) z.2).toArray ∧ Mm w [A.grow 172 2 (some ⟨z.1, 0, none⟩) z.2 1 [.string xpAb, .slice none 0 0]] w' := by
 have hs : xpB.size ≤ 5000000 := by decide
 have hne : ¬ xpB = ⟨#[]⟩ := by decide +kernel
 refine enterH (l := [_, _]) rfl Tryz.ntmps48 rfl ?_
 refine hwF7 ?_
 refine HL.one (H1.alloc (cs := avZ) rfl rfl (fun b4 => ?_))
 refine hwF7 ?_
 refine HL.one (H1.callx (vs := [_, _, _]) rfl rfl (fun w' _ => awithin_yes (by decide) (by decide) w') ?_)
 refine hwF7 ?_
 refine HL.one (H1.callx (vs := [_]) rfl rfl (fun w' _ => amust_yes w') ?_)
 refine hwF7 ?_
 refine HL.one (H1.alloc (cs := vL 0 none 0) rfl rfl (fun b5 => ?_))
 refine hwF7 ?_
 refine HL.build (cs := [.string xpB, zv 0]) rfl rfl rfl ?_
 refine hwF7 ?_
 refine HL.one (H1.boxAgg (cs := [.string xpB, zv 0]) rfl rfl (fun br => ?_))
 refine hwF7 ?_
 refine HL.one (H1.callk (α := Unit) (V := fun _ => zv 1) (I := fun _ => True) (H' := fun _ => A.blk br [.string xpB, zv 1] 169 :: A.blk b5 (vL 0 none 0) 116 :: A.blk b4 avZ 116 :: []) (vs := [.pointer (some ⟨br, 0, none⟩), zv 0, zv 64]) rfl rfl (fun w' hM => (rdNumber_fn (p := 0) (q := 1) (by decide) hs (by rw [xpB_int]; rfl) (by decide) (by decide) hM).mono fun u w'' h => ⟨(), trivial, h.1, h.2⟩) ?_)
 rintro - -
 refine hwF7 ?_
 refine HC.grow0 172 2 ?_
 refine HC.loop (α := Nat × Option Addr × Nat) (fun z => [(0, zv 1), (1, .string xpB), (4, .pointer (some ⟨b4, 0, none⟩)), (5, .pointer (some ⟨b5, 0, none⟩)), (6, .pointer (some ⟨br, 0, none⟩)), (14, zv 1), (15, zv (z.1 : Int))])
  (fun z => [A.grow 172 2 z.2.1 z.2.2 z.1 (lnX z.1), A.blk br [.string xpB, zv (atX z.1)] 169, A.blk b5 (vL z.1 z.2.1 z.2.2) 116, A.blk b4 avZ 116]) (fun z => z.1 ≤ 1 ∧ (z.1 = 1 → ∃ b, z.2.1 = some ⟨b, 0, none⟩)) (fun z => 1 - z.1) (0, none, 0) ⟨Nat.zero_le _, fun h => (by cases h)⟩ esA (by repeat (first | exact Hs.nil _ | (refine Hs.cons pickA ?_))) ?_
 rintro ⟨k, a, c⟩ ⟨hk, hka⟩
 dsimp only at hk hka ⊢
 by_cases h0 : k = 0
 ·subst h0
  unfold vL
  refine hwF7 ?_
  refine HC.anyU ([(10, ⟨b5, 1, none⟩, .slice a 0 c)]) rfl ?_
  refine HU.pa 0 rfl ?_
  refine HU.ld 1 rfl rfl memD ?_
  refine HU.pa 2 rfl ?_
  refine HU.pa 3 rfl ?_
  refine HU.pa 4 rfl ?_
  refine HU.ld 5 rfl rfl memD ?_
  refine HU.all (kU KeepU.nil) [6] (by kernel_rfl) rfl ⟨⟨_, rfl, ?_⟩, trivial⟩
  refine HV.one ?_
  refine H1.callk (α := Unit) (V := fun _ => .agg #[.string xpAb, .slice none 0 0]) (I := fun _ => True) (H' := fun _ => A.blk br [.string xpB, zv 4] 169 :: A.grow 172 2 a c 0 (lnX 0) :: A.blk b5 [.bool false, .slice a 0 c, zv 0, zv 0, .string ⟨#[]⟩] 116 :: A.blk b4 avZ 116 :: []) (vs := [.pointer (some ⟨br, 0, none⟩), zv 1, .slice a 0 c]) rfl rfl (fun w' hM => (rdLine1_fn (p := 1) (q := 4) (r := xpAb) _ (by decide) hs (by rw [xpB_str]; rfl) (by decide) xpAb_line (hM.sub (Hs.cons (Pick.there Pick.here) (Hs.cons Pick.here (Hs.cons Pick.here (Hs.cons Pick.here (Hs.refl _))))))).mono fun u w'' h => ⟨(), trivial, h.1, h.2⟩) ?_
  rintro - -
  apply HU.fold
  refine HU.all (kU KeepU.nil) [7] (by kernel_rfl) rfl ⟨⟨_, rfl, ?_⟩, trivial⟩
  refine HV.one ?_
  refine H1.lit (cs := [.string xpAb, .slice none 0 0]) rfl rfl rfl rfl rfl rfl (fun b8 => ?_)
  apply HU.fold
  refine HU.all (kU KeepU.nil) [8] (by kernel_rfl) rfl ⟨⟨_, rfl, ?_⟩, trivial⟩
  refine HV.one ?_
  refine H1.app (sz := 2) (m := 1) (news := [.string xpAb, .slice none 0 0]) rfl (by decide) rfl rfl (fun _ _ => by first | ((repeat (first | with_reducible exact Rpl.here | with_reducible apply Rpl.there)); done) | (repeat (first | exact Rpl.here | apply Rpl.there))) rfl (fun w' hM j u hj => by rw [add_lit, Nat.zero_add]; exact (hM.blk (b := b8) memA).cell hj) ln_one (by decide) (by decide) rfl (fun a2 c2 ha2 => ?_)
  apply HU.fold
  refine HU.pa 9 rfl ?_
  refine HU.all (kU KeepU.nil) [10] (by kernel_rfl) rfl ⟨⟨_, rfl, ?_⟩, trivial⟩
  refine HV.one ?_
  refine H1.st rfl rfl (by intro _ h; cases h) (by intro _ h; cases h) rplA (by simp) ?_
  apply HU.fold
  refine HU.done (KeepU.skip (by kernel_rfl) KeepU.nil) (by kernel_rfl) ?_
  refine hwF7 ?_
  exact HX.again (1, a2, c2) ⟨Nat.le_refl _, fun _ => ha2.resolve_left (by decide)⟩ (by show 1 - 1 < 1 - 0; decide) esA (by repeat (first | exact Hs.nil _ | (refine Hs.cons pickA ?_)))
 ·obtain rfl : k = 1 := by omega
  obtain ⟨bz, rfl⟩ := hka rfl
  unfold vL
  refine hwF7 ?_
  refine HL.one (H1.callx (vs := [_]) rfl rfl (fun w' _ => amust_yes w') ?_)
  refine hwF7 ?_
  refine HL.one (H1.ldAgg (b := b5) (vs := vL 1 (some ⟨bz, 0, none⟩) c) rfl memA rfl (fun i v hv => by rw [Nat.zero_add]; exact hv) rfl ?_)
  refine hwF7 ?_
  refine HL.one (H1.stAgg (b := b4) (cs := avZ) (vs := vL 1 (some ⟨bz, 0, none⟩) c) rfl rfl rfl vL_one rplA rfl ?_)
  refine hwF7 ?_
  exact HX.retc1 (b := b4) (cs := vL 1 (some ⟨bz, 0, none⟩) c) rfl rfl memA rfl fun w' hM => ⟨(bz, c), trivial, rfl, hM.sub (by repeat (first | exact Hs.nil _ | (refine Hs.cons pickA ?_)))⟩
end Go.Sx
/- abstraction.Apply at the fixed example: the walks. -/
namespace Go.Sx
open Go Go.Proofs Go.RowKit
def xpab : ByteArray := ⟨#[97, 98]⟩
theorem lower_fn (w : World) : Fn Tryz.prog 174 #[.string xpAb] w fun u w' => u = .string xpab ∧ Ext w w' := by
 refine Calls.mono (Tryz.strings_ToLower_ascii xpAb w (by decide) (fun j b h => ?_)) ?_
 ·have hm := List.mem_of_getElem? h
  have ha : ∀ b ∈ xpAb.data.toList, b.toNat < 128 := by decide +kernel
  exact ha b hm
 ·rintro e w' ⟨h1, h2⟩
  have e1 : (⟨(Lib.toLowerA xpAb.data.toList).toArray⟩ : ByteArray) = xpab := by decide +kernel
  rw [e1] at h1
  exact ⟨_, h1, rfl, h2⟩
def lnS (s : ByteArray) : List Value := [.string s, .slice none 0 0]
abbrev bufH (b : Nat) (a : Option Addr) (c : Nat) (ys : List UInt8) (H : List Atom) : List Atom := A.blk b [.slice a ys.length c] 104 :: A.grow 5 1 a c ys.length (ub ys) :: H
theorem RdK.of_grow {w0 w : World} {H : List Atom} {b c sz : Nat} {e : TypeId} {xs : List Value} (hM : Mm w0 H w) (hm : A.grow e sz (some ⟨b, 0, none⟩) c 1 xs ∈ H) : RdK w (.slice (some ⟨b, 0, none⟩) 1 c) 1 sz fun _ => xs := by
 have ho := hM.own hm
 have hc : 1 ≤ c := by
  rcases ho.2 with ⟨-, h0⟩ | ⟨g, cap, cur, hv, h1, h2, h3, h4, h5, h6, h7⟩
  ·cases h0
  ·cases hv; omega
 refine ⟨_, _, rfl, hc, .inr ⟨b, 0, rfl, fun i hi j u hu => ?_⟩⟩
 obtain rfl : i = 0 := by omega
 rw [Nat.zero_mul, Nat.zero_add]
 exact ownsRow_cell ho hu
attribute [local irreducible] WC WL WX POp Then Again Fn NX W1 WA WO QL RP RA Yld LoopAt HC HL HX HN H1 HA HO HQ HB HP A.blk A.grow A.rd A.obj A.mp AgainH CutH
attribute [local irreducible] A.mq A.mit
theorem fold_fn {w0 w : World} {H : List Atom} {bz c : Nat} (hM : Mm w0 (A.grow 172 2 (some ⟨bz, 0, none⟩) c 1 (lnS xpAb) :: H) w) :
  Fn Tryz.prog 106 #[.pointer (some ⟨bz, 0, none⟩), zv 0] w fun u w' => u = .tuple #[] ∧ Mm w0 (A.grow 172 2 (some ⟨bz, 0, none⟩) c 1 (lnS xpab) :: H) w' := by
 refine enterK (l := [_, _]) hM rfl Tryz.ntmps106 rfl ?_
 refine hwNB ?_
 refine HL.one (H1.ldg (b := bz) (c := c) (n := 1) (vs := lnS xpAb) (v := .string xpAb) rfl memA rfl rfl ?_)
 refine hwNB ?_
 refine HL.one (H1.callx (vs := [_]) rfl rfl (fun w' _ => lower_fn w') ?_)
 refine hwNB ?_
 refine HL.one (H1.stg (b := bz) (i := 0) (c := c) (n := 1) (xs := lnS xpAb) rfl rfl (by intro _ h; cases h) (by intro _ h; cases h) rplA (by exact Nat.zero_lt_succ 1) ?_)
 refine hwNB ?_
 exact HX.end0 rfl fun w' hM => ⟨rfl, hM⟩
def xqN (k : Nat) : ByteArray := if k = 0 then xpAb else xpab
theorem each1_fn {w0 w : World} {H : List Atom} {b8 bx bz c : Nat} (hM : Mm w0 (A.grow 172 2 (some ⟨bz, 0, none⟩) c 1 (lnS xpAb) :: A.blk b8 (vL 1 (some ⟨bz, 0, none⟩) c) 116 :: A.blk bx [.func (.func 106) #[] #[]] 175 :: H) w) :
  Fn Tryz.prog 173 #[.pointer (some ⟨b8, 0, none⟩), zv 0, .pointer (some ⟨bx, 0, none⟩)] w fun u w' => u = .tuple #[] ∧ Mm w0 (A.grow 172 2 (some ⟨bz, 0, none⟩) c 1 (lnS xpab) :: A.blk b8 (vL 1 (some ⟨bz, 0, none⟩) c) 116 :: A.blk bx [.func (.func 106) #[] #[]] 175 :: H) w' := by
 refine enterK (l := [_, _, _]) hM rfl Tryz.ntmps173 rfl ?_
 unfold vL
 refine hwNB ?_
 refine HC.loop (α := Nat) (fun k => [(0, .pointer (some ⟨b8, 0, none⟩)), (1, zv 0), (2, .pointer (some ⟨bx, 0, none⟩)), (10, zv 1), (11, zv (k : Int))]) (fun k => A.grow 172 2 (some ⟨bz, 0, none⟩) c 1 (lnS (xqN k)) :: A.blk b8 [.bool false, .slice (some ⟨bz, 0, none⟩) 1 c, zv 0, zv 0, .string ⟨#[]⟩] 116 :: A.blk bx [.func (.func 106) #[] #[]] 175 :: H) (fun k => k ≤ 1) (fun k => 1 - k) 0 (Nat.zero_le _) esA (Hs.refl _) ?_
 intro k hk
 by_cases h0 : k = 0
 ·subst h0
  refine hwNB ?_
  refine HC.anyC ([(⟨bx, 0, none⟩, .func (.func 106) #[] #[]), (⟨b8, 1, none⟩, .slice (some ⟨bz, 0, none⟩) 1 c)]) rfl ?_
  refine HB.ld 0 rfl rfl memD ?_
  refine HB.pa 1 rfl ?_
  refine HB.pa 2 rfl ?_ (POp.nilCheck rfl)
  refine HB.pa 3 rfl ?_
  refine HB.ld 4 rfl rfl memD ?_
  refine HB.pa 5 rfl ?_
  refine HB.pa 6 rfl ?_
  refine HB.pa 7 rfl ?_
  refine HB.all keepA [8] (by kernel_rfl) rfl ⟨⟨_, rfl, ?_⟩, trivial⟩
  refine HP.one ?_
  refine H1.callvk (α := Unit) (V := fun _ => .tuple #[]) (I := fun _ => True) (H' := fun _ => A.grow 172 2 (some ⟨bz, 0, none⟩) c 1 (lnS xpab) :: A.blk b8 [.bool false, .slice (some ⟨bz, 0, none⟩) 1 c, zv 0, zv 0, .string ⟨#[]⟩] 116 :: A.blk bx [.func (.func 106) #[] #[]] 175 :: H) (cap := []) (vs := [.pointer (some ⟨bz, 0, none⟩), zv 0]) rfl rfl rfl (fun w' hM => (fold_fn hM).mono fun u w'' h => ⟨(), trivial, h.1, h.2⟩) ?_
  rintro - -
  apply HB.fold
  refine HB.done keepA (by kernel_rfl) ?_
  refine hwNB ?_
  exact HX.again 1 (Nat.le_refl _) (by show 1 - 1 < 1 - 0; decide) esA (Hs.refl _)
 ·obtain rfl : k = 1 := by omega
  refine hwNB ?_
  exact HX.end0 rfl fun w' hM => ⟨rfl, hM⟩
theorem w1one_fn {w0 w : World} {H : List Atom} {b bl c : Nat} {a : Option Addr} {ys : List UInt8} (n : Nat) (hn : n ≤ 1099511627776) (hM : Mm w0 (bufH b a c ys (A.blk bl [zv (n : Int)] 3 :: H)) w) (hlen : ys.length ≤ 900000) :
  Fn Tryz.prog 114 #[.slice (some ⟨bl, 0, none⟩) 1 1, .pointer (some ⟨b, 0, none⟩)] w fun v w' => ∃ q : Option Addr × Nat, True ∧ v = .tuple #[] ∧ Mm w0 (bufH b q.1 q.2 (ys ++ (strN n).data.toList) H) w' := by
 have hsz := strN_size (n := n) (by omega)
 refine enterK (l := [_, _]) hM rfl Tryz.ntmps114 rfl ?_
 refine hwNB ?_
 refine HC.loop (α := Nat × Option Addr × Nat) (fun z => [(1, .pointer (some ⟨b, 0, none⟩)), (7, .slice (some ⟨bl, 0, none⟩) 1 1), (8, zv 1), (9, zv (z.1 : Int))])
  (fun z => bufH b z.2.1 z.2.2 (if z.1 = 0 then ys else ys ++ (strN n).data.toList) (A.blk bl [zv (n : Int)] 3 :: H)) (fun z => z.1 ≤ 1) (fun z => 1 - z.1) (0, a, c) (Nat.zero_le _) esA (Hs.refl _) ?_
 rintro ⟨j, a', c'⟩ hj
 dsimp only at hj ⊢
 by_cases h0 : j = 0
 ·subst h0
  rw [if_pos rfl]
  refine hwNB ?_
  refine HL.one (H1.callx (vs := [zv (n : Int)]) rfl rfl (fun w' _ => putInt_fn n (by omega) w') ?_)
  refine hwNB ?_
  refine HL.one (H1.appS rfl rfl (fun _ _ => by first | ((repeat (first | with_reducible exact Rpl.here | with_reducible apply Rpl.there)); done) | (repeat (first | exact Rpl.here | apply Rpl.there))) (by omega) rfl (fun a2 c2 => ?_))
  refine hwNB ?_
  refine HL.one (H1.st rfl rfl (by intro _ h; cases h) (by intro _ h; cases h) rplA (by simp) ?_)
  refine hwNB ?_
  exact HX.again (1, a2, c2) (Nat.le_refl _) (by show 1 - 1 < 1 - 0; decide) esA (Hs.refl _)
 ·obtain rfl : j = 1 := by omega
  rw [if_neg (by decide)]
  refine hwNB ?_
  exact HX.end0 rfl fun w' hM => ⟨(a', c'), trivial, rfl, hM.sub (Hs.cons Pick.here (Hs.cons Pick.here (Hs.refl _).skip))⟩
theorem w1nil_fn (b : Nat) (w : World) : Fn Tryz.prog 114 #[.slice none 0 0, .pointer (some ⟨b, 0, none⟩)] w fun v w' => v = .tuple #[] ∧ Ext w w' := by
 refine enterH (l := [_, _]) rfl Tryz.ntmps114 rfl ?_
 refine hwNB ?_
 refine HC.loop (α := Unit) (fun _ => [(8, zv 0), (9, zv 0)]) (fun _ => []) (fun _ => True) (fun _ => 0) () trivial esA (by repeat (first | exact Hs.nil _ | (refine Hs.cons pickA ?_))) ?_
 rintro - -
 refine hwNB ?_
 exact HX.end0 rfl fun w' hM => ⟨rfl, hM.ext⟩
theorem w2_fn {w0 w : World} {H : List Atom} {b c : Nat} {a : Option Addr} {ys : List UInt8} (s : ByteArray) (hs : s.size ≤ 1000) (hM : Mm w0 (bufH b a c ys H) w) (hlen : ys.length ≤ 900000) :
  Fn Tryz.prog 116 #[.string s, .pointer (some ⟨b, 0, none⟩)] w fun v w' => ∃ q : Option Addr × Nat, True ∧ v = .tuple #[] ∧ Mm w0 (bufH b q.1 q.2 (ys ++ (strN s.size ++ s).data.toList) H) w' := by
 have hsz := strN_size (n := s.size) (by omega)
 have hsz2 : (strN s.size ++ s).size = (strN s.size).size + s.size := ByteArray.size_append
 refine enterK (l := [_, _]) hM rfl Tryz.ntmps116 rfl ?_
 refine hwNB ?_
 refine HL.one (H1.callx (vs := [.string s]) rfl rfl (fun w' _ => putString_fn s (by omega) w') ?_)
 refine hwNB ?_
 refine HL.one (H1.appS rfl rfl (fun _ _ => by first | ((repeat (first | with_reducible exact Rpl.here | with_reducible apply Rpl.there)); done) | (repeat (first | exact Rpl.here | apply Rpl.there))) (by omega) rfl (fun a2 c2 => ?_))
 refine hwNB ?_
 refine HL.one (H1.st rfl rfl (by intro _ h; cases h) (by intro _ h; cases h) rplA (by simp) ?_)
 refine hwNB ?_
 exact HX.end0 rfl fun w' hM => ⟨(a2, c2), trivial, rfl, hM⟩
def xqS1 : List UInt8 := [] ++ (strN 1).data.toList
def xqS2 : List UInt8 := xqS1 ++ (strN xpab.size ++ xpab).data.toList
def xpb : ByteArray := ⟨#[2, 4, 97, 98]⟩
theorem xqS2_eq : (⟨xqS2.toArray⟩ : ByteArray) = xpb := by decide +kernel
def xqS (k : Nat) : List UInt8 := if k = 0 then xqS1 else xqS2
theorem lnS_one (s : ByteArray) : ∀ v ∈ lnS s, v.oneCell' = true := ln_one
set_option maxHeartbeats 2000000 in
theorem awrite_fn (v : Value) (w : World) (hR : RdK w v 1 2 fun _ => lnS xpab) : Fn Tryz.prog 50 #[.agg #[.bool false, v, zv 0, zv 0, .string ⟨#[]⟩], zv 1] w fun u w' => u = .string xpb ∧ Ext w w' := by
 obtain ⟨al, cl, rfl, -, -⟩ := id hR
 obtain ⟨bl0, offl, rfl, hb⟩ := hR.cell (show 0 < 1 by decide)
 have hx := hb 0 (by decide)
 have hl1 : xqS1.length ≤ 1000 := by decide +kernel
 have hne : xqS2.length ≠ 0 := by decide +kernel
 refine enterH (l := [_, _]) rfl Tryz.ntmps50 rfl ?_
 refine hwNB ?_
 refine HL.one (H1.boxAgg (cs := [.bool false, .slice (some ⟨bl0, offl, none⟩) 1 cl, zv 0, zv 0, .string ⟨#[]⟩]) rfl rfl (fun b2 => ?_))
 refine hwNB ?_
 refine HL.one (H1.alloc (cs := [.slice none 0 0]) rfl rfl (fun b5 => ?_))
 refine hwNB ?_
 refine HL.one (H1.lit (cs := [zv 1]) rfl rfl rfl rfl rfl rfl (fun b8 => ?_))
 refine hwNB ?_
 refine HL.one (H1.callvk (α := Option Addr × Nat) (V := fun _ => .tuple #[]) (I := fun _ => True) (H' := fun q => bufH b5 q.1 q.2 xqS1 [A.blk b2 [.bool false, .slice (some ⟨bl0, offl, none⟩) 1 cl, zv 0, zv 0, .string ⟨#[]⟩] 116]) (cap := [.pointer (some ⟨b5, 0, none⟩)]) (vs := [.slice (some ⟨b8, 0, none⟩) 1 1]) rfl rfl rfl
  (fun w' hM => w1one_fn (a := none) (c := 0) (ys := []) 1 (by decide) ((hM.grow0 5 1).sub (by repeat (first | exact Hs.nil _ | (refine Hs.cons pickA ?_)))) (by decide)) ?_)
 rintro ⟨a1, c1⟩ -
 dsimp only
 refine hwNB ?_
 refine HC.loop (α := Nat × Option Addr × Nat) (fun z => [(1, zv 1), (5, .pointer (some ⟨b5, 0, none⟩)), (6, .func (.func 114) #[] #[.pointer (some ⟨b5, 0, none⟩)]), (7, .func (.func 116) #[] #[.pointer (some ⟨b5, 0, none⟩)]), (19, .slice (some ⟨bl0, offl, none⟩) 1 cl), (20, zv 1), (21, zv (z.1 : Int))])
  (fun z => bufH b5 z.2.1 z.2.2 (xqS z.1) []) (fun z => z.1 ≤ 1) (fun z => 1 - z.1) (0, a1, c1) (Nat.zero_le _) esA (Hs.cons Pick.here (Hs.cons Pick.here (Hs.refl _).skip)) ?_
 rintro ⟨j, a', c'⟩ hj
 dsimp only at hj ⊢
 by_cases h0 : j = 0
 ·subst h0
  refine hwNB ?_
  refine HL.one (H1.ldAggw (b := bl0) (off := offl + 0 * 2) (vs := lnS xpab) rfl rfl (fun w' hM i u hu => cell_ext hM.ext (hx i u hu)) rfl ?_)
  refine hwNB ?_
  refine HL.one (H1.alloc (cs := [.string ⟨#[]⟩, .slice none 0 0]) rfl rfl (fun b9 => ?_))
  refine hwNB ?_
  refine HL.one (H1.stAgg (b := b9) (cs := [.string ⟨#[]⟩, .slice none 0 0]) (vs := lnS xpab) rfl rfl rfl (lnS_one _) rplA rfl ?_)
  unfold lnS
  refine hwNB ?_
  refine HL.one (H1.callvk (α := Option Addr × Nat) (V := fun _ => .tuple #[]) (I := fun _ => True) (H' := fun q => bufH b5 q.1 q.2 xqS2 [A.blk b9 [.string xpab, .slice none 0 0] 172]) (cap := [.pointer (some ⟨b5, 0, none⟩)]) (vs := [.string xpab]) rfl rfl rfl
   (fun w' hM => w2_fn (ys := xqS1) xpab (by decide) (hM.sub (Hs.cons (Pick.there Pick.here) (Hs.cons (Pick.there Pick.here) (Hs.cons Pick.here (Hs.refl _))))) (by omega)) ?_)
  rintro ⟨a3, c3⟩ -
  dsimp only
  refine hwNB ?_
  refine HL.one (H1.callv0 (u := .tuple #[]) (cap := [.pointer (some ⟨b5, 0, none⟩)]) (vs := [_]) rfl rfl rfl (fun w' _ => w1nil_fn b5 w') ?_)
  refine hwNB ?_
  exact HX.again (1, a3, c3) (Nat.le_refl _) (by show 1 - 1 < 1 - 0; decide) esA (Hs.cons Pick.here (Hs.cons Pick.here (Hs.refl _).skip))
 ·obtain rfl : j = 1 := by omega
  show HC _ _ _ _ _ _ _ _ (bufH b5 a' c' xqS2 [])
  refine HC.openg (e := 5) (a := a') (xs := ub xqS2) (.tail _ (.head _)) hne ?_
  rintro g rfl
  refine hwNB ?_
  refine HL.one (H1.bstrg (b := g) (c := c') (ys := xqS2) rfl (.tail _ (.head _)) rfl ?_)
  rw [xqS2_eq]
  refine hwNB ?_
  exact HX.ret1 rfl rfl fun w' hM => ⟨rfl, hM.ext⟩
end Go.Sx
/- abstraction.Apply, and awake: the walks. -/
namespace Go.Sx
open Go Go.Proofs Go.RowKit
theorem hwF9 {G G2 : Prop} (x : G2) (hwq : Hold G2 → G := by
  intro hQq
  repeat' (first | refine HL.pa ?_ (POp.seqY rfl rfl rfl) | refine HL.pa ?_ (POp.nilCheck rfl) | apply HL.fold | apply HA.fold | apply HL.nil | apply HX.n_then | apply HC.seq | apply HC.region | refine HL.pa ?_ | refine HL.ga rfl ?_ | refine HL.na rfl ?_ | refine HL.nu rfl rfl ?_ | apply HC.block | apply HC.skip | apply HC.exit | apply HC.ret | apply HX.e_block | refine HX.e_other rfl ?_ | apply HX.e_then | apply HX.e_again | apply HX.n_block | apply HX.r_then | apply HX.r_block | apply HX.r_again | refine HC.cond_yes rfl ?_ | refine HC.cond_no rfl ?_ | refine HL.one (H1.ldb rfl memA rfl rfl ?_) | refine HC.cond rfl (fun hc => ?_) (fun hc => ?_) | refine HC.cond_b rfl (fun hc => ?_) (fun hc => ?_))
  exact hQq.get) : G := hwq ⟨x⟩
theorem POp.seqY {P : Program} {N : Nat} {ds : List Deferred} {E : Env} {x y : Operand} {t t' ty : TypeId} {s u : ByteArray} [UTy P t .string] (hx : Env.ev E x = some (.string s)) (hy : Env.ev E y = some (.string u)) (h : s = u) : POp P N ds E (.binOp .eql t x y t') ty (.bool true) := by
 rw [← decide_eq_true h]
 exact POp.seql hx hy
def NPost (Q : Post) : Post := fun e a w => match e with
 | .panic _ => False
 | e => Q e a w
instance {Q : Post} : QPanic (NPost Q) := ⟨fun _ _ _ _ _ h => h⟩
section
variable {P : Program} {r : Option Nat} {N : Nat} {ds : List Deferred} {Q : Post} {E : Env} {w0 : World} {H : List Atom} {c : Code}
theorem HC.np (h : HC P r N ds c (NPost Q) E w0 H) : HC P r N ds c Q E w0 H := fun w hM a ha => wpIn_mono (h w hM a ha) fun e a w h => by
 cases e <;> first | exact h | exact h.elim
theorem HX.np_r (h : HX N ds .ret Q E w0 H) : HX N ds .ret (NPost Q) E w0 H := h
end
attribute [local irreducible] WC WL WX POp Then Again Fn NX W1 WA WO QL RP RA Yld LoopAt HC HL HX HN H1 HA HO HQ HB HP A.blk A.grow A.rd A.obj A.mp AgainH CutH
attribute [local irreducible] A.mq A.mit NPost
set_option maxHeartbeats 4000000 in
theorem apply_fn (v : Value) (w : World) (hR : RdK w v 1 2 fun _ => [zv 1, zv 0]) : Fn Tryz.prog 13 #[zv 1, v, .string xpB] w fun u w' => u = .tuple #[.string xpb, zv 0] ∧ Ext w w' := by
 obtain ⟨av, cv, rfl, -, -⟩ := id hR
 obtain ⟨bs, offs, rfl, hb⟩ := hR.cell (show 0 < 1 by decide)
 have hx := hb 0 (by decide)
 unfold Fn
 refine enterD (l := [_, _, _]) (Mm.refl w) rfl Tryz.ntmps13 rfl ?_
 refine HC.np ?_
 refine hwF9 ?_
 refine HL.one (H1.alloc (cs := [.string ⟨#[]⟩]) rfl rfl (fun b6 => ?_))
 refine hwF9 ?_
 refine HL.one (H1.alloc (cs := [zv 0]) rfl rfl (fun b7 => ?_))
 refine hwF9 ?_
 refine HL.deferA (vs := [.pointer (some ⟨b6, 0, none⟩), .pointer (some ⟨b7, 0, none⟩)]) rfl ?_
 refine hwF9 ?_
 refine HL.one (H1.callx (vs := [_, _]) rfl rfl (fun w' hM => avalid_fn _ w' (hR.ext hM.ext)) ?_)
 refine hwF9 ?_
 refine HL.one (H1.callx (vs := [_]) rfl rfl (fun w' _ => amust_yes w') ?_)
 refine hwF9 ?_
 refine HL.one (H1.callz (vs := [_, _]) rfl rfl (fun w' _ => aread_fn w') ?_)
 rintro ⟨bz, cz⟩ -
 dsimp only
 refine hwF9 ?_
 refine HL.one (H1.alloc (cs := avZ) rfl rfl (fun b8 => ?_))
 refine hwF9 ?_
 refine HL.one (H1.stAgg (b := b8) (cs := avZ) (vs := vL 1 (some ⟨bz, 0, none⟩) cz) rfl rfl rfl vL_one rplA rfl ?_)
 refine hwF9 ?_
 refine HL.one (H1.callz (vs := []) rfl rfl (fun w' _ => kinds_fn w') ?_)
 rintro ⟨s, e, R⟩ ⟨hR1, hR2⟩
 dsimp only at hR1 hR2 ⊢
 refine hwF9 ?_
 refine HL.one (H1.alloc (cs := [.slice none 0 0, .nilFunc, .nilFunc, .slice none 0 0, .nilFunc, .nilFunc, .slice none 0 0, .nilFunc, .nilFunc, .slice none 0 0, .nilFunc, .nilFunc, .slice none 0 0, .nilFunc, .nilFunc, .slice none 0 0, .nilFunc, .nilFunc, .slice none 0 0, .nilFunc, .nilFunc]) rfl rfl (fun b9 => ?_))
 refine hwF9 ?_
 refine HL.one (H1.stAgg (b := b9) (cs := [.slice none 0 0, .nilFunc, .nilFunc, .slice none 0 0, .nilFunc, .nilFunc, .slice none 0 0, .nilFunc, .nilFunc, .slice none 0 0, .nilFunc, .nilFunc, .slice none 0 0, .nilFunc, .nilFunc, .slice none 0 0, .nilFunc, .nilFunc, .slice none 0 0, .nilFunc, .nilFunc]) (vs := kC s e R) rfl rfl (kC_len hR1) (kC_one hR2) rplA (kC_len hR1) ?_)
 refine hwF9 ?_
 refine HC.loop (α := Nat) (fun k => [(0, zv 1), (6, .pointer (some ⟨b6, 0, none⟩)), (7, .pointer (some ⟨b7, 0, none⟩)), (8, .pointer (some ⟨b8, 0, none⟩)), (9, .pointer (some ⟨b9, 0, none⟩)), (20, .slice (some ⟨bs, offs, none⟩) 1 cv), (21, zv 1), (22, zv (k : Int))])
  (fun k => A.grow 172 2 (some ⟨bz, 0, none⟩) cz 1 (lnS (xqN k)) :: A.blk b8 (vL 1 (some ⟨bz, 0, none⟩) cz) 116 :: A.blk e [.func (.func 106) #[] #[]] 175 :: A.blk b9 (kC s e R) 122 :: A.blk b7 [zv 0] 42 :: A.blk b6 [.string ⟨#[]⟩] 9 :: []) (fun k => k ≤ 1) (fun k => 1 - k) 0 (Nat.zero_le _) esA (by repeat (first | exact Hs.nil _ | (refine Hs.cons pickA ?_))) ?_
 intro k hk
 by_cases h0 : k = 0
 ·subst h0
  unfold vL
  refine hwF9 ?_
  refine HL.one (H1.ldAggw (b := bs) (off := offs + 0 * 2) (vs := [zv 1, zv 0]) rfl rfl (fun w' hM i u hu => cell_ext hM.ext (hx i u hu)) rfl ?_)
  refine hwF9 ?_
  refine HL.one (H1.alloc (cs := [zv 0, zv 0]) rfl rfl (fun b11 => ?_))
  refine hwF9 ?_
  refine HL.one (H1.stAgg (b := b11) (cs := [zv 0, zv 0]) (vs := [zv 1, zv 0]) rfl rfl rfl (by intro v hv; simp only [List.mem_cons, List.not_mem_nil, or_false] at hv; rcases hv with rfl | rfl <;> rfl) rplA rfl ?_)
  refine hwF9 ?_
  refine HC.anyC ([(⟨b11, 0, none⟩, zv 1), (⟨b11, 1, none⟩, zv 0), (⟨b9, 5, none⟩, .func (.func 173) #[] #[.pointer (some ⟨e, 0, none⟩)])]) rfl ?_
  refine HB.pa 0 rfl ?_
  refine HB.ld 1 rfl rfl memD ?_
  refine HB.pa 2 rfl ?_
  refine HB.pa 3 rfl ?_
  refine HB.ld 4 rfl rfl memD ?_
  refine HB.pa 5 rfl ?_
  refine HB.ld 6 rfl rfl memD ?_
  refine HB.all keepA [7] (by kernel_rfl) rfl ⟨⟨_, rfl, ?_⟩, trivial⟩
  refine HP.one ?_
  refine H1.callvk (α := Unit) (V := fun _ => .tuple #[]) (I := fun _ => True) (H' := fun _ => A.grow 172 2 (some ⟨bz, 0, none⟩) cz 1 (lnS xpab) :: A.blk b8 (vL 1 (some ⟨bz, 0, none⟩) cz) 116 :: A.blk e [.func (.func 106) #[] #[]] 175 :: A.blk b11 [zv 1, zv 0] 61 :: A.blk b9 (kC s e R) 122 :: A.blk b7 [zv 0] 42 :: A.blk b6 [.string ⟨#[]⟩] 9 :: []) (cap := [.pointer (some ⟨e, 0, none⟩)]) (vs := [.pointer (some ⟨b8, 0, none⟩), zv 0]) rfl rfl rfl (fun w' hM => (each1_fn (hM.sub (Hs.cons (Pick.there Pick.here) (Hs.cons (Pick.there Pick.here) (Hs.cons (Pick.there Pick.here) (Hs.cons Pick.here (Hs.refl _))))))).mono fun u w'' h => ⟨(), trivial, h.1, h.2⟩) ?_
  rintro - -
  apply HB.fold
  refine HB.done keepA (by kernel_rfl) ?_
  refine hwF9 ?_
  exact HX.again 1 (Nat.le_refl _) (by show 1 - 1 < 1 - 0; decide) esA (by repeat (first | exact Hs.nil _ | (refine Hs.cons pickA ?_)))
 ·obtain rfl : k = 1 := by omega
  unfold vL
  refine hwF9 ?_
  refine HL.one (H1.ldAgg (b := b8) (vs := vL 1 (some ⟨bz, 0, none⟩) cz) rfl memA rfl (fun i v hv => by rw [Nat.zero_add]; exact hv) rfl ?_)
  refine hwF9 ?_
  refine HL.one (H1.callx (u := .string xpb) (vs := [.agg #[.bool false, .slice (some ⟨bz, 0, none⟩) 1 cz, zv 0, zv 0, .string ⟨#[]⟩], zv 1]) rfl rfl (fun w' hM => awrite_fn _ w' (RdK.of_grow (xs := lnS xpab) hM (.head _))) ?_)
  refine hwF9 ?_
  refine HL.one (H1.st rfl rfl (by intro _ h; cases h) (by intro _ h; cases h) rplA (by exact Nat.zero_lt_one) ?_)
  refine hwF9 ?_
  refine HL.one (H1.st rfl rfl (by intro _ h; cases h) (by intro _ h; cases h) rplA (by exact Nat.zero_lt_one) ?_)
  refine hwF9 ?_
  refine HX.np_r ?_
  refine HX.doorA (u' := .returning) (R' := fun w w' => Ext w w') rfl (fun w hM => caught_no b6 b7) fun w1 w2 hM hx a ha => ?_
  have hM2 := hM.more hx
  exact ⟨.tuple #[.string xpb, zv 0], res_cellsT rfl ha rfl rfl ((hM2.blk (b := b6) (e := 9) memA).cell rfl) ((hM2.blk (b := b7) (e := 42) memA).cell rfl), _, rfl, rfl, hM2.ext⟩
def d4 (a b : Value) : List Value := [a, b, zv 0, .string ⟨#[]⟩]
theorem d4_one {a b : Value} (h1 : a.oneCell' = true) (h2 : b.oneCell' = true) : ∀ v ∈ d4 a b, v.oneCell' = true := by
 intro v hv
 simp only [d4, List.mem_cons, List.not_mem_nil, or_false] at hv
 rcases hv with rfl | rfl | rfl | rfl
 ·exact h1
 ·exact h2
 ·rfl
 ·rfl
set_option maxHeartbeats 4000000 in
theorem awake_fn (w : World) : Fn Tryz.prog 4 #[] w fun u w' => u = .bool true ∧ Ext w w' := by
 refine enterH (l := []) rfl Tryz.ntmps4 rfl ?_
 refine hwF9 ?_
 refine HL.build (cs := lnC (xpL 0)) rfl rfl rfl ?_
 refine hwF9 ?_
 refine HL.one (H1.lit (cs := lnC (xpL 0)) rfl rfl rfl rfl rfl rfl (fun b9 => ?_))
 refine hwF9 ?_
 refine HL.build (cs := clC (xpC 0)) rfl rfl rfl ?_
 refine hwF9 ?_
 refine HL.build (cs := clC (xpC 1)) rfl rfl rfl ?_
 refine hwF9 ?_
 refine HL.build (cs := clC (xpC 2)) rfl rfl rfl ?_
 refine hwF9 ?_
 refine HL.one (H1.lit (cs := clC (xpC 0) ++ clC (xpC 1) ++ clC (xpC 2)) rfl rfl rfl rfl rfl rfl (fun b13 => ?_))
 refine hwF9 ?_
 refine HL.build (cs := d4 (.slice (some ⟨b9, 0, none⟩) 1 1) (.slice (some ⟨b13, 0, none⟩) 3 3)) rfl rfl rfl ?_
 refine hwF9 ?_
 refine HL.one (H1.alloc (cs := d4 (.slice none 0 0) (.slice none 0 0)) rfl rfl (fun b1 => ?_))
 refine hwF9 ?_
 refine HL.one (H1.stAgg (b := b1) (cs := d4 (.slice none 0 0) (.slice none 0 0)) (vs := d4 (.slice (some ⟨b9, 0, none⟩) 1 1) (.slice (some ⟨b13, 0, none⟩) 3 3)) rfl rfl rfl (d4_one rfl rfl) rplA rfl ?_)
 have hL : ∀ w', Mm w [A.blk b1 (d4 (.slice (some ⟨b9, 0, none⟩) 1 1) (.slice (some ⟨b13, 0, none⟩) 3 3)) 54, A.blk b13 (clC (xpC 0) ++ clC (xpC 1) ++ clC (xpC 2)) 51, A.blk b9 (lnC (xpL 0)) 48] w' → RdK w' (.slice (some ⟨b9, 0, none⟩) 1 1) 1 2 fun i => lnC (xpL i) := fun w' hM =>
  RdK.of_blk (hM.blk (.tail _ (.tail _ (.head _)))) fun i hi j u hu => by
   obtain rfl : i = 0 := by omega
   rw [Nat.zero_mul, Nat.zero_add]; exact hu
 have hC : ∀ w', Mm w [A.blk b1 (d4 (.slice (some ⟨b9, 0, none⟩) 1 1) (.slice (some ⟨b13, 0, none⟩) 3 3)) 54, A.blk b13 (clC (xpC 0) ++ clC (xpC 1) ++ clC (xpC 2)) 51, A.blk b9 (lnC (xpL 0)) 48] w' → RdK w' (.slice (some ⟨b13, 0, none⟩) 3 3) 3 6 fun i => clC (xpC i) := fun w' hM =>
  RdK.of_blk (hM.blk (.tail _ (.head _))) fun i hi j u hu => by
   have hj : j < 6 := by
    have := (List.getElem?_eq_some_iff.1 hu).1
    simpa [clC] using this
   match i, hi with
   | 0, _ => rw [Nat.zero_mul, Nat.zero_add, List.append_assoc, List.getElem?_append_left (by simpa [clC] using hj)]; exact hu
   | 1, _ =>
    rw [List.append_assoc, List.getElem?_append_right (by simp [clC]), List.getElem?_append_left (by simp [clC]; omega)]
    have : 1 * 6 + j - (clC (xpC 0)).length = j := by simp [clC]
    rw [this]; exact hu
   | 2, _ =>
    rw [List.getElem?_append_right (by simp [clC])]
    have : 2 * 6 + j - (clC (xpC 0) ++ clC (xpC 1)).length = j := by simp [clC]
    rw [this]; exact hu
   | n + 3, h => omega
 refine hwF9 ?_
 refine HL.one (H1.ldAgg (b := b1) (vs := d4 (.slice (some ⟨b9, 0, none⟩) 1 1) (.slice (some ⟨b13, 0, none⟩) 3 3)) rfl memA rfl (fun i v hv => by rw [Nat.zero_add]; exact hv) rfl ?_)
 refine hwF9 ?_
 refine HL.one (H1.callx (u := .tuple #[zv 12, .bool true]) (vs := [_, _, _]) rfl rfl (fun w' hM => cvalue_fn _ _ w' (hL w' hM) (hC w' hM)) ?_)
 refine hwF9 ?_
 refine HL.one (H1.ldAgg (b := b1) (vs := d4 (.slice (some ⟨b9, 0, none⟩) 1 1) (.slice (some ⟨b13, 0, none⟩) 3 3)) rfl memA rfl (fun i v hv => by rw [Nat.zero_add]; exact hv) rfl ?_)
 refine hwF9 ?_
 refine HL.one (H1.callx (u := .tuple #[.string xpB, zv 0]) (vs := [_, _]) rfl rfl (fun w' hM => cprop_fn _ _ w' (hL w' hM) (hC w' hM)) ?_)
 refine hwF9 ?_
 refine HL.build (cs := [zv 1, zv 0]) rfl rfl rfl ?_
 refine hwF9 ?_
 refine HL.one (H1.lit (cs := [zv 1, zv 0]) rfl rfl rfl rfl rfl rfl (fun b27 => ?_))
 refine hwF9 ?_
 refine HL.one (H1.callx (u := .tuple #[.string xpb, zv 0]) (vs := [_, _, _]) rfl rfl (fun w' hM => apply_fn _ w' (RdK.of_blk (hM.blk (b := b27) (cs := [zv 1, zv 0]) memA) fun i hi j u hu => by
  obtain rfl : i = 0 := by omega
  rw [Nat.zero_mul, Nat.zero_add]; exact hu)) ?_)
 refine hwF9 ?_
 exact HX.ret1 rfl rfl fun w' hM => ⟨rfl, hM.ext⟩
end Go.Sx
/- Chapter 24: sets of numbers; setOf, derived: the walks. -/
namespace Go.Sx
open Go Go.Proofs Go.RowKit
def liftS (m : List Int) : List (Int × Value) := m.map fun x => (x, .agg #[])
def sAdd (m : List Int) (x : Int) : List Int := if x ∈ m then m else m ++ [x]
theorem mset_liftS (m : List Int) (x : Int) : mset (liftS m) x (.agg #[]) = liftS (sAdd m x) := by
 induction m with
 | nil => rfl
 | cons y m ih =>
  show (if x = y then (x, Value.agg #[]) :: liftS m else (y, .agg #[]) :: mset (liftS m) x (.agg #[])) = _
  by_cases h : x = y
  ·subst h
   unfold sAdd
   rw [if_pos rfl, if_pos (.head _)]; rfl
  ·rw [if_neg h, ih]
   unfold sAdd
   by_cases h2 : x ∈ m
   ·rw [if_pos h2, if_pos (.tail _ h2)]; rfl
   ·rw [if_neg h2, if_neg (by intro h3; rcases List.mem_cons.1 h3 with h3 | h3; exact h h3; exact h2 h3)]; rfl
theorem mget_liftS (m : List Int) (x : Int) : mget (liftS m) x = if x ∈ m then some (.agg #[]) else none := by
 induction m with
 | nil => rfl
 | cons y m ih =>
  show (if x = y then some (Value.agg #[]) else mget (liftS m) x) = _
  by_cases h : x = y
  ·subst h
   rw [if_pos rfl, if_pos (.head _)]
  ·rw [if_neg h, ih]
   by_cases h2 : x ∈ m
   ·rw [if_pos h2, if_pos (.tail _ h2)]
   ·rw [if_neg h2, if_neg (by intro h3; rcases List.mem_cons.1 h3 with h3 | h3; exact h h3; exact h2 h3)]
theorem mem_sAdd {m : List Int} {x y : Int} : y ∈ sAdd m x ↔ y ∈ m ∨ y = x := by
 unfold sAdd
 by_cases h : x ∈ m
 ·rw [if_pos h]
  exact ⟨.inl, fun h2 => h2.elim id fun e => e ▸ h⟩
 ·rw [if_neg h, List.mem_append, List.mem_singleton]
theorem nodup_sAdd {m : List Int} {x : Int} (h : m.Nodup) : (sAdd m x).Nodup := by
 unfold sAdd
 by_cases h2 : x ∈ m
 ·rw [if_pos h2]; exact h
 ·rw [if_neg h2, List.nodup_append]
  exact ⟨h, List.nodup_cons.2 ⟨by simp, List.nodup_nil⟩, fun a ha b hb => by rw [List.mem_singleton.1 hb]; rintro rfl; exact h2 ha⟩
def setL (l : List Int) : Nat → List Int
 | 0 => []
 | i + 1 => sAdd (setL l i) (getI l i)
def derL (l : List Nd) (p : Nat → Bool) : Nat → List Int
 | 0 => []
 | i + 1 => if (p i || (ndAt l i).src.any fun x => decide (x ∈ derL l p i)) = true then sAdd (derL l p i) (ndAt l i).id else derL l p i
def SetW (w : World) (b : Nat) (m : List Int) : Prop := ∃ o, w.heap[b]? = some o ∧ mqP .i64 (liftS m) o
theorem SetW.ext {w w' : World} {b : Nat} {m : List Int} (h : SetW w b m) (k : Ext w w') : SetW w' b m := by
 obtain ⟨o, h1, h2⟩ := h
 exact ⟨o, by rw [k.block b (Array.getElem?_eq_some_iff.1 h1).1]; exact h1, h2⟩
theorem Mm.setW {w0 w : World} {H : List Atom} {b : Nat} {m : List Int} (h : Mm w0 H w) (hm : A.mq b .i64 (liftS m) ∈ H) : SetW w b m := h.all _ hm
section
variable {P : Program} {r : Option Nat} {N : Nat} {ds : List Deferred} {ol rest : List Oper} {Q : Post} {E : Env} {w0 : World} {H : List Atom} {next : Act → World → Prop} {g : Option (Nat × Bool)}
variable {d : Nat} {t ty : TypeId} {pos : String} {af : Array Edge} {x y z : Operand}
theorem H1.setget {b : Nat} {k e : TypeId} {m : List Int} {n : Int} {zv : Value} {sz bb : Nat} [ht : UTy P t (.map k e)] [hk : UTy P k (.int .i64)] [hi : ITy P e zv sz bb] (hx : Env.ev E x = some (.map (some b))) (hy : Env.ev E y = some (.int .i64 n))
  (hb : ∀ w, Mm w0 H w → SetW w b m) (hd : Nat.blt d N = true) (h : HN N ds next ((d, .tuple #[(if n ∈ m then some (.agg #[]) else none).getD zv, .bool (decide (n ∈ m))]) :: E) w0 H) : H1 P r N ds next ⟨some d, .lookup t x y true, ty, pos, af, g⟩ Q E w0 H := fun w hM => by
 obtain ⟨o, h1, h2⟩ := hb w hM
 have hs : (if n ∈ m then some (Value.agg #[]) else none).isSome = decide (n ∈ m) := by by_cases hn : n ∈ m <;> simp [hn]
 rw [← hs, ← mget_liftS] at h
 refine W1.run (v := .tuple #[(mget (liftS m) n).getD zv, .bool (mget (liftS m) n).isSome]) (w' := w) (fun a ha' => ?_) rfl hd (h w hM)
 simp only [execOp, ha'.ev hx, ha'.ev hy, Sem.run_bind, run_lookup_mq2 ht.is hk.is h1 h2 n, Result.andThen, Sem.run_pure]
end
attribute [local irreducible] WC WL WX POp Then Again Fn NX W1 WA WO QL RP RA Yld LoopAt HC HL HX HN H1 HA HO HQ HB HP A.blk A.grow A.rd A.obj A.mp AgainH CutH
attribute [local irreducible] A.mq A.mit
theorem setHas_fn {b : Nat} {m : List Int} (n : Int) (w : World) (hS : SetW w b m) :
  Fn Tryz.prog 66 #[.map (some b), zv n] w fun u w' => u = .bool (decide (n ∈ m)) ∧ Ext w w' := by
 refine enterH (l := [_, _]) rfl Tryz.ntmps66 rfl ?_
 refine hwNB ?_
 refine HL.one (H1.setget (n := n) (m := m) rfl rfl (fun w' hM => hS.ext hM.ext) rfl ?_)
 rw [show (if n ∈ m then some (Value.agg #[]) else none).getD (.agg #[]) = .agg #[] by by_cases h : n ∈ m <;> simp [h]]
 refine hwNB ?_
 refine HL.one (H1.alloc (cs := []) rfl rfl (fun b9 => ?_))
 refine hwNB ?_
 refine HL.one (H1.stAgg (cs := []) (vs := []) rfl rfl rfl (by intro v hv; cases hv) rplA rfl ?_)
 refine hwNB ?_
 exact HX.ret1 rfl rfl fun w' hM => ⟨rfl, hM.ext⟩
theorem setPQ {b : Nat} {m : List Int} {w : World} {ok : Int → Prop} (hS : SetW w b m) : PQ w (.func (.func 66) #[.map (some b)] #[]) zv ok (fun x => decide (x ∈ m)) :=
 ⟨_, [.map (some b)], [], rfl, inferInstance, fun w' hx x _ => setHas_fn x w' (hS.ext hx)⟩
theorem derived_fn {v fv : Value} {l : List Nd} {U : Nat → Value} {p : Nd × Value → Bool} (hl : l.length ≤ 1000000) (hs : ∀ i, i < l.length → (ndAt l i).src.length ≤ 1000000) (w : World) (hR : RdN w v l U) (hp : PQ w fv (fun q => ndV q.1 q.2) (fun q => ∃ i, i < l.length ∧ q = (ndAt l i, U i)) p) :
  Fn Tryz.prog 30 #[v, fv] w fun u w' => ∃ b : Nat, True ∧ u = .map (some b) ∧ Mm w [A.mq b .i64 (liftS (derL l (fun i => p (ndAt l i, U i)) l.length))] w' := by
 have hU : ∀ i, i < l.length → (U i).oneCell' = true := fun i hi => rd_one (hR.src i hi)
 obtain ⟨a, c, rfl, hc, hcl⟩ := hR.shape
 refine enterH (l := [_, _]) rfl Tryz.ntmps30 rfl ?_
 refine hwNB ?_
 refine HL.one (H1.mkmq .i64 rfl (fun bm => ?_))
 refine hwNB ?_
 refine HC.loop (α := Nat) (fun k => [(1, fv), (5, .map (some bm)), (9, .slice a l.length c), (10, zv (l.length : Int)), (11, zv (k : Int))]) (fun k => [A.mq bm .i64 (liftS (derL l (fun i => p (ndAt l i, U i)) k))]) (fun k => k ≤ l.length) (fun k => l.length - k) 0 (Nat.zero_le _) esA (Hs.refl _) ?_
 intro k hk
 by_cases hlt : k < l.length
 rotate_left
 ·have hn : ¬ ((k : Nat) : Int) < (l.length : Int) := by omega
  obtain rfl : k = l.length := by omega
  refine hwNB ?_
  exact HX.ret1 rfl rfl fun w' hM => ⟨bm, trivial, rfl, hM⟩
 have hn : ((k : Nat) : Int) < (l.length : Int) := by omega
 obtain ⟨b, off, rfl, hb⟩ := hR.cell hlt
 have hx := hb k hlt
 have hsr := hR.src k hlt
 have hsl := hs k hlt
 have hUk := hU k hlt
 have hder : derL l (fun i => p (ndAt l i, U i)) (k + 1) = if (p (ndAt l k, U k) || (ndAt l k).src.any fun x => decide (x ∈ derL l (fun i => p (ndAt l i, U i)) k)) = true then sAdd (derL l (fun i => p (ndAt l i, U i)) k) (ndAt l k).id else derL l (fun i => p (ndAt l i, U i)) k := rfl
 refine hwNB ?_
 refine HL.one (H1.ldAggw (b := b) (off := off + k * 4) (vs := ndC (ndAt l k) (U k)) rfl rfl (fun w' hM j u hu => cell_ext hM.ext (hx j u hu)) rfl ?_)
 refine hwNB ?_
 refine HL.one (H1.alloc (cs := ndC ⟨0, 0, 0, []⟩ (.slice none 0 0)) rfl rfl (fun b9 => ?_))
 refine hwNB ?_
 refine HL.one (H1.stAgg (cs := ndC ⟨0, 0, 0, []⟩ (.slice none 0 0)) (vs := ndC (ndAt l k) (U k)) rfl rfl rfl (nd_one hUk) rplA rfl ?_)
 refine hwNB ?_
 refine HL.one (H1.ldAgg (vs := ndC (ndAt l k) (U k)) rfl memA rfl (fun i v hv => by rw [Nat.zero_add]; exact hv) rfl ?_)
 refine hwNB ?_
 refine HL.one (H1.callpq (x := (ndAt l k, U k)) (fun w' hM => hp.ext hM.ext) ⟨k, hlt, rfl⟩ rfl rfl rfl ?_)
 cases hpk : p (ndAt l k, U k) with
 | true =>
  rw [hpk, Bool.true_or, if_pos rfl] at hder
  refine hwNB ?_
  refine HL.build (parts := []) (pv := []) (cs := []) rfl rfl rfl ?_
  refine hwNB ?_
  refine HL.one (H1.mqset (H' := [A.blk b9 (ndC (ndAt l k) (U k)) 39, A.mq bm .i64 (liftS (derL l (fun i => p (ndAt l i, U i)) (k + 1)))]) rfl rfl rfl (by rw [mset_liftS, ← hder]; exact Rpl.there Rpl.here) ?_)
  refine hwNB ?_
  exact HX.again (k + 1) hlt (by show l.length - (k + 1) < l.length - k; omega) esA (Hs.refl _).skip
 | false =>
  rw [hpk, Bool.false_or] at hder
  refine hwNB ?_
  refine HL.one (H1.callx (vs := [U k, _]) rfl rfl (fun w' hM => by
   obtain ⟨a4, c4, e4, h5, -⟩ := id hsr
   have hz := ints_len (ndAt l k).src
   rw [hz] at e4
   rw [e4] at hsr ⊢
   exact contI_fn hsl w' (hsr.ext hM.ext) (setPQ (hM.setW memA))) ?_)
  rw [anyI _ (fun x => decide (x ∈ derL l (fun i => p (ndAt l i, U i)) k))]
  cases hq : (ndAt l k).src.any fun x => decide (x ∈ derL l (fun i => p (ndAt l i, U i)) k) with
  | true =>
   rw [hq, if_pos rfl] at hder
   refine hwNB ?_
   refine HL.build (parts := []) (pv := []) (cs := []) rfl rfl rfl ?_
   refine hwNB ?_
   refine HL.one (H1.mqset (H' := [A.blk b9 (ndC (ndAt l k) (U k)) 39, A.mq bm .i64 (liftS (derL l (fun i => p (ndAt l i, U i)) (k + 1)))]) rfl rfl rfl (by rw [mset_liftS, ← hder]; exact Rpl.there Rpl.here) ?_)
   refine hwNB ?_
   exact HX.again (k + 1) hlt (by show l.length - (k + 1) < l.length - k; omega) esA (Hs.refl _).skip
  | false =>
   rw [hq, if_neg (by decide)] at hder
   rw [← hder]
   refine hwNB ?_
   exact HX.again (k + 1) hlt (by show l.length - (k + 1) < l.length - k; omega) esA (Hs.refl _).skip
end Go.Sx
/- Sorting by a function that is given: worlds that are known but for draws and new blocks. -/
namespace Go.Sx
open Go Go.Proofs Go.RowKit
def Gr (W w : World) : Prop := ∃ q os, w = Go.Sort.grow (W.drewN q) os
theorem Gr.refl (W : World) : Gr W W := ⟨0, #[], by simp [Go.Sort.grow, World.drewN]⟩
theorem Gr.trans {W w w' : World} (h : Gr W w) (k : Gr w w') : Gr W w' := by
 obtain ⟨q, os, rfl⟩ := h
 obtain ⟨q', os', rfl⟩ := k
 exact ⟨q + q', os ++ os', by simp [Go.Sort.grow, World.drewN, Array.append_assoc, Nat.add_assoc]⟩
theorem Gr.alloc {W w : World} (h : Gr W w) (o : Obj) : Gr W (w.alloc o) := h.trans ⟨0, #[o], by rw [Go.Sort.alloc_eq_grow]; rfl⟩
theorem Gr.drew {W w : World} (h : Gr W w) : Gr W w.drew := h.trans ⟨1, #[], by show w.drew = { w with heap := w.heap ++ #[], drawn := w.drawn + 1 }; rw [Array.append_empty]; rfl⟩
theorem WC.anyE {P : Program} {N : Nat} {ds : List Deferred} {Q : Post} {E : Env} {w : World} [hm : Mixed P] {id : Nat} {l : List Oper} {fuel : Nat} (hf : l.length = fuel) (h : WA P N ds l fuel (Array.replicate l.length false) Q E w.drew) :
  WC P none N ds (.region id l.toArray true) Q E w := fun a ha =>
 wpIn_region_any hm.is (by subst hf; simpa using h a ha)
theorem compareG (x y : Int) (W : World) : Fn Tryz.prog 25 #[zv x, zv y] W fun v w' => v = zv (Lib.compareInt x y) ∧ Gr W w' :=
 Calls.mono (Tryz.cmp_Compare_int x y W) (by
  rintro e w' ⟨rfl, rfl⟩
  exact ⟨_, rfl, rfl, Gr.refl _⟩)
theorem Gr.ext {W w : World} (h : Gr W w) : Ext W w := by
 obtain ⟨q, os, rfl⟩ := h
 refine ⟨rfl, rfl, rfl, by simp [Go.Sort.grow, World.drewN], fun k hk => ?_⟩
 show (W.heap ++ os)[k]? = _
 rw [Array.getElem?_append, if_pos hk]
theorem arr_at {F : Array Value} {i : Nat} (h : i < F.size) : F.toList[i]? = some F[i]! := by rw [Array.getElem?_toList, Array.getElem?_eq_getElem h, getElem!_pos F i h]
theorem putCells_id (F cur : Array Value) (h : F.size ≤ cur.size) : (Go.Sort.putCells id 0 F cur).toList.take F.size = F.toList := by
 apply List.ext_getElem?
 intro i
 rw [List.getElem?_take]
 by_cases hi : i < F.size
 ·have hi2 : i < cur.size := by omega
  simp [Go.Sort.putCells, hi2, hi]
 ·rw [if_neg hi, List.getElem?_eq_none (by rw [Array.length_toList]; omega)]
end Go.Sx
/- slices.Sort and slices.Compact at numbers. -/
namespace Go.Sx
open Go Go.Proofs Go.RowKit
def srtI (l : List Int) : List Int := l.mergeSort fun x y => decide (x ≤ y)
theorem srtI_perm (l : List Int) : (srtI l).Perm l := List.mergeSort_perm _ _
theorem srtI_len (l : List Int) : (srtI l).length = l.length := (srtI_perm l).length_eq
theorem srtI_pw (l : List Int) : (srtI l).Pairwise (· ≤ ·) := by
 have := List.pairwise_mergeSort (le := fun x y : Int => decide (x ≤ y)) (by intro a b c; simp only [decide_eq_true_eq]; omega) (by intro a b; simp only [Bool.or_eq_true, decide_eq_true_eq]; omega) l
 exact this.imp fun h => by simpa using h
def numL (l : List Int) : List Int := Lib.compact (srtI l)
theorem compact_mem {m : List Int} (x : Int) : x ∈ Lib.compact m ↔ x ∈ m := by
 unfold Lib.compact Lib.compactUpTo
 rw [List.mem_map]
 constructor
 ·rintro ⟨j, hj, rfl⟩
  have hlt := List.mem_range.1 (List.mem_filter.1 hj).1
  simp [hlt]
 ·intro h
  obtain ⟨i, hi, hx⟩ := List.getElem_of_mem h
  suffices H : ∀ n i (hi : i < m.length), i ≤ n → m[i] = x → ∃ j, j ∈ (List.range m.length).filter (Lib.keeps m.toArray) ∧ m.toArray[j]! = x from H i i hi (Nat.le_refl _) hx
  intro n
  induction n with
  | zero =>
   intro i hi h0 hx
   obtain rfl : i = 0 := by omega
   exact ⟨0, List.mem_filter.2 ⟨List.mem_range.2 hi, by unfold Lib.keeps; simp⟩, by simp [hi, hx]⟩
  | succ n ih =>
   intro i hi hn hx
   by_cases hk : Lib.keeps m.toArray i = true
   ·exact ⟨i, List.mem_filter.2 ⟨List.mem_range.2 hi, hk⟩, by simp [hi, hx]⟩
   ·unfold Lib.keeps at hk
    rw [decide_eq_true_eq, not_or, Decidable.not_not] at hk
    have hi1 : i - 1 < m.length := by omega
    refine ih (i - 1) hi1 (by omega) ?_
    have := hk.2
    simp [hi, hi1] at this
    rw [← this]; exact hx
theorem mem_numL {l : List Int} {x : Int} : x ∈ numL l ↔ x ∈ l := by unfold numL; rw [compact_mem, (srtI_perm l).mem_iff]
theorem putCells_take (ys : List Int) (cur : Array Value) (h : ys.length ≤ cur.size) : (Go.Sort.putCells (Value.int .i64) 0 ys.toArray cur).toList.take ys.length = ints ys := by
 apply List.ext_getElem?
 intro i
 rw [List.getElem?_take]
 by_cases hi : i < ys.length
 ·rw [if_pos hi, ints_get hi]
  have hi2 : i < cur.size := by omega
  simp [Go.Sort.putCells, hi2, at', zv, hi]
 ·rw [if_neg hi, List.getElem?_eq_none (by rw [ints_len]; omega)]
theorem sortI_fn {w0 w : World} {H H' : List Atom} {a : Option Addr} {c : Nat} {l : List Int} (hM : Mm w0 H w) (hr : Rpl (A.grow 3 1 a c l.length (ints l)) (A.grow 3 1 a c l.length (ints (srtI l))) H H') (hl : l.length ≤ 1000000) :
  Fn Tryz.prog 139 #[.slice a l.length c] w fun v w' => v = .tuple #[] ∧ Mm w0 H' w' := by
 by_cases h0 : l = []
 ·subst h0
  refine Calls.mono (Tryz.slices_Sort_int_none a c w) ?_
  rintro e w' ⟨rfl, rfl⟩
  have hs : srtI [] = [] := by simp [srtI]
  rw [hs] at hr
  exact ⟨_, rfl, rfl, Rpl.same hr ▸ hM⟩
 have hne : l.length ≠ 0 := fun e => h0 (List.eq_nil_of_length_eq_zero e)
 have hown := hM.own hr.mem
 obtain ⟨b, cur, rfl, hg, hnc, hcm, hcs⟩ : ∃ b cur, a = some ⟨b, 0, none⟩ ∧ w.heap[b]? = some (.cells cur 3 (0, 0)) ∧ l.length ≤ c ∧ c ≤ maxLen ∧ cur.size = c * 1 := by
  rcases hown.2 with ⟨-, h2⟩ | ⟨g, cap, cur, hv, -, hg, hnc, hcm, hcs, -⟩
  ·exact absurd h2 hne
  ·cases hv; exact ⟨g, cur, rfl, hg, hnc, hcm, hcs⟩
 have hlt := (Array.getElem?_eq_some_iff.1 hg).1
 have hcell : ∀ j, j < l.length → w.cell? ⟨b, j, none⟩ = some (zv (at' l j)) := fun j hj => ownsRow_cell hown (ints_get hj)
 refine Calls.mono (Tryz.slices_Sort_int b 0 c l w (fun j hj => ?_) hlt (by omega)) ?_
 ·have hj' : j < l.length := by simpa using hj
  rw [Nat.zero_add, hcell j hj']
  refine ⟨?_, by simp [World.frozen?, hg]⟩
  simp [at', hj', zv, getElem!_pos]
 ·rintro e w' ⟨rfl, n, os, rfl⟩
  have hs : (Go.Sort.putRow (Value.int .i64) (Go.Sort.ahead w n) b 0 (srtI l).toArray).heap.size = w.heap.size := by simp [Go.Sort.putRow, Go.Sort.mapBlock, Go.Sort.ahead]
  refine ⟨_, rfl, rfl, hM.turn hr rfl rfl rfl ?_ (fun k hk hkb => ?_) ?_ (by simp [A.grow, Value.ownBlock]) (fun b' hb' => .inl (by simpa [A.grow, Value.ownBlock] using hb'))⟩
  ·simp [Go.Sort.grow, Go.Sort.putRow, Go.Sort.mapBlock, Go.Sort.ahead]
  ·have hkb' : ¬ b = k := fun e => hkb (by subst e; simp [A.grow, Value.ownBlock])
   show ((Go.Sort.putRow (Value.int .i64) (Go.Sort.ahead w n) b 0 (srtI l).toArray).heap ++ os)[k]? = _
   rw [Array.getElem?_append, if_pos (by rw [hs]; exact hk)]
   show (w.heap.modify b _)[k]? = _
   rw [Array.getElem?_modify, if_neg hkb']
  ·have hls := srtI_len l
   refine ⟨by simp [ints, hls], .inr ⟨b, c, Go.Sort.putCells (Value.int .i64) 0 (srtI l).toArray cur, rfl, Nat.zero_le _, ?_, hnc, hcm, by simp [Go.Sort.putCells, hcs], ?_⟩⟩
   ·have hm : (Go.Sort.putRow (Value.int .i64) (Go.Sort.ahead w n) b 0 (srtI l).toArray).heap[b]? = some (.cells (Go.Sort.putCells (Value.int .i64) 0 (srtI l).toArray cur) 3 (0, 0)) := by
     simp [Go.Sort.putRow, Go.Sort.mapBlock, Go.Sort.ahead, Array.getElem?_modify, hg, Go.Sort.onCells]
    show (Go.Sort.grow (Go.Sort.putRow (Value.int .i64) (Go.Sort.ahead w n) b 0 (srtI l).toArray) os).heap[b]? = _
    rw [Go.Sort.grow]
    simp only [Array.getElem?_append]
    rw [if_pos (by rw [hs]; exact hlt), hm]
   ·rw [Nat.mul_one, ← hls]
    exact putCells_take _ _ (by omega)
theorem compactI_fn {w0 w : World} {H H' : List Atom} {a : Option Addr} {c : Nat} {l : List Int} (hM : Mm w0 H w) (hr : Rpl (A.grow 3 1 a c l.length (ints l)) (A.grow 3 1 a c (Lib.compact l).length (ints (Lib.compact l))) H H') (hl : l.length ≤ 1000000) :
  Fn Tryz.prog 140 #[.slice a l.length c] w fun v w' => v = .slice a (Lib.compact l).length c ∧ Mm w0 H' w' := by
 by_cases h0 : l = []
 ·subst h0
  refine Calls.mono (Tryz.slices_Compact_int_empty a c w) ?_
  rintro e w' ⟨rfl, rfl⟩
  exact ⟨_, rfl, rfl, Rpl.same hr ▸ hM⟩
 have hne : l.length ≠ 0 := fun e => h0 (List.eq_nil_of_length_eq_zero e)
 have hown := hM.own hr.mem
 obtain ⟨b, cur, rfl, hg, hnc, hcm, hcs⟩ : ∃ b cur, a = some ⟨b, 0, none⟩ ∧ w.heap[b]? = some (.cells cur 3 (0, 0)) ∧ l.length ≤ c ∧ c ≤ maxLen ∧ cur.size = c * 1 := by
  rcases hown.2 with ⟨-, h2⟩ | ⟨g, cap, cur, hv, -, hg, hnc, hcm, hcs, -⟩
  ·exact absurd h2 hne
  ·cases hv; exact ⟨g, cur, rfl, hg, hnc, hcm, hcs⟩
 have hlt := (Array.getElem?_eq_some_iff.1 hg).1
 have hcell : ∀ j, j < l.length → w.cell? ⟨b, j, none⟩ = some (zv (at' l j)) := fun j hj => ownsRow_cell hown (ints_get hj)
 have hle : (Lib.compact l).length ≤ l.length := Lib.compact_length_le l
 refine Calls.mono (Tryz.slices_Compact_int b 0 c l w (fun j hj => ?_) (by omega) hnc) ?_
 ·have hj' : j < l.length := by simpa using hj
  rw [Nat.zero_add, hcell j hj']
  refine ⟨?_, by simp [World.frozen?, hg]⟩
  simp [at', hj', zv, getElem!_pos]
 ·rintro e w' ⟨rfl, q, rfl⟩
  obtain ⟨ys, hys⟩ : ∃ ys, ys = Lib.compact l ++ List.replicate (l.length - (Lib.compact l).length) 0 := ⟨_, rfl⟩
  have hyl : ys.length = l.length := by rw [hys, List.length_append, List.length_replicate]; omega
  rw [← hys]
  refine ⟨_, rfl, rfl, hM.turn hr rfl rfl rfl (by simp [Go.Sort.putRow, Go.Sort.mapBlock, Go.Sort.ahead]) (fun k hk hkb => ?_) ?_ (by simp [A.grow, Value.ownBlock]) (fun b' hb' => .inl (by simpa [A.grow, Value.ownBlock] using hb'))⟩
  ·have hkb' : ¬ b = k := fun e => hkb (by subst e; simp [A.grow, Value.ownBlock])
   show (w.heap.modify b _)[k]? = _
   rw [Array.getElem?_modify, if_neg hkb']
  ·refine ⟨by simp [ints], .inr ⟨b, c, Go.Sort.putCells (Value.int .i64) 0 ys.toArray cur, rfl, Nat.zero_le _, ?_, by omega, hcm, by simp [Go.Sort.putCells, hcs], ?_⟩⟩
   ·simp [Go.Sort.putRow, Go.Sort.mapBlock, Go.Sort.ahead, Array.getElem?_modify, hg, Go.Sort.onCells]
   ·have h1 := putCells_take ys cur (by omega)
    have h2 : (Go.Sort.putCells (Value.int .i64) 0 ys.toArray cur).toList.take ((Lib.compact l).length * 1) = ((Go.Sort.putCells (Value.int .i64) 0 ys.toArray cur).toList.take ys.length).take (Lib.compact l).length := by
     rw [List.take_take, Nat.mul_one, Nat.min_eq_left (by omega)]
    rw [h2, h1, hys, ints_app, ← ints_len (Lib.compact l), List.take_left]
end Go.Sx
/- Chapter 24: the numbers of a set in their order; Derived: the walks. -/
namespace Go.Sx
open Go Go.Proofs Go.RowKit
structure KeyS (m : List Int) (es : Array MapEntry) (seen : Array Nat) (ks : List Int) : Prop where
 nd : ks.Nodup
 sub : ∀ k ∈ ks, k ∈ m
 vis : ∀ e ∈ es.toList, e.born ∈ seen → ∀ k, e.key = zv k → k ∈ ks
 back : ∀ k ∈ ks, ∃ e ∈ es.toList, e.key = zv k ∧ e.born ∈ seen
theorem permI_of_nodup {l m : List Int} (h1 : l.Nodup) (h2 : m.Nodup) (h : ∀ x, x ∈ l ↔ x ∈ m) : l.Perm m := by
 rw [List.perm_iff_count]
 intro a
 rw [h1.count, h2.count]
 by_cases ha : a ∈ l
 ·rw [if_pos ha, if_pos ((h a).1 ha)]
 ·rw [if_neg ha, if_neg fun hm => ha ((h a).2 hm)]
theorem ints_snocS (l : List Int) (x : Int) : ints l ++ [zv x] = ints (l ++ [x]) := by simp [ints]
attribute [local irreducible] WC WL WX POp Then Again Fn NX W1 WA WO QL RP RA Yld LoopAt HC HL HX HN H1 HA HO HQ HB HP A.blk A.grow A.rd A.obj A.mp AgainH CutH
attribute [local irreducible] A.mq A.mit A.dfr A.loop
end Go.Sx
/- Chapter 24: Derived: the walk. -/
namespace Go.Sx
open Go Go.Proofs Go.RowKit
theorem derL_nodup (l : List Nd) (p : Nat → Bool) : ∀ i, (derL l p i).Nodup
 | 0 => List.nodup_nil
 | i + 1 => by
  show (if _ then _ else _ : List Int).Nodup
  split
  ·exact nodup_sAdd (derL_nodup l p i)
  ·exact derL_nodup l p i
theorem sAdd_len (m : List Int) (x : Int) : (sAdd m x).length ≤ m.length + 1 := by
 unfold sAdd
 split
 ·omega
 ·rw [List.length_append]; exact Nat.le_refl _
theorem derL_len (l : List Nd) (p : Nat → Bool) : ∀ i, (derL l p i).length ≤ i
 | 0 => Nat.le_refl _
 | i + 1 => by
  show (if _ then _ else _ : List Int).length ≤ _
  split
  ·exact Nat.le_trans (sAdd_len _ _) (Nat.succ_le_succ (derL_len l p i))
  ·exact Nat.le_trans (derL_len l p i) (Nat.le_succ _)
def derA (l : List Nd) (f : List Int) : List Int := if validN l then srtI (derL l (fun i => decide ((ndAt l i).id ∈ f)) l.length) else []
attribute [local irreducible] WC WL WX POp Then Again Fn NX W1 WA WO QL RP RA Yld LoopAt HC HL HX HN H1 HA HO HQ HB HP A.blk A.grow A.rd A.obj A.mp AgainH CutH
attribute [local irreducible] A.mq A.mit
end Go.Sx
/- Chapter 24: states: isValid, ids: the walks. -/
namespace Go.Sx
open Go Go.Proofs Go.RowKit
def okS (l : List Nd) (D : List ByteArray) : Bool := validN l && decide (l.length = D.length) && D.all fun d => decide (d.size = 32)
theorem okS_facts {l : List Nd} {D : List ByteArray} (h : okS l D = true) : validN l = true ∧ l.length = D.length ∧ ∀ d ∈ D, d.size = 32 := by
 unfold okS at h
 rw [Bool.and_eq_true, Bool.and_eq_true, decide_eq_true_eq, List.all_eq_true] at h
 exact ⟨h.1.1, h.1.2, fun d hd => of_decide_eq_true (h.2 d hd)⟩
theorem any_not {D : List ByteArray} : (D.any fun d => decide (d.size ≠ 32)) = !(D.all fun d => decide (d.size = 32)) := by
 induction D with
 | nil => rfl
 | cons d D ih =>
  rw [List.any_cons, List.all_cons, ih]
  by_cases h : d.size = 32 <;> simp [h]
attribute [local irreducible] WC WL WX POp Then Again Fn NX W1 WA WO QL RP RA Yld LoopAt HC HL HX HN H1 HA HO HQ HB HP A.blk A.grow A.rd A.obj A.mp AgainH CutH
attribute [local irreducible] A.mq A.mit
theorem isWrong_fn (d : ByteArray) (_ : d.size ≤ 1000000) (w : World) : Fn Tryz.prog 62 #[.string d] w fun u w' => u = .bool (decide (d.size ≠ 32)) ∧ Ext w w' := by
 refine enterH (l := [_]) rfl Tryz.ntmps62 rfl ?_
 by_cases h : d.size = 32
 ·have h' : ((d.size : Nat) : Int) = 32 := by omega
  refine hwNB ?_
  exact HX.ret1 rfl rfl fun w' hM => ⟨by simp [h], hM.ext⟩
 ·have h' : ¬ ((d.size : Nat) : Int) = 32 := by omega
  refine hwNB ?_
  exact HX.ret1 rfl rfl fun w' hM => ⟨by simp [h, h'], hM.ext⟩
theorem stValid_fn {v g : Value} {l : List Nd} {D : List ByteArray} {U : Nat → Value} (hl : l.length ≤ 400000) (hs : ∀ i, i < l.length → (ndAt l i).src.length ≤ 1000000) (hD : D.length ≤ 1000000) (hDs : ∀ d ∈ D, d.size ≤ 1000000) (w : World) (hR : RdN w v l U) (hG : Rd w g (strs D)) :
  Fn Tryz.prog 29 #[.agg #[v, g]] w fun u w' => u = .bool (okS l D) ∧ Ext w w' := by
 obtain ⟨a, c, rfl, hc, -⟩ := id hR.shape
 obtain ⟨a2, c2, rfl, hc2⟩ : ∃ a c, g = .slice a D.length c ∧ D.length ≤ c := by
  obtain ⟨a, c, h1, h2, -⟩ := id hG
  have hz : (strs D).length = D.length := by simp [strs]
  rw [hz] at h1 h2
  exact ⟨a, c, h1, h2⟩
 refine enterH (l := [_]) rfl Tryz.ntmps29 rfl ?_
 refine hwNB ?_
 refine HL.one (H1.boxAgg (cs := [.slice a l.length c, .slice a2 D.length c2]) rfl rfl (fun b1 => ?_))
 refine hwNB ?_
 refine HL.one (H1.callx (vs := [_]) rfl rfl (fun w' hM => valid24_fn (by omega) hs w' (hR.ext hM.ext)) ?_)
 cases hv : validN l with
 | false =>
  refine hwNB ?_
  exact HX.ret1 rfl rfl fun w' hM => ⟨by unfold okS; rw [hv]; rfl, hM.ext⟩
 | true =>
  by_cases he : l.length = D.length
  rotate_left
  ·have he' : ¬ ((l.length : Nat) : Int) = ((D.length : Nat) : Int) := by omega
   refine hwNB ?_
   exact HX.ret1 rfl rfl fun w' hM => ⟨by unfold okS; rw [decide_eq_false he, Bool.and_false]; rfl, hM.ext⟩
  have he' : ((l.length : Nat) : Int) = ((D.length : Nat) : Int) := by omega
  refine hwNB ?_
  refine HL.one (H1.callx (vs := [_, _]) rfl rfl (fun w' hM => contS_fn (p := fun d => decide (d.size ≠ 32)) hD w' (hG.ext hM.ext) ⟨_, [], [], rfl, inferInstance, fun w2 hx d hd => isWrong_fn d (hDs d hd) w2⟩) ?_)
  rw [anyB D (fun d => decide (d.size ≠ 32)), any_not]
  refine hwNB ?_
  exact HX.ret1 rfl rfl fun w' hM => ⟨by unfold okS; rw [hv, decide_eq_true he, Bool.not_not]; rfl, hM.ext⟩
def idsN (l : List Nd) : List Int := l.map Nd.id
theorem idsN_take {l : List Nd} {k : Nat} (h : k < l.length) : idsN (l.take k) ++ [(ndAt l k).id] = idsN (l.take (k + 1)) := by
 rw [ndAt_take h]; simp [idsN]
theorem ids_fn {v g : Value} {l : List Nd} {U : Nat → Value} (hl : l.length ≤ 400000) (w : World) (hR : RdN w v l U) (_ : g.oneCell' = true) :
  Fn Tryz.prog 37 #[.agg #[v, g]] w fun u w' => ∃ z : Option Addr × Nat, True ∧ u = .slice z.1 l.length z.2 ∧ Mm w [A.grow 3 1 z.1 z.2 l.length (ints (idsN l))] w' := by
 have hU : ∀ i, i < l.length → (U i).oneCell' = true := fun i hi => rd_one (hR.src i hi)
 obtain ⟨a, c, rfl, hc, -⟩ := id hR.shape
 refine enterH (l := [_]) rfl Tryz.ntmps37 rfl ?_
 refine HC.grow0 3 1 ?_
 refine hwNB ?_
 refine HL.one (H1.boxAgg (cs := [.slice a l.length c, g]) rfl rfl (fun b1 => ?_))
 refine hwNB ?_
 refine HC.loop (α := Nat × Option Addr × Nat) (fun q => [(2, .slice q.2.1 q.1 q.2.2), (6, .slice a l.length c), (7, zv (l.length : Int)), (8, zv (q.1 : Int))]) (fun q => [A.grow 3 1 q.2.1 q.2.2 q.1 (ints (idsN (l.take q.1)))]) (fun q => q.1 ≤ l.length) (fun q => l.length - q.1) (0, none, 0) (Nat.zero_le _) esA (Hs.cons (Pick.there Pick.here) (Hs.refl _).skip) ?_
 rintro ⟨k, a1, c1⟩ hk
 dsimp only at hk ⊢
 by_cases hlt : k < l.length
 rotate_left
 ·have hn : ¬ ((k : Nat) : Int) < (l.length : Int) := by omega
  obtain rfl : k = l.length := by omega
  rw [List.take_length]
  refine hwNB ?_
  exact HX.ret1 rfl rfl fun w' hM => ⟨(a1, c1), trivial, rfl, hM⟩
 have hn : ((k : Nat) : Int) < (l.length : Int) := by omega
 obtain ⟨b, off, rfl, hb⟩ := hR.cell hlt
 have hx := hb k hlt
 have ht := idsN_take hlt
 have hUk := hU k hlt
 generalize ndAt l k = n at hx ht
 refine hwNB ?_
 refine HL.one (H1.ldAggw (b := b) (off := off + k * 4) (vs := ndC n (U k)) rfl rfl (fun w' hM j u hu => cell_ext hM.ext (hx j u hu)) rfl ?_)
 refine hwNB ?_
 refine HL.one (H1.alloc (cs := ndC ⟨0, 0, 0, []⟩ (.slice none 0 0)) rfl rfl (fun b9 => ?_))
 refine hwNB ?_
 refine HL.one (H1.stAgg (cs := ndC ⟨0, 0, 0, []⟩ (.slice none 0 0)) (vs := ndC n (U k)) rfl rfl rfl (nd_one hUk) rplA rfl ?_)
 refine hwNB ?_
 refine HL.one (H1.lit (cs := [zv n.id]) rfl rfl rfl rfl rfl rfl (fun b8 => ?_))
 refine hwNB ?_
 refine HL.one (H1.app1 (u := zv n.id) rfl rfl (fun _ _ => by first | ((repeat (first | with_reducible exact Rpl.here | with_reducible apply Rpl.there)); done) | (repeat (first | exact Rpl.here | apply Rpl.there))) memA rfl rfl (by omega) rfl rfl (fun a' c' => ?_))
 rw [ints_snocS, ht]
 refine hwNB ?_
 exact HX.again (k + 1, some ⟨a', 0, none⟩, c') hlt (by show l.length - (k + 1) < l.length - k; omega) esA (Hs.cons (Pick.there (Pick.there Pick.here)) (Hs.refl _).skip.skip)
end Go.Sx
/-
 DERIVED: THE SHELF's CONTRACTS AT THIS DUMP, IN PLAIN WORDS (tools/lay-plain.mjs out of 'TryzShelf3.lean', which tools/lay-shelf.mjs wrote): THE SAME DECLARATIONS UNDER THE SAME NAMES: 'import', 'namespace', 'open', 'def', 'theorem' AND NOTHING ELSE: no command of the shelf's: FOR A HAND-IN. Each laying: the table of numbers ('.._ren') and one theorem, a field a fact of the dump's own or the kernel's comparison; each contract: ONE APPLICATION.
-/
namespace Go.Proofs
open Go.Shelf
def Tryz.growP_ren : Go.Shelf.Ren := ⟨fun | 4 => 204 | n => n, fun | 22 => 37 | 25 => 3 | 3 => 3 | 4 => 4 | 9 => 9 | 20 => 20 | 0 => 0 | n => n, fun | n => n⟩
theorem Tryz.growP : Go.Proofs.Lays8.n4 Tryz.prog Tryz.growP_ren := {
 mixed := by kernel_rfl
 f4 := ⟨Tryz.f204.name, by decide, Tryz.func204.trans (congrArg some (by kernel_rfl))⟩
 t0 := Tryz.underlying0
 a0 := Tryz.isAgg0
 z0 := Tryz.sizeOf0
 v0 := Tryz.zeroValue0
 t3 := Tryz.underlying3
 a3 := Tryz.isAgg3
 z3 := Tryz.sizeOf3
 v3 := Tryz.zeroValue3
 t4 := Tryz.underlying4
 a4 := Tryz.isAgg4
 z4 := Tryz.sizeOf4
 v4 := Tryz.zeroValue4
 t9 := Tryz.underlying9
 a9 := Tryz.isAgg9
 z9 := Tryz.sizeOf9
 v9 := Tryz.zeroValue9
 t20 := Tryz.underlying20
 a20 := Tryz.isAgg20
 z20 := Tryz.sizeOf20
 v20 := Tryz.zeroValue20
 t22 := Tryz.underlying37
 a22 := Tryz.isAgg37
 z22 := Tryz.sizeOf37
 v22 := Tryz.zeroValue37 }
end Go.Proofs
/- Chapter 24: slices.Grow and slices.Concat at numbers: the walks. -/
namespace Go.Sx
open Go Go.Proofs Go.RowKit
theorem growI_fn (n : Nat) (h0 : 0 < n) (hn : n ≤ 1000000) (w : World) : Fn Tryz.prog 204 #[.slice none 0 0, zv (n : Int)] w fun u w' => ∃ z : Nat × Nat, True ∧ u = .slice (some ⟨z.1, 0, none⟩) 0 z.2 ∧ Mm w [A.grow 3 1 (some ⟨z.1, 0, none⟩) z.2 0 []] w' := by
 obtain ⟨i0, hi0, hz, hs, hb⟩ := ITy.parts (h := (inferInstance : ITy Tryz.prog 3 (.int .i64 0) 1 8))
 have hc : Calls Tryz.prog 204 #[.slice none 0 0, zv (n : Int)] w _ := Any8.slices_Grow_grow Tryz.growP i0 (.int .i64 0) hi0 hz (by omega) none 0 0 n [] w (Nat.le_refl _) (by omega) (by rw [hb]; omega) (by omega) (by rw [Nat.zero_mul]; rfl) (fun _ => rfl) (fun a h => by cases h)
 have hge := grownCap_ge w (0 + n) 0 (Tryz.growP_ren.t 25)
 have hle := grownCap_le_maxLen w (0 + n) 0 (Tryz.growP_ren.t 25) (by unfold maxLen; omega)
 generalize grownCap w (0 + n) 0 (Tryz.growP_ren.t 25) = k at hc hge hle
 refine Calls.mono hc ?_
 rintro e w' ⟨rfl, rfl⟩
 refine ⟨_, rfl, (w.heap.size, k), trivial, rfl, Mm.ownFresh ((Ext.drew w).trans (Ext.alloc _ _)) ⟨rfl, .inr ⟨w.heap.size, k, #[] ++ Builtin.zeroCells (Value.int .i64 0).cells (0 + n - 0) ++ Builtin.zeroCells (Value.int .i64 0).cells (k - (0 + n)), rfl, Nat.le_refl _, ?_, Nat.zero_le _, hle, ?_, by simp⟩⟩⟩
 ·exact Array.getElem?_push_size (xs := w.drew.heap)
 ·simp [size_zeroCells, Value.cells]; omega
def catL (L : Nat → List Int) : Nat → List Int
 | 0 => []
 | k + 1 => catL L k ++ L k
theorem catL_le (L : Nat → List Int) {k n : Nat} (h : k ≤ n) : (catL L k).length ≤ (catL L n).length := by
 induction h with
 | refl => exact Nat.le_refl _
 | step _ ih =>
  refine Nat.le_trans ih ?_
  show _ ≤ (catL L _ ++ L _).length
  rw [List.length_append]; exact Nat.le_add_right _ _
theorem catL_step (L : Nat → List Int) {k n : Nat} (h : k < n) : (catL L k).length + (L k).length ≤ (catL L n).length := by
 have := catL_le L (show k + 1 ≤ n from h)
 rw [show catL L (k + 1) = catL L k ++ L k from rfl, List.length_append] at this
 exact this
attribute [local irreducible] WC WL WX POp Then Again Fn NX W1 WA WO QL RP RA Yld LoopAt HC HL HX HN H1 HA HO HQ HB HP A.blk A.grow A.rd A.obj A.mp AgainH CutH
attribute [local irreducible] A.mq A.mit
theorem concat_fn {b off n c : Nat} {V : Nat → Value} {L : Nat → List Int} (hn : n ≤ 1000000) (h0 : 0 < (catL L n).length) (hl : (catL L n).length ≤ 1000000) (w : World) (hv : ∀ i, i < n → w.cell? ⟨b, off + i, none⟩ = some (V i)) (hR : ∀ i, i < n → Rd w (V i) (ints (L i))) :
  Fn Tryz.prog 142 #[.slice (some ⟨b, off, none⟩) n c] w fun u w' => ∃ z : Option Addr × Nat, True ∧ u = .slice z.1 (catL L n).length z.2 ∧ Mm w [A.grow 3 1 z.1 z.2 (catL L n).length (ints (catL L n))] w' := by
 refine enterH (l := [_]) rfl Tryz.ntmps142 rfl ?_
 refine hwNB ?_
 refine HC.loop (α := Nat) (fun k => [(0, .slice (some ⟨b, off, none⟩) n c), (3, zv ((catL L k).length : Int)), (9, .slice (some ⟨b, off, none⟩) n c), (10, zv (n : Int)), (11, zv (k : Int))]) (fun _ => []) (fun k => k ≤ n) (fun k => n - k) 0 (Nat.zero_le _) esA (Hs.refl _) ?_
 intro k hk
 by_cases hlt : k < n
 ·have hk' : ((k : Nat) : Int) < (n : Int) := by omega
  have hvk := hv k hlt
  obtain ⟨a1, c1, e1, h5, -⟩ := id (hR k hlt)
  rw [ints_len] at e1
  rw [e1] at hvk
  have hst := catL_step L hlt
  have hlen : (catL L (k + 1)).length = (catL L k).length + (L k).length := by rw [show catL L (k + 1) = catL L k ++ L k from rfl, List.length_append]
  have hneg : ¬ ((catL L k).length : Int) + ((L k).length : Int) < 0 := by omega
  refine hwNB ?_
  refine HL.one (H1.ld0 rfl hvk rfl ?_)
  refine hwNB ?_
  exact HX.again (k + 1) hlt (by show n - (k + 1) < n - k; omega) (by rw [hlen, Int.natCast_add]; repeat (first | exact trivial | refine ⟨rfl, ?_⟩)) (Hs.refl _)
 have hk' : ¬ ((k : Nat) : Int) < (n : Int) := by omega
 obtain rfl : k = n := by omega
 refine hwNB ?_
 refine HL.one (H1.callz (vs := [_, _]) rfl rfl (fun w' hM => growI_fn _ h0 hl w') ?_)
 rintro ⟨gb, gc⟩ -
 dsimp only
 refine hwNB ?_
 refine HC.loop (α := Nat × Option Addr × Nat) (fun q => [(6, .slice q.2.1 (catL L q.1).length q.2.2), (25, .slice (some ⟨b, off, none⟩) k c), (26, zv (k : Int)), (27, zv (q.1 : Int))]) (fun q => [A.grow 3 1 q.2.1 q.2.2 (catL L q.1).length (ints (catL L q.1))]) (fun q => q.1 ≤ k ∧ ((catL L q.1).length = 0 ∨ ∃ b, q.2.1 = some ⟨b, 0, none⟩)) (fun q => k - q.1) (0, some ⟨gb, 0, none⟩, gc) ⟨Nat.zero_le _, .inr ⟨gb, rfl⟩⟩ esA (Hs.refl _) ?_
 rintro ⟨j, a2, c2⟩ ⟨hj, ha2⟩
 dsimp only at hj ha2 ⊢
 by_cases hlt : j < k
 ·have hk' : ((j : Nat) : Int) < (k : Int) := by omega
  have hvk := hv j hlt
  have hRj := hR j hlt
  obtain ⟨a1, c1, e1, h5, -⟩ := id hRj
  rw [e1] at hvk hRj
  have hst := catL_step L hlt
  have hil := ints_len (L j)
  have hcat : ints (catL L j) ++ ints (L j) = ints (catL L (j + 1)) := by unfold ints; rw [← List.map_append]; rfl
  have hlen : (catL L j).length + (ints (L j)).length = (catL L (j + 1)).length := by rw [hil, show catL L (j + 1) = catL L j ++ L j from rfl, List.length_append]
  refine hwNB ?_
  refine HL.one (H1.ld0 rfl hvk rfl ?_)
  refine hwNB ?_
  refine HL.one (H1.appR (vs := ints (L j)) rfl rfl rfl (fun _ _ => by first | ((repeat (first | with_reducible exact Rpl.here | with_reducible apply Rpl.there)); done) | (repeat (first | exact Rpl.here | apply Rpl.there))) (fun w' hM => hRj.ext hM.ext) (ints_one _) (by omega) (by decide) rfl ha2 (fun a' c' ha' => ?_))
  rw [hcat]
  rw [hlen] at ha' ⊢
  refine hwNB ?_
  exact HX.again (j + 1, a', c') ⟨hlt, ha'⟩ (by show k - (j + 1) < k - j; omega) esA (Hs.refl _)
 have hk' : ¬ ((j : Nat) : Int) < (k : Int) := by omega
 obtain rfl : j = k := by omega
 refine hwNB ?_
 exact HX.ret1 rfl rfl fun w' hM => ⟨(a2, c2), trivial, rfl, hM⟩
end Go.Sx
/- Plain, chapter 24: what is derived from nodes; what is left of nodes. -/
namespace Go.Sx
open Go Go.RowKit
structure ValidP (l : List Nd) : Prop where
 len : l.length ≤ 400
 asc : ∀ i j, i < j → j < l.length → (ndAt l i).id < (ndAt l j).id
 node : ∀ i, i < l.length → hasN (l.take i) (ndAt l i) = true
theorem allN_iff {l : List Nd} : ∀ {i : Nat}, allN l i = true ↔ ∀ j, j < i → hasN (l.take j) (ndAt l j) = true
 | 0 => ⟨fun _ j hj => by omega, fun _ => rfl⟩
 | i + 1 => by
  show (allN l i && hasN (l.take i) (ndAt l i)) = true ↔ _
  rw [Bool.and_eq_true, allN_iff]
  constructor
  ·rintro ⟨h1, h2⟩ j hj
   by_cases e : j = i
   ·subst e; exact h2
   ·exact h1 j (by omega)
  ·intro h
   exact ⟨fun j hj => h j (by omega), h i (by omega)⟩
theorem ndAt_get {l : List Nd} {i : Nat} (h : i < l.length) : l[i]? = some (ndAt l i) := by unfold ndAt; simp [h]
theorem ascI_iff {l : List Nd} : AscI (l.map Nd.id) ↔ ∀ i j, i < j → j < l.length → (ndAt l i).id < (ndAt l j).id := by
 unfold AscI
 rw [List.pairwise_iff_getElem]
 constructor
 ·intro h i j hij hj
  have := h i j (by simp; omega) (by simp; omega) hij
  simpa [ndAt, hj, show i < l.length by omega] using this
 ·intro h i j hi hj hij
  rw [List.length_map] at hi hj
  have := h i j hij hj
  simpa [ndAt, hj, hi] using this
theorem validN_iff {l : List Nd} : validN l = true ↔ ValidP l := by
 unfold validN
 rw [Bool.and_eq_true, Bool.and_eq_true, decide_eq_true_eq, decide_eq_true_eq, allN_iff, ascI_iff]
 exact ⟨fun h => ⟨h.1.2, h.2, h.1.1⟩, fun h => ⟨⟨h.node, h.len⟩, h.asc⟩⟩
theorem ValidP.inj {l : List Nd} (h : ValidP l) {i j : Nat} (hi : i < l.length) (hj : j < l.length) (e : (ndAt l i).id = (ndAt l j).id) : i = j := by
 rcases Nat.lt_trichotomy i j with h1 | h1 | h1
 ·have := h.asc i j h1 hj; omega
 ·exact h1
 ·have := h.asc j i h1 hi; omega
theorem pkOf_some {x p : Int} : ∀ {l : List Nd}, pkOf l x = some p → ∃ i, i < l.length ∧ x = (ndAt l i).id ∧ p = (ndAt l i).pack
 | [], h => by cases h
 | n :: l, h => by
  unfold pkOf at h
  cases hp : pkOf l x with
  | some q =>
   rw [hp] at h
   cases h
   obtain ⟨i, h1, h2, h3⟩ := pkOf_some hp
   exact ⟨i + 1, by simpa using h1, h2, h3⟩
  | none =>
   rw [hp] at h
   dsimp only at h
   split at h
   ·cases h; exact ⟨0, by simp, by assumption, rfl⟩
   ·cases h
structure HasP (l : List Nd) (n : Nd) : Prop where
 id : idOk n.id
 pack : idOk n.pack
 kind1 : 1 ≤ n.kind
 kind5 : n.kind ≤ 5
 len : n.src.length ≤ 8
 dep : n.kind = 1 ↔ n.src.length = 0
 srcs : srcsOk l n.src
 own : n.kind = 1 ∨ ownB l n.pack n.src = true
 asc : AscI n.src
theorem hasN_iff {l : List Nd} {n : Nd} : hasN l n = true ↔ HasP l n := by
 unfold hasN
 simp only [Bool.and_eq_true, decide_eq_true_eq, Bool.or_eq_true, beq_iff_eq, decide_eq_decide]
 exact ⟨fun ⟨⟨⟨⟨⟨⟨⟨⟨a, b⟩, c⟩, d⟩, e⟩, f⟩, g⟩, h⟩, i⟩ => ⟨a, b, c, d, e, f, g, h, i⟩, fun ⟨a, b, c, d, e, f, g, h, i⟩ => ⟨⟨⟨⟨⟨⟨⟨⟨a, b⟩, c⟩, d⟩, e⟩, f⟩, g⟩, h⟩, i⟩⟩
theorem ndAt_takeL {l : List Nd} {i j : Nat} (h : j < i) : ndAt (l.take i) j = ndAt l j := by
 unfold ndAt
 rw [List.getD_eq_getElem?_getD, List.getD_eq_getElem?_getD, List.getElem?_take_of_lt h]
theorem ValidP.src {l : List Nd} (h : ValidP l) {i : Nat} (hi : i < l.length) {x : Int} (hx : x ∈ (ndAt l i).src) : ∃ j, j < i ∧ x = (ndAt l j).id := by
 have h1 := (hasN_iff.1 (h.node i hi)).srcs x hx
 cases hp : pkOf (l.take i) x with
 | none => rw [hp] at h1; cases h1
 | some p =>
  obtain ⟨j, h2, h3, -⟩ := pkOf_some hp
  have h4 : j < i := by rw [List.length_take] at h2; omega
  rw [ndAt_takeL h4] at h3
  exact ⟨j, h4, h3⟩
theorem derL_succ (l : List Nd) (p : Nat → Bool) (i : Nat) : derL l p (i + 1) = if (p i || (ndAt l i).src.any fun x => decide (x ∈ derL l p i)) = true then sAdd (derL l p i) (ndAt l i).id else derL l p i := rfl
theorem derL_mono {l : List Nd} {p : Nat → Bool} {x : Int} {i j : Nat} (h : i ≤ j) (hx : x ∈ derL l p i) : x ∈ derL l p j := by
 induction h with
 | refl => exact hx
 | @step k _ ih =>
  rw [derL_succ]
  split
  ·exact mem_sAdd.2 (.inl ih)
  ·exact ih
theorem derL_ids {l : List Nd} {p : Nat → Bool} {x : Int} : ∀ {i : Nat}, x ∈ derL l p i → ∃ j, j < i ∧ x = (ndAt l j).id
 | 0, h => by cases h
 | i + 1, h => by
  rw [derL_succ] at h
  split at h
  ·rcases mem_sAdd.1 h with h | h
   ·obtain ⟨j, h1, h2⟩ := derL_ids h
    exact ⟨j, by omega, h2⟩
   ·exact ⟨i, by omega, h⟩
  ·obtain ⟨j, h1, h2⟩ := derL_ids h
   exact ⟨j, by omega, h2⟩
theorem derL_back {l : List Nd} (hv : ValidP l) {p : Nat → Bool} {j : Nat} : ∀ {i : Nat}, i ≤ l.length → j < i → (ndAt l j).id ∈ derL l p i → (ndAt l j).id ∈ derL l p (j + 1)
 | 0, _, h, _ => by omega
 | i + 1, hi, hj, h => by
  by_cases e : j = i
  ·subst e; exact h
  ·rw [derL_succ] at h
   split at h
   ·rcases mem_sAdd.1 h with h | h
    ·exact derL_back hv (by omega) (by omega) h
    ·exact absurd (hv.inj (by omega) (by omega) h) e
   ·exact derL_back hv (by omega) (by omega) h
theorem mem_derL {l : List Nd} (hv : ValidP l) (p : Nat → Bool) {i : Nat} (hi : i < l.length) : (ndAt l i).id ∈ derL l p l.length ↔ p i = true ∨ ∃ x ∈ (ndAt l i).src, x ∈ derL l p l.length := by
 constructor
 ·intro h
  have h1 := derL_back hv (Nat.le_refl _) hi h
  rw [derL_succ] at h1
  split at h1
  ·rename_i hc
   rw [Bool.or_eq_true, List.any_eq_true] at hc
   rcases hc with hc | ⟨x, hx, hc⟩
   ·exact .inl hc
   ·exact .inr ⟨x, hx, derL_mono (by omega) (of_decide_eq_true hc)⟩
  ·obtain ⟨j, h2, h3⟩ := derL_ids h1
   have := hv.inj hi (by omega) h3
   omega
 ·intro h
  refine derL_mono (show i + 1 ≤ l.length from hi) ?_
  rw [derL_succ, if_pos]
  ·exact mem_sAdd.2 (.inr rfl)
  ·rw [Bool.or_eq_true, List.any_eq_true]
   rcases h with h | ⟨x, hx, h⟩
   ·exact .inl h
   ·refine .inr ⟨x, hx, decide_eq_true ?_⟩
    obtain ⟨j, hj, rfl⟩ := hv.src hi hx
    exact derL_mono (by omega) (derL_back hv (Nat.le_refl _) (by omega) h)
end Go.Sx
/- Plain, chapter 24: the two parts of a state; what is left is valid; the tombstone is true. -/
namespace Go.Sx
open Go Go.RowKit
theorem ascI_nodup {l : List Int} (h : AscI l) : l.Nodup := List.Pairwise.imp (fun h => by omega) h
theorem ascI_le {l : List Int} (h : AscI l) : l.Pairwise (· ≤ ·) := List.Pairwise.imp (fun h => by omega) h
theorem ascI_ext {a b : List Int} (ha : AscI a) (hb : AscI b) (h : ∀ x, x ∈ a ↔ x ∈ b) : a = b :=
 List.Perm.eq_of_pairwise (fun _ _ _ _ h1 h2 => Int.le_antisymm h1 h2) (ascI_le ha) (ascI_le hb) (permI_of_nodup (ascI_nodup ha) (ascI_nodup hb) h)
theorem srtI_asc {l : List Int} (h : l.Nodup) : AscI (srtI l) := by
 have h1 := srtI_pw l
 have h2 : (srtI l).Nodup := (srtI_perm l).symm.nodup h
 unfold AscI
 exact (h1.and h2).imp fun h => by omega
theorem mem_srtI {l : List Int} {x : Int} : x ∈ srtI l ↔ x ∈ l := (srtI_perm l).mem_iff
def goneL (l : List Nd) (pack : Int) : List Int := derL l (fun i => decide ((ndAt l i).pack = pack)) l.length
def prN (l : List Nd) (D : List ByteArray) (g : List Int) (b : Bool) : List (Nd × ByteArray) := (l.zip D).filter fun q => decide (q.1.id ∈ g) == b
def ndsP (p : List (Nd × ByteArray)) : List Nd := p.map (·.1)
def digP (p : List (Nd × ByteArray)) : List ByteArray := p.map (·.2)
theorem zip_nds {l : List Nd} {D : List ByteArray} (h : l.length = D.length) : ndsP (l.zip D) = l := List.map_fst_zip (by omega)
theorem prN_nds {l : List Nd} {D : List ByteArray} (h : l.length = D.length) (g : List Int) (b : Bool) : ndsP (prN l D g b) = l.filter fun n => decide (n.id ∈ g) == b := by
 have := List.filter_map (f := (Prod.fst : Nd × ByteArray → Nd)) (p := fun n => decide (n.id ∈ g) == b) (l := l.zip D)
 rw [show (l.zip D).map Prod.fst = l from zip_nds h] at this
 rw [this]; rfl
theorem idsN_asc {l : List Nd} (hv : ValidP l) : AscI (idsN l) := by
 have := validN_iff.2 hv
 unfold validN at this
 rw [Bool.and_eq_true, decide_eq_true_eq] at this
 exact this.2
theorem mem_idsN {l : List Nd} {x : Int} : x ∈ idsN l ↔ ∃ n ∈ l, x = n.id := by
 unfold idsN
 rw [List.mem_map]
 exact ⟨fun ⟨n, h1, h2⟩ => ⟨n, h1, h2.symm⟩, fun ⟨n, h1, h2⟩ => ⟨n, h1, h2.symm⟩⟩
theorem mem_nd {l : List Nd} {n : Nd} : n ∈ l ↔ ∃ i, i < l.length ∧ n = ndAt l i := by
 rw [List.mem_iff_getElem]
 constructor
 ·rintro ⟨i, h, rfl⟩
  exact ⟨i, h, by unfold ndAt; simp [h]⟩
 ·rintro ⟨i, h, rfl⟩
  exact ⟨i, h, by unfold ndAt; simp [h]⟩
theorem idsN_filter {l : List Nd} (g : List Int) : idsN (l.filter fun n => decide (n.id ∈ g) == true) = (idsN l).filter fun x => decide (x ∈ g) := by
 unfold idsN
 rw [List.filter_map]
 congr 1
 refine List.filter_congr fun n _ => ?_
 show (decide (n.id ∈ g) == true) = decide (n.id ∈ g)
 cases decide (n.id ∈ g) <;> rfl
theorem lost_ids {l : List Nd} (hv : ValidP l) (p : Nat → Bool) : idsN (l.filter fun n => decide (n.id ∈ derL l p l.length) == true) = srtI (derL l p l.length) := by
 rw [idsN_filter]
 refine ascI_ext (ascI_sub (idsN_asc hv) List.filter_sublist) (srtI_asc (derL_nodup _ _ _)) fun x => ?_
 rw [List.mem_filter, mem_srtI, decide_eq_true_eq]
 refine ⟨fun h => h.2, fun h => ⟨?_, h⟩⟩
 obtain ⟨j, h1, h2⟩ := derL_ids h
 exact mem_idsN.2 ⟨_, mem_nd.2 ⟨j, h1, rfl⟩, h2⟩
theorem derL_isClosed {l : List Nd} (hv : ValidP l) (p : Nat → Bool) : ∀ i, i < l.length → (∃ x ∈ (ndAt l i).src, x ∈ derL l p l.length) → (ndAt l i).id ∈ derL l p l.length := fun _ hi h => (mem_derL hv p hi).2 (.inr h)
structure ValidS (l : List Nd) : Prop where
 len : l.length ≤ 400
 asc : AscI (idsN l)
 node : ∀ l1 n l2, l = l1 ++ n :: l2 → HasP l1 n
theorem split_at {l l1 l2 : List Nd} {n : Nd} (h : l = l1 ++ n :: l2) : l1.length < l.length ∧ l.take l1.length = l1 ∧ ndAt l l1.length = n := by
 subst h
 refine ⟨by simp, List.take_left' rfl, ?_⟩
 unfold ndAt; simp
theorem validS_iff {l : List Nd} : ValidP l ↔ ValidS l := by
 constructor
 ·intro h
  refine ⟨h.len, idsN_asc h, fun l1 n l2 e => ?_⟩
  obtain ⟨h1, h2, h3⟩ := split_at e
  have := hasN_iff.1 (h.node l1.length h1)
  rwa [h2, h3] at this
 ·intro h
  refine ⟨h.len, ascI_iff.1 h.asc, fun i hi => hasN_iff.2 ?_⟩
  have := h.node (l.take i) (ndAt l i) (l.drop (i + 1)) (by
   have e : l.drop i = ndAt l i :: l.drop (i + 1) := by
    rw [List.drop_eq_getElem_cons hi]
    congr 1
    unfold ndAt; simp [hi]
   rw [← e, List.take_append_drop])
  exact this
theorem pkOf_mem {l : List Nd} {x : Int} : (pkOf l x).isSome = true ↔ ∃ n ∈ l, x = n.id := by
 induction l with
 | nil => simp [pkOf]
 | cons m l ih =>
  unfold pkOf
  cases hp : pkOf l x with
  | some q =>
   rw [hp] at ih
   obtain ⟨n, h1, h2⟩ := ih.1 rfl
   exact ⟨fun _ => ⟨n, .tail _ h1, h2⟩, fun _ => rfl⟩
  | none =>
   rw [hp] at ih
   dsimp only
   by_cases e : x = m.id
   ·rw [if_pos e]
    exact ⟨fun _ => ⟨m, .head _, e⟩, fun _ => rfl⟩
   ·rw [if_neg e]
    refine ⟨(fun h => by cases h), ?_⟩
    rintro ⟨n, h1, h2⟩
    rcases List.mem_cons.1 h1 with rfl | h1
    ·exact absurd h2 e
    ·exact absurd (ih.2 ⟨n, h1, h2⟩) (by simp)
theorem pkOf_uniq {l : List Nd} (h : (idsN l).Nodup) {n : Nd} (hn : n ∈ l) : pkOf l n.id = some n.pack := by
 induction l with
 | nil => cases hn
 | cons m l ih =>
  rw [show idsN (m :: l) = m.id :: idsN l from rfl, List.nodup_cons] at h
  unfold pkOf
  rcases List.mem_cons.1 hn with rfl | hn
  ·cases hp : pkOf l n.id with
   | some q =>
    obtain ⟨k, h1, h2⟩ := pkOf_mem.1 (show (pkOf l n.id).isSome = true by rw [hp]; rfl)
    exact absurd (mem_idsN.2 ⟨k, h1, h2⟩) h.1
   | none => simp
  ·rw [ih h.2 hn]
theorem ascI_app {a b : List Int} (h : AscI (a ++ b)) : AscI a := (List.pairwise_append.1 h).1
theorem left_valid {l : List Nd} (hv : ValidP l) {s : List Int} (hs : ∀ i, i < l.length → (∃ x ∈ (ndAt l i).src, x ∈ s) → (ndAt l i).id ∈ s) : ValidP (l.filter fun n => decide (n.id ∈ s) == false) := by
 have hS := validS_iff.1 hv
 refine validS_iff.2 ⟨Nat.le_trans (List.length_filter_le _ _) hS.len, ascI_sub hS.asc (List.Sublist.map _ List.filter_sublist), fun l1 n l2 e => ?_⟩
 obtain ⟨k1, k2, e1, e2, e3⟩ := List.filter_eq_append_iff.1 e
 obtain ⟨m1, m2, e4, e5, e6, e7⟩ := List.filter_eq_cons_iff.1 e3
 subst e2 e4
 have hp := hS.node (k1 ++ m1) n m2 (by rw [e1]; simp)
 have hid : n.id ∉ s := by simpa using e6
 have hm1 : ∀ y ∈ m1, y.id ∈ s := fun y hy => by
  have := e5 y hy
  simpa using this
 have hsrc : ∀ x ∈ n.src, x ∉ s := fun x hx hxs => by
  obtain ⟨i, hi, hni⟩ := mem_nd.1 (show n ∈ l by rw [e1]; simp)
  subst hni
  exact hid (hs i hi ⟨x, hx, hxs⟩)
 have hin : ∀ x ∈ n.src, ∀ y ∈ k1 ++ m1, x = y.id → y ∈ k1.filter fun n => decide (n.id ∈ s) == false := by
  intro x hx y hy exy
  have h1 : y.id ∉ s := by rw [← exy]; exact hsrc x hx
  rcases List.mem_append.1 hy with hy | hy
  ·exact List.mem_filter.2 ⟨hy, by simp [h1]⟩
  ·exact absurd (hm1 y hy) h1
 have hnd1 : (idsN (k1 ++ m1)).Nodup := by
  refine ascI_nodup (ascI_app (b := idsN (n :: m2)) ?_)
  have := hS.asc
  rw [e1, ← List.append_assoc] at this
  unfold idsN at this ⊢
  rwa [List.map_append] at this
 have hnd2 : (idsN (k1.filter fun n => decide (n.id ∈ s) == false)).Nodup := by
  refine List.Nodup.sublist ?_ hnd1
  unfold idsN
  exact List.Sublist.map _ (List.Sublist.trans List.filter_sublist (List.sublist_append_left _ _))
 refine ⟨hp.id, hp.pack, hp.kind1, hp.kind5, hp.len, hp.dep, fun x hx => ?_, ?_, hp.asc⟩
 ·obtain ⟨y, hy, hxy⟩ := pkOf_mem.1 (hp.srcs x hx)
  exact pkOf_mem.2 ⟨y, hin x hx y hy hxy, hxy⟩
 ·refine hp.own.imp id fun h => ?_
  unfold ownB at h ⊢
  rw [List.any_eq_true] at h ⊢
  obtain ⟨x, hx, h⟩ := h
  refine ⟨x, hx, ?_⟩
  obtain ⟨y, hy, hxy⟩ := pkOf_mem.1 (hp.srcs x hx)
  have h1 := pkOf_uniq hnd1 hy
  have h2 := pkOf_uniq hnd2 (hin x hx y hy hxy)
  rw [hxy] at h ⊢
  rw [h1] at h
  rw [h2]; exact h
end Go.Sx
/- Plain, chapter 2: the root of a list: by a stack of complete parts, and by halves. -/
namespace Go.Sx
open Go Go.RowKit
theorem snocI {α : Type} {p : List α → Prop} (h0 : p []) (h1 : ∀ l x, p l → p (l ++ [x])) (l : List α) : p l := by
 have : ∀ m : List α, p m.reverse := fun m => by
  induction m with
  | nil => exact h0
  | cons x m ih => rw [List.reverse_cons]; exact h1 _ _ ih
 simpa using this l.reverse
def nodeS (a b : ByteArray) : ByteArray := markS 1 [a, b]
def leafS (s : ByteArray) : ByteArray := markS 0 [s]
theorem nodeS_size (a b : ByteArray) : (nodeS a b).size = 32 := markS_size _ _
theorem leafS_size (s : ByteArray) : (leafS s).size = 32 := markS_size _ _
def mergeR : List (Nat × ByteArray) → List (Nat × ByteArray)
 | [] => []
 | [x] => [x]
 | x :: y :: r => if y.1 = x.1 then mergeR ((2 * x.1, nodeS y.2 x.2) :: r) else x :: y :: r
termination_by l => l.length
def stkR (l : List ByteArray) : List (Nat × ByteArray) := l.foldl (fun st s => mergeR ((1, leafS s) :: st)) []
def topR (out : ByteArray) (r : List (Nat × ByteArray)) : ByteArray := r.foldl (fun out y => nodeS y.2 out) out
def topS : List (Nat × ByteArray) → ByteArray
 | [] => sumS ⟨#[]⟩
 | x :: r => topR x.2 r
def rootS (l : List ByteArray) : ByteArray := topS (stkR l)
theorem stkR_snoc (l : List ByteArray) (s : ByteArray) : stkR (l ++ [s]) = mergeR ((1, leafS s) :: stkR l) := by unfold stkR; rw [List.foldl_append]; rfl
def sumR (l : List (Nat × ByteArray)) : Nat := (l.map Prod.fst).sum
theorem sumR_merge (l : List (Nat × ByteArray)) : sumR (mergeR l) = sumR l := by
 fun_induction mergeR l with
 | case1 => rfl
 | case2 => rfl
 | case3 x y r h ih =>
  rw [ih]
  simp only [sumR, List.map_cons, List.sum_cons, h]
  omega
 | case4 => rfl
theorem sumR_stk (l : List ByteArray) : sumR (stkR l) = l.length := by
 refine snocI (p := fun l => sumR (stkR l) = l.length) rfl (fun l s ih => ?_) l
 ·rw [stkR_snoc, sumR_merge, List.length_append]
  show 1 + sumR (stkR l) = _
  rw [ih]
  show _ = l.length + 1
  omega
def leftN (n : Nat) : Nat := 2 ^ Nat.log2 (n - 1)
theorem leftN_lt {n : Nat} (h : 2 ≤ n) : leftN n < n := by
 have := Nat.log2_self_le (n := n - 1) (by omega)
 unfold leftN; omega
theorem leftN_pos (n : Nat) : 0 < leftN n := Nat.two_pow_pos _
theorem leftN_eq {n j : Nat} (h1 : 2 ^ j < n) (h2 : n ≤ 2 * 2 ^ j) : leftN n = 2 ^ j := by
 have h3 := Nat.two_pow_pos j
 have h4 : Nat.log2 (n - 1) = j := (Nat.log2_eq_iff (by omega)).2 ⟨by omega, by rw [Nat.pow_succ]; omega⟩
 unfold leftN
 rw [h4]
def mroot (l : List ByteArray) : ByteArray :=
 if _h : 2 ≤ l.length then nodeS (mroot (l.take (leftN l.length))) (mroot (l.drop (leftN l.length))) else match l with
  | [] => sumS ⟨#[]⟩
  | x :: _ => leafS x
termination_by l.length
decreasing_by
 ·rw [List.length_take]; have := leftN_lt _h; omega
 ·rw [List.length_drop]; have := leftN_pos l.length; omega
theorem mroot_step {l : List ByteArray} (h : 2 ≤ l.length) : mroot l = nodeS (mroot (l.take (leftN l.length))) (mroot (l.drop (leftN l.length))) := by rw [mroot, dif_pos h]
theorem mroot_app {a b : List ByteArray} {j : Nat} (ha : a.length = 2 ^ j) (h1 : 0 < b.length) (h2 : b.length ≤ 2 ^ j) : mroot (a ++ b) = nodeS (mroot a) (mroot b) := by
 have hp := Nat.two_pow_pos j
 have hl : leftN (a ++ b).length = a.length := by rw [List.length_append, ha]; exact leftN_eq (by omega) (by omega)
 rw [mroot_step (by rw [List.length_append]; omega), hl, List.take_left, List.drop_left]
inductive Parts : List (Nat × ByteArray) → List ByteArray → Prop
 | nil : Parts [] []
 | cons {st : List (Nat × ByteArray)} {l c : List ByteArray} {j : Nat} : Parts st l → c.length = 2 ^ j → (∀ x, st.head? = some x → 2 ^ j < x.1) → Parts ((2 ^ j, mroot c) :: st) (l ++ c)
theorem parts_head {st : List (Nat × ByteArray)} {l : List ByteArray} (h : Parts st l) {x : Nat × ByteArray} (hx : st.head? = some x) : ∃ m, x.1 = 2 ^ m := by
 cases h with
 | nil => cases hx
 | cons => cases hx; exact ⟨_, rfl⟩
theorem pow_two_lt {i j : Nat} (h : 2 ^ i < 2 ^ j) : 2 * 2 ^ i ≤ 2 ^ j := by
 have h1 : i < j := (Nat.pow_lt_pow_iff_right (by decide)).1 h
 have := Nat.pow_le_pow_right (n := 2) (by decide) (show i + 1 ≤ j from h1)
 rw [Nat.pow_succ] at this; omega
end Go.Sx
/- Chapter 24: leaf: the walk. -/
namespace Go.Sx
open Go Go.Proofs Go.RowKit
def numB (x : Int) : ByteArray := strN x.toNat
def numsB (l : List Int) : ByteArray := l.foldl (fun s x => s ++ numB x) ⟨#[]⟩
theorem numsB_snoc (l : List Int) (x : Int) : numsB (l ++ [x]) = numsB l ++ numB x := by unfold numsB; rw [List.foldl_append]; rfl
theorem numsB_size1 : ∀ {l : List Int} (s : ByteArray), (∀ x ∈ l, x ≤ 1099511627776) → (l.foldl (fun s x => s ++ numB x) s).size ≤ s.size + 9 * l.length
 | [], _, _ => Nat.le_refl _
 | x :: l, s, h => by
  have h1 := numsB_size1 (l := l) (s ++ numB x) fun y hy => h y (.tail _ hy)
  have h2 : (numB x).size ≤ 9 := strN_size (n := x.toNat) (by have := h x (.head _); omega)
  have h3 : (s ++ numB x).size = s.size + (numB x).size := ByteArray.size_append
  show (l.foldl _ (s ++ numB x)).size ≤ _
  rw [List.length_cons]; omega
theorem numsB_size {l : List Int} (h : ∀ x ∈ l, x ≤ 1099511627776) : (numsB l).size ≤ 9 * l.length := by
 have := numsB_size1 (l := l) ⟨#[]⟩ h
 have h0 : (⟨#[]⟩ : ByteArray).size = 0 := rfl
 unfold numsB; omega
def leafN (n : Nd) : List Int := [n.id, n.kind, n.pack, (n.src.length : Int)] ++ n.src
def leafB (n : Nd) (d : ByteArray) : ByteArray := numsB (leafN n) ++ d
structure NdOk (n : Nd) : Prop where
 len : n.src.length ≤ 8
 num : ∀ x ∈ leafN n, 0 ≤ x ∧ x ≤ 1099511627776
attribute [local irreducible] WC WL WX POp Then Again Fn NX W1 WA WO QL RP RA Yld LoopAt HC HL HX HN H1 HA HO HQ HB HP A.blk A.grow A.rd A.obj A.mp AgainH CutH
attribute [local irreducible] A.mq A.mit
set_option maxHeartbeats 1000000 in
theorem leaf_fn {v g : Value} {l : List Nd} {D : List ByteArray} {U : Nat → Value} {i : Nat} (hi : i < l.length) (hlD : l.length = D.length) (_ : l.length ≤ 400000) (hok : NdOk (ndAt l i)) (hd : (getB D i).size ≤ 1000) (w : World) (hR : RdN w v l U) (hG : Rd w g (strs D)) :
  Fn Tryz.prog 76 #[.agg #[v, g], zv (i : Int)] w fun u w' => u = .string (leafB (ndAt l i) (getB D i)) ∧ Ext w w' := by
 have hU := rd_one (hR.src i hi)
 have hsrc := hR.src i hi
 obtain ⟨a, c, rfl, hc, -⟩ := id hR.shape
 obtain ⟨b, off, rfl, hb⟩ := hR.cell hi
 have hx := hb i hi
 obtain ⟨a2, c2, rfl, hc2⟩ : ∃ a c, g = .slice a D.length c ∧ D.length ≤ c := by
  obtain ⟨a, c, h1, h2, -⟩ := id hG
  have hz : (strs D).length = D.length := by simp [strs]
  rw [hz] at h1 h2
  exact ⟨a, c, h1, h2⟩
 obtain ⟨bd, offd, rfl⟩ := rd_addr hG (j := i) (by omega)
 have hdc := hG.cell (strs_getB (l := D) (i := i) (by omega))
 generalize ndAt l i = n at hok hsrc hx
 generalize getB D i = d at hd hdc
 generalize U i = Ui at hU hsrc hx
 obtain ⟨a4, c4, e4, hc4, -⟩ := id hsrc
 rw [ints_len] at e4 hc4
 subst e4
 have hcat : catL (fun i => if i = 0 then [n.id, n.kind, n.pack, (n.src.length : Int)] else n.src) 2 = leafN n := rfl
 have hll : (leafN n).length = 4 + n.src.length := by unfold leafN; rw [List.length_append]; rfl
 refine enterH (l := [_, _]) rfl Tryz.ntmps76 rfl ?_
 refine hwNB ?_
 refine HL.one (H1.boxAgg (cs := [.slice (some ⟨b, off, none⟩) l.length c, .slice (some ⟨bd, offd, none⟩) D.length c2]) rfl rfl (fun b1 => ?_))
 refine hwNB ?_
 refine HL.one (H1.ldAggw (b := b) (off := off + i * 4) (vs := ndC n (.slice a4 n.src.length c4)) rfl rfl (fun w' hM j u hu => cell_ext hM.ext (hx j u hu)) rfl ?_)
 refine hwNB ?_
 refine HL.one (H1.alloc (cs := ndC ⟨0, 0, 0, []⟩ (.slice none 0 0)) rfl rfl (fun b9 => ?_))
 refine hwNB ?_
 refine HL.one (H1.stAgg (cs := ndC ⟨0, 0, 0, []⟩ (.slice none 0 0)) (vs := ndC n (.slice a4 n.src.length c4)) rfl rfl rfl (nd_one hU) rplA rfl ?_)
 refine hwNB ?_
 refine HL.one (H1.lit (cs := [zv n.id, zv n.kind, zv n.pack, zv (n.src.length : Int)]) rfl rfl rfl rfl rfl rfl (fun b8 => ?_))
 refine hwNB ?_
 refine HL.one (H1.lit (cs := [.slice (some ⟨b8, 0, none⟩) 4 4, .slice a4 n.src.length c4]) rfl rfl rfl rfl rfl rfl (fun b7 => ?_))
 refine hwNB ?_
 refine HL.one (H1.callz (vs := [_]) rfl rfl (fun w' hM => concat_fn (n := 2) (V := fun i => if i = 0 then .slice (some ⟨b8, 0, none⟩) 4 4 else .slice a4 n.src.length c4) (L := fun i => if i = 0 then [n.id, n.kind, n.pack, (n.src.length : Int)] else n.src) (by decide) (by rw [hcat, hll]; omega) (by rw [hcat, hll]; have := hok.len; omega) w' (fun i hi => ?_) (fun i hi => ?_)) ?_)
 ·have hb7 := hM.blk (b := b7) (cs := [.slice (some ⟨b8, 0, none⟩) 4 4, .slice a4 n.src.length c4]) memA
  match i, hi with
  | 0, _ => exact hb7.cell rfl
  | 1, _ => exact hb7.cell rfl
 ·match i, hi with
  | 0, _ => exact Rd.of_blk (hM.blk (b := b8) memA) (Nat.le_refl 4) (Nat.le_refl 4)
  | 1, _ => exact hsrc.ext hM.ext
 rintro ⟨a5, c5⟩ -
 dsimp only
 rw [hcat]
 refine hwNB ?_
 have hnum := hok.num
 generalize hN : leafN n = N at hnum hll
 refine HC.loop (α := Nat) (fun k => [(1, zv (i : Int)), (2, .pointer (some ⟨b1, 0, none⟩)), (6, .string (numsB (N.take k))), (29, .slice a5 N.length c5), (30, zv (N.length : Int)), (31, zv (k : Int))]) (fun _ => [A.grow 3 1 a5 c5 N.length (ints N), A.blk b1 [.slice (some ⟨b, off, none⟩) l.length c, .slice (some ⟨bd, offd, none⟩) D.length c2] 80]) (fun k => k ≤ N.length) (fun k => N.length - k) 0 (Nat.zero_le _) esA (Hs.cons Pick.here (Hs.cons (Pick.there (Pick.there (Pick.there Pick.here))) (Hs.refl _).skip.skip.skip)) ?_
 intro k hk
 have hsz := numsB_size (l := N.take k) fun x hx => (hnum x (List.mem_of_mem_take hx)).2
 have hl8 := hok.len
 rw [List.length_take] at hsz
 by_cases hlt : k < N.length
 rotate_left
 ·have hk' : ¬ ((k : Nat) : Int) < (N.length : Int) := by omega
  obtain rfl : k = N.length := by omega
  rw [List.take_length] at hsz ⊢
  refine hwNB ?_
  refine HL.one (H1.ld0 rfl hdc rfl ?_)
  refine hwNB ?_
  exact HX.ret1 rfl rfl fun w' hM => ⟨by unfold leafB; rw [hN], hM.ext⟩
 have hk' : ((k : Nat) : Int) < (N.length : Int) := by omega
 refine HC.openg (.head _) (by omega) ?_
 rintro b0 rfl
 have hget := ints_getI hlt
 have hx0 := hnum (getI N k) (getI_mem hlt)
 have htk := getI_take hlt
 have hz9 := strN_size (n := (getI N k).toNat) (by omega)
 generalize getI N k = x at hget hx0 htk hz9
 refine hwNB ?_
 refine HL.one (H1.ldg rfl (.head _) hget rfl ?_)
 refine hwNB ?_
 refine HL.one (H1.callx (vs := [zv x]) rfl rfl (fun w' hM => by
  have h1 := putInt_fn x.toNat (by omega) w'
  rw [show ((x.toNat : Nat) : Int) = x by omega] at h1
  exact h1) ?_)
 refine hwNB ?_
 exact HX.again (k + 1) hlt (by show N.length - (k + 1) < N.length - k; omega) (by rw [htk, numsB_snoc]; repeat (first | exact trivial | refine ⟨rfl, ?_⟩)) (Hs.refl _)
end Go.Sx
/- Plain, chapter 24: roots of states; a deletion and its tombstone. -/
namespace Go.Sx
open Go Go.RowKit
def leafP (q : Nd × ByteArray) : ByteArray := leafB q.1 q.2
def rootP (p : List (Nd × ByteArray)) : ByteArray := rootS (p.map leafP)
theorem zip_back (p : List (Nd × ByteArray)) : (ndsP p).zip (digP p) = p := by
 induction p with
 | nil => rfl
 | cons q p ih =>
  show (q.1, q.2) :: (ndsP p).zip (digP p) = q :: p
  rw [ih]
theorem ndsP_len (p : List (Nd × ByteArray)) : (ndsP p).length = p.length := List.length_map ..
theorem digP_len (p : List (Nd × ByteArray)) : (digP p).length = p.length := List.length_map ..
def eqNd (a b : Nd) : Bool := decide (a.id = b.id) && decide (a.kind = b.kind) && decide (a.pack = b.pack) && decide (a.src = b.src)
theorem eqNd_iff {a b : Nd} : eqNd a b = true ↔ a = b := by
 unfold eqNd
 simp only [Bool.and_eq_true, decide_eq_true_eq]
 constructor
 ·rintro ⟨⟨⟨h1, h2⟩, h3⟩, h4⟩
  cases a; cases b
  dsimp only at h1 h2 h3 h4
  rw [h1, h2, h3, h4]
 ·rintro rfl
  exact ⟨⟨⟨rfl, rfl⟩, rfl⟩, rfl⟩
def eqNs : List Nd → List Nd → Bool
 | [], [] => true
 | a :: l, b :: m => eqNd a b && eqNs l m
 | _, _ => false
theorem eqNs_iff : ∀ {l m : List Nd}, eqNs l m = true ↔ l = m
 | [], [] => ⟨fun _ => rfl, fun _ => rfl⟩
 | [], _ :: _ => ⟨(fun h => by cases h), (fun h => by cases h)⟩
 | _ :: _, [] => ⟨(fun h => by cases h), (fun h => by cases h)⟩
 | a :: l, b :: m => by
  show (eqNd a b && eqNs l m) = true ↔ _
  rw [Bool.and_eq_true, eqNd_iff, eqNs_iff, List.cons.injEq]
def chkP (bef aft : ByteArray) (ns : List Int) (ds : List ByteArray) (l : List Nd) (D : List ByteArray) (l2 : List Nd) (D2 : List ByteArray) : Bool :=
 okS l D && okS l2 D2 && decide (ns.length ≠ 0) && decide (bef = rootP (l.zip D)) && decide (aft = rootP (l2.zip D2)) && decide (derA l ns = ns) && decide (digP (prN l D ns true) = ds) && (eqNs (ndsP (prN l D ns false)) l2 && decide (digP (prN l D ns false) = D2))
theorem okS_valid {l : List Nd} {D : List ByteArray} (h : okS l D = true) : ValidP l := validN_iff.1 (okS_facts h).1
theorem okS_of {l : List Nd} {D : List ByteArray} (h : ValidP l) (hl : l.length = D.length) (hd : ∀ d ∈ D, d.size = 32) : okS l D = true := by
 unfold okS
 rw [validN_iff.2 h, decide_eq_true hl, Bool.true_and, Bool.true_and, List.all_eq_true]
 exact fun d hd' => decide_eq_true (hd d hd')
theorem prN_dig {l : List Nd} {D : List ByteArray} {g : List Int} {b : Bool} {d : ByteArray} (h : d ∈ digP (prN l D g b)) : d ∈ D := by
 unfold digP prN at h
 obtain ⟨q, hq, rfl⟩ := List.mem_map.1 h
 exact (List.of_mem_zip (List.mem_filter.1 hq).1).2
theorem left_ok {l : List Nd} {D : List ByteArray} (h : okS l D = true) (p : Nat → Bool) : okS (ndsP (prN l D (derL l p l.length) false)) (digP (prN l D (derL l p l.length) false)) = true := by
 have h1 := okS_facts h
 have hv := okS_valid h
 refine okS_of ?_ (by rw [ndsP_len, digP_len]) fun d hd => h1.2.2 d (prN_dig hd)
 rw [prN_nds h1.2.1]
 exact left_valid hv (derL_isClosed hv p)
theorem lost_idsP {l : List Nd} {D : List ByteArray} (h : okS l D = true) (p : Nat → Bool) : idsN (ndsP (prN l D (derL l p l.length) true)) = srtI (derL l p l.length) := by
 rw [prN_nds (okS_facts h).2.1]
 exact lost_ids (okS_valid h) p
theorem lost_len {l : List Nd} {D : List ByteArray} (h : okS l D = true) (p : Nat → Bool) : (prN l D (derL l p l.length) true).length = (derL l p l.length).length := by
 have := congrArg List.length (lost_idsP h p)
 rwa [srtI_len, idsN, List.length_map, ndsP_len] at this
end Go.Sx
