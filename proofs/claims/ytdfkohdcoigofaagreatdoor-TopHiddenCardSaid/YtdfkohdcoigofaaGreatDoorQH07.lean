/- abstraction.Apply, and awake: the walks. -/
import Derived.Test.YtdfkohdcoigofaaGreatDoorQH06
import Derived.Shelf.SlGeneric
import Derived.Shelf.SlSortCmp.NoneTotal
import Derived.Ground.SlsfProg
import Derived.Test.YtdfkohdcoigofaaGreatDoorProg
namespace Go.Sx
open Go Go.Proofs Go.RowKit
theorem hwF9 {G G2 : Prop} (x : G2) (hwq : Hold G2 → G := by
    intro hQq
    repeat' (first | refine HL.pa ?_ (POp.seqY rfl rfl rfl) | refine HL.pa ?_ (POp.nilCheck rfl) | apply HL.fold | apply HA.fold | apply HL.nil | apply HX.n_then | apply HC.seq | apply HC.region | refine HL.pa ?_ | refine HL.ga rfl ?_ | refine HL.na rfl ?_ | refine HL.nu rfl rfl ?_ | apply HC.block | apply HC.skip | apply HC.exit | apply HC.ret | apply HX.e_block | refine HX.e_other rfl ?_ | apply HX.e_then | apply HX.e_again | apply HX.n_block | apply HX.r_then | apply HX.r_block | apply HX.r_again | refine HC.cond_yes rfl ?_ | refine HC.cond_no rfl ?_ | refine HL.one (H1.ldb rfl memA rfl rfl ?_) | refine HC.cond rfl (fun hc => ?_) (fun hc => ?_) | refine HC.cond_b rfl (fun hc => ?_) (fun hc => ?_))
    exact hQq.get) : G := hwq ⟨x⟩
theorem POp.seqY {P : Program} {N : Nat} {ds : List Deferred} {E : Env} {x y : Operand} {t t' ty : TypeId} {s u : ByteArray} [UTy P t .string] (hx : Env.ev E x = some (.string s)) (hy : Env.ev E y = some (.string u)) (h : s = u) : POp P N ds E (.binOp .eql t x y t') ty (.bool true) := by
  rw [← decide_eq_true h]
  exact POp.seql hx hy
/-- A code that does not panic. -/
def NPost (Q : Post) : Post := fun e a w => match e with
  | .panic _ => False
  | e => Q e a w
instance {Q : Post} : QPanic (NPost Q) := ⟨fun _ _ _ _ _ h => h⟩
section
variable {P : Program} {r : Option Nat} {N : Nat} {ds : List Deferred} {Q : Post} {E : Env} {w0 : World} {H : List Atom} {c : Code}
theorem HC.np (h : HC P r N ds c (NPost Q) E w0 H) : HC P r N ds c Q E w0 H := fun w hM a ha => wpIn_mono (h w hM a ha) fun e a w h => by
  cases e <;> first | exact h | exact h.elim
theorem HX.np_r (h : HX N ds .ret Q E w0 H) : HX N ds .ret (NPost Q) E w0 H := h
end
attribute [local irreducible] WC WL WX POp Then Again Fn NX W1 WA WO QL RP RA Yld LoopAt HC HL HX HN H1 HA HO HQ HB HP A.blk A.grow A.rd A.obj A.mp AgainH CutH
attribute [local irreducible] A.mq A.mit NPost
set_option maxHeartbeats 4000000 in
theorem apply_fn (v : Value) (w : World) (hR : RdK w v 1 2 fun _ => [zv 1, zv 0]) : Fn Tryz.prog 25 #[zv 1, v, .string xpB] w fun u w' => u = .tuple #[.string xpb, zv 0] ∧ Ext w w' := by
  obtain ⟨av, cv, rfl, -, -⟩ := id hR
  obtain ⟨bs, offs, rfl, hb⟩ := hR.cell (show 0 < 1 by decide)
  have hx := hb 0 (by decide)
  unfold Fn
  refine enterD (l := [_, _, _]) (Mm.refl w) rfl Tryz.ntmps25 rfl ?_
  refine HC.np ?_
  refine hwF9 ?_
  refine HL.one (H1.alloc (cs := [.string ⟨#[]⟩]) rfl rfl (fun b6 => ?_))
  refine hwF9 ?_
  refine HL.one (H1.alloc (cs := [zv 0]) rfl rfl (fun b7 => ?_))
  refine hwF9 ?_
  refine HL.deferA (vs := [.pointer (some ⟨b6, 0, none⟩), .pointer (some ⟨b7, 0, none⟩)]) rfl ?_
  refine hwF9 ?_
  refine HL.one (H1.callx (vs := [_, _]) rfl rfl (fun w' hM => avalid_fn _ w' (hR.ext hM.ext)) ?_)
  refine hwF9 ?_
  refine HL.one (H1.callx (vs := [_]) rfl rfl (fun w' _ => amust_yes w') ?_)
  refine hwF9 ?_
  refine HL.one (H1.callz (vs := [_, _]) rfl rfl (fun w' _ => aread_fn w') ?_)
  rintro ⟨bz, cz⟩ -
  dsimp only
  refine hwF9 ?_
  refine HL.one (H1.alloc (cs := avZ) rfl rfl (fun b8 => ?_))
  refine hwF9 ?_
  refine HL.one (H1.stAgg (b := b8) (cs := avZ) (vs := vL 1 (some ⟨bz, 0, none⟩) cz) rfl rfl rfl vL_one rplA rfl ?_)
  refine hwF9 ?_
  refine HL.one (H1.callz (vs := []) rfl rfl (fun w' _ => kinds_fn w') ?_)
  rintro ⟨s, e, R⟩ ⟨hR1, hR2⟩
  dsimp only at hR1 hR2 ⊢
  refine hwF9 ?_
  refine HL.one (H1.alloc (cs := [.slice none 0 0, .nilFunc, .nilFunc, .slice none 0 0, .nilFunc, .nilFunc, .slice none 0 0, .nilFunc, .nilFunc, .slice none 0 0, .nilFunc, .nilFunc, .slice none 0 0, .nilFunc, .nilFunc, .slice none 0 0, .nilFunc, .nilFunc, .slice none 0 0, .nilFunc, .nilFunc]) rfl rfl (fun b9 => ?_))
  refine hwF9 ?_
  refine HL.one (H1.stAgg (b := b9) (cs := [.slice none 0 0, .nilFunc, .nilFunc, .slice none 0 0, .nilFunc, .nilFunc, .slice none 0 0, .nilFunc, .nilFunc, .slice none 0 0, .nilFunc, .nilFunc, .slice none 0 0, .nilFunc, .nilFunc, .slice none 0 0, .nilFunc, .nilFunc, .slice none 0 0, .nilFunc, .nilFunc]) (vs := kC s e R) rfl rfl (kC_len hR1) (kC_one hR2) rplA (kC_len hR1) ?_)
  refine hwF9 ?_
  refine HC.loop (α := Nat) (fun k => [(0, zv 1), (6, .pointer (some ⟨b6, 0, none⟩)), (7, .pointer (some ⟨b7, 0, none⟩)), (8, .pointer (some ⟨b8, 0, none⟩)), (9, .pointer (some ⟨b9, 0, none⟩)), (20, .slice (some ⟨bs, offs, none⟩) 1 cv), (21, zv 1), (22, zv (k : Int))])
    (fun k => A.grow 215 2 (some ⟨bz, 0, none⟩) cz 1 (lnS (xqN k)) :: A.blk b8 (vL 1 (some ⟨bz, 0, none⟩) cz) 160 :: A.blk e [.func (.func 140) #[] #[]] 218 :: A.blk b9 (kC s e R) 166 :: A.blk b7 [zv 0] 57 :: A.blk b6 [.string ⟨#[]⟩] 9 :: []) (fun k => k ≤ 1) (fun k => 1 - k) 0 (Nat.zero_le _) esA (by repeat (first | exact Hs.nil _ | (refine Hs.cons pickA ?_))) ?_
  intro k hk
  by_cases h0 : k = 0
  · subst h0
    unfold vL
    refine hwF9 ?_
    refine HL.one (H1.ldAggw (b := bs) (off := offs + 0 * 2) (vs := [zv 1, zv 0]) rfl rfl (fun w' hM i u hu => cell_ext hM.ext (hx i u hu)) rfl ?_)
    refine hwF9 ?_
    refine HL.one (H1.alloc (cs := [zv 0, zv 0]) rfl rfl (fun b11 => ?_))
    refine hwF9 ?_
    refine HL.one (H1.stAgg (b := b11) (cs := [zv 0, zv 0]) (vs := [zv 1, zv 0]) rfl rfl rfl (by intro v hv; simp only [List.mem_cons, List.not_mem_nil, or_false] at hv; rcases hv with rfl | rfl <;> rfl) rplA rfl ?_)
    refine hwF9 ?_
    refine HC.anyC ([(⟨b11, 0, none⟩, zv 1), (⟨b11, 1, none⟩, zv 0), (⟨b9, 5, none⟩, .func (.func 208) #[] #[.pointer (some ⟨e, 0, none⟩)])]) rfl ?_
    refine HB.pa 0 rfl ?_
    refine HB.ld 1 rfl rfl memD ?_
    refine HB.pa 2 rfl ?_
    refine HB.pa 3 rfl ?_
    refine HB.ld 4 rfl rfl memD ?_
    refine HB.pa 5 rfl ?_
    refine HB.ld 6 rfl rfl memD ?_
    refine HB.all (by repeat (first | exact Keep.nil | refine Keep.blk (by (repeat (first | exact List.Mem.head _ | apply List.Mem.tail)); done) rfl ?_ | refine Keep.grow (by (repeat (first | exact List.Mem.head _ | apply List.Mem.tail)); done) (by assumption) ?_ | refine Keep.base (by assumption) ?_)) [7] (by kernel_rfl) rfl ⟨⟨_, rfl, ?_⟩, trivial⟩
    refine HP.one ?_
    refine H1.callvk (α := Unit) (V := fun _ => .tuple #[]) (I := fun _ => True) (H' := fun _ => A.grow 215 2 (some ⟨bz, 0, none⟩) cz 1 (lnS xpab) :: A.blk b8 (vL 1 (some ⟨bz, 0, none⟩) cz) 160 :: A.blk e [.func (.func 140) #[] #[]] 218 :: A.blk b11 [zv 1, zv 0] 79 :: A.blk b9 (kC s e R) 166 :: A.blk b7 [zv 0] 57 :: A.blk b6 [.string ⟨#[]⟩] 9 :: []) (cap := [.pointer (some ⟨e, 0, none⟩)]) (vs := [.pointer (some ⟨b8, 0, none⟩), zv 0]) rfl rfl rfl (fun w' hM => (each1_fn (hM.sub (Hs.cons (Pick.there Pick.here) (Hs.cons (Pick.there Pick.here) (Hs.cons (Pick.there Pick.here) (Hs.cons Pick.here (Hs.refl _))))))).mono fun u w'' h => ⟨(), trivial, h.1, h.2⟩) ?_
    rintro - -
    apply HB.fold
    refine HB.done (by repeat (first | exact Keep.nil | refine Keep.blk (by (repeat (first | exact List.Mem.head _ | apply List.Mem.tail)); done) rfl ?_ | refine Keep.grow (by (repeat (first | exact List.Mem.head _ | apply List.Mem.tail)); done) (by assumption) ?_ | refine Keep.base (by assumption) ?_)) (by kernel_rfl) ?_
    refine hwF9 ?_
    exact HX.again 1 (Nat.le_refl _) (by show 1 - 1 < 1 - 0; decide) esA (by repeat (first | exact Hs.nil _ | (refine Hs.cons pickA ?_)))
  · obtain rfl : k = 1 := by omega
    unfold vL
    refine hwF9 ?_
    refine HL.one (H1.ldAgg (b := b8) (vs := vL 1 (some ⟨bz, 0, none⟩) cz) rfl memA rfl (fun i v hv => by rw [Nat.zero_add]; exact hv) rfl ?_)
    refine hwF9 ?_
    refine HL.one (H1.callx (u := .string xpb) (vs := [.agg #[.bool false, .slice (some ⟨bz, 0, none⟩) 1 cz, zv 0, zv 0, .string ⟨#[]⟩], zv 1]) rfl rfl (fun w' hM => awrite_fn _ w' (RdK.of_grow (xs := lnS xpab) hM (.head _))) ?_)
    refine hwF9 ?_
    refine HL.one (H1.st rfl rfl (by intro _ h; cases h) (by intro _ h; cases h) rplA (by exact Nat.zero_lt_one) ?_)
    refine hwF9 ?_
    refine HL.one (H1.st rfl rfl (by intro _ h; cases h) (by intro _ h; cases h) rplA (by exact Nat.zero_lt_one) ?_)
    refine hwF9 ?_
    refine HX.np_r ?_
    refine HX.doorA (u' := .returning) (R' := fun w w' => Ext w w') rfl (fun w hM => caught_no b6 b7) fun w1 w2 hM hx a ha => ?_
    have hM2 := hM.more hx
    exact ⟨.tuple #[.string xpb, zv 0], res_cellsT rfl ha rfl rfl ((hM2.blk (b := b6) (e := 9) memA).cell rfl) ((hM2.blk (b := b7) (e := 57) memA).cell rfl), _, rfl, rfl, hM2.ext⟩
def d4 (a b : Value) : List Value := [a, b, zv 0, .string ⟨#[]⟩]
theorem d4_one {a b : Value} (h1 : a.oneCell' = true) (h2 : b.oneCell' = true) : ∀ v ∈ d4 a b, v.oneCell' = true := by
  intro v hv
  simp only [d4, List.mem_cons, List.not_mem_nil, or_false] at hv
  rcases hv with rfl | rfl | rfl | rfl
  · exact h1
  · exact h2
  · rfl
  · rfl
set_option maxHeartbeats 4000000 in
theorem awake_fn (w : World) : Fn Tryz.prog 5 #[] w fun u w' => u = .bool true ∧ Ext w w' := by
  refine enterH (l := []) rfl Tryz.ntmps5 rfl ?_
  refine hwF9 ?_
  refine HL.build (cs := lnC (xpL 0)) rfl rfl rfl ?_
  refine hwF9 ?_
  refine HL.one (H1.lit (cs := lnC (xpL 0)) rfl rfl rfl rfl rfl rfl (fun b9 => ?_))
  refine hwF9 ?_
  refine HL.build (cs := clC (xpC 0)) rfl rfl rfl ?_
  refine hwF9 ?_
  refine HL.build (cs := clC (xpC 1)) rfl rfl rfl ?_
  refine hwF9 ?_
  refine HL.build (cs := clC (xpC 2)) rfl rfl rfl ?_
  refine hwF9 ?_
  refine HL.one (H1.lit (cs := clC (xpC 0) ++ clC (xpC 1) ++ clC (xpC 2)) rfl rfl rfl rfl rfl rfl (fun b13 => ?_))
  refine hwF9 ?_
  refine HL.build (cs := d4 (.slice (some ⟨b9, 0, none⟩) 1 1) (.slice (some ⟨b13, 0, none⟩) 3 3)) rfl rfl rfl ?_
  refine hwF9 ?_
  refine HL.one (H1.alloc (cs := d4 (.slice none 0 0) (.slice none 0 0)) rfl rfl (fun b1 => ?_))
  refine hwF9 ?_
  refine HL.one (H1.stAgg (b := b1) (cs := d4 (.slice none 0 0) (.slice none 0 0)) (vs := d4 (.slice (some ⟨b9, 0, none⟩) 1 1) (.slice (some ⟨b13, 0, none⟩) 3 3)) rfl rfl rfl (d4_one rfl rfl) rplA rfl ?_)
  have hL : ∀ w', Mm w [A.blk b1 (d4 (.slice (some ⟨b9, 0, none⟩) 1 1) (.slice (some ⟨b13, 0, none⟩) 3 3)) 54, A.blk b13 (clC (xpC 0) ++ clC (xpC 1) ++ clC (xpC 2)) 72, A.blk b9 (lnC (xpL 0)) 66] w' → RdK w' (.slice (some ⟨b9, 0, none⟩) 1 1) 1 2 fun i => lnC (xpL i) := fun w' hM =>
    RdK.of_blk (hM.blk (.tail _ (.tail _ (.head _)))) fun i hi j u hu => by
      obtain rfl : i = 0 := by omega
      rw [Nat.zero_mul, Nat.zero_add]; exact hu
  have hC : ∀ w', Mm w [A.blk b1 (d4 (.slice (some ⟨b9, 0, none⟩) 1 1) (.slice (some ⟨b13, 0, none⟩) 3 3)) 54, A.blk b13 (clC (xpC 0) ++ clC (xpC 1) ++ clC (xpC 2)) 72, A.blk b9 (lnC (xpL 0)) 66] w' → RdK w' (.slice (some ⟨b13, 0, none⟩) 3 3) 3 6 fun i => clC (xpC i) := fun w' hM =>
    RdK.of_blk (hM.blk (.tail _ (.head _))) fun i hi j u hu => by
      have hj : j < 6 := by
        have := (List.getElem?_eq_some_iff.1 hu).1
        simpa [clC] using this
      match i, hi with
      | 0, _ => rw [Nat.zero_mul, Nat.zero_add, List.append_assoc, List.getElem?_append_left (by simpa [clC] using hj)]; exact hu
      | 1, _ =>
        rw [List.append_assoc, List.getElem?_append_right (by simp [clC]), List.getElem?_append_left (by simp [clC]; omega)]
        have : 1 * 6 + j - (clC (xpC 0)).length = j := by simp [clC]
        rw [this]; exact hu
      | 2, _ =>
        rw [List.getElem?_append_right (by simp [clC])]
        have : 2 * 6 + j - (clC (xpC 0) ++ clC (xpC 1)).length = j := by simp [clC]
        rw [this]; exact hu
      | n + 3, h => omega
  refine hwF9 ?_
  refine HL.one (H1.ldAgg (b := b1) (vs := d4 (.slice (some ⟨b9, 0, none⟩) 1 1) (.slice (some ⟨b13, 0, none⟩) 3 3)) rfl memA rfl (fun i v hv => by rw [Nat.zero_add]; exact hv) rfl ?_)
  refine hwF9 ?_
  refine HL.one (H1.callx (u := .tuple #[zv 12, .bool true]) (vs := [_, _, _]) rfl rfl (fun w' hM => cvalue_fn _ _ w' (hL w' hM) (hC w' hM)) ?_)
  refine hwF9 ?_
  refine HL.one (H1.ldAgg (b := b1) (vs := d4 (.slice (some ⟨b9, 0, none⟩) 1 1) (.slice (some ⟨b13, 0, none⟩) 3 3)) rfl memA rfl (fun i v hv => by rw [Nat.zero_add]; exact hv) rfl ?_)
  refine hwF9 ?_
  refine HL.one (H1.callx (u := .tuple #[.string xpB, zv 0]) (vs := [_, _]) rfl rfl (fun w' hM => cprop_fn _ _ w' (hL w' hM) (hC w' hM)) ?_)
  refine hwF9 ?_
  refine HL.build (cs := [zv 1, zv 0]) rfl rfl rfl ?_
  refine hwF9 ?_
  refine HL.one (H1.lit (cs := [zv 1, zv 0]) rfl rfl rfl rfl rfl rfl (fun b27 => ?_))
  refine hwF9 ?_
  refine HL.one (H1.callx (u := .tuple #[.string xpb, zv 0]) (vs := [_, _, _]) rfl rfl (fun w' hM => apply_fn _ w' (RdK.of_blk (hM.blk (b := b27) (cs := [zv 1, zv 0]) memA) fun i hi j u hu => by
    obtain rfl : i = 0 := by omega
    rw [Nat.zero_mul, Nat.zero_add]; exact hu)) ?_)
  refine hwF9 ?_
  exact HX.ret1 rfl rfl fun w' hM => ⟨rfl, hM.ext⟩
end Go.Sx
/- Chapter 20: Key, Encode. -/
namespace Go.Sx
open Go Go.Proofs Go.RowKit
theorem hwXK {G G2 : Prop} (x : G2) (hwq : Hold G2 → G := by
    intro hQq
    repeat' (first | refine HL.pa ?_ (POp.fnil0 rfl rfl) | refine HL.pa ?_ (POp.fnil1 rfl rfl) | refine HL.pa ?_ (POp.nilCheck rfl) | apply HL.fold | apply HA.fold | apply HL.nil | apply HX.n_then | apply HC.seq | apply HC.region | refine HL.pa ?_ | refine HL.ga rfl ?_ | refine HL.na rfl ?_ | refine HL.nu rfl rfl ?_ | apply HC.block | apply HC.skip | apply HC.exit | apply HC.ret | apply HX.e_block | refine HX.e_other rfl ?_ | apply HX.e_then | apply HX.e_again | apply HX.n_block | apply HX.r_then | apply HX.r_block | apply HX.r_again | refine HC.cond_yes rfl ?_ | refine HC.cond_no rfl ?_ | refine HL.one (H1.ldb rfl memA rfl rfl ?_) | refine HC.cond rfl (fun hc => ?_) (fun hc => ?_) | refine HC.cond_b rfl (fun hc => ?_) (fun hc => ?_))
    exact hQq.get) : G := hwq ⟨x⟩
noncomputable def keyS (r : Rc) : ByteArray := if validB r = true then ⟨(keyR r).toArray⟩ else ⟨#[]⟩
noncomputable def encS (r : Rc) : ByteArray := if validB r = true then ⟨(encR r).toArray⟩ else ⟨#[]⟩
theorem keyF_ok (k : Int) : keyF k < 10 ∧ keyF k ≠ 8 := by
  unfold keyF
  repeat' split
  all_goals decide
theorem key_field {k : Int} (h : 1 ≤ k ∧ k ≤ 8) : (keyF k, 1, 1000000) ∈ specF k := by
  rcases (show k = 1 ∨ k = 2 ∨ k = 3 ∨ k = 4 ∨ k = 5 ∨ k = 6 ∨ k = 7 ∨ k = 8 by omega) with rfl | rfl | rfl | rfl | rfl | rfl | rfl | rfl <;> decide
theorem num_lim {r : Rc} (h : ValidR r) : 1 ≤ r.get (keyF r.kind) ∧ r.get (keyF r.kind) ≤ 1000000 := h.lim _ (key_field h.kind)
theorem keyR_put (r : Rc) : [] ++ putL [r.kind, r.get (keyF r.kind)] = keyR r := by
  unfold putL keyR
  simp
theorem putN_ne (n : Nat) : 0 < (putN n).length := vint_pos _
theorem keyR_ne (r : Rc) : keyR r ≠ [] := fun e => by
  have h1 := putN_ne r.kind.toNat
  have h2 := congrArg List.length e
  unfold keyR at h2
  rw [List.length_append, List.length_nil] at h2
  omega
theorem shapeC_one (z : Option Addr × Nat) (k : Int) : ∀ v ∈ shapeC z k, v.oneCell' = true := by
  unfold shapeC; intro v hv; simp only [List.mem_cons, List.not_mem_nil, or_false] at hv; rcases hv with rfl | rfl | rfl | rfl | rfl <;> rfl
attribute [local irreducible] WC WL WX POp Then Again Fn NX W1 WA WO QL RP RA Yld LoopAt HC HL HX HN H1 HA HO HQ HB HP A.blk A.grow A.rd A.obj A.mp AgainH CutH
attribute [local irreducible] specF keyF
set_option maxHeartbeats 2000000 in
theorem key_fn (r : Rc) (hr : RcOk r) (w : World) : Fn Tryz.prog 76 #[recV r] w fun v w' => v = .string (keyS r) ∧ Ext w w' := by
  refine enterH (l := [_]) rfl Tryz.ntmps76 rfl ?_
  refine hwXK ?_
  refine HL.one (H1.boxAgg (cs := rcells r) rfl rfl (fun b1 => ?_))
  refine hwXK ?_
  refine HL.one (H1.ldAgg (vs := rcells r) rfl memA rfl (fun i v hv => by rw [Nat.zero_add]; exact hv) rfl ?_)
  refine hwXK ?_
  refine HL.one (H1.callx (vs := [recV r]) rfl rfl (fun w' _ => valid_fn r hr w') ?_)
  by_cases hv : ValidR r
  rotate_left
  · rw [validB_no hv]
    refine hwXK ?_
    exact HX.ret1 rfl rfl fun w' hM => ⟨by unfold keyS; rw [validB_no hv]; rfl, hM.ext⟩
  rw [validB_yes hv]
  refine hwXK ?_
  refine HL.one (H1.callz1 (vs := [zv r.kind]) rfl rfl (fun w' _ => shapeOf_fn r.kind hv.kind w') ?_)
  rintro ⟨a, c⟩ -
  refine hwXK ?_
  refine HL.one (H1.alloc (cs := [.slice none 0 0, .nilFunc, zv 0, zv 0, .nilFunc]) rfl rfl (fun b3 => ?_))
  refine hwXK ?_
  refine HL.one (H1.stAgg (cs := [.slice none 0 0, .nilFunc, zv 0, zv 0, .nilFunc]) (vs := shapeC (a, c) r.kind) rfl rfl rfl (shapeC_one _ _) rplA rfl ?_)
  simp only [shapeC]
  refine hwXK ?_
  refine HL.one (H1.alloc (cs := [.pointer none, .slice none 0 0]) rfl rfl (fun b5 => ?_))
  refine hwXK ?_
  refine HC.grow0 5 1 ?_
  have hkf := keyF_ok r.kind
  have hnum := num_lim hv
  have hkind := hv.kind
  have hkR := keyR_put r
  obtain ⟨go, hgf⟩ := getter_ok hkf.1 hkf.2
  have hcell := cells_get r hkf.1 hkf.2
  have hok : ∀ x ∈ [r.kind, r.get (keyF r.kind)], 0 ≤ x ∧ x ≤ 1099511627776 := by
    intro x hx
    simp only [List.mem_cons, List.not_mem_nil, or_false] at hx
    rcases hx with rfl | rfl <;> omega
  refine HC.anyC ([(⟨b1, 0, none⟩, zv r.kind), (⟨b3, 1, none⟩, fnV (fid (keyF r.kind)))]) rfl ?_
  refine HB.pa 0 rfl ?_
  refine HB.ld 1 rfl rfl memD ?_
  refine HB.pa 2 rfl ?_
  refine HB.pa 3 rfl ?_
  refine HB.ld 4 rfl rfl memD ?_
  refine HB.all (by repeat (first | exact Keep.nil | refine Keep.blk (by (repeat (first | exact List.Mem.head _ | apply List.Mem.tail)); done) rfl ?_ | refine Keep.grow (by (repeat (first | exact List.Mem.head _ | apply List.Mem.tail)); done) (by assumption) ?_ | refine Keep.base (by assumption) ?_)) [5] (by kernel_rfl) rfl ⟨⟨_, rfl, ?_⟩, trivial⟩
  refine HP.one ?_
  refine H1.callv0 (hf := go) (f := fid (keyF r.kind)) (cap := []) (vs := [.pointer (some ⟨b1, 0, none⟩)]) rfl rfl rfl (fun w' _ => call1w (hgf b1 w')) ?_
  apply HB.fold
  refine HB.pa 6 rfl ?_ (POp.nilCheck rfl)
  refine HB.all (by repeat (first | exact Keep.nil | refine Keep.blk (by (repeat (first | exact List.Mem.head _ | apply List.Mem.tail)); done) rfl ?_ | refine Keep.grow (by (repeat (first | exact List.Mem.head _ | apply List.Mem.tail)); done) (by assumption) ?_ | refine Keep.base (by assumption) ?_)) [7] (by kernel_rfl) rfl ⟨⟨_, rfl, ?_⟩, trivial⟩
  refine HP.one ?_
  refine H1.ldb (v := zv (r.get (keyF r.kind))) rfl memA hcell rfl ?_
  apply HB.fold
  refine HB.all (by repeat (first | exact Keep.nil | refine Keep.blk (by (repeat (first | exact List.Mem.head _ | apply List.Mem.tail)); done) rfl ?_ | refine Keep.grow (by (repeat (first | exact List.Mem.head _ | apply List.Mem.tail)); done) (by assumption) ?_ | refine Keep.base (by assumption) ?_)) [8] (by kernel_rfl) rfl ⟨⟨_, rfl, ?_⟩, trivial⟩
  refine HP.one ?_
  refine H1.lit (cs := [zv r.kind, zv (r.get (keyF r.kind))]) rfl rfl rfl rfl rfl rfl (fun b8 => ?_)
  apply HB.fold
  refine HB.all (by repeat (first | exact Keep.nil | refine Keep.blk (by (repeat (first | exact List.Mem.head _ | apply List.Mem.tail)); done) rfl ?_ | refine Keep.grow (by (repeat (first | exact List.Mem.head _ | apply List.Mem.tail)); done) (by assumption) ?_ | refine Keep.base (by assumption) ?_)) [9] (by kernel_rfl) rfl ⟨⟨_, rfl, ?_⟩, trivial⟩
  refine HP.one ?_
  refine H1.callk (α := Option Addr × Option Addr × Nat) (V := fun _ => .tuple #[]) (I := fun q => q.1 = none ∨ q.1 = some ⟨b5, 0, none⟩) (H' := fun q => bldH b5 q.1 q.2.1 q.2.2 ([] ++ putL [r.kind, r.get (keyF r.kind)]) [A.blk b3 [.slice a (specF r.kind).length c, fnV (fid (keyF r.kind)), zv 1, zv 1000000, fnV (rid r.kind)] 227, A.blk b1 (rcells r) 36]) (vs := [.pointer (some ⟨b5, 0, none⟩), .slice (some ⟨b8, 0, none⟩) 2 2]) rfl rfl (fun w' hM => put_fn (ys := []) (p := none) (a := none) (c := 0) [r.kind, r.get (keyF r.kind)] (hM.sub (by show Hs _ [A.blk b5 [.pointer none, .slice none 0 0] 232, A.grow 5 1 none 0 0 [], A.blk b8 [zv r.kind, zv (r.get (keyF r.kind))] 3, A.blk b3 _ _, A.blk b1 _ _]; repeat (first | exact Hs.nil _ | (refine Hs.cons pickA ?_)))) (.inl rfl) hok (by show 0 + 9 * 2 ≤ 1000000; decide)) ?_
  rintro ⟨p', a', c'⟩ hp'
  rw [hkR]
  apply HB.fold
  refine HB.done (by repeat (first | exact Keep.nil | refine Keep.blk (by (repeat (first | exact List.Mem.head _ | apply List.Mem.tail)); done) rfl ?_ | refine Keep.grow (by (repeat (first | exact List.Mem.head _ | apply List.Mem.tail)); done) (by assumption) ?_ | refine Keep.base (by assumption) ?_)) (by kernel_rfl) ?_
  refine hwXK ?_
  refine HL.one (H1.callk (α := Unit) (V := fun _ => .string ⟨(keyR r).toArray⟩) (I := fun _ => True) (H' := fun _ => []) (vs := [.pointer (some ⟨b5, 0, none⟩)]) rfl rfl (fun w' hM => (builderString_fn (hM.sub (Hs.cons Pick.here (Hs.cons Pick.here (Hs.nil _)))) (keyR_ne r)).mono fun v w' h => ⟨(), trivial, h⟩) ?_)
  rintro - -
  refine hwXK ?_
  exact HX.ret1 rfl rfl fun w' hM => ⟨by unfold keyS; rw [validB_yes hv]; rfl, hM.ext⟩
end Go.Sx
/- Chapter 20: Encode. -/
namespace Go.Sx
open Go Go.Proofs Go.RowKit
theorem hwXL {G G2 : Prop} (x : G2) (hwq : Hold G2 → G := by
    intro hQq
    repeat' (first | refine HL.pa ?_ (POp.fnil0 rfl rfl) | refine HL.pa ?_ (POp.fnil1 rfl rfl) | refine HL.pa ?_ (POp.nilCheck rfl) | apply HL.fold | apply HA.fold | apply HL.nil | apply HX.n_then | apply HC.seq | apply HC.region | refine HL.pa ?_ | refine HL.ga rfl ?_ | refine HL.na rfl ?_ | refine HL.nu rfl rfl ?_ | apply HC.block | apply HC.skip | apply HC.exit | apply HC.ret | apply HX.e_block | refine HX.e_other rfl ?_ | apply HX.e_then | apply HX.e_again | apply HX.n_block | apply HX.r_then | apply HX.r_block | apply HX.r_again | refine HC.cond_yes rfl ?_ | refine HC.cond_no rfl ?_ | refine HL.one (H1.ldb rfl memA rfl rfl ?_) | refine HC.cond rfl (fun hc => ?_) (fun hc => ?_) | refine HC.cond_b rfl (fun hc => ?_) (fun hc => ?_))
    exact hQq.get) : G := hwq ⟨x⟩
def headL (r : Rc) : List Int := [r.kind, r.version, r.day, b01 r.gone]
def fldL (r : Rc) (l : List (Nat × Int × Int)) : List Int := l.map fun p => r.get p.1
theorem putL_app (l m : List Int) : putL (l ++ m) = putL l ++ putL m := by unfold putL; rw [List.map_append, List.flatten_append]
theorem encR_put (r : Rc) : encR r = putL (headL r) ++ putL (fldL r (specF r.kind)) ++ putN r.text.size ++ r.text.data.toList := by
  unfold encR encF headL fldL putL
  simp only [List.map_cons, List.map_nil, List.flatten_cons, List.flatten_nil, List.map_map, List.append_assoc]
  rfl
theorem encR_ne (r : Rc) : encR r ≠ [] := fun e => by
  have h1 := putN_ne r.kind.toNat
  have h2 := congrArg List.length e
  unfold encR at h2
  rw [List.length_append, List.length_nil] at h2
  omega
theorem b01_lim (b : Bool) : 0 ≤ b01 b ∧ b01 b ≤ 1 := by cases b <;> decide
theorem headL_ok {r : Rc} (h : ValidR r) : ∀ x ∈ headL r, 0 ≤ x ∧ x ≤ 1099511627776 := by
  intro x hx
  have h1 := h.kind
  have h2 := h.ver
  have h3 := h.day
  have h4 := b01_lim r.gone
  simp only [headL, List.mem_cons, List.not_mem_nil, or_false] at hx
  rcases hx with rfl | rfl | rfl | rfl <;> omega
theorem fldL_ok {r : Rc} (h : ValidR r) : ∀ p ∈ specF r.kind, 0 ≤ r.get p.1 ∧ r.get p.1 ≤ 1099511627776 := fun p hp => by
  have h1 := h.lim p hp
  have h2 := spec_hi hp
  have h3 := (spec_lo hp).1
  omega
attribute [local irreducible] WC WL WX POp Then Again Fn NX W1 WA WO QL RP RA Yld LoopAt HC HL HX HN H1 HA HO HQ HB HP A.blk A.grow A.rd A.obj A.mp AgainH CutH
attribute [local irreducible] specF keyF
set_option maxHeartbeats 4000000 in
theorem encode_fn (r : Rc) (hr : RcOk r) (w : World) : Fn Tryz.prog 153 #[recV r] w fun v w' => v = .tuple #[.string (encS r), zv (if validB r = true then 0 else 200)] ∧ Ext w w' := by
  refine enterH (l := [_]) rfl Tryz.ntmps153 rfl ?_
  refine hwXL ?_
  refine HL.one (H1.boxAgg (cs := rcells r) rfl rfl (fun b1 => ?_))
  refine hwXL ?_
  refine HL.one (H1.ldAgg (vs := rcells r) rfl memA rfl (fun i v hv => by rw [Nat.zero_add]; exact hv) rfl ?_)
  refine hwXL ?_
  refine HL.one (H1.callx (vs := [recV r]) rfl rfl (fun w' _ => valid_fn r hr w') ?_)
  by_cases hv : ValidR r
  rotate_left
  · rw [validB_no hv]
    refine hwXL ?_
    exact HX.ret2 rfl rfl rfl fun w' hM => ⟨by unfold encS; rw [validB_no hv]; rfl, hM.ext⟩
  rw [validB_yes hv]
  refine hwXL ?_
  refine HL.one (H1.callz1 (vs := [zv r.kind]) rfl rfl (fun w' _ => shapeOf_fn r.kind hv.kind w') ?_)
  rintro ⟨a, c⟩ -
  have hlen := spec_len r.kind
  have hpos := spec_pos hv.kind
  refine hwXL ?_
  refine HL.openg (e := 225) (a := a) (xs := fcl (specF r.kind)) memA (by omega) ?_
  rintro bz rfl
  refine HL.one (H1.alloc (cs := [.slice none 0 0, .nilFunc, zv 0, zv 0, .nilFunc]) rfl rfl (fun b4 => ?_))
  refine hwXL ?_
  refine HL.one (H1.stAgg (cs := [.slice none 0 0, .nilFunc, zv 0, zv 0, .nilFunc]) (vs := shapeC (some ⟨bz, 0, none⟩, c) r.kind) rfl rfl rfl (shapeC_one _ _) rplA rfl ?_)
  simp only [shapeC]
  refine hwXL ?_
  refine HL.one (H1.alloc (cs := [.pointer none, .slice none 0 0]) rfl rfl (fun b6 => ?_))
  refine hwXL ?_
  refine HC.grow0 5 1 ?_
  have hhl := headL_ok hv
  have hfl := fldL_ok hv
  have hhz := putL_len hhl
  have hhz' : (headL r).length = 4 := rfl
  refine HC.cut (α := Option Addr × Option Addr × Nat) (fun q => [(1, .pointer (some ⟨b1, 0, none⟩)), (4, .pointer (some ⟨b4, 0, none⟩)), (6, .pointer (some ⟨b6, 0, none⟩))])
    (fun q => bldH b6 q.1 q.2.1 q.2.2 (putL (headL r)) [A.blk b4 [.slice (some ⟨bz, 0, none⟩) (specF r.kind).length c, fnV (fid (keyF r.kind)), zv 1, zv 1000000, fnV (rid r.kind)] 227, A.grow 225 3 (some ⟨bz, 0, none⟩) c (specF r.kind).length (fcl (specF r.kind)), A.blk b1 (rcells r) 36]) (fun q => q.1 = none ∨ q.1 = some ⟨b6, 0, none⟩) ?_ ?_
  · refine HC.anyC ([(⟨b1, 0, none⟩, zv r.kind), (⟨b1, 2, none⟩, zv r.version), (⟨b1, 3, none⟩, zv r.day), (⟨b1, 4, none⟩, .bool r.gone)]) rfl ?_
    refine HB.pa 0 rfl ?_
    refine HB.ld 1 rfl rfl memD ?_
    refine HB.pa 2 rfl ?_
    refine HB.ld 3 rfl rfl memD ?_
    refine HB.pa 4 rfl ?_
    refine HB.ld 5 rfl rfl memD ?_
    refine HB.pa 6 rfl ?_
    refine HB.ld 7 rfl rfl memD ?_
    refine HB.all (by repeat (first | exact Keep.nil | refine Keep.blk (by (repeat (first | exact List.Mem.head _ | apply List.Mem.tail)); done) rfl ?_ | refine Keep.grow (by (repeat (first | exact List.Mem.head _ | apply List.Mem.tail)); done) (by assumption) ?_ | refine Keep.base (by assumption) ?_)) [8] (by kernel_rfl) rfl ⟨⟨_, rfl, ?_⟩, trivial⟩
    refine HP.one ?_
    refine H1.call0 (vs := [.bool r.gone]) rfl rfl (fun w' _ => flag_fn r.gone w') ?_
    apply HB.fold
    refine HB.all (by repeat (first | exact Keep.nil | refine Keep.blk (by (repeat (first | exact List.Mem.head _ | apply List.Mem.tail)); done) rfl ?_ | refine Keep.grow (by (repeat (first | exact List.Mem.head _ | apply List.Mem.tail)); done) (by assumption) ?_ | refine Keep.base (by assumption) ?_)) [9] (by kernel_rfl) rfl ⟨⟨_, rfl, ?_⟩, trivial⟩
    refine HP.one ?_
    refine H1.lit (cs := [zv r.kind, zv r.version, zv r.day, zv (b01 r.gone)]) rfl rfl rfl rfl rfl rfl (fun b8 => ?_)
    apply HB.fold
    refine HB.all (by repeat (first | exact Keep.nil | refine Keep.blk (by (repeat (first | exact List.Mem.head _ | apply List.Mem.tail)); done) rfl ?_ | refine Keep.grow (by (repeat (first | exact List.Mem.head _ | apply List.Mem.tail)); done) (by assumption) ?_ | refine Keep.base (by assumption) ?_)) [10] (by kernel_rfl) rfl ⟨⟨_, rfl, ?_⟩, trivial⟩
    refine HP.one ?_
    refine H1.callk (α := Option Addr × Option Addr × Nat) (V := fun _ => .tuple #[]) (I := fun q => q.1 = none ∨ q.1 = some ⟨b6, 0, none⟩) (H' := fun q => bldH b6 q.1 q.2.1 q.2.2 ([] ++ putL (headL r)) [A.blk b4 [.slice (some ⟨bz, 0, none⟩) (specF r.kind).length c, fnV (fid (keyF r.kind)), zv 1, zv 1000000, fnV (rid r.kind)] 227, A.grow 225 3 (some ⟨bz, 0, none⟩) c (specF r.kind).length (fcl (specF r.kind)), A.blk b1 (rcells r) 36]) (vs := [.pointer (some ⟨b6, 0, none⟩), .slice (some ⟨b8, 0, none⟩) 4 4]) rfl rfl (fun w' hM => put_fn (ys := []) (p := none) (a := none) (c := 0) (headL r) (hM.sub (by show Hs _ [A.blk b6 [.pointer none, .slice none 0 0] 232, A.grow 5 1 none 0 0 [], A.blk b8 [zv r.kind, zv r.version, zv r.day, zv (b01 r.gone)] 3, A.blk b4 _ _, A.grow _ _ _ _ _ _, A.blk b1 _ _]; repeat (first | exact Hs.nil _ | (refine Hs.cons pickA ?_)))) (.inl rfl) hhl (by show 0 + 9 * 4 ≤ 1000000; decide)) ?_
    rintro ⟨p', a', c'⟩ hp'
    rw [List.nil_append]
    apply HB.fold
    refine HB.done (by repeat (first | exact Keep.nil | refine Keep.blk (by (repeat (first | exact List.Mem.head _ | apply List.Mem.tail)); done) rfl ?_ | refine Keep.grow (by (repeat (first | exact List.Mem.head _ | apply List.Mem.tail)); done) (by assumption) ?_ | refine Keep.base (by assumption) ?_)) (by kernel_rfl) ?_
    exact HX.cut (p', a', c') hp' esA (by repeat (first | exact Hs.nil _ | (refine Hs.cons pickA ?_)))
  rintro ⟨p0, a0, c0⟩ hp0
  dsimp only at hp0 ⊢
  refine hwXL ?_
  obtain ⟨L, hL⟩ : ∃ L, L = specF r.kind := ⟨_, rfl⟩
  have hl10 : ∀ p ∈ L, p.1 < 10 := fun p hp => (spec_lo (hL ▸ hp)).2
  have hl8 : ∀ p ∈ L, p.1 = 8 → p.2.1 = 0 ∧ p.2.2 = 1 := fun p hp => spec8 (hL ▸ hp)
  rw [← hL] at hlen hpos hfl ⊢
  have hfx : ∀ j, ∀ x ∈ fldL r (L.take j), 0 ≤ x ∧ x ≤ 1099511627776 := fun j x hx => by
    obtain ⟨p, hp, rfl⟩ := List.mem_map.1 hx
    exact hfl p (List.mem_of_mem_take hp)
  have hfz : ∀ j, (putL (headL r) ++ putL (fldL r (L.take j))).length ≤ 120 := fun j => by
    have h1 := putL_len (hfx j)
    have h2 : (fldL r (L.take j)).length ≤ 8 := by
      unfold fldL
      rw [List.length_map, List.length_take]; omega
    rw [List.length_append]; omega
  refine HC.loop (α := Nat × Option Addr × Option Addr × Nat) (fun z => [(1, .pointer (some ⟨b1, 0, none⟩)), (6, .pointer (some ⟨b6, 0, none⟩)), (32, .slice (some ⟨bz, 0, none⟩) L.length c), (33, zv (L.length : Int)), (34, zv (z.1 : Int))])
    (fun z => bldH b6 z.2.1 z.2.2.1 z.2.2.2 (putL (headL r) ++ putL (fldL r (L.take z.1))) [A.grow 225 3 (some ⟨bz, 0, none⟩) c L.length (fcl L), A.blk b1 (rcells r) 36]) (fun z => z.1 ≤ L.length ∧ (z.2.1 = none ∨ z.2.1 = some ⟨b6, 0, none⟩)) (fun z => L.length - z.1) (0, p0, a0, c0) ⟨Nat.zero_le _, hp0⟩ esA
    (by show Hs _ (bldH b6 p0 a0 c0 (putL (headL r) ++ putL (fldL r (L.take 0))) _); rw [List.take_zero, show putL (fldL r []) = [] from rfl, List.append_nil]; repeat (first | exact Hs.nil _ | (refine Hs.cons pickA ?_))) ?_
  rintro ⟨j, p1, a1, c1⟩ ⟨hj, hp1⟩
  dsimp only at hj hp1 ⊢
  by_cases hlt : j < L.length
  · obtain ⟨p, hp⟩ : ∃ p, L[j]? = some p := ⟨_, List.getElem?_eq_getElem hlt⟩
    have hpm := List.mem_of_getElem? hp
    have htk : L.take (j + 1) = L.take j ++ [p] := by rw [List.take_add_one, hp]; rfl
    have hp10 := hl10 p hpm
    have hfg := fcl_get hp
    have h8 := hl8 p hpm
    have hpl := hfl p hpm
    have hzz := hfz j
    have hpt : putL (headL r) ++ putL (fldL r (L.take j)) ++ putL [r.get p.1] = putL (headL r) ++ putL (fldL r (L.take (j + 1))) := by
      rw [htk, List.append_assoc, ← putL_app]
      unfold fldL
      rw [List.map_append]; rfl
    have h1ok : ∀ x ∈ [r.get p.1], 0 ≤ x ∧ x ≤ 1099511627776 := fun x hx => by
      obtain rfl := List.mem_singleton.1 hx; exact hpl
    obtain ⟨i, lo, hi⟩ := p
    dsimp only at hp10 h8 hpt h1ok
    refine hwXL ?_
    by_cases e8 : i = 8
    · subst e8
      obtain ⟨rfl, rfl⟩ := h8 rfl
      refine HL.one (H1.ldAggw (vs := [.nilFunc, zv 0, zv 0]) rfl rfl (fun w' hM i v hv => ownsRow_cell (hM.own memA) (hfg i v hv)) rfl ?_)
      refine hwXL ?_
      refine HL.one (H1.alloc (cs := [.nilFunc, zv 0, zv 0]) rfl rfl (fun b7 => ?_))
      refine hwXL ?_
      refine HL.one (H1.stAgg (cs := [.nilFunc, zv 0, zv 0]) (vs := [.nilFunc, zv 0, zv 0]) rfl rfl rfl (by intro v hv; simp only [List.mem_cons, List.not_mem_nil, or_false] at hv; rcases hv with rfl | rfl | rfl <;> rfl) rplA rfl ?_)
      refine hwXL ?_
      refine HL.one (H1.call0 (vs := [.bool r.adm]) rfl rfl (fun w' _ => flag_fn r.adm w') ?_)
      refine hwXL ?_
      refine HL.one (H1.lit (cs := [zv (b01 r.adm)]) rfl rfl rfl rfl rfl rfl (fun b8 => ?_))
      refine hwXL ?_
      refine HL.one (H1.callk (α := Option Addr × Option Addr × Nat) (V := fun _ => .tuple #[]) (I := fun q => q.1 = none ∨ q.1 = some ⟨b6, 0, none⟩) (H' := fun q => bldH b6 q.1 q.2.1 q.2.2 (putL (headL r) ++ putL (fldL r (L.take j)) ++ putL [r.get 8]) [A.grow 225 3 (some ⟨bz, 0, none⟩) c L.length (fcl L), A.blk b1 (rcells r) 36]) (vs := [.pointer (some ⟨b6, 0, none⟩), .slice (some ⟨b8, 0, none⟩) 1 1]) rfl rfl (fun w' hM => put_fn [r.get 8] (hM.sub (by show Hs _ (bldH b6 p1 a1 c1 (putL (headL r) ++ putL (fldL r (L.take j))) [A.blk b8 [zv (b01 r.adm)] 3, A.grow _ _ _ _ _ _, A.blk b1 _ _]); repeat (first | exact Hs.nil _ | (refine Hs.cons pickA ?_)))) hp1 h1ok (by show _ + 9 * 1 ≤ 1000000; omega)) ?_)
      rintro ⟨p2, a2, c2⟩ hp2
      dsimp only
      rw [hpt]
      refine hwXL ?_
      exact HX.again (j + 1, p2, a2, c2) ⟨hlt, hp2⟩ (by show L.length - (j + 1) < L.length - j; omega) esA (Hs.refl _)
    · have hfc : fcells (i, lo, hi) = [fnV (fid i), zv lo, zv hi] := if_neg e8
      rw [hfc] at hfg
      obtain ⟨go, hgf⟩ := getter_ok hp10 e8
      have hcell := cells_get r hp10 e8
      refine HL.one (H1.ldAggw (vs := [fnV (fid i), zv lo, zv hi]) rfl rfl (fun w' hM i v hv => ownsRow_cell (hM.own memA) (hfg i v hv)) rfl ?_)
      refine hwXL ?_
      refine HL.one (H1.alloc (cs := [.nilFunc, zv 0, zv 0]) rfl rfl (fun b7 => ?_))
      refine hwXL ?_
      refine HL.one (H1.stAgg (cs := [.nilFunc, zv 0, zv 0]) (vs := [fnV (fid i), zv lo, zv hi]) rfl rfl rfl (by intro v hv; simp only [List.mem_cons, List.not_mem_nil, or_false] at hv; rcases hv with rfl | rfl | rfl <;> rfl) rplA rfl ?_)
      refine hwXL ?_
      refine HL.one (H1.callv0 (hf := go) (f := fid i) (cap := []) (vs := [.pointer (some ⟨b1, 0, none⟩)]) rfl rfl rfl (fun w' _ => call1w (hgf b1 w')) ?_)
      generalize r.get i = x at *
      refine hwXL ?_
      refine HL.one (H1.ldb (v := zv x) rfl memA hcell rfl ?_)
      refine hwXL ?_
      refine HL.one (H1.lit (cs := [zv x]) rfl rfl rfl rfl rfl rfl (fun b8 => ?_))
      refine hwXL ?_
      refine HL.one (H1.callk (α := Option Addr × Option Addr × Nat) (V := fun _ => .tuple #[]) (I := fun q => q.1 = none ∨ q.1 = some ⟨b6, 0, none⟩) (H' := fun q => bldH b6 q.1 q.2.1 q.2.2 (putL (headL r) ++ putL (fldL r (L.take j)) ++ putL [x]) [A.grow 225 3 (some ⟨bz, 0, none⟩) c L.length (fcl L), A.blk b1 (rcells r) 36]) (vs := [.pointer (some ⟨b6, 0, none⟩), .slice (some ⟨b8, 0, none⟩) 1 1]) rfl rfl (fun w' hM => put_fn [x] (hM.sub (by show Hs _ (bldH b6 p1 a1 c1 (putL (headL r) ++ putL (fldL r (L.take j))) [A.blk b8 [zv x] 3, A.grow _ _ _ _ _ _, A.blk b1 _ _]); repeat (first | exact Hs.nil _ | (refine Hs.cons pickA ?_)))) hp1 h1ok (by show _ + 9 * 1 ≤ 1000000; omega)) ?_)
      rintro ⟨p2, a2, c2⟩ hp2
      dsimp only
      rw [hpt]
      refine hwXL ?_
      exact HX.again (j + 1, p2, a2, c2) ⟨hlt, hp2⟩ (by show L.length - (j + 1) < L.length - j; omega) esA (Hs.refl _)
  obtain rfl : j = L.length := by omega
  rw [List.take_length]
  have hzz := hfz L.length
  rw [List.take_length] at hzz
  have htx := hv.text
  have hsz := strN_size (n := r.text.size) (by omega)
  have hss : (strN r.text.size ++ r.text).size ≤ 209 := by rw [ByteArray.size_append]; omega
  have hfin : putL (headL r) ++ putL (fldL r L) ++ (strN r.text.size ++ r.text).data.toList = encR r := by
    rw [encR_put, hL, ByteArray.data_append, Array.toList_append, List.append_assoc, List.append_assoc, List.append_assoc]
    rfl
  refine hwXL ?_
  refine HL.one (H1.callx (vs := [.string r.text]) rfl rfl (fun w' _ => putString_fn r.text (by omega) w') ?_)
  generalize strN r.text.size ++ r.text = st at hss hfin ⊢
  refine hwXL ?_
  refine HL.one (H1.callk (α := Option Addr × Nat) (V := fun _ => .tuple #[zv (st.size : Int), .nilIface]) (I := fun _ => True) (H' := fun q => bldH b6 (some ⟨b6, 0, none⟩) q.1 q.2 (putL (headL r) ++ putL (fldL r L) ++ st.data.toList) []) (vs := [.pointer (some ⟨b6, 0, none⟩), .string st]) rfl rfl
    (fun w' hM => writeString_fn st (hM.sub (Hs.cons Pick.here (Hs.cons Pick.here (Hs.nil _)))) hp1 (by omega)) ?_)
  rintro ⟨a2, c2⟩ -
  dsimp only
  rw [hfin]
  refine hwXL ?_
  refine HL.one (H1.callk (α := Unit) (V := fun _ => .string ⟨(encR r).toArray⟩) (I := fun _ => True) (H' := fun _ => []) (vs := [.pointer (some ⟨b6, 0, none⟩)]) rfl rfl (fun w' hM => (builderString_fn hM (encR_ne r)).mono fun v w' h => ⟨(), trivial, h⟩) ?_)
  rintro - -
  refine hwXL ?_
  exact HX.ret2 rfl rfl rfl fun w' hM => ⟨by unfold encS; rw [validB_yes hv]; rfl, hM.ext⟩
end Go.Sx
/- Chapter 20: Prevails. -/
namespace Go.Sx
open Go Go.Proofs Go.RowKit
theorem hwXM {G G2 : Prop} (x : G2) (hwq : Hold G2 → G := by
    intro hQq
    repeat' (first | apply HL.fold | apply HA.fold | apply HL.nil | apply HX.n_then | apply HC.seq | apply HC.region | refine HL.pa ?_ | refine HL.ga rfl ?_ | refine HL.na rfl ?_ | refine HL.nu rfl rfl ?_ | apply HC.block | apply HC.skip | apply HC.exit | apply HC.ret | apply HX.e_block | refine HX.e_other rfl ?_ | apply HX.e_then | apply HX.e_again | apply HX.n_block | apply HX.r_then | apply HX.r_block | apply HX.r_again | refine HC.cond_yes rfl ?_ | refine HC.cond_no rfl ?_ | refine HL.one (H1.ldb rfl memA rfl rfl ?_) | refine HC.cond rfl (fun hc => ?_) (fun hc => ?_) | refine HC.cond_b rfl (fun hc => ?_) (fun hc => ?_))
    exact hQq.get) : G := hwq ⟨x⟩
noncomputable def prevB (a b : Rc) : Bool := @decide (Prev a b) (Classical.propDecidable _)
theorem prevB_yes {a b : Rc} (h : Prev a b) : prevB a b = true := by unfold prevB; exact @decide_eq_true _ (Classical.propDecidable _) h
theorem prevB_no {a b : Rc} (h : ¬ Prev a b) : prevB a b = false := by unfold prevB; exact @decide_eq_false _ (Classical.propDecidable _) h
theorem prevB_iff {a b : Rc} : prevB a b = true ↔ Prev a b := by unfold prevB; exact @decide_eq_true_iff _ (Classical.propDecidable _)
theorem keyS_yes {r : Rc} (h : ValidR r) : keyS r = ⟨(keyR r).toArray⟩ := by unfold keyS; rw [validB_yes h]; rfl
theorem encS_yes {r : Rc} (h : ValidR r) : encS r = ⟨(encR r).toArray⟩ := by unfold encS; rw [validB_yes h]; rfl
theorem keyS_inj {a b : Rc} (ha : ValidR a) (hb : ValidR b) : keyS a = keyS b ↔ keyR a = keyR b := by
  rw [keyS_yes ha, keyS_yes hb]
  constructor
  · intro h
    injection h with h
    exact List.toArray_inj h
  · intro h; rw [h]
attribute [local irreducible] WC WL WX POp Then Again Fn NX W1 WA WO QL RP RA Yld LoopAt HC HL HX HN H1 HA HO HQ HB HP A.blk A.grow A.rd A.obj A.mp AgainH CutH
set_option maxHeartbeats 4000000 in
theorem prevails_fn (r s : Rc) (hr : RcOk r) (hs : RcOk s) (w : World) : Fn Tryz.prog 77 #[recV r, recV s] w fun v w' => v = .bool (prevB r s) ∧ Ext w w' := by
  refine enterH (l := [_, _]) rfl Tryz.ntmps77 rfl ?_
  refine hwXM ?_
  refine HL.one (H1.boxAgg (cs := rcells r) rfl rfl (fun b2 => ?_))
  refine hwXM ?_
  refine HL.one (H1.boxAgg (cs := rcells s) rfl rfl (fun b3 => ?_))
  refine hwXM ?_
  refine HL.one (H1.ldAgg (vs := rcells r) rfl memA rfl (fun i v hv => by rw [Nat.zero_add]; exact hv) rfl ?_)
  refine hwXM ?_
  refine HL.one (H1.callx (vs := [recV r]) rfl rfl (fun w' _ => encode_fn r hr w') ?_)
  refine hwXM ?_
  refine HL.one (H1.ldAgg (vs := rcells s) rfl memA rfl (fun i v hv => by rw [Nat.zero_add]; exact hv) rfl ?_)
  refine hwXM ?_
  refine HL.one (H1.callx (vs := [recV s]) rfl rfl (fun w' _ => encode_fn s hs w') ?_)
  refine hwXM ?_
  by_cases h1 : ValidR r
  rotate_left
  · rw [validB_no h1, if_neg Bool.false_ne_true]
    refine HC.any rfl ?_
    refine HA.pa 0 rfl ?_
    refine HA.pa 1 rfl ?_
    refine HA.pa 2 rfl ?_
    first | refine HA.ga 3 rfl rfl ?_ | refine HA.na 3 rfl rfl ?_ | refine HA.nu 3 rfl rfl ?_
    first | refine HA.ga 4 rfl rfl ?_ | refine HA.na 4 rfl rfl ?_ | refine HA.nu 4 rfl rfl ?_
    refine HA.pa 5 rfl ?_
    refine HA.pa 6 rfl ?_
    refine HA.all [7, 9] (by kernel_rfl) rfl ⟨⟨_, rfl, ?_⟩, ⟨_, rfl, ?_⟩, trivial⟩
    · refine HO.drop_a rfl ?_
      refine HA.all [8, 9] (by kernel_rfl) rfl ⟨⟨_, rfl, ?_⟩, ⟨_, rfl, ?_⟩, trivial⟩
      · refine HO.drop_a rfl ?_
        refine HA.all [9] (by kernel_rfl) rfl ⟨⟨_, rfl, ?_⟩, trivial⟩
        refine HO.drop_a rfl ?_
        refine HA.all [10] (by kernel_rfl) rfl ⟨⟨_, rfl, ?_⟩, trivial⟩
        refine HO.drop_a rfl ?_
        first | refine HA.ga 11 rfl rfl ?_ | refine HA.na 11 rfl rfl ?_ | refine HA.nu 11 rfl rfl ?_
        refine HA.pa 12 rfl ?_
        refine HA.done (by kernel_rfl) ?_
        refine hwXM ?_
        exact HX.ret1 rfl rfl fun w' hM => ⟨by rw [prevB_no fun h => h1 h.1.1], hM.ext⟩
      · refine HO.drop_a rfl ?_
        refine HA.all [8] (by kernel_rfl) rfl ⟨⟨_, rfl, ?_⟩, trivial⟩
        refine HO.drop_a rfl ?_
        refine HA.all [10] (by kernel_rfl) rfl ⟨⟨_, rfl, ?_⟩, trivial⟩
        refine HO.drop_a rfl ?_
        first | refine HA.ga 11 rfl rfl ?_ | refine HA.na 11 rfl rfl ?_ | refine HA.nu 11 rfl rfl ?_
        refine HA.pa 12 rfl ?_
        refine HA.done (by kernel_rfl) ?_
        refine hwXM ?_
        exact HX.ret1 rfl rfl fun w' hM => ⟨by rw [prevB_no fun h => h1 h.1.1], hM.ext⟩
    · refine HO.drop_a rfl ?_
      refine HA.all [7] (by kernel_rfl) rfl ⟨⟨_, rfl, ?_⟩, trivial⟩
      refine HO.drop_a rfl ?_
      refine HA.all [8] (by kernel_rfl) rfl ⟨⟨_, rfl, ?_⟩, trivial⟩
      refine HO.drop_a rfl ?_
      refine HA.all [10] (by kernel_rfl) rfl ⟨⟨_, rfl, ?_⟩, trivial⟩
      refine HO.drop_a rfl ?_
      first | refine HA.ga 11 rfl rfl ?_ | refine HA.na 11 rfl rfl ?_ | refine HA.nu 11 rfl rfl ?_
      refine HA.pa 12 rfl ?_
      refine HA.done (by kernel_rfl) ?_
      refine hwXM ?_
      exact HX.ret1 rfl rfl fun w' hM => ⟨by rw [prevB_no fun h => h1 h.1.1], hM.ext⟩
  by_cases h2 : ValidR s
  rotate_left
  · rw [validB_no h2, validB_yes h1, if_neg Bool.false_ne_true, if_pos rfl]
    refine HC.any rfl ?_
    refine HA.pa 0 rfl ?_
    refine HA.pa 1 rfl ?_
    refine HA.pa 2 rfl ?_
    first | refine HA.ga 3 rfl rfl ?_ | refine HA.na 3 rfl rfl ?_ | refine HA.nu 3 rfl rfl ?_
    first | refine HA.ga 4 rfl rfl ?_ | refine HA.na 4 rfl rfl ?_ | refine HA.nu 4 rfl rfl ?_
    refine HA.pa 5 rfl ?_
    refine HA.pa 6 rfl ?_
    refine HA.all [7, 9] (by kernel_rfl) rfl ⟨⟨_, rfl, ?_⟩, ⟨_, rfl, ?_⟩, trivial⟩
    · refine HO.drop_a rfl ?_
      refine HA.all [8, 9] (by kernel_rfl) rfl ⟨⟨_, rfl, ?_⟩, ⟨_, rfl, ?_⟩, trivial⟩
      · refine HO.drop_a rfl ?_
        refine HA.all [9] (by kernel_rfl) rfl ⟨⟨_, rfl, ?_⟩, trivial⟩
        refine HO.drop_a rfl ?_
        refine HA.all [10] (by kernel_rfl) rfl ⟨⟨_, rfl, ?_⟩, trivial⟩
        refine HO.drop_a rfl ?_
        first | refine HA.ga 11 rfl rfl ?_ | refine HA.na 11 rfl rfl ?_ | refine HA.nu 11 rfl rfl ?_
        refine HA.pa 12 rfl ?_
        refine HA.done (by kernel_rfl) ?_
        refine hwXM ?_
        exact HX.ret1 rfl rfl fun w' hM => ⟨by rw [prevB_no fun h => h2 h.1.2.1], hM.ext⟩
      · refine HO.drop_a rfl ?_
        refine HA.all [8] (by kernel_rfl) rfl ⟨⟨_, rfl, ?_⟩, trivial⟩
        refine HO.drop_a rfl ?_
        refine HA.all [10] (by kernel_rfl) rfl ⟨⟨_, rfl, ?_⟩, trivial⟩
        refine HO.drop_a rfl ?_
        first | refine HA.ga 11 rfl rfl ?_ | refine HA.na 11 rfl rfl ?_ | refine HA.nu 11 rfl rfl ?_
        refine HA.pa 12 rfl ?_
        refine HA.done (by kernel_rfl) ?_
        refine hwXM ?_
        exact HX.ret1 rfl rfl fun w' hM => ⟨by rw [prevB_no fun h => h2 h.1.2.1], hM.ext⟩
    · refine HO.drop_a rfl ?_
      refine HA.all [7] (by kernel_rfl) rfl ⟨⟨_, rfl, ?_⟩, trivial⟩
      refine HO.drop_a rfl ?_
      refine HA.all [8] (by kernel_rfl) rfl ⟨⟨_, rfl, ?_⟩, trivial⟩
      refine HO.drop_a rfl ?_
      refine HA.all [10] (by kernel_rfl) rfl ⟨⟨_, rfl, ?_⟩, trivial⟩
      refine HO.drop_a rfl ?_
      first | refine HA.ga 11 rfl rfl ?_ | refine HA.na 11 rfl rfl ?_ | refine HA.nu 11 rfl rfl ?_
      refine HA.pa 12 rfl ?_
      refine HA.done (by kernel_rfl) ?_
      refine hwXM ?_
      exact HX.ret1 rfl rfl fun w' hM => ⟨by rw [prevB_no fun h => h2 h.1.2.1], hM.ext⟩
  rw [validB_yes h1, validB_yes h2, if_pos rfl]
  have e1 := encS_yes h1
  have e2 := encS_yes h2
  have ek := keyS_inj h1 h2
  have hP : Prev r s ↔ keyS r = keyS s ∧ (s.version < r.version ∨ r.version = s.version ∧ Op.bytesLess (encS s).data.toList (encS r).data.toList = true) := by
    rw [ek, e1, e2]
    exact ⟨fun h => ⟨h.1.2.2, h.2⟩, fun h => ⟨⟨h1, h2, h.1⟩, h.2⟩⟩
  clear e1 e2 ek
  refine HC.cut (α := Unit) (fun _ => [(2, .pointer (some ⟨b2, 0, none⟩)), (3, .pointer (some ⟨b3, 0, none⟩)), (5, .string (encS r)), (7, .string (encS s)), (31, .bool (decide (¬ keyS r = keyS s)))])
    (fun _ => [A.blk b2 (rcells r) 36, A.blk b3 (rcells s) 36]) (fun _ => True) ?_ ?_
  · refine HC.any rfl ?_
    refine HA.pa 0 rfl ?_
    refine HA.pa 1 rfl ?_
    refine HA.pa 2 rfl ?_
    first | refine HA.ga 3 rfl rfl ?_ | refine HA.na 3 rfl rfl ?_ | refine HA.nu 3 rfl rfl ?_
    first | refine HA.ga 4 rfl rfl ?_ | refine HA.na 4 rfl rfl ?_ | refine HA.nu 4 rfl rfl ?_
    refine HA.pa 5 rfl ?_
    refine HA.pa 6 rfl ?_
    refine HA.all [7, 9] (by kernel_rfl) rfl ⟨⟨_, rfl, ?_⟩, ⟨_, rfl, ?_⟩, trivial⟩
    · refine HO.one_a rfl ?_
      refine H1.ldAgg (vs := rcells r) rfl memA rfl (fun i v hv => by rw [Nat.zero_add]; exact hv) rfl ?_
      apply HA.fold
      refine HA.all [8, 9] (by kernel_rfl) rfl ⟨⟨_, rfl, ?_⟩, ⟨_, rfl, ?_⟩, trivial⟩
      · refine HO.one_a rfl ?_
        refine H1.callx (vs := [recV r]) rfl rfl (fun w' _ => key_fn r hr w') ?_
        apply HA.fold
        refine HA.all [9] (by kernel_rfl) rfl ⟨⟨_, rfl, ?_⟩, trivial⟩
        refine HO.one_a rfl ?_
        refine H1.ldAgg (vs := rcells s) rfl memA rfl (fun i v hv => by rw [Nat.zero_add]; exact hv) rfl ?_
        apply HA.fold
        refine HA.all [10] (by kernel_rfl) rfl ⟨⟨_, rfl, ?_⟩, trivial⟩
        refine HO.one_a rfl ?_
        refine H1.callx (vs := [recV s]) rfl rfl (fun w' _ => key_fn s hs w') ?_
        apply HA.fold
        first | refine HA.ga 11 rfl rfl ?_ | refine HA.na 11 rfl rfl ?_ | refine HA.nu 11 rfl rfl ?_
        refine HA.pa 12 rfl ?_
        refine HA.done (by kernel_rfl) ?_
        exact HX.cut () trivial esA (by repeat (first | exact Hs.nil _ | (refine Hs.cons pickA ?_)))
      · refine HO.one_a rfl ?_
        refine H1.ldAgg (vs := rcells s) rfl memA rfl (fun i v hv => by rw [Nat.zero_add]; exact hv) rfl ?_
        apply HA.fold
        refine HA.all [8] (by kernel_rfl) rfl ⟨⟨_, rfl, ?_⟩, trivial⟩
        refine HO.one_a rfl ?_
        refine H1.callx (vs := [recV r]) rfl rfl (fun w' _ => key_fn r hr w') ?_
        apply HA.fold
        refine HA.all [10] (by kernel_rfl) rfl ⟨⟨_, rfl, ?_⟩, trivial⟩
        refine HO.one_a rfl ?_
        refine H1.callx (vs := [recV s]) rfl rfl (fun w' _ => key_fn s hs w') ?_
        apply HA.fold
        first | refine HA.ga 11 rfl rfl ?_ | refine HA.na 11 rfl rfl ?_ | refine HA.nu 11 rfl rfl ?_
        refine HA.pa 12 rfl ?_
        refine HA.done (by kernel_rfl) ?_
        exact HX.cut () trivial esA (by repeat (first | exact Hs.nil _ | (refine Hs.cons pickA ?_)))
    · refine HO.one_a rfl ?_
      refine H1.ldAgg (vs := rcells s) rfl memA rfl (fun i v hv => by rw [Nat.zero_add]; exact hv) rfl ?_
      apply HA.fold
      refine HA.all [7] (by kernel_rfl) rfl ⟨⟨_, rfl, ?_⟩, trivial⟩
      refine HO.one_a rfl ?_
      refine H1.ldAgg (vs := rcells r) rfl memA rfl (fun i v hv => by rw [Nat.zero_add]; exact hv) rfl ?_
      apply HA.fold
      refine HA.all [8] (by kernel_rfl) rfl ⟨⟨_, rfl, ?_⟩, trivial⟩
      refine HO.one_a rfl ?_
      refine H1.callx (vs := [recV r]) rfl rfl (fun w' _ => key_fn r hr w') ?_
      apply HA.fold
      refine HA.all [10] (by kernel_rfl) rfl ⟨⟨_, rfl, ?_⟩, trivial⟩
      refine HO.one_a rfl ?_
      refine H1.callx (vs := [recV s]) rfl rfl (fun w' _ => key_fn s hs w') ?_
      apply HA.fold
      first | refine HA.ga 11 rfl rfl ?_ | refine HA.na 11 rfl rfl ?_ | refine HA.nu 11 rfl rfl ?_
      refine HA.pa 12 rfl ?_
      refine HA.done (by kernel_rfl) ?_
      exact HX.cut () trivial esA (by repeat (first | exact Hs.nil _ | (refine Hs.cons pickA ?_)))
  rintro - -
  generalize keyS r = k1 at *
  generalize keyS s = k2 at *
  generalize encS r = s1 at *
  generalize encS s = s2 at *
  have hR : ∀ x : Bool, (x = true ↔ Prev r s) → x = prevB r s := fun x h => by rw [Bool.eq_iff_iff, prevB_iff]; exact h
  by_cases c1 : k1 = k2
  rotate_left
  · have c1' : (decide (¬ k1 = k2)) = true := decide_eq_true c1
    rw [c1']
    refine hwXM ?_
    exact HX.ret1 rfl rfl fun w' hM => ⟨congrArg Value.bool (hR _ (by rw [hP]; simp [c1])), hM.ext⟩
  have c1' : (decide (¬ k1 = k2)) = false := decide_eq_false (fun h => h c1)
  rw [c1']
  by_cases c2 : s.version < r.version
  · refine hwXM ?_
    exact HX.ret1 rfl rfl fun w' hM => ⟨congrArg Value.bool (hR _ (by rw [hP]; simp [c1, c2])), hM.ext⟩
  by_cases c3 : r.version = s.version
  · refine hwXM ?_
    refine HL.pa ?_ (POp.sgtr rfl rfl)
    refine hwXM ?_
    exact HX.ret1 rfl rfl fun w' hM => ⟨congrArg Value.bool (hR _ (by rw [hP]; simp [c1, c3])), hM.ext⟩
  · refine hwXM ?_
    exact HX.ret1 rfl rfl fun w' hM => ⟨congrArg Value.bool (hR _ (by rw [hP]; simp [c2, c3])), hM.ext⟩
end Go.Sx
/- Chapter 21: what is in effect: a map by keys; maps.DeleteFunc. -/
namespace Go.Sx
open Go Go.Proofs Go.RowKit
theorem hwXN {G G2 : Prop} (x : G2) (hwq : Hold G2 → G := by
    intro hQq
    repeat' (first | apply HL.fold | apply HA.fold | apply HL.nil | apply HX.n_then | apply HC.seq | apply HC.region | refine HL.pa ?_ | refine HL.ga rfl ?_ | refine HL.na rfl ?_ | refine HL.nu rfl rfl ?_ | apply HC.block | apply HC.skip | apply HC.exit | apply HC.ret | apply HX.e_block | refine HX.e_other rfl ?_ | apply HX.e_then | apply HX.e_again | apply HX.n_block | apply HX.r_then | apply HX.r_block | apply HX.r_again | refine HC.cond_yes rfl ?_ | refine HC.cond_no rfl ?_ | refine HL.one (H1.ldb rfl memA rfl rfl ?_) | refine HC.cond rfl (fun hc => ?_) (fun hc => ?_) | refine HC.cond_b rfl (fun hc => ?_) (fun hc => ?_))
    exact hQq.get) : G := hwq ⟨x⟩
theorem Mm.mxms {w0 w : World} {b clk : Nat} {es : Array MapEntry} {L : List (ByteArray × Value)} {H : List Atom} (h : Mm w0 (A.mx b es clk :: H) w) (hl : MS L es clk) : Mm w0 (A.ms b L :: H) w := h.head rfl (by
  obtain ⟨o, h1, rfl⟩ : ∃ o, w.heap[b]? = some o ∧ o = .map es clk := h.all _ (List.Mem.head _)
  exact ⟨_, h1, es, clk, rfl, hl⟩)
theorem MS.erase {L : List (ByteArray × Value)} {es : Array MapEntry} {clk : Nat} (h : MS L es clk) (i : Nat) : MS (L.eraseIdx i) (es.eraseIdxIfInBounds i) clk := by
  refine ⟨?_, fun e he => ?_, ?_⟩
  · rw [Array.toList_eraseIdxIfInBounds, ← map_eraseIdx, h.ents, map_eraseIdx]
  · rw [Array.toList_eraseIdxIfInBounds] at he
    exact h.born e (List.mem_of_mem_eraseIdx he)
  · rw [Array.toList_eraseIdxIfInBounds]
    exact List.Nodup.sublist ((List.eraseIdx_sublist _ i).map _) h.nd
/-- Records by their keys, as a map holds them. -/
def liftM (m : List (List UInt8 × Rc)) : List (ByteArray × Value) := m.map fun p => ((⟨p.1.toArray⟩ : ByteArray), recV p.2)
theorem ba_inj {x y : List UInt8} (h : (⟨x.toArray⟩ : ByteArray) = ⟨y.toArray⟩) : x = y := by
  injection h with h
  exact List.toArray_inj h
theorem midxS_no {l : List (ByteArray × Value)} {x : ByteArray} (h : midxS l x = none) : ∀ p ∈ l, p.1 ≠ x := by
  induction l with
  | nil => intro p hp; simp at hp
  | cons q l ih =>
    obtain ⟨y, u⟩ := q
    simp only [midxS] at h
    by_cases hxy : x = y
    · rw [if_pos hxy] at h; cases h
    · rw [if_neg hxy, Option.map_eq_none_iff] at h
      intro p hp
      rcases List.mem_cons.1 hp with rfl | hp
      · exact fun e => hxy e.symm
      · exact ih h p hp
theorem midx_lift_no {m : List (List UInt8 × Rc)} {x : List UInt8} (h : midxS (liftM m) ⟨x.toArray⟩ = none) : ∀ p ∈ m, p.1 ≠ x := fun p hp e =>
  midxS_no h _ (List.mem_map.2 ⟨p, hp, rfl⟩) (by rw [e])
theorem liftM_get {m : List (List UInt8 × Rc)} {i : Nat} {x : List UInt8} {u : Value} (h : (liftM m)[i]? = some (⟨x.toArray⟩, u)) : ∃ s, u = recV s ∧ m[i]? = some (x, s) := by
  unfold liftM at h
  rw [List.getElem?_map, Option.map_eq_some_iff] at h
  obtain ⟨⟨y, s⟩, h1, h2⟩ := h
  injection h2 with h2 h3
  have := ba_inj h2
  subst this
  exact ⟨s, h3.symm, h1⟩
theorem midx_lift_some {m : List (List UInt8 × Rc)} {x : List UInt8} {i : Nat} {u : Value} (h : midxS (liftM m) ⟨x.toArray⟩ = some (i, u)) : ∃ s, u = recV s ∧ m[i]? = some (x, s) :=
  liftM_get (midxS_some u h).2.2
theorem midx_lift {m : List (List UInt8 × Rc)} (hk : (m.map Prod.fst).Nodup) {p : List UInt8 × Rc} (hp : p ∈ m) : ∃ i, m[i]? = some p ∧ midxS (liftM m) ⟨p.1.toArray⟩ = some (i, recV p.2) := by
  cases h : midxS (liftM m) ⟨p.1.toArray⟩ with
  | none => exact absurd rfl (midx_lift_no h p hp)
  | some q =>
    obtain ⟨i, u⟩ := q
    obtain ⟨s, rfl, h2⟩ := midx_lift_some h
    obtain ⟨j, hj⟩ := List.mem_iff_getElem?.1 hp
    have n1 : (m.map Prod.fst)[i]? = some p.1 := by simp [h2]
    have n2 : (m.map Prod.fst)[j]? = some p.1 := by simp [hj]
    have hlt : i < (m.map Prod.fst).length := (List.getElem?_eq_some_iff.1 n1).1
    have e := (List.getElem?_inj hlt hk).1 (n1.trans n2.symm)
    subst e
    rw [hj] at h2
    have e2 := Option.some.inj h2
    refine ⟨i, hj, ?_⟩
    rw [e2]
theorem mem_erase_at {m : List (List UInt8 × Rc)} (hk : (m.map Prod.fst).Nodup) {i : Nat} {p : List UInt8 × Rc} (hi : m[i]? = some p) (q : List UInt8 × Rc) : q ∈ m.eraseIdx i ↔ q ∈ m ∧ q ≠ p := by
  rw [List.mem_eraseIdx_iff_getElem?]
  constructor
  · rintro ⟨j, hne, hj⟩
    refine ⟨List.mem_of_getElem? hj, fun e => hne ?_⟩
    subst e
    have n1 : (m.map Prod.fst)[i]? = some q.1 := by simp [hi]
    have n2 : (m.map Prod.fst)[j]? = some q.1 := by simp [hj]
    have hlt : j < (m.map Prod.fst).length := (List.getElem?_eq_some_iff.1 n2).1
    exact (List.getElem?_inj hlt hk).1 (n2.trans n1.symm)
  · rintro ⟨hq, hne⟩
    obtain ⟨j, hj⟩ := List.mem_iff_getElem?.1 hq
    refine ⟨j, fun e => hne ?_, hj⟩
    subst e
    rw [hi] at hj
    exact (Option.some.inj hj).symm
section
variable {P : Program} {r : Option Nat} {N : Nat} {ds : List Deferred} {Q : Post} {E : Env} {w0 : World} {H : List Atom} {next : Act → World → Prop} {g : Option (Nat × Bool)}
variable {t ty k e : TypeId} {pos : String} {af : Array Edge} {x y : Operand}
theorem HL.openms {ol l : List Oper} {b : Nat} {L : List (ByteArray × Value)} (h : ∀ es clk, MS L es clk → HL P r N ds ol l Q E w0 (A.mx b es clk :: H)) : HL P r N ds ol l Q E w0 (A.ms b L :: H) := fun w hM => by
  obtain ⟨o, h1, es, clk, rfl, h2⟩ : ∃ o, w.heap[b]? = some o ∧ msP L o := hM.all _ (List.Mem.head _)
  exact h es clk h2 w (hM.head rfl ⟨_, h1, rfl⟩)
theorem H1.msdel {u : TypeId} {b clk i : Nat} {es : Array MapEntry} {L : List (ByteArray × Value)} {n : ByteArray} {v : Value} {H' : List Atom} [ht : UTy P t (.map k e)] [hk : UTy P k .string] (hx : Env.ev E x = some (.map (some b))) (hy : Env.ev E y = some (.string n))
    (hl : MS L es clk) (hi : midxS L n = some (i, v)) (hr : Rpl (A.mx b es clk) (A.mx b (es.eraseIdxIfInBounds i) clk) H H') (h : HN N ds next E w0 H') :
    H1 P r N ds next ⟨none, .call ⟨.builtin .delete, #[x, y], #[t, u]⟩, ty, pos, af, g⟩ Q E w0 H := fun w hM => by
  have hb := hM.mx hr.mem
  have hlt := (Array.getElem?_eq_some_iff.1 hb).1
  have hf := run_findKey_str (P := P) (w := w) hk.is n es.toList L hl.ents
  rw [hi] at hf
  have hrun : (Builtin.delete_ #[t, u] ty #[.map (some b), .string n]).run P w = .ok (.tuple #[]) (w.putObj b (.map (es.eraseIdxIfInBounds i) clk)) := by
    unfold Builtin.delete_
    simp [Sem.run_bind, run_underlying ht.is, Result.andThen, run_getMap hb, run_checkKey_str hk.is _ 9999 n, hf, run_setMap _ hb]
  refine W1.run (v := .tuple #[]) (w' := w.putObj b (.map (es.eraseIdxIfInBounds i) clk)) (fun a ha => ?_) rfl rfl (h _ (hM.turn hr rfl rfl rfl (by simp) (fun k _ hk' => ?_) ⟨_, World.putObj_heap_same hlt, rfl⟩ (by simp [A.mx, A.obj]) fun b' hb' => .inl hb'))
  · simp only [execOp, resolve, invoke, Go.builtin, Sem.run_bind, Sem.run_pure, Result.andThen, List.map_toArray, List.map_cons, List.map_nil, ha.ev hx, ha.ev hy, hrun]
  · exact World.putObj_heap_other (by simpa [A.mx, A.obj] using hk')
end
attribute [local irreducible] WC WL WX POp Then Again Fn NX W1 WA WO QL RP RA Yld LoopAt HC HL HX HN H1 HA HO HQ HB HP A.blk A.grow A.rd A.obj A.mp AgainH CutH
attribute [local irreducible] A.ms A.mx A.mit
theorem effect1_fn (k : ByteArray) (r : Rc) (w : World) : Fn Tryz.prog 79 #[.string k, recV r] w fun v w' => v = .bool r.gone ∧ Ext w w' := by
  refine enterH (l := [_, _]) rfl Tryz.ntmps79 rfl ?_
  refine hwXN ?_
  refine HL.one (H1.boxAgg (cs := rcells r) rfl rfl (fun b1 => ?_))
  refine hwXN ?_
  exact HX.ret1 rfl rfl fun w' hM => ⟨rfl, hM.ext⟩
set_option maxHeartbeats 1000000 in
theorem deleteFunc_fn {w0 w : World} {H : List Atom} {b : Nat} {m : List (List UInt8 × Rc)} (hM : Mm w0 (A.ms b (liftM m) :: H) w) (hk : (m.map Prod.fst).Nodup) :
    Fn Tryz.prog 78 #[.map (some b), fnV 79] w fun v w' => ∃ m', ((m'.map Prod.fst).Nodup ∧ ∀ p, p ∈ m' ↔ p ∈ m ∧ p.2.gone = false) ∧ v = .tuple #[] ∧ Mm w0 (A.ms b (liftM m') :: H) w' := by
  refine enterK (l := [_, _]) hM rfl Tryz.ntmps78 rfl ?_
  refine hwXN ?_
  refine HL.openms fun es clk hms => ?_
  refine HL.one (H1.mqrange (es := es) (clk := clk) rfl (fun w' hM => hM.mx (.head _)) rfl (fun it => ?_))
  refine hwXN ?_
  refine HC.loop (α := Array MapEntry × Array Nat × List (List UInt8 × Rc)) (fun _ => [(0, .map (some b)), (1, fnV 79), (7, .pointer (some ⟨it, 0, none⟩))])
    (fun z => A.mit it b clk z.2.1 :: A.mx b z.1 clk :: H)
    (fun z => MS (liftM z.2.2) z.1 clk ∧ (z.2.2.map Prod.fst).Nodup ∧ (∀ p ∈ z.2.2, p ∈ m) ∧ (∀ p ∈ m, p.2.gone = false → p ∈ z.2.2) ∧ ∀ e ∈ z.1.toList, e.born ∈ z.2.1 → ∀ p ∈ z.2.2, e.key = .string ⟨p.1.toArray⟩ → p.2.gone = false)
    (fun z => mleft z.1 z.2.1) (es, #[], m) ⟨hms, hk, fun _ h => h, fun _ h _ => h, fun e _ hs => absurd hs (by simp)⟩ esA (Hs.refl _) ?_
  rintro ⟨es', seen, m'⟩ ⟨hI, hk', hs1, hs2, hsn⟩
  dsimp only at hI hk' hs1 hs2 hsn ⊢
  refine hwXN ?_
  refine HL.one (H1.mqnext (H' := fun s => A.mit it b clk s :: A.mx b es' clk :: H) rfl (fun w' hM => hM.mx (.tail _ (.head _))) hI.born (fun s => Rpl.here) rfl (fun hall => ?_) (fun e he hne => ?_))
  · refine hwXN ?_
    refine HX.end0 rfl fun w' hM => ⟨m', ⟨hk', fun p => ⟨fun hp => ⟨hs1 p hp, ?_⟩, fun hp => hs2 p hp.1 hp.2⟩⟩, rfl, hM.tail.mxms hI⟩
    obtain ⟨e, he, h1, -⟩ := hI.of (List.mem_map.2 ⟨p, hp, rfl⟩)
    exact hsn e he (hall e he) p hp h1
  obtain ⟨q, hq, hkey, hval⟩ := hI.ent he
  obtain ⟨p, hp, rfl⟩ := List.mem_map.1 hq
  dsimp only at hkey hval
  have hkp : ∀ p' ∈ m', e.key = .string ⟨p'.1.toArray⟩ → p' = p := fun p' hp' h => by
    rw [hkey] at h
    injection h with h
    have h2 := ba_inj h
    obtain ⟨i, hi, -⟩ := midx_lift hk' hp
    obtain ⟨j, hj, -⟩ := midx_lift hk' hp'
    have n1 : (m'.map Prod.fst)[i]? = some p.1 := by simp [hi]
    have n2 : (m'.map Prod.fst)[j]? = some p.1 := by simp [hj, h2]
    have hlt : i < (m'.map Prod.fst).length := (List.getElem?_eq_some_iff.1 n1).1
    have e2 := (List.getElem?_inj hlt hk').1 (n1.trans n2.symm)
    subst e2
    rw [hi] at hj
    exact (Option.some.inj hj).symm
  rw [hkey, hval]
  refine hwXN ?_
  refine HL.one (H1.mqentry (e := e) rfl (fun w' hM => hM.mx (.tail _ (.head _))) he hI.nd (.head _) rfl ?_)
  rw [hkey, hval]
  refine hwXN ?_
  refine HL.one (H1.alloc (cs := rcells rcZ) rfl rfl (fun b5 => ?_))
  refine hwXN ?_
  refine HL.one (H1.stAgg (cs := rcells rcZ) (vs := rcells p.2) rfl rfl rfl (rcells_one _) rplA rfl ?_)
  refine hwXN ?_
  refine HL.one (H1.ldAgg (vs := rcells p.2) rfl memA rfl (fun i v hv => by rw [Nat.zero_add]; exact hv) rfl ?_)
  refine hwXN ?_
  refine HL.one (H1.callv0 (f := 79) (cap := []) (vs := [.string ⟨p.1.toArray⟩, recV p.2]) rfl rfl rfl (fun w' _ => effect1_fn _ p.2 w') ?_)
  have hlt := mleft_lt he hne
  cases hg : p.2.gone
  · refine hwXN ?_
    refine HX.again (es', seen.push e.born, m') ⟨hI, hk', hs1, hs2, fun e' he' hs' p' hp' h => ?_⟩ hlt esA (Hs.refl _).skip
    rcases Array.mem_push.1 hs' with h1 | h1
    · exact hsn e' he' h1 p' hp' h
    · have e1 : e' = e := stamp_inj hI.nd he' he h1
      subst e1
      rw [hkp p' hp' h]; exact hg
  · obtain ⟨i, hi, hmi⟩ := midx_lift hk' hp
    have hme := mem_erase_at hk' hi
    refine hwXN ?_
    refine HL.one (H1.msdel rfl rfl hI hmi rplA ?_)
    refine hwXN ?_
    refine HX.again (es'.eraseIdxIfInBounds i, seen.push e.born, m'.eraseIdx i) ⟨?_, ?_, fun q hq => hs1 q (List.mem_of_mem_eraseIdx hq), fun q hq h => (hme q).2 ⟨hs2 q hq h, fun e1 => ?_⟩, fun e' he' hs' p' hp' h => ?_⟩ (Nat.lt_of_le_of_lt (mleft_erase _ _ _) hlt) esA (Hs.refl _).skip
    · have := hI.erase i
      rwa [show (liftM m').eraseIdx i = liftM (m'.eraseIdx i) from map_eraseIdx _ _ _] at this
    · exact List.Nodup.sublist ((List.eraseIdx_sublist _ i).map _) hk'
    · rw [e1, hg] at h; cases h
    · dsimp only at he' hs' hp'
      rw [Array.toList_eraseIdxIfInBounds] at he'
      have he2 := List.mem_of_mem_eraseIdx he'
      have hp2 := (hme p').1 hp'
      rcases Array.mem_push.1 hs' with h1 | h1
      · exact hsn e' he2 h1 p' hp2.1 h
      · have e1 : e' = e := stamp_inj hI.nd he2 he h1
        subst e1
        exact absurd (hkp p' hp2.1 h) hp2.2
end Go.Sx
/- Chapter 21: effect: what is in effect, by keys. -/
namespace Go.Sx
open Go Go.Proofs Go.RowKit
theorem hwXO {G G2 : Prop} (x : G2) (hwq : Hold G2 → G := by
    intro hQq
    repeat' (first | apply HL.fold | apply HA.fold | apply HL.nil | apply HX.n_then | apply HC.seq | apply HC.region | refine HL.pa ?_ | refine HL.ga rfl ?_ | refine HL.na rfl ?_ | refine HL.nu rfl rfl ?_ | apply HC.block | apply HC.skip | apply HC.exit | apply HC.ret | apply HX.e_block | refine HX.e_other rfl ?_ | apply HX.e_then | apply HX.e_again | apply HX.n_block | apply HX.r_then | apply HX.r_block | apply HX.r_again | refine HC.cond_yes rfl ?_ | refine HC.cond_no rfl ?_ | refine HL.one (H1.ldb rfl memA rfl rfl ?_) | refine HC.cond rfl (fun hc => ?_) (fun hc => ?_) | refine HC.cond_b rfl (fun hc => ?_) (fun hc => ?_))
    exact hQq.get) : G := hwq ⟨x⟩
/-- A slice that reads as records. -/
def RdR (w : World) (v : Value) (l : List Rc) : Prop :=
  ∃ (a : Option Addr) (c : Nat), v = .slice a l.length c ∧ l.length ≤ c ∧ (l = [] ∨ ∃ b off, a = some ⟨b, off, none⟩ ∧ b < w.heap.size ∧ ∀ j r, l[j]? = some r → ∀ i u, (rcells r)[i]? = some u → w.cell? ⟨b, off + j * 15 + i, none⟩ = some u)
theorem RdR.ext {w w' : World} {v : Value} {l : List Rc} (h : RdR w v l) (k : Ext w w') : RdR w' v l := by
  obtain ⟨a, c, h1, h2, h3⟩ := h
  refine ⟨a, c, h1, h2, ?_⟩
  rcases h3 with h3 | ⟨b, off, h3, h5, h6⟩
  · exact .inl h3
  · exact .inr ⟨b, off, h3, Nat.lt_of_lt_of_le h5 k.size, fun j r hj i u hu => cell_ext k (h6 j r hj i u hu)⟩
theorem RdR.shape {w : World} {v : Value} {l : List Rc} (h : RdR w v l) : ∃ a c, v = .slice a l.length c ∧ l.length ≤ c := by
  obtain ⟨a, c, h1, h2, -⟩ := h
  exact ⟨a, c, h1, h2⟩
theorem RdR.at {w : World} {a : Option Addr} {n c : Nat} {l : List Rc} (h : RdR w (.slice a n c) l) (hne : l ≠ []) :
    ∃ b off, a = some ⟨b, off, none⟩ ∧ b < w.heap.size ∧ ∀ j r, l[j]? = some r → ∀ i u, (rcells r)[i]? = some u → w.cell? ⟨b, off + j * 15 + i, none⟩ = some u := by
  obtain ⟨a', c', h1, h2, h3⟩ := h
  cases h1
  rcases h3 with h3 | h3
  · exact absurd h3 hne
  · exact h3
theorem RdR.nil (w : World) (a : Option Addr) (c : Nat) : RdR w (.slice a 0 c) [] := ⟨a, c, rfl, Nat.zero_le _, .inl rfl⟩
def rcl (l : List Rc) : List Value := l.flatMap rcells
theorem rcells_len (r : Rc) : (rcells r).length = 15 := rfl
theorem rcl_len : ∀ l : List Rc, (rcl l).length = l.length * 15
  | [] => rfl
  | r :: l => by
    have := rcl_len l
    unfold rcl at this ⊢
    rw [List.flatMap_cons, List.length_append, rcells_len, this, List.length_cons]; omega
theorem rcl_app (l m : List Rc) : rcl (l ++ m) = rcl l ++ rcl m := by unfold rcl; rw [List.flatMap_append]
theorem rcl_get {l : List Rc} : ∀ {j : Nat} {p : Rc}, l[j]? = some p → ∀ (i : Nat) (v : Value), (rcells p)[i]? = some v → (rcl l)[j * 15 + i]? = some v := by
  induction l with
  | nil => intro j p h; simp at h
  | cons q l ih =>
    intro j p h i v hv
    have e : rcl (q :: l) = rcells q ++ rcl l := rfl
    rw [e]
    cases j with
    | zero =>
      simp only [List.getElem?_cons_zero, Option.some.injEq] at h
      subst h
      rw [Nat.zero_mul, Nat.zero_add, List.getElem?_append_left (List.getElem?_eq_some_iff.1 hv).1]
      exact hv
    | succ j =>
      rw [List.getElem?_cons_succ] at h
      have h1 := ih h i v hv
      rw [List.getElem?_append_right (by rw [rcells_len]; omega), rcells_len, show (j + 1) * 15 + i - 15 = j * 15 + i by omega]
      exact h1
theorem RdR.of_owns {w : World} {base : Nat} {e : TypeId} {v : Value} {l : List Rc} (h : w.ownsRow base e 15 v l.length (rcl l)) : RdR w v l := by
  rcases h.2 with ⟨rfl, h0⟩ | ⟨g, cap, cur, rfl, hbg, hg, hnc, hcm, hcs, htake⟩
  · obtain rfl := List.eq_nil_of_length_eq_zero h0
    exact RdR.nil w none 0
  · refine ⟨_, _, rfl, hnc, .inr ⟨g, 0, rfl, (Array.getElem?_eq_some_iff.1 hg).1, fun j r hj i u hu => ?_⟩⟩
    have h1 := h.cells (g := g) rfl (j * 15 + i) u (rcl_get hj i u hu)
    rw [add_lit] at h1
    rw [Nat.zero_add]
    rw [Nat.zero_add] at h1
    exact h1
theorem Mm.recs {w0 w : World} {H : List Atom} {e : TypeId} {c : Nat} {a : Option Addr} {l : List Rc} (h : Mm w0 H w) (hm : A.grow e 15 a c l.length (rcl l) ∈ H) : RdR w (.slice a l.length c) l := RdR.of_owns (h.own hm)
/-- What is in effect, by its keys. -/
structure EffG (l : List Rc) (day : Int) (m : List (List UInt8 × Rc)) : Prop where
  nd : (m.map Prod.fst).Nodup
  key : ∀ p ∈ m, p.1 = keyR p.2
  mem : ∀ r, (∃ p ∈ m, p.2 = r) ↔ Top l day r ∧ r.gone = false
theorem EffM.gone {l : List Rc} {day : Int} {m m' : List (List UInt8 × Rc)} (h : EffM l day m) (hn : (m'.map Prod.fst).Nodup) (hm : ∀ p, p ∈ m' ↔ p ∈ m ∧ p.2.gone = false) : EffG l day m' := by
  refine ⟨hn, fun p hp => (h.top p ((hm p).1 hp).1).1, fun r => ⟨?_, ?_⟩⟩
  · rintro ⟨p, hp, rfl⟩
    have := (hm p).1 hp
    exact ⟨(h.top p this.1).2, this.2⟩
  · rintro ⟨ht, hg⟩
    obtain ⟨p, hp, rfl⟩ := (h.has r).2 ht
    exact ⟨p, (hm p).2 ⟨hp, hg⟩, rfl⟩
attribute [local irreducible] WC WL WX POp Then Again Fn NX W1 WA WO QL RP RA Yld LoopAt HC HL HX HN H1 HA HO HQ HB HP A.blk A.grow A.rd A.obj A.mp AgainH CutH
attribute [local irreducible] A.ms A.mx A.mit
set_option maxHeartbeats 2000000 in
theorem effect_fn (a : Option Addr) (c : Nat) (l : List Rc) (hl : l.length ≤ 1000000) (hok : ∀ r ∈ l, RcOk r) (day : Int) (w : World) (hR : RdR w (.slice a l.length c) l) :
    Fn Tryz.prog 31 #[.slice a l.length c, zv day] w fun v w' => ∃ z : Nat × List (List UInt8 × Rc), EffG l day z.2 ∧ v = .map (some z.1) ∧ Mm w [A.ms z.1 (liftM z.2)] w' := by
  refine enterH (l := [_, _]) rfl Tryz.ntmps31 rfl ?_
  refine hwXO ?_
  refine HL.one (H1.mkms rfl (fun b => ?_))
  refine hwXO ?_
  refine HC.loop (α := Nat × List (List UInt8 × Rc)) (fun z => [(1, zv day), (5, .map (some b)), (12, .slice a l.length c), (13, zv (l.length : Int)), (14, zv (z.1 : Int))])
    (fun z => [A.ms b (liftM z.2)]) (fun z => z.1 ≤ l.length ∧ EffM (l.take z.1) day z.2) (fun z => l.length - z.1) (0, []) ⟨Nat.zero_le _, by rw [List.take_zero]; exact EffM.nil day⟩ esA (by repeat (first | exact Hs.nil _ | (refine Hs.cons pickA ?_))) ?_
  rintro ⟨j, m⟩ ⟨hj, hI⟩
  dsimp only at hj hI ⊢
  by_cases hlt : j < l.length
  rotate_left
  · obtain rfl : j = l.length := by omega
    rw [List.take_length] at hI
    refine hwXO ?_
    refine HL.one (H1.callk (α := List (List UInt8 × Rc)) (V := fun _ => .tuple #[]) (I := fun m' => (m'.map Prod.fst).Nodup ∧ ∀ p, p ∈ m' ↔ p ∈ m ∧ p.2.gone = false) (H' := fun m' => [A.ms b (liftM m')]) (vs := [.map (some b), fnV 79]) rfl rfl (fun w' hM => deleteFunc_fn hM hI.nd) ?_)
    rintro m' ⟨h1, h2⟩
    refine hwXO ?_
    exact HX.ret1 rfl rfl fun w' hM => ⟨(b, m'), hI.gone h1 h2, rfl, hM⟩
  obtain ⟨r, hr⟩ : ∃ r, l[j]? = some r := ⟨_, List.getElem?_eq_getElem hlt⟩
  have hrok := hok r (List.mem_of_getElem? hr)
  have htk : l.take (j + 1) = l.take j ++ [r] := by rw [List.take_add_one, hr]; rfl
  obtain ⟨bl, off, rfl, -, hcell⟩ := hR.at (fun e => by rw [e] at hlt; exact absurd hlt (Nat.not_lt_zero _))
  have hcl := hcell j r hr
  clear hcell
  refine hwXO ?_
  refine HL.one (H1.ldAggw (vs := rcells r) rfl rfl (fun w' hM i v hv => cell_ext hM.ext (hcl i v hv)) rfl ?_)
  refine hwXO ?_
  refine HL.one (H1.alloc (cs := rcells rcZ) rfl rfl (fun b7 => ?_))
  refine hwXO ?_
  refine HL.one (H1.stAgg (cs := rcells rcZ) (vs := rcells r) rfl rfl rfl (rcells_one r) rplA rfl ?_)
  refine hwXO ?_
  refine HL.one (H1.ldAgg (vs := rcells r) rfl memA rfl (fun i v hv => by rw [Nat.zero_add]; exact hv) rfl ?_)
  refine hwXO ?_
  refine HL.one (H1.callx (vs := [recV r]) rfl rfl (fun w' _ => valid_fn r hrok w') ?_)
  by_cases hv : ValidR r
  rotate_left
  · rw [validB_no hv]
    refine hwXO ?_
    exact HX.again (j + 1, m) ⟨hlt, by show EffM (l.take (j + 1)) day m; rw [htk]; exact hI.skip fun h => hv h.1⟩ (by show l.length - (j + 1) < l.length - j; omega) esA (by repeat (first | exact Hs.nil _ | (refine Hs.cons pickA ?_)))
  rw [validB_yes hv]
  by_cases hd : day < r.day
  · refine hwXO ?_
    exact HX.again (j + 1, m) ⟨hlt, by show EffM (l.take (j + 1)) day m; rw [htk]; exact hI.skip fun h => by have := h.2; omega⟩ (by show l.length - (j + 1) < l.length - j; omega) esA (by repeat (first | exact Hs.nil _ | (refine Hs.cons pickA ?_)))
  have hnow : Now day r := ⟨hv, by omega⟩
  refine hwXO ?_
  refine HL.one (H1.ldAgg (vs := rcells r) rfl memA rfl (fun i v hv => by rw [Nat.zero_add]; exact hv) rfl ?_)
  refine hwXO ?_
  refine HL.one (H1.callx (vs := [recV r]) rfl rfl (fun w' _ => key_fn r hrok w') ?_)
  rw [keyS_yes hv]
  refine hwXO ?_
  refine HL.one (H1.msget2 rfl rfl memA rfl ?_)
  have hget := midxS_get (liftM m) ⟨(keyR r).toArray⟩
  cases hx : midxS (liftM m) ⟨(keyR r).toArray⟩ with
  | none =>
    rw [hx, Option.map_none] at hget
    rw [← hget, Option.getD_none, Option.isSome_none]
    have hset := midxS_none (recV r) hx
    have hno := midx_lift_no hx
    refine hwXO ?_
    refine HL.one (H1.alloc (cs := rcells rcZ) rfl rfl (fun b9 => ?_))
    refine hwXO ?_
    refine HL.one (H1.stAgg (cs := rcells rcZ) (vs := rcells rcZ) rfl rfl rfl (rcells_one _) rplA rfl ?_)
    refine hwXO ?_
    refine HL.one (H1.ldAgg (vs := rcells r) rfl memA rfl (fun i v hv => by rw [Nat.zero_add]; exact hv) rfl ?_)
    refine hwXO ?_
    refine HL.one (H1.msset rfl rfl rfl rplA ?_)
    rw [hset, show liftM m ++ [((⟨(keyR r).toArray⟩ : ByteArray), recV r)] = liftM (m ++ [(keyR r, r)]) from by unfold liftM; rw [List.map_append]; rfl]
    refine hwXO ?_
    exact HX.again (j + 1, m ++ [(keyR r, r)]) ⟨hlt, by show EffM (l.take (j + 1)) day _; rw [htk]; exact hI.add hnow hno⟩ (by show l.length - (j + 1) < l.length - j; omega) esA (by repeat (first | exact Hs.nil _ | (refine Hs.cons pickA ?_)))
  | some q =>
    obtain ⟨i, u⟩ := q
    rw [hx, Option.map_some] at hget
    rw [← hget, Option.getD_some, Option.isSome_some]
    have hset := (midxS_some (recV r) hx).1
    obtain ⟨s, rfl, hs⟩ := midx_lift_some hx
    have hsm := List.mem_of_getElem? hs
    have hsok : RcOk s := hok s (List.mem_of_mem_take (hI.top _ hsm).2.mem)
    refine hwXO ?_
    refine HL.one (H1.alloc (cs := rcells rcZ) rfl rfl (fun b9 => ?_))
    refine hwXO ?_
    refine HL.one (H1.stAgg (cs := rcells rcZ) (vs := rcells s) rfl rfl rfl (rcells_one _) rplA rfl ?_)
    refine hwXO ?_
    refine HL.one (H1.ldAgg (vs := rcells r) rfl memA rfl (fun i v hv => by rw [Nat.zero_add]; exact hv) rfl ?_)
    refine hwXO ?_
    refine HL.one (H1.ldAgg (vs := rcells s) rfl memA rfl (fun i v hv => by rw [Nat.zero_add]; exact hv) rfl ?_)
    refine hwXO ?_
    refine HL.one (H1.callx (vs := [recV r, recV s]) rfl rfl (fun w' _ => prevails_fn r s hrok hsok w') ?_)
    by_cases hp : Prev r s
    · rw [prevB_yes hp]
      refine hwXO ?_
      refine HL.one (H1.ldAgg (vs := rcells r) rfl memA rfl (fun i v hv => by rw [Nat.zero_add]; exact hv) rfl ?_)
      refine hwXO ?_
      refine HL.one (H1.msset rfl rfl rfl rplA ?_)
      rw [hset, show (liftM m).set i ((⟨(keyR r).toArray⟩ : ByteArray), recV r) = liftM (m.set i (keyR r, r)) from by unfold liftM; rw [List.map_set]]
      refine hwXO ?_
      exact HX.again (j + 1, m.set i (keyR r, r)) ⟨hlt, by show EffM (l.take (j + 1)) day _; rw [htk]; exact hI.put hnow hs hp⟩ (by show l.length - (j + 1) < l.length - j; omega) esA (by repeat (first | exact Hs.nil _ | (refine Hs.cons pickA ?_)))
    · rw [prevB_no hp]
      refine hwXO ?_
      exact HX.again (j + 1, m) ⟨hlt, by show EffM (l.take (j + 1)) day m; rw [htk]; exact hI.keep hsm rfl hp⟩ (by show l.length - (j + 1) < l.length - j; omega) esA (by repeat (first | exact Hs.nil _ | (refine Hs.cons pickA ?_)))
end Go.Sx
/- Chapter 21: slices of arrays of numbers; fields of records that are set. Plain. -/
namespace Go.Sx
open Go
/-- A slice of arrays of numbers. -/
def RdA (sz : Nat) (w : World) (v : Value) (rows : List (List Int)) : Prop :=
  ∃ (a : Option Addr) (c : Nat), v = .slice a rows.length c ∧ rows.length ≤ c ∧ (rows = [] ∨ ∃ b off, a = some ⟨b, off, none⟩ ∧ b < w.heap.size ∧ ∀ i rw j u, (rows.map ints)[i]? = some rw → rw[j]? = some u → w.cell? ⟨b, off + i * sz + j, none⟩ = some u)
theorem RdA.ext {sz : Nat} {w w' : World} {v : Value} {rows : List (List Int)} (h : RdA sz w v rows) (k : Ext w w') : RdA sz w' v rows := by
  obtain ⟨a, c, h1, h2, h3⟩ := h
  refine ⟨a, c, h1, h2, ?_⟩
  rcases h3 with h3 | ⟨b, off, h3, h5, h6⟩
  · exact .inl h3
  · exact .inr ⟨b, off, h3, Nat.lt_of_lt_of_le h5 k.size, fun i row j u hi hu => cell_ext k (h6 i row j u hi hu)⟩
theorem RdA.shape {sz : Nat} {w : World} {v : Value} {rows : List (List Int)} (h : RdA sz w v rows) : ∃ a c, v = .slice a rows.length c ∧ rows.length ≤ c := by
  obtain ⟨a, c, h1, h2, -⟩ := h
  exact ⟨a, c, h1, h2⟩
theorem RdA.at {sz : Nat} {w : World} {a : Option Addr} {n c : Nat} {rows : List (List Int)} (h : RdA sz w (.slice a n c) rows) (hne : rows ≠ []) :
    ∃ b off, a = some ⟨b, off, none⟩ ∧ b < w.heap.size ∧ ∀ i y, rows[i]? = some y → ∀ j u, (ints y)[j]? = some u → w.cell? ⟨b, off + i * sz + j, none⟩ = some u := by
  obtain ⟨a', c', h1, h2, h3⟩ := h
  cases h1
  rcases h3 with h3 | ⟨b, off, h4, h5, h6⟩
  · exact absurd h3 hne
  · exact ⟨b, off, h4, h5, fun i y hy j u hu => h6 i (ints y) j u (by rw [List.getElem?_map, hy]; rfl) hu⟩
/-- A record with another value of a field. -/
def Rc.setF (r : Rc) (i : Nat) (n : Int) : Rc :=
  match i with
  | 0 => { r with id := n }
  | 1 => { r with start := n }
  | 2 => { r with stop := n }
  | 3 => { r with pack := n }
  | 4 => { r with person := n }
  | 5 => { r with role := n }
  | 6 => { r with purpose := n }
  | 7 => { r with clause := n }
  | 8 => { r with adm := decide (n = 1) }
  | 9 => { r with party := n }
  | _ => r
theorem setF_get (r : Rc) {i j : Nat} (hi : i < 10) (hj : j < 10) (n : Int) (h8 : i = 8 → n = 0 ∨ n = 1) : (r.setF i n).get j = if i = j then n else r.get j := by
  rcases ten hi with rfl | rfl | rfl | rfl | rfl | rfl | rfl | rfl | rfl | rfl <;> rcases ten hj with rfl | rfl | rfl | rfl | rfl | rfl | rfl | rfl | rfl | rfl <;> first | rfl | (rcases h8 rfl with rfl | rfl <;> rfl)
theorem setF_same (r : Rc) (i : Nat) (n : Int) : (r.setF i n).kind = r.kind ∧ (r.setF i n).version = r.version ∧ (r.setF i n).day = r.day ∧ (r.setF i n).gone = r.gone ∧ (r.setF i n).text = r.text := by
  unfold Rc.setF
  split <;> exact ⟨rfl, rfl, rfl, rfl, rfl⟩
/-- A record of which some fields are set. -/
structure SomeI (L : List (Nat × Int × Int)) (r : Rc) : Prop where
  kind : 1 ≤ r.kind ∧ r.kind ≤ 8
  ver : 1 ≤ r.version ∧ r.version ≤ 3
  day : 0 ≤ r.day ∧ r.day ≤ 29
  text : r.text = ByteArray.mk #[]
  lim : ∀ p ∈ L, p.2.1 ≤ r.get p.1 ∧ r.get p.1 ≤ p.2.2
  zero : ∀ i, i < 10 → i ∉ L.map Prod.fst → r.get i = 0
  start : 0 ≤ r.start ∧ r.start ≤ 39
  span : 2 ∈ L.map Prod.fst → r.start ≤ r.stop
theorem SomeI.step {L : List (Nat × Int × Int)} {r : Rc} (h : SomeI L r) {p : Nat × Int × Int} (hp : p.1 < 10) (hno : p.1 ∉ L.map Prod.fst) {n : Int} (hn : p.2.1 ≤ n ∧ n ≤ p.2.2) (h8 : p.1 = 8 → n = 0 ∨ n = 1) (h1 : p.1 = 1 → (0 ≤ n ∧ n ≤ 39) ∧ 2 ∉ L.map Prod.fst) (h2 : p.1 = 2 → r.start ≤ n)
    (hl10 : ∀ q ∈ L, q.1 < 10) : SomeI (L ++ [p]) (r.setF p.1 n) := by
  obtain ⟨e1, e2, e3, e4, e5⟩ := setF_same r p.1 n
  have hg : ∀ j, j < 10 → (r.setF p.1 n).get j = if p.1 = j then n else r.get j := fun j hj => setF_get r hp hj n h8
  have hst : (r.setF p.1 n).start = if p.1 = 1 then n else r.start := hg 1 (by decide)
  have hsp : (r.setF p.1 n).stop = if p.1 = 2 then n else r.stop := hg 2 (by decide)
  refine ⟨by rw [e1]; exact h.kind, by rw [e2]; exact h.ver, by rw [e3]; exact h.day, by rw [e5]; exact h.text, fun q hq => ?_, fun i hi hm => ?_, ?_, fun hm => ?_⟩
  · rcases List.mem_append.1 hq with hq | hq
    · rw [hg q.1 (hl10 q hq), if_neg (fun e : p.1 = q.1 => hno (List.mem_map.2 ⟨q, hq, e.symm⟩))]
      exact h.lim q hq
    · obtain rfl := List.mem_singleton.1 hq
      rw [hg q.1 hp, if_pos rfl]; exact hn
  · rw [List.map_append, List.mem_append, not_or] at hm
    rw [hg i hi, if_neg (fun e => hm.2 (by simp [e]))]
    exact h.zero i hi hm.1
  · rw [hst]
    split
    · rename_i e; exact (h1 e).1
    · exact h.start
  · rw [hst, hsp]
    rw [List.map_append, List.mem_append] at hm
    by_cases e2' : p.1 = 2
    · have e1' : p.1 ≠ 1 := by omega
      rw [if_neg e1', if_pos e2']; exact h2 e2'
    · have hm2 : 2 ∈ L.map Prod.fst := hm.resolve_right fun hx => e2' ((List.mem_singleton.1 hx).symm)
      by_cases e1' : p.1 = 1
      · exact absurd hm2 (h1 e1').2
      · rw [if_neg e1', if_neg e2']; exact h.span hm2
/-- What Some makes. -/
structure SomeOk (r : Rc) : Prop where
  valid : ValidR r
  ver : r.version ≤ 3
  day : r.day ≤ 29
  text : r.text = ByteArray.mk #[]
theorem spec_two {k : Int} (h : 1 ≤ k ∧ k ≤ 8) (h6 : k ≠ 6) (h8 : k ≠ 8) : 2 ∈ (specF k).map Prod.fst := by
  rcases (show k = 1 ∨ k = 2 ∨ k = 3 ∨ k = 4 ∨ k = 5 ∨ k = 7 by omega) with rfl | rfl | rfl | rfl | rfl | rfl <;> decide
theorem SomeI.done {r : Rc} (h : SomeI (specF r.kind) r) (hc : r.kind = 2 → r.clause ≠ r.party) : SomeOk r :=
  ⟨⟨h.kind, ⟨h.ver.1, by have := h.ver.2; omega⟩, ⟨h.day.1, by have := h.day.2; omega⟩, by rw [h.text]; decide, ⟨fun h6 h8 => h.span (spec_two h.kind h6 h8), hc⟩, h.lim, h.zero⟩, h.ver.2, h.day.2, h.text⟩
theorem SomeI.done2 {r : Rc} (h : SomeI (specF r.kind) r) (hk : r.kind = 2) : SomeOk (r.setF 9 0) := by
  have hsp : specF r.kind = [(7, 1, 1000000), (1, 0, 100000), (2, 0, 100000), (3, 0, 1000000), (5, 0, 1000000), (6, 0, 1000000), (8, 0, 1), (9, 0, 1000000)] := by rw [hk]; rfl
  have hg : ∀ j, j < 10 → (r.setF 9 0).get j = if 9 = j then 0 else r.get j := fun j hj => setF_get r (by decide) hj 0 (by omega)
  have hcl := h.lim (7, 1, 1000000) (by rw [hsp]; decide)
  have h' : SomeI (specF (r.setF 9 0).kind) (r.setF 9 0) := by
    refine ⟨h.kind, h.ver, h.day, h.text, fun p hp => ?_, fun i hi hm => ?_, h.start, h.span⟩
    · have hp' : p ∈ specF r.kind := hp
      have hl := h.lim p hp'
      rw [hg p.1 (spec_lo hp').2]
      split
      · rename_i e
        rw [hsp] at hp'
        simp only [List.mem_cons, List.not_mem_nil, or_false] at hp'
        rcases hp' with rfl | rfl | rfl | rfl | rfl | rfl | rfl | rfl <;> first | exact absurd e (by decide) | exact ⟨Int.le_refl _, of_decide_eq_true rfl⟩
      · exact hl
    · rw [hg i hi]
      split
      · rfl
      · exact h.zero i hi hm
  refine h'.done fun _ => ?_
  show r.clause ≠ 0
  have : 1 ≤ r.clause := hcl.1
  omega
end Go.Sx
/- Chapter 21: questions; conditions on records as closures; slices.ContainsFunc at records. -/
namespace Go.Sx
open Go Go.Proofs Go.RowKit
theorem hwXT {G G2 : Prop} (x : G2) (hwq : Hold G2 → G := by
    intro hQq
    repeat' (first | apply HL.fold | apply HA.fold | apply HL.nil | apply HX.n_then | apply HC.seq | apply HC.region | refine HL.pa ?_ | refine HL.ga rfl ?_ | refine HL.na rfl ?_ | refine HL.nu rfl rfl ?_ | apply HC.block | apply HC.skip | apply HC.exit | apply HC.ret | apply HX.e_block | refine HX.e_other rfl ?_ | apply HX.e_then | apply HX.e_again | apply HX.n_block | apply HX.r_then | apply HX.r_block | apply HX.r_again | refine HC.cond_yes rfl ?_ | refine HC.cond_no rfl ?_ | refine HL.one (H1.ldb rfl memA rfl rfl ?_) | refine HC.cond rfl (fun hc => ?_) (fun hc => ?_) | refine HC.cond_b rfl (fun hc => ?_) (fun hc => ?_))
    exact hQq.get) : G := hwq ⟨x⟩
section
variable {P : Program} {r : Option Nat} {N : Nat} {ds : List Deferred} {Q : Post} {E : Env} {w0 w : World} {H : List Atom} {next : Act → World → Prop} {g : Option (Nat × Bool)}
variable {d : Nat} {t t' ty e : TypeId} {pos : String} {af : Array Edge} {x y : Operand}
/-- A function value that answers a question about records. -/
def Pr (P : Program) (w : World) (fv : Value) (l : List Rc) (p : Rc → Bool) : Prop :=
  ∃ (f : FuncId) (pre cap : List Value), fv = .func (.func f) pre.toArray cap.toArray ∧ CallOk P f ∧ ∀ w', Ext w w' → ∀ r ∈ l, Fn P f (pre ++ [recV r] ++ cap).toArray w' fun v w'' => v = .bool (p r) ∧ Ext w' w''
theorem Pr.ext {w' : World} {fv : Value} {l : List Rc} {p : Rc → Bool} (h : Pr P w fv l p) (k : Ext w w') : Pr P w' fv l p := by
  obtain ⟨f, pre, cap, h1, h2, h3⟩ := h
  exact ⟨f, pre, cap, h1, h2, fun w'' hx => h3 w'' (k.trans hx)⟩
theorem W1.callvp {d : Option Nat} {x : Operand} {f : FuncId} {pre cap : List Value} {args : List Operand} {ats : Array TypeId} {ty : TypeId} {pos : String} {af : Array Edge} {g : Option (Nat × Bool)} {vs : List Value} {R : Value → World → Prop}
    (hf : CallOk P f) (hd : dOk d N = true) (hx : Env.ev E x = some (.func (.func f) pre.toArray cap.toArray)) (ha : Env.evs E args = some vs) (hc : Fn P f (pre ++ vs ++ cap).toArray w R)
    (h : ∀ v w', R v w' → NX N ds next (putE d v E) w') :
    W1 P r N ds next ⟨d, .call ⟨.value x, args.toArray, ats⟩, ty, pos, af, g⟩ Q E w :=
  W1.enter hd (fun a hr => by
    have hm : Array.map a.eval args.toArray = vs.toArray := by simp [hr.evs ha]
    simp [execOp, resolve, hm, hr.ev hx, Deferred.ofValue, invoke, hf.run]) hc h
theorem H1.callpr {d : Option Nat} {l : List Rc} {p : Rc → Bool} {fv : Value} {rc : Rc} {ats : Array TypeId} (hp : ∀ w, Mm w0 H w → Pr P w fv l p) (hl : rc ∈ l) (hd : dOk d N = true) (hx : Env.ev E x = some fv) (ha : Env.evs E [y] = some [recV rc])
    (h : HN N ds next (putE d (.bool (p rc)) E) w0 H) : H1 P r N ds next ⟨d, .call ⟨.value x, [y].toArray, ats⟩, ty, pos, af, g⟩ Q E w0 H := fun w hM => by
  obtain ⟨f, pre, cap, rfl, hf, hc⟩ := hp w hM
  exact W1.callvp hf hd hx ha (hc w (Ext.refl w) rc hl) (by
    rintro v w' ⟨rfl, hx'⟩; exact h _ (hM.more hx'))
end
abbrev qV (a b d : Int) : Value := .agg #[zv a, zv b, zv d]
def qc (a b d : Int) : List Value := [zv a, zv b, zv d]
def nowB (d : Int) (r : Rc) : Bool := decide (r.start ≤ d) && decide (d ≤ r.stop)
def aboutB (a b d : Int) (r : Rc) : Bool := decide (r.pack = a) && ((decide (r.purpose = 0) || decide (r.purpose = b)) && nowB d r)
def hasB (a b d : Int) (r : Rc) : Bool := decide (r.person = a) && (decide (r.role = b) && nowB d r)
def embB (a d : Int) (r : Rc) : Bool := decide (r.pack = a) && nowB d r
def overB (i d : Int) (x : Rc) : Bool := decide (x.party = i) && decide (x.start ≤ d)
def heldB (rel : List Rc) (a d : Int) (r : Rc) : Bool := (decide (r.pack = 0) || decide (r.pack = a)) && (nowB d r && !(rel.any (overB r.id d)))
attribute [local irreducible] WC WL WX POp Then Again Fn NX W1 WA WO QL RP RA Yld LoopAt HC HL HX HN H1 HA HO HQ HB HP A.blk A.grow A.rd A.obj A.mp AgainH CutH
theorem isNow_fn (a b d : Int) (r : Rc) (w : World) : Fn Tryz.prog 115 #[qV a b d, recV r] w fun v w' => v = .bool (nowB d r) ∧ Ext w w' := by
  refine enterH (l := [_, _]) rfl Tryz.ntmps115 rfl ?_
  refine hwXT ?_
  refine HL.one (H1.boxAgg (cs := qc a b d) rfl rfl (fun b2 => ?_))
  refine hwXT ?_
  refine HL.one (H1.boxAgg (cs := rcells r) rfl rfl (fun b3 => ?_))
  by_cases h1 : r.start ≤ d
  · refine hwXT ?_
    exact HX.ret1 rfl rfl fun w' hM => ⟨by unfold nowB; rw [decide_eq_true h1, Bool.true_and], hM.ext⟩
  · refine hwXT ?_
    exact HX.ret1 rfl rfl fun w' hM => ⟨by unfold nowB; rw [decide_eq_false h1, Bool.false_and], hM.ext⟩
theorem isAbout_fn (a b d : Int) (r : Rc) (w : World) : Fn Tryz.prog 57 #[qV a b d, recV r] w fun v w' => v = .bool (aboutB a b d r) ∧ Ext w w' := by
  refine enterH (l := [_, _]) rfl Tryz.ntmps57 rfl ?_
  refine hwXT ?_
  refine HL.one (H1.boxAgg (cs := qc a b d) rfl rfl (fun b2 => ?_))
  refine hwXT ?_
  refine HL.one (H1.boxAgg (cs := rcells r) rfl rfl (fun b3 => ?_))
  by_cases h1 : r.pack = a
  rotate_left
  · refine hwXT ?_
    exact HX.ret1 rfl rfl fun w' hM => ⟨by unfold aboutB; rw [decide_eq_false h1, Bool.false_and], hM.ext⟩
  by_cases h2 : r.purpose = 0
  · refine hwXT ?_
    refine HL.one (H1.ldAgg (vs := qc a b d) rfl memA rfl (fun i v hv => by rw [Nat.zero_add]; exact hv) rfl ?_)
    refine hwXT ?_
    refine HL.one (H1.ldAgg (vs := rcells r) rfl memA rfl (fun i v hv => by rw [Nat.zero_add]; exact hv) rfl ?_)
    refine hwXT ?_
    refine HL.one (H1.callx (vs := [qV a b d, recV r]) rfl rfl (fun w' _ => isNow_fn a b d r w') ?_)
    refine hwXT ?_
    exact HX.ret1 rfl rfl fun w' hM => ⟨by unfold aboutB; rw [decide_eq_true h1, decide_eq_true h2, Bool.true_and, Bool.true_or, Bool.true_and], hM.ext⟩
  by_cases h3 : r.purpose = b
  rotate_left
  · refine hwXT ?_
    exact HX.ret1 rfl rfl fun w' hM => ⟨by unfold aboutB; rw [decide_eq_true h1, decide_eq_false h2, decide_eq_false h3]; rfl, hM.ext⟩
  · refine hwXT ?_
    refine HL.one (H1.ldAgg (vs := qc a b d) rfl memA rfl (fun i v hv => by rw [Nat.zero_add]; exact hv) rfl ?_)
    refine hwXT ?_
    refine HL.one (H1.ldAgg (vs := rcells r) rfl memA rfl (fun i v hv => by rw [Nat.zero_add]; exact hv) rfl ?_)
    refine hwXT ?_
    refine HL.one (H1.callx (vs := [qV a b d, recV r]) rfl rfl (fun w' _ => isNow_fn a b d r w') ?_)
    refine hwXT ?_
    exact HX.ret1 rfl rfl fun w' hM => ⟨by unfold aboutB; rw [decide_eq_true h1, decide_eq_false h2, decide_eq_true h3, Bool.true_and, Bool.or_true, Bool.true_and], hM.ext⟩
theorem line1_fn (r : Rc) (w : World) : Fn Tryz.prog 58 #[recV r] w fun v w' => v = zv r.clause ∧ Ext w w' := by
  refine enterH (l := [_]) rfl Tryz.ntmps58 rfl ?_
  refine hwXT ?_
  refine HL.one (H1.boxAgg (cs := rcells r) rfl rfl (fun b1 => ?_))
  refine hwXT ?_
  exact HX.ret1 rfl rfl fun w' hM => ⟨rfl, hM.ext⟩
end Go.Sx
/- slices.Sort and slices.Compact at numbers. -/
namespace Go.Sx
open Go Go.Proofs Go.RowKit
def srtI (l : List Int) : List Int := l.mergeSort fun x y => decide (x ≤ y)
theorem srtI_perm (l : List Int) : (srtI l).Perm l := List.mergeSort_perm _ _
theorem srtI_len (l : List Int) : (srtI l).length = l.length := (srtI_perm l).length_eq
/-- The numbers, ascending, each once. -/
def numL (l : List Int) : List Int := Lib.compact (srtI l)
theorem numL_len (l : List Int) : (numL l).length ≤ l.length := by
  rw [← srtI_len l]
  exact Lib.compact_length_le _
theorem putCells_take (ys : List Int) (cur : Array Value) (h : ys.length ≤ cur.size) : (Go.Sort.putCells (Value.int .i64) 0 ys.toArray cur).toList.take ys.length = ints ys := by
  apply List.ext_getElem?
  intro i
  rw [List.getElem?_take]
  by_cases hi : i < ys.length
  · rw [if_pos hi, ints_get hi]
    have hi2 : i < cur.size := by omega
    simp [Go.Sort.putCells, hi2, at', zv, hi]
  · rw [if_neg hi, List.getElem?_eq_none (by rw [ints_len]; omega)]
theorem sortI_fn {w0 w : World} {H H' : List Atom} {a : Option Addr} {c : Nat} {l : List Int} (hM : Mm w0 H w) (hr : Rpl (A.grow 3 1 a c l.length (ints l)) (A.grow 3 1 a c l.length (ints (srtI l))) H H') (hl : l.length ≤ 1000000) :
    Fn Tryz.prog 90 #[.slice a l.length c] w fun v w' => v = .tuple #[] ∧ Mm w0 H' w' := by
  by_cases h0 : l = []
  · subst h0
    refine Calls.mono (Tryz.slices_Sort_int_none a c w) ?_
    rintro e w' ⟨rfl, rfl⟩
    have hs : srtI [] = [] := by simp [srtI]
    rw [hs] at hr
    exact ⟨_, rfl, rfl, Rpl.same hr ▸ hM⟩
  have hne : l.length ≠ 0 := fun e => h0 (List.eq_nil_of_length_eq_zero e)
  have hown := hM.own hr.mem
  obtain ⟨b, cur, rfl, hg, hnc, hcm, hcs⟩ : ∃ b cur, a = some ⟨b, 0, none⟩ ∧ w.heap[b]? = some (.cells cur 3 (0, 0)) ∧ l.length ≤ c ∧ c ≤ maxLen ∧ cur.size = c * 1 := by
    rcases hown.2 with ⟨-, h2⟩ | ⟨g, cap, cur, hv, -, hg, hnc, hcm, hcs, -⟩
    · exact absurd h2 hne
    · cases hv; exact ⟨g, cur, rfl, hg, hnc, hcm, hcs⟩
  have hlt := (Array.getElem?_eq_some_iff.1 hg).1
  have hcell : ∀ j, j < l.length → w.cell? ⟨b, j, none⟩ = some (zv (at' l j)) := fun j hj => ownsRow_cell hown (ints_get hj)
  refine Calls.mono (Tryz.slices_Sort_int b 0 c l w (fun j hj => ?_) hlt (by omega)) ?_
  · have hj' : j < l.length := by simpa using hj
    rw [Nat.zero_add, hcell j hj']
    refine ⟨?_, by simp [World.frozen?, hg]⟩
    simp [at', hj', zv, getElem!_pos]
  · rintro e w' ⟨rfl, n, os, rfl⟩
    have hs : (Go.Sort.putRow (Value.int .i64) (Go.Sort.ahead w n) b 0 (srtI l).toArray).heap.size = w.heap.size := by simp [Go.Sort.putRow, Go.Sort.mapBlock, Go.Sort.ahead]
    refine ⟨_, rfl, rfl, hM.turn hr rfl rfl rfl ?_ (fun k hk hkb => ?_) ?_ (by simp [A.grow, Value.ownBlock]) (fun b' hb' => .inl (by simpa [A.grow, Value.ownBlock] using hb'))⟩
    · simp [Go.Sort.grow, Go.Sort.putRow, Go.Sort.mapBlock, Go.Sort.ahead]
    · have hkb' : ¬ b = k := fun e => hkb (by subst e; simp [A.grow, Value.ownBlock])
      show ((Go.Sort.putRow (Value.int .i64) (Go.Sort.ahead w n) b 0 (srtI l).toArray).heap ++ os)[k]? = _
      rw [Array.getElem?_append, if_pos (by rw [hs]; exact hk)]
      show (w.heap.modify b _)[k]? = _
      rw [Array.getElem?_modify, if_neg hkb']
    · have hls := srtI_len l
      refine ⟨by simp [ints, hls], .inr ⟨b, c, Go.Sort.putCells (Value.int .i64) 0 (srtI l).toArray cur, rfl, Nat.zero_le _, ?_, hnc, hcm, by simp [Go.Sort.putCells, hcs], ?_⟩⟩
      · have hm : (Go.Sort.putRow (Value.int .i64) (Go.Sort.ahead w n) b 0 (srtI l).toArray).heap[b]? = some (.cells (Go.Sort.putCells (Value.int .i64) 0 (srtI l).toArray cur) 3 (0, 0)) := by
          simp [Go.Sort.putRow, Go.Sort.mapBlock, Go.Sort.ahead, Array.getElem?_modify, hg, Go.Sort.onCells]
        show (Go.Sort.grow (Go.Sort.putRow (Value.int .i64) (Go.Sort.ahead w n) b 0 (srtI l).toArray) os).heap[b]? = _
        rw [Go.Sort.grow]
        simp only [Array.getElem?_append]
        rw [if_pos (by rw [hs]; exact hlt), hm]
      · rw [Nat.mul_one, ← hls]
        exact putCells_take _ _ (by omega)
theorem compactI_fn {w0 w : World} {H H' : List Atom} {a : Option Addr} {c : Nat} {l : List Int} (hM : Mm w0 H w) (hr : Rpl (A.grow 3 1 a c l.length (ints l)) (A.grow 3 1 a c (Lib.compact l).length (ints (Lib.compact l))) H H') (hl : l.length ≤ 1000000) :
    Fn Tryz.prog 113 #[.slice a l.length c] w fun v w' => v = .slice a (Lib.compact l).length c ∧ Mm w0 H' w' := by
  by_cases h0 : l = []
  · subst h0
    refine Calls.mono (Tryz.slices_Compact_int_empty a c w) ?_
    rintro e w' ⟨rfl, rfl⟩
    exact ⟨_, rfl, rfl, Rpl.same hr ▸ hM⟩
  have hne : l.length ≠ 0 := fun e => h0 (List.eq_nil_of_length_eq_zero e)
  have hown := hM.own hr.mem
  obtain ⟨b, cur, rfl, hg, hnc, hcm, hcs⟩ : ∃ b cur, a = some ⟨b, 0, none⟩ ∧ w.heap[b]? = some (.cells cur 3 (0, 0)) ∧ l.length ≤ c ∧ c ≤ maxLen ∧ cur.size = c * 1 := by
    rcases hown.2 with ⟨-, h2⟩ | ⟨g, cap, cur, hv, -, hg, hnc, hcm, hcs, -⟩
    · exact absurd h2 hne
    · cases hv; exact ⟨g, cur, rfl, hg, hnc, hcm, hcs⟩
  have hlt := (Array.getElem?_eq_some_iff.1 hg).1
  have hcell : ∀ j, j < l.length → w.cell? ⟨b, j, none⟩ = some (zv (at' l j)) := fun j hj => ownsRow_cell hown (ints_get hj)
  have hle : (Lib.compact l).length ≤ l.length := Lib.compact_length_le l
  refine Calls.mono (Tryz.slices_Compact_int b 0 c l w (fun j hj => ?_) (by omega) hnc) ?_
  · have hj' : j < l.length := by simpa using hj
    rw [Nat.zero_add, hcell j hj']
    refine ⟨?_, by simp [World.frozen?, hg]⟩
    simp [at', hj', zv, getElem!_pos]
  · rintro e w' ⟨rfl, q, rfl⟩
    obtain ⟨ys, hys⟩ : ∃ ys, ys = Lib.compact l ++ List.replicate (l.length - (Lib.compact l).length) 0 := ⟨_, rfl⟩
    have hyl : ys.length = l.length := by rw [hys, List.length_append, List.length_replicate]; omega
    rw [← hys]
    refine ⟨_, rfl, rfl, hM.turn hr rfl rfl rfl (by simp [Go.Sort.putRow, Go.Sort.mapBlock, Go.Sort.ahead]) (fun k hk hkb => ?_) ?_ (by simp [A.grow, Value.ownBlock]) (fun b' hb' => .inl (by simpa [A.grow, Value.ownBlock] using hb'))⟩
    · have hkb' : ¬ b = k := fun e => hkb (by subst e; simp [A.grow, Value.ownBlock])
      show (w.heap.modify b _)[k]? = _
      rw [Array.getElem?_modify, if_neg hkb']
    · refine ⟨by simp [ints], .inr ⟨b, c, Go.Sort.putCells (Value.int .i64) 0 ys.toArray cur, rfl, Nat.zero_le _, ?_, by omega, hcm, by simp [Go.Sort.putCells, hcs], ?_⟩⟩
      · simp [Go.Sort.putRow, Go.Sort.mapBlock, Go.Sort.ahead, Array.getElem?_modify, hg, Go.Sort.onCells]
      · have h1 := putCells_take ys cur (by omega)
        have h2 : (Go.Sort.putCells (Value.int .i64) 0 ys.toArray cur).toList.take ((Lib.compact l).length * 1) = ((Go.Sort.putCells (Value.int .i64) 0 ys.toArray cur).toList.take ys.length).take (Lib.compact l).length := by
          rw [List.take_take, Nat.mul_one, Nat.min_eq_left (by omega)]
        rw [h2, h1, hys, ints_app, ← ints_len (Lib.compact l), List.take_left]
end Go.Sx
/- Chapter 21: numbers, sorted, each once: slices.Sort, slices.Compact; a range over those that satisfy a condition. -/
namespace Go.Sx
open Go Go.Proofs Go.RowKit
theorem hwXU {G G2 : Prop} (x : G2) (hwq : Hold G2 → G := by
    intro hQq
    repeat' (first | apply HL.fold | apply HA.fold | apply HL.nil | apply HX.n_then | apply HC.seq | apply HC.region | refine HL.pa ?_ | refine HL.ga rfl ?_ | refine HL.na rfl ?_ | refine HL.nu rfl rfl ?_ | apply HC.block | apply HC.skip | apply HC.exit | apply HC.ret | apply HX.e_block | refine HX.e_other rfl ?_ | apply HX.e_then | apply HX.e_again | apply HX.n_block | apply HX.r_then | apply HX.r_block | apply HX.r_again | refine HC.cond_yes rfl ?_ | refine HC.cond_no rfl ?_ | refine HL.one (H1.ldb rfl memA rfl rfl ?_) | refine HC.cond rfl (fun hc => ?_) (fun hc => ?_) | refine HC.cond_b rfl (fun hc => ?_) (fun hc => ?_))
    exact hQq.get) : G := hwq ⟨x⟩
section
variable {P : Program} {N : Nat} {E : Env} {w0 : World} {H H' : List Atom}
theorem run_loadVar1 {w : World} {t : TypeId} {a : Addr} {v : Value} [ha : ATy P t false] (hc : w.cell? a = some v) : (loadVar t a).run P w = .ok v w := by
  simp only [loadVar, Sem.run_bind]
  simp [run_isAgg, hc, Result.andThen]
/-- A result that is a variable's own cell, behind a range over a function. -/
theorem HX.retMc1 {fn : Func} {p b D : Nat} {ty e : TypeId} {v : Value} {R : Value → World → Prop} [ha : ATy P ty false] (hr : fn.results = #[.cell p ty]) (hp : Env.g E p = some (.pointer (some ⟨b, 0, none⟩)))
    (hm : Pick (A.dfr D) H H') (hb : A.blk b [v] e ∈ H') (h : ∀ w, Mm w0 H' w → R v w) : HX N [markOf D] .ret (bodyPostM Fence.wide 0 P fn (RetP R)) E w0 H := fun w hM a ha' => by
  have hpm := hM.perm hm.perm
  obtain ⟨o, hD, rfl⟩ : ∃ o, w.heap[D]? = some o ∧ o = .deferred (some []) := hpm.all (A.dfr D) (List.Mem.head _)
  simp only [bodyPostM, ha'.defers]
  refine ⟨by simp, .inl ⟨D, _, rfl, run_takeDeferred hD, ?_⟩⟩
  have hM2 := hpm.drop1 (l := D) rfl (Upd1.put w D (.deferred none))
  have e1 : a.tmps.getD p undef = .pointer (some ⟨b, 0, none⟩) := by rw [Array.getD_eq_getD_getElem?, ha'.get _ _ hp]; rfl
  have e1' : a.tmps[p]?.getD undef = .pointer (some ⟨b, 0, none⟩) := by simpa using e1
  refine ⟨_, ?_, _, rfl, h _ hM2⟩
  have := run_loadVar1 (P := P) (t := ty) ((hM2.blk hb).cell (i := 0) rfl)
  simp [results, hr, e1', asAddr, this]
end
attribute [local irreducible] WC WL WX POp Then Again Fn NX W1 WA WO QL RP RA Yld LoopAt HC HL HX HN H1 HA HO HQ HB HP A.blk A.grow A.rd A.obj A.mp AgainH CutH
attribute [local irreducible] A.dfr A.loop
theorem those_fn (a : Option Addr) (n c : Nat) (f : FuncId) (pre cap : List Value) (w : World) : Fn Tryz.prog 56 #[.slice a n c, .func (.func f) pre.toArray cap.toArray] w fun v w' => ∃ z : Nat × Nat, True ∧ v = .func (.func 114) #[] #[.pointer (some ⟨z.1, 0, none⟩), .pointer (some ⟨z.2, 0, none⟩)] ∧
    Mm w [A.blk z.2 [.func (.func f) pre.toArray cap.toArray] 126, A.blk z.1 [.slice a n c] 27] w' := by
  refine enterH (l := [_, _]) rfl Tryz.ntmps56 rfl ?_
  refine hwXU ?_
  refine HL.one (H1.box rfl rfl rfl (fun b2 => ?_))
  refine hwXU ?_
  refine HL.one (H1.box rfl rfl rfl (fun b3 => ?_))
  refine hwXU ?_
  exact HX.ret1 rfl rfl fun w' hM => ⟨(b2, b3), trivial, rfl, hM⟩
theorem those1_fn {w0 : World} {β : Type} {G : List Rc → β → List Atom} {l b2 b3 : Nat} {L : List Rc} {p : Rc → Bool} {a : Option Addr} {c : Nat} {fv : Value} (hl : L.length ≤ 1000000) (hR : RdR w0 (.slice a L.length c) L) (hp : Pr Tryz.prog w0 fv L p)
    (h2 : w0.cell? ⟨b2, 0, none⟩ = some (.slice a L.length c)) (h3 : w0.cell? ⟨b3, 0, none⟩ = some fv)
    (hy : ∀ (F : List Rc) (r : Rc) (x : β), r ∈ L → F.length < L.length → ∀ w, Mm w0 (G F x) w → Yld Tryz.prog l [recV r] w fun b w' => b = true ∧ ∃ x' : β, True ∧ Mm w0 (G (F ++ [r]) x') w') (x0 : β) :
    ∀ w, Mm w0 (G [] x0) w → Fn Tryz.prog 114 (.func (.yield l) #[] #[] :: [.pointer (some ⟨b2, 0, none⟩), .pointer (some ⟨b3, 0, none⟩)]).toArray w fun _ w' => ∃ x : β, True ∧ Mm w0 (G (L.filter p) x) w' := by
  intro w hM
  refine enterK (l := [_, _, _]) hM rfl Tryz.ntmps114 rfl ?_
  refine hwXU ?_
  refine HL.one (H1.ld0 rfl h2 rfl ?_)
  refine hwXU ?_
  refine HC.loop (α := Nat × β) (fun z => [(0, .func (.yield l) #[] #[]), (2, .pointer (some ⟨b3, 0, none⟩)), (6, .slice a L.length c), (7, zv (L.length : Int)), (8, zv (z.1 : Int))]) (fun z => G ((L.take z.1).filter p) z.2)
    (fun z => z.1 ≤ L.length) (fun z => L.length - z.1) (0, x0) (Nat.zero_le _) esA (Hs.refl _) ?_
  rintro ⟨j, x⟩ hj
  dsimp only at hj ⊢
  by_cases hlt : j < L.length
  rotate_left
  · obtain rfl : j = L.length := by omega
    rw [List.take_length]
    refine hwXU ?_
    exact HX.end0 rfl fun w' hM => ⟨x, trivial, hM⟩
  obtain ⟨r, hr⟩ : ∃ r, L[j]? = some r := ⟨_, List.getElem?_eq_getElem hlt⟩
  have hrm := List.mem_of_getElem? hr
  have htk : (L.take (j + 1)).filter p = (L.take j).filter p ++ (if p r = true then [r] else []) := by
    rw [List.take_add_one, hr, List.filter_append]
    congr 1
    show [r].filter p = _
    rw [List.filter_cons, List.filter_nil]
  have hfl : ((L.take j).filter p).length < L.length := by
    have h1 := List.length_filter_le p (L.take j)
    rw [List.length_take] at h1
    omega
  obtain ⟨bl, off, rfl, -, hcell⟩ := hR.at (fun e => by rw [e] at hlt; exact absurd hlt (Nat.not_lt_zero _))
  have hcl := hcell j r hr
  clear hcell
  refine hwXU ?_
  refine HL.one (H1.ldAggw (vs := rcells r) rfl rfl (fun w' hM i v hv => cell_ext hM.ext (hcl i v hv)) rfl ?_)
  refine hwXU ?_
  refine HL.one (H1.alloc (cs := rcells rcZ) rfl rfl (fun b5 => ?_))
  refine hwXU ?_
  refine HL.one (H1.stAgg (cs := rcells rcZ) (vs := rcells r) rfl rfl rfl (rcells_one r) Rpl.here rfl ?_)
  refine hwXU ?_
  refine HL.one (H1.ld0 rfl h3 rfl ?_)
  refine hwXU ?_
  refine HL.one (H1.ldAgg (vs := rcells r) rfl (.head _) rfl (fun i v hv => by rw [Nat.zero_add]; exact hv) rfl ?_)
  refine hwXU ?_
  refine HL.one (H1.callpr (y := .tmp 13) (fun w' hM => hp.ext hM.ext) hrm rfl rfl rfl ?_)
  cases hpr : p r
  · rw [hpr, if_neg Bool.false_ne_true, List.append_nil] at htk
    rw [← htk]
    refine hwXU ?_
    exact HX.again (j + 1, x) hlt (by show L.length - (j + 1) < L.length - j; omega) esA (Hs.refl _).skip
  · rw [hpr, if_pos rfl] at htk
    refine hwXU ?_
    refine HL.one (H1.ldAgg (vs := rcells r) rfl (.head _) rfl (fun i v hv => by rw [Nat.zero_add]; exact hv) rfl ?_)
    refine hwXU ?_
    refine HL.one (H1.yield (α := β) (Hz := fun x' => G ((L.take j).filter p ++ [r]) x') (I := fun _ => True) (vs := [recV r]) rfl rfl rfl (fun w' hM => hy _ r x hrm hfl w' hM.tail) ?_)
    intro x' _
    rw [← htk]
    refine hwXU ?_
    exact HX.again (j + 1, x') hlt (by show L.length - (j + 1) < L.length - j; omega) esA (Hs.refl _)
set_option maxHeartbeats 1000000 in
theorem numbers_fn (f : Rc → Int) (g : FuncId) (hg : CallOk Tryz.prog g) (hgf : ∀ r w, Fn Tryz.prog g #[recV r] w fun v w' => v = zv (f r) ∧ Ext w w') {L : List Rc} {p : Rc → Bool} {a : Option Addr} {c b2 b3 : Nat} {fv : Value} (w : World) (hl : L.length ≤ 1000000) (hR : RdR w (.slice a L.length c) L) (hp : Pr Tryz.prog w fv L p)
    (h2 : w.cell? ⟨b2, 0, none⟩ = some (.slice a L.length c)) (h3 : w.cell? ⟨b3, 0, none⟩ = some fv) :
    Fn Tryz.prog 55 #[.func (.func 114) #[] #[.pointer (some ⟨b2, 0, none⟩), .pointer (some ⟨b3, 0, none⟩)], fnV g] w fun v w' => ∃ z : Option Addr × Nat, True ∧ v = .slice z.1 (numL ((L.filter p).map f)).length z.2 ∧ Mm w [A.grow 3 1 z.1 z.2 (numL ((L.filter p).map f)).length (ints (numL ((L.filter p).map f)))] w' := by
  refine enterMH (l := [_, _]) rfl Tryz.ntmps55 rfl ?_
  refine hwXU ?_
  refine HL.one (H1.box rfl rfl rfl (fun b3' => ?_))
  refine hwXU ?_
  refine HL.one (H1.alloc (cs := [.slice none 0 0]) rfl rfl (fun b4 => ?_))
  refine hwXU ?_
  refine HC.grow0 3 1 ?_
  refine HC.sub [(3, .pointer (some ⟨b3', 0, none⟩)), (4, .pointer (some ⟨b4, 0, none⟩)), (6, .func (.func 114) #[] #[.pointer (some ⟨b2, 0, none⟩), .pointer (some ⟨b3, 0, none⟩)])]
    [A.blk b3' [fnV g] 93, A.blk b4 [.slice none 0 0] 25, A.grow 3 1 none 0 0 []] ?_ esA (by repeat (first | exact Hs.nil _ | (refine Hs.cons pickA ?_)))
  refine HC.rangeFunc (α := Option Addr × Nat) (lb := [.pointer (some ⟨b2, 0, none⟩), .pointer (some ⟨b3, 0, none⟩)]) (fun q => [A.blk b3' [fnV g] 93, A.blk b4 [.slice q.1 ((L.filter p).map f).length q.2] 25, A.grow 3 1 q.1 q.2 ((L.filter p).map f).length (ints ((L.filter p).map f))]) (fun _ => True) rfl ?_ ?_
  · intro D l LL hL w1 hM1
    refine those1_fn (β := Option Addr × Nat) (G := fun F q => LL .ready none :: A.dfr D :: [A.blk b3' [fnV g] 93, A.blk b4 [.slice q.1 (F.map f).length q.2] 25, A.grow 3 1 q.1 q.2 (F.map f).length (ints (F.map f))]) hl hR hp h2 h3 ?_ (none, 0) w1 hM1
    rintro F r ⟨a1, c1⟩ hr hF
    have hmap : (F ++ [r]).map f = F.map f ++ [f r] := by rw [List.map_append]; rfl
    rw [hmap]
    have hFl : (F.map f).length + 1 ≤ 1000000 := by rw [List.length_map]; omega
    generalize F.map f = xs at hFl ⊢
    refine Yld.ofH hL memA rfl rfl ?_
    dsimp only [List.zip_cons_cons, List.zip_nil_right, putAll]
    refine hwXU ?_
    refine HL.one (H1.alloc (cs := rcells rcZ) rfl rfl (fun b5 => ?_))
    refine hwXU ?_
    refine HL.one (H1.stAgg (cs := rcells rcZ) (vs := rcells r) rfl rfl rfl (rcells_one r) Rpl.here rfl ?_)
    refine hwXU ?_
    refine HX.ra hL rplA ?_
    refine hwXU ?_
    refine HC.anyCR ([(⟨b3', 0, none⟩, fnV g)]) rfl ?_
    refine HB.ld 1 rfl rfl memD ?_
    refine HB.all (by repeat (first | exact Keep.nil | refine Keep.blk (by (repeat (first | exact List.Mem.head _ | apply List.Mem.tail)); done) rfl ?_ | refine Keep.grow (by (repeat (first | exact List.Mem.head _ | apply List.Mem.tail)); done) (by assumption) ?_ | refine Keep.base (by assumption) ?_)) [0, 2] (by kernel_rfl) rfl ⟨⟨_, rfl, ?_⟩, ⟨_, rfl, ?_⟩, trivial⟩
    · refine HP.one ?_
      refine H1.ldb (v := .slice a1 xs.length c1) (cs := [.slice a1 xs.length c1]) rfl memA rfl rfl ?_
      apply HB.fold
      refine HB.all (by repeat (first | exact Keep.nil | refine Keep.blk (by (repeat (first | exact List.Mem.head _ | apply List.Mem.tail)); done) rfl ?_ | refine Keep.grow (by (repeat (first | exact List.Mem.head _ | apply List.Mem.tail)); done) (by assumption) ?_ | refine Keep.base (by assumption) ?_)) [2] (by kernel_rfl) rfl ⟨⟨_, rfl, ?_⟩, trivial⟩
      refine HP.one ?_
      refine H1.ldAgg (vs := rcells r) rfl memA rfl (fun i v hv => by rw [Nat.zero_add]; exact hv) rfl ?_
      apply HB.fold
      refine HB.all (by repeat (first | exact Keep.nil | refine Keep.blk (by (repeat (first | exact List.Mem.head _ | apply List.Mem.tail)); done) rfl ?_ | refine Keep.grow (by (repeat (first | exact List.Mem.head _ | apply List.Mem.tail)); done) (by assumption) ?_ | refine Keep.base (by assumption) ?_)) [3] (by kernel_rfl) rfl ⟨⟨_, rfl, ?_⟩, trivial⟩
      refine HP.one ?_
      refine H1.callv0 (hf := hg) (f := g) (cap := []) (vs := [recV r]) rfl rfl rfl (fun w' _ => call1 (hgf r w')) ?_
      apply HB.fold
      refine HB.all (by repeat (first | exact Keep.nil | refine Keep.blk (by (repeat (first | exact List.Mem.head _ | apply List.Mem.tail)); done) rfl ?_ | refine Keep.grow (by (repeat (first | exact List.Mem.head _ | apply List.Mem.tail)); done) (by assumption) ?_ | refine Keep.base (by assumption) ?_)) [4] (by kernel_rfl) rfl ⟨⟨_, rfl, ?_⟩, trivial⟩
      refine HP.one ?_
      refine H1.lit (cs := [zv (f r)]) rfl rfl rfl rfl rfl rfl (fun b8 => ?_)
      apply HB.fold
      refine HB.all (by repeat (first | exact Keep.nil | refine Keep.blk (by (repeat (first | exact List.Mem.head _ | apply List.Mem.tail)); done) rfl ?_ | refine Keep.grow (by (repeat (first | exact List.Mem.head _ | apply List.Mem.tail)); done) (by assumption) ?_ | refine Keep.base (by assumption) ?_)) [5] (by kernel_rfl) rfl ⟨⟨_, rfl, ?_⟩, trivial⟩
      refine HP.one ?_
      refine H1.app1 (u := zv (f r)) rfl rfl (fun _ _ => by first | ((repeat (first | with_reducible exact Rpl.here | with_reducible apply Rpl.there)); done) | (repeat (first | exact Rpl.here | apply Rpl.there))) memA rfl rfl hFl rfl rfl (fun a' c' => ?_)
      apply HB.fold
      refine HB.all (by repeat (first | exact Keep.nil | refine Keep.blk (by (repeat (first | exact List.Mem.head _ | apply List.Mem.tail)); done) rfl ?_ | refine Keep.grow (by (repeat (first | exact List.Mem.head _ | apply List.Mem.tail)); done) (by assumption) ?_ | refine Keep.base (by assumption) ?_)) [6] (by kernel_rfl) rfl ⟨⟨_, rfl, ?_⟩, trivial⟩
      refine HP.one ?_
      refine H1.st (b := b4) rfl rfl (by intro _ h; cases h) (by intro _ h; cases h) rplA (by exact Nat.zero_lt_one) ?_
      apply HB.fold
      refine HB.done (by repeat (first | exact Keep.nil | refine Keep.blk (by (repeat (first | exact List.Mem.head _ | apply List.Mem.tail)); done) rfl ?_ | refine Keep.grow (by (repeat (first | exact List.Mem.head _ | apply List.Mem.tail)); done) (by assumption) ?_ | refine Keep.base (by assumption) ?_)) (by kernel_rfl) ?_
      refine hwXU ?_
      refine HX.rp_n hL rplA fun w' hM => ⟨rfl, (some ⟨a', 0, none⟩, c'), trivial, ?_⟩
      dsimp only
      rw [List.length_append, ints_app]
      exact hM.sub (by repeat (first | exact Hs.nil _ | (refine Hs.cons pickA ?_)))
    · refine HP.one ?_
      refine H1.ldAgg (vs := rcells r) rfl memA rfl (fun i v hv => by rw [Nat.zero_add]; exact hv) rfl ?_
      apply HB.fold
      refine HB.all (by repeat (first | exact Keep.nil | refine Keep.blk (by (repeat (first | exact List.Mem.head _ | apply List.Mem.tail)); done) rfl ?_ | refine Keep.grow (by (repeat (first | exact List.Mem.head _ | apply List.Mem.tail)); done) (by assumption) ?_ | refine Keep.base (by assumption) ?_)) [0, 3] (by kernel_rfl) rfl ⟨⟨_, rfl, ?_⟩, ⟨_, rfl, ?_⟩, trivial⟩
      · refine HP.one ?_
        refine H1.ldb (v := .slice a1 xs.length c1) (cs := [.slice a1 xs.length c1]) rfl memA rfl rfl ?_
        apply HB.fold
        refine HB.all (by repeat (first | exact Keep.nil | refine Keep.blk (by (repeat (first | exact List.Mem.head _ | apply List.Mem.tail)); done) rfl ?_ | refine Keep.grow (by (repeat (first | exact List.Mem.head _ | apply List.Mem.tail)); done) (by assumption) ?_ | refine Keep.base (by assumption) ?_)) [3] (by kernel_rfl) rfl ⟨⟨_, rfl, ?_⟩, trivial⟩
        refine HP.one ?_
        refine H1.callv0 (hf := hg) (f := g) (cap := []) (vs := [recV r]) rfl rfl rfl (fun w' _ => call1 (hgf r w')) ?_
        apply HB.fold
        refine HB.all (by repeat (first | exact Keep.nil | refine Keep.blk (by (repeat (first | exact List.Mem.head _ | apply List.Mem.tail)); done) rfl ?_ | refine Keep.grow (by (repeat (first | exact List.Mem.head _ | apply List.Mem.tail)); done) (by assumption) ?_ | refine Keep.base (by assumption) ?_)) [4] (by kernel_rfl) rfl ⟨⟨_, rfl, ?_⟩, trivial⟩
        refine HP.one ?_
        refine H1.lit (cs := [zv (f r)]) rfl rfl rfl rfl rfl rfl (fun b8 => ?_)
        apply HB.fold
        refine HB.all (by repeat (first | exact Keep.nil | refine Keep.blk (by (repeat (first | exact List.Mem.head _ | apply List.Mem.tail)); done) rfl ?_ | refine Keep.grow (by (repeat (first | exact List.Mem.head _ | apply List.Mem.tail)); done) (by assumption) ?_ | refine Keep.base (by assumption) ?_)) [5] (by kernel_rfl) rfl ⟨⟨_, rfl, ?_⟩, trivial⟩
        refine HP.one ?_
        refine H1.app1 (u := zv (f r)) rfl rfl (fun _ _ => by first | ((repeat (first | with_reducible exact Rpl.here | with_reducible apply Rpl.there)); done) | (repeat (first | exact Rpl.here | apply Rpl.there))) memA rfl rfl hFl rfl rfl (fun a' c' => ?_)
        apply HB.fold
        refine HB.all (by repeat (first | exact Keep.nil | refine Keep.blk (by (repeat (first | exact List.Mem.head _ | apply List.Mem.tail)); done) rfl ?_ | refine Keep.grow (by (repeat (first | exact List.Mem.head _ | apply List.Mem.tail)); done) (by assumption) ?_ | refine Keep.base (by assumption) ?_)) [6] (by kernel_rfl) rfl ⟨⟨_, rfl, ?_⟩, trivial⟩
        refine HP.one ?_
        refine H1.st (b := b4) rfl rfl (by intro _ h; cases h) (by intro _ h; cases h) rplA (by exact Nat.zero_lt_one) ?_
        apply HB.fold
        refine HB.done (by repeat (first | exact Keep.nil | refine Keep.blk (by (repeat (first | exact List.Mem.head _ | apply List.Mem.tail)); done) rfl ?_ | refine Keep.grow (by (repeat (first | exact List.Mem.head _ | apply List.Mem.tail)); done) (by assumption) ?_ | refine Keep.base (by assumption) ?_)) (by kernel_rfl) ?_
        refine hwXU ?_
        refine HX.rp_n hL rplA fun w' hM => ⟨rfl, (some ⟨a', 0, none⟩, c'), trivial, ?_⟩
        dsimp only
        rw [List.length_append, ints_app]
        exact hM.sub (by repeat (first | exact Hs.nil _ | (refine Hs.cons pickA ?_)))
      · refine HP.one ?_
        refine H1.callv0 (hf := hg) (f := g) (cap := []) (vs := [recV r]) rfl rfl rfl (fun w' _ => call1 (hgf r w')) ?_
        apply HB.fold
        refine HB.all (by repeat (first | exact Keep.nil | refine Keep.blk (by (repeat (first | exact List.Mem.head _ | apply List.Mem.tail)); done) rfl ?_ | refine Keep.grow (by (repeat (first | exact List.Mem.head _ | apply List.Mem.tail)); done) (by assumption) ?_ | refine Keep.base (by assumption) ?_)) [0, 4] (by kernel_rfl) rfl ⟨⟨_, rfl, ?_⟩, ⟨_, rfl, ?_⟩, trivial⟩
        · refine HP.one ?_
          refine H1.ldb (v := .slice a1 xs.length c1) (cs := [.slice a1 xs.length c1]) rfl memA rfl rfl ?_
          apply HB.fold
          refine HB.all (by repeat (first | exact Keep.nil | refine Keep.blk (by (repeat (first | exact List.Mem.head _ | apply List.Mem.tail)); done) rfl ?_ | refine Keep.grow (by (repeat (first | exact List.Mem.head _ | apply List.Mem.tail)); done) (by assumption) ?_ | refine Keep.base (by assumption) ?_)) [4] (by kernel_rfl) rfl ⟨⟨_, rfl, ?_⟩, trivial⟩
          refine HP.one ?_
          refine H1.lit (cs := [zv (f r)]) rfl rfl rfl rfl rfl rfl (fun b8 => ?_)
          apply HB.fold
          refine HB.all (by repeat (first | exact Keep.nil | refine Keep.blk (by (repeat (first | exact List.Mem.head _ | apply List.Mem.tail)); done) rfl ?_ | refine Keep.grow (by (repeat (first | exact List.Mem.head _ | apply List.Mem.tail)); done) (by assumption) ?_ | refine Keep.base (by assumption) ?_)) [5] (by kernel_rfl) rfl ⟨⟨_, rfl, ?_⟩, trivial⟩
          refine HP.one ?_
          refine H1.app1 (u := zv (f r)) rfl rfl (fun _ _ => by first | ((repeat (first | with_reducible exact Rpl.here | with_reducible apply Rpl.there)); done) | (repeat (first | exact Rpl.here | apply Rpl.there))) memA rfl rfl hFl rfl rfl (fun a' c' => ?_)
          apply HB.fold
          refine HB.all (by repeat (first | exact Keep.nil | refine Keep.blk (by (repeat (first | exact List.Mem.head _ | apply List.Mem.tail)); done) rfl ?_ | refine Keep.grow (by (repeat (first | exact List.Mem.head _ | apply List.Mem.tail)); done) (by assumption) ?_ | refine Keep.base (by assumption) ?_)) [6] (by kernel_rfl) rfl ⟨⟨_, rfl, ?_⟩, trivial⟩
          refine HP.one ?_
          refine H1.st (b := b4) rfl rfl (by intro _ h; cases h) (by intro _ h; cases h) rplA (by exact Nat.zero_lt_one) ?_
          apply HB.fold
          refine HB.done (by repeat (first | exact Keep.nil | refine Keep.blk (by (repeat (first | exact List.Mem.head _ | apply List.Mem.tail)); done) rfl ?_ | refine Keep.grow (by (repeat (first | exact List.Mem.head _ | apply List.Mem.tail)); done) (by assumption) ?_ | refine Keep.base (by assumption) ?_)) (by kernel_rfl) ?_
          refine hwXU ?_
          refine HX.rp_n hL rplA fun w' hM => ⟨rfl, (some ⟨a', 0, none⟩, c'), trivial, ?_⟩
          dsimp only
          rw [List.length_append, ints_app]
          exact hM.sub (by repeat (first | exact Hs.nil _ | (refine Hs.cons pickA ?_)))
        · refine HP.one ?_
          refine H1.lit (cs := [zv (f r)]) rfl rfl rfl rfl rfl rfl (fun b8 => ?_)
          apply HB.fold
          refine HB.all (by repeat (first | exact Keep.nil | refine Keep.blk (by (repeat (first | exact List.Mem.head _ | apply List.Mem.tail)); done) rfl ?_ | refine Keep.grow (by (repeat (first | exact List.Mem.head _ | apply List.Mem.tail)); done) (by assumption) ?_ | refine Keep.base (by assumption) ?_)) [0] (by kernel_rfl) rfl ⟨⟨_, rfl, ?_⟩, trivial⟩
          refine HP.one ?_
          refine H1.ldb (v := .slice a1 xs.length c1) (cs := [.slice a1 xs.length c1]) rfl memA rfl rfl ?_
          apply HB.fold
          refine HB.all (by repeat (first | exact Keep.nil | refine Keep.blk (by (repeat (first | exact List.Mem.head _ | apply List.Mem.tail)); done) rfl ?_ | refine Keep.grow (by (repeat (first | exact List.Mem.head _ | apply List.Mem.tail)); done) (by assumption) ?_ | refine Keep.base (by assumption) ?_)) [5] (by kernel_rfl) rfl ⟨⟨_, rfl, ?_⟩, trivial⟩
          refine HP.one ?_
          refine H1.app1 (u := zv (f r)) rfl rfl (fun _ _ => by first | ((repeat (first | with_reducible exact Rpl.here | with_reducible apply Rpl.there)); done) | (repeat (first | exact Rpl.here | apply Rpl.there))) memA rfl rfl hFl rfl rfl (fun a' c' => ?_)
          apply HB.fold
          refine HB.all (by repeat (first | exact Keep.nil | refine Keep.blk (by (repeat (first | exact List.Mem.head _ | apply List.Mem.tail)); done) rfl ?_ | refine Keep.grow (by (repeat (first | exact List.Mem.head _ | apply List.Mem.tail)); done) (by assumption) ?_ | refine Keep.base (by assumption) ?_)) [6] (by kernel_rfl) rfl ⟨⟨_, rfl, ?_⟩, trivial⟩
          refine HP.one ?_
          refine H1.st (b := b4) rfl rfl (by intro _ h; cases h) (by intro _ h; cases h) rplA (by exact Nat.zero_lt_one) ?_
          apply HB.fold
          refine HB.done (by repeat (first | exact Keep.nil | refine Keep.blk (by (repeat (first | exact List.Mem.head _ | apply List.Mem.tail)); done) rfl ?_ | refine Keep.grow (by (repeat (first | exact List.Mem.head _ | apply List.Mem.tail)); done) (by assumption) ?_ | refine Keep.base (by assumption) ?_)) (by kernel_rfl) ?_
          refine hwXU ?_
          refine HX.rp_n hL rplA fun w' hM => ⟨rfl, (some ⟨a', 0, none⟩, c'), trivial, ?_⟩
          dsimp only
          rw [List.length_append, ints_app]
          exact hM.sub (by repeat (first | exact Hs.nil _ | (refine Hs.cons pickA ?_)))
  · rintro D ⟨a1, c1⟩ -
    dsimp only
    have hxl : ((L.filter p).map f).length ≤ 1000000 := by
      rw [List.length_map]
      have := List.length_filter_le p L
      omega
    generalize (L.filter p).map f = xs at hxl ⊢
    refine hwXU ?_
    refine HL.one (H1.callk (α := Unit) (V := fun _ => .tuple #[]) (I := fun _ => True) (H' := fun _ => [A.dfr D, A.blk b3' [fnV g] 93, A.blk b4 [.slice a1 xs.length c1] 25, A.grow 3 1 a1 c1 xs.length (ints (srtI xs))]) (vs := [.slice a1 xs.length c1]) rfl rfl (fun w' hM => (sortI_fn hM rplA hxl).mono fun v w' h => ⟨(), trivial, h⟩) ?_)
    rintro - -
    refine hwXU ?_
    have hsl := srtI_len xs
    refine HL.one (H1.callk (α := Unit) (V := fun _ => .slice a1 (numL xs).length c1) (I := fun _ => True) (H' := fun _ => [A.dfr D, A.blk b3' [fnV g] 93, A.blk b4 [.slice a1 xs.length c1] 25, A.grow 3 1 a1 c1 (numL xs).length (ints (numL xs))]) (vs := [.slice a1 xs.length c1]) rfl rfl (fun w' hM => by
      have h := compactI_fn (l := srtI xs) (a := a1) (c := c1) (H' := [A.dfr D, A.blk b3' [fnV g] 93, A.blk b4 [.slice a1 xs.length c1] 25, A.grow 3 1 a1 c1 (numL xs).length (ints (numL xs))]) (by rw [← hsl] at hM; exact hM) (by rw [hsl]; unfold numL; first | ((repeat (first | with_reducible exact Rpl.here | with_reducible apply Rpl.there)); done) | (repeat (first | exact Rpl.here | apply Rpl.there))) (by omega)
      rw [hsl] at h
      exact h.mono fun v w' h => ⟨(), trivial, h⟩) ?_)
    rintro - -
    refine hwXU ?_
    refine HL.one (H1.st (b := b4) rfl rfl (by intro _ h; cases h) (by intro _ h; cases h) rplA (by exact Nat.zero_lt_one) ?_)
    refine hwXU ?_
    exact HX.retMc1 (b := b4) rfl rfl Pick.here memA fun w' hM => ⟨(a1, c1), trivial, rfl, hM.sub (by repeat (first | exact Hs.nil _ | (refine Hs.cons pickA ?_)))⟩
end Go.Sx
/- Chapter 21: the lists of a base. -/
namespace Go.Sx
open Go Go.Proofs Go.RowKit
theorem hwXP {G G2 : Prop} (x : G2) (hwq : Hold G2 → G := by
    intro hQq
    repeat' (first | apply HL.fold | apply HA.fold | apply HL.nil | apply HX.n_then | apply HC.seq | apply HC.region | refine HL.pa ?_ | refine HL.ga rfl ?_ | refine HL.na rfl ?_ | refine HL.nu rfl rfl ?_ | apply HC.block | apply HC.skip | apply HC.exit | apply HC.ret | apply HX.e_block | refine HX.e_other rfl ?_ | apply HX.e_then | apply HX.e_again | apply HX.n_block | apply HX.r_then | apply HX.r_block | apply HX.r_again | refine HC.cond_yes rfl ?_ | refine HC.cond_no rfl ?_ | refine HL.one (H1.ldb rfl memA rfl rfl ?_) | refine HC.cond rfl (fun hc => ?_) (fun hc => ?_) | refine HC.cond_b rfl (fun hc => ?_) (fun hc => ?_))
    exact hQq.get) : G := hwq ⟨x⟩
theorem POp.idxArr {P : Program} {N : Nat} {ds : List Deferred} {E : Env} {t ty : TypeId} {x y : Operand} {len : Nat} {e : TypeId} {z v : Value} {bb i : Nat} {cs : List Value} {k : IntKind} {n : Int} [h : UTy P t (.array len e)] [hi : ITy P e z 1 bb] [ha' : ATy P e false]
    (hx : Env.ev E x = some (.agg cs.toArray)) (hy : Env.ev E y = some (.int k n)) (en : n = (i : Int)) (hv : cs[i]? = some v) (hl : i < len) : POp P N ds E (.index t x y) ty v := fun ac ha d pos af g w => by
  subst en
  have h2 : 0 ≤ (i : Int) ∧ (i : Int) < (len : Int) := by omega
  simp [execOp, ha.ev hx, ha.ev hy, Instr.index, asIntOf, run_underlying h.is, Sem.run_bind, run_sizeOf, hl, part, run_isAgg, hv, Result.andThen]
/-- The number that counts, by kind. -/
def numK (r : Rc) : Int := if r.kind = 2 then r.clause else if r.kind = 6 then r.party else r.id
theorem numK_numR (r : Rc) : numK r = numR r := by
  unfold numK numR keyF
  split
  · rfl
  · split <;> rfl
abbrev ptrs (b : Nat) : List Value := [.pointer none, .pointer (some ⟨b, 0, none⟩), .pointer (some ⟨b, 1, none⟩), .pointer (some ⟨b, 2, none⟩), .pointer (some ⟨b, 3, none⟩), .pointer (some ⟨b, 4, none⟩), .pointer (some ⟨b, 5, none⟩), .pointer (some ⟨b, 6, none⟩), .pointer (some ⟨b, 7, none⟩)]
theorem ptrs_at (b : Nat) {i : Nat} (h : i < 8) : (ptrs b)[i + 1]? = some (.pointer (some ⟨b, i, none⟩)) := by
  rcases (show i = 0 ∨ i = 1 ∨ i = 2 ∨ i = 3 ∨ i = 4 ∨ i = 5 ∨ i = 6 ∨ i = 7 by omega) with rfl | rfl | rfl | rfl | rfl | rfl | rfl | rfl <;> rfl
attribute [local irreducible] WC WL WX POp Then Again Fn NX W1 WA WO QL RP RA Yld LoopAt HC HL HX HN H1 HA HO HQ HB HP A.blk A.grow A.rd A.obj A.mp AgainH CutH
theorem list_fn (b i : Nat) (hi : i < 8) (w : World) : Fn Tryz.prog 32 #[.pointer (some ⟨b, 0, none⟩), zv ((i : Int) + 1)] w fun v w' => v = .pointer (some ⟨b, i, none⟩) ∧ Ext w w' := by
  refine enterH (l := [_, _]) rfl Tryz.ntmps32 rfl ?_
  have hp := ptrs_at b hi
  refine hwXP ?_
  refine HC.quietS [(some 5, [0], []), (some 6, [5], [0]), (some 7, [6], [1]), (some 8, [0], []), (some 9, [8], [3]), (some 10, [9], [4]), (some 11, [0], []), (some 12, [11], [6]), (some 13, [12], [7]), (some 14, [0], []), (some 15, [14], [9]), (some 16, [15], [10]), (some 17, [0], []), (some 18, [17], [12]), (some 19, [18], [13]), (some 20, [0], []), (some 21, [20], [15]), (some 22, [21], [16]), (some 23, [0], []), (some 24, [23], [18]), (some 25, [24], [19]), (some 26, [0], []), (some 27, [26], [21]), (some 28, [27], [22]), (some 29, [7, 10, 13, 16, 19, 22, 25, 28], [2, 5, 8, 11, 14, 17, 20, 23]), (some 30, [1], []), (some 31, [29, 30], [24, 25]), (some 4, [31], [26, 0, 1, 2, 3, 4, 5, 6, 7, 8, 9, 10, 11, 12, 13, 14, 15, 16, 17, 18, 19, 20, 21, 22, 23, 24, 25, 26])] (by kernel_rfl) (by kernel_rfl) (by kernel_rfl) ?_
  repeat' (first | refine HQ.pa ?_ | refine HQ.ga rfl ?_ | refine HQ.na rfl ?_ | refine HQ.nu rfl ?_ | refine HQ.ldb rfl memA rfl rfl ?_)
  refine HQ.pa ?_ (POp.nilCheck rfl)
  repeat' (first | refine HQ.pa ?_ | refine HQ.ga rfl ?_ | refine HQ.na rfl ?_ | refine HQ.nu rfl ?_ | refine HQ.ldb rfl memA rfl rfl ?_)
  refine HQ.pa ?_ (POp.nilCheck rfl)
  repeat' (first | refine HQ.pa ?_ | refine HQ.ga rfl ?_ | refine HQ.na rfl ?_ | refine HQ.nu rfl ?_ | refine HQ.ldb rfl memA rfl rfl ?_)
  refine HQ.pa ?_ (POp.nilCheck rfl)
  repeat' (first | refine HQ.pa ?_ | refine HQ.ga rfl ?_ | refine HQ.na rfl ?_ | refine HQ.nu rfl ?_ | refine HQ.ldb rfl memA rfl rfl ?_)
  refine HQ.pa ?_ (POp.nilCheck rfl)
  repeat' (first | refine HQ.pa ?_ | refine HQ.ga rfl ?_ | refine HQ.na rfl ?_ | refine HQ.nu rfl ?_ | refine HQ.ldb rfl memA rfl rfl ?_)
  refine HQ.pa ?_ (POp.nilCheck rfl)
  repeat' (first | refine HQ.pa ?_ | refine HQ.ga rfl ?_ | refine HQ.na rfl ?_ | refine HQ.nu rfl ?_ | refine HQ.ldb rfl memA rfl rfl ?_)
  refine HQ.pa ?_ (POp.nilCheck rfl)
  repeat' (first | refine HQ.pa ?_ | refine HQ.ga rfl ?_ | refine HQ.na rfl ?_ | refine HQ.nu rfl ?_ | refine HQ.ldb rfl memA rfl rfl ?_)
  refine HQ.pa ?_ (POp.nilCheck rfl)
  repeat' (first | refine HQ.pa ?_ | refine HQ.ga rfl ?_ | refine HQ.na rfl ?_ | refine HQ.nu rfl ?_ | refine HQ.ldb rfl memA rfl rfl ?_)
  refine HQ.pa ?_ (POp.nilCheck rfl)
  repeat' (first | refine HQ.pa ?_ | refine HQ.ga rfl ?_ | refine HQ.na rfl ?_ | refine HQ.nu rfl ?_ | refine HQ.ldb rfl memA rfl rfl ?_)
  refine HQ.pa ?_ (POp.build (cs := ptrs b) rfl rfl)
  repeat' (first | refine HQ.pa ?_ | refine HQ.ga rfl ?_ | refine HQ.na rfl ?_ | refine HQ.nu rfl ?_ | refine HQ.ldb rfl memA rfl rfl ?_)
  refine HQ.pa ?_ (POp.idxArr (cs := ptrs b) (i := i + 1) rfl rfl (by push_cast; rfl) hp (by omega))
  repeat' (first | refine HQ.pa ?_ | refine HQ.ga rfl ?_ | refine HQ.na rfl ?_ | refine HQ.nu rfl ?_ | refine HQ.ldb rfl memA rfl rfl ?_)
  refine HQ.nil ?_
  refine hwXP ?_
  exact HX.ret1 rfl rfl fun w' hM => ⟨rfl, hM.ext⟩
end Go.Sx
/-
  DERIVED: THE SHELF's CONTRACTS AT THIS DUMP, IN PLAIN WORDS (tools/lay-plain.mjs out of 'TryzShelf2.lean', which tools/lay-shelf.mjs wrote): THE SAME DECLARATIONS UNDER THE SAME NAMES: 'import', 'namespace', 'open', 'def', 'theorem' AND NOTHING ELSE: no command of the shelf's: FOR A HAND-IN. Each laying: the table of numbers ('.._ren') and one theorem, a field a fact of the dump's own or the kernel's comparison; each contract: ONE APPLICATION.
-/
namespace Go.Proofs
open Go.Shelf
def Tryz.sortR_ren : Go.Shelf.Ren := ⟨fun | 6 => 33 | 15 => 81 | 14 => 80 | 28 => 162 | 29 => 163 | 20 => 154 | 21 => 155 | 22 => 156 | 23 => 157 | 24 => 158 | 25 => 159 | 26 => 160 | 27 => 161 | 46 => 229 | 47 => 230 | 48 => 231 | 49 => 232 | 50 => 233 | 57 => 266 | n => n, fun | 22 => 27 | 24 => 36 | 25 => 94 | 3 => 3 | 39 => 176 | 0 => 0 | 53 => 242 | 55 => 244 | 4 => 4 | 46 => 236 | 45 => 235 | 50 => 73 | 5 => 5 | 9 => 9 | 66 => 294 | 70 => 230 | 76 => 326 | 77 => 84 | n => n, fun | n => n⟩
theorem Tryz.sortR : Go.Proofs.SlLaysF0.n6 Tryz.prog Tryz.sortR_ren := {
  mixed := by kernel_rfl
  f6 := ⟨Tryz.f33.name, by decide, Tryz.func33.trans (congrArg some (by kernel_rfl))⟩
  f14 := ⟨Tryz.f80.name, by decide, Tryz.func80.trans (congrArg some (by kernel_rfl))⟩
  f15 := Tryz.func81.trans (congrArg some (by kernel_rfl))
  f20 := ⟨Tryz.f154.name, by decide, Tryz.func154.trans (congrArg some (by kernel_rfl))⟩
  f21 := ⟨Tryz.f155.name, by decide, Tryz.func155.trans (congrArg some (by kernel_rfl))⟩
  f22 := ⟨Tryz.f156.name, by decide, Tryz.func156.trans (congrArg some (by kernel_rfl))⟩
  f23 := ⟨Tryz.f157.name, by decide, Tryz.func157.trans (congrArg some (by kernel_rfl))⟩
  f24 := ⟨Tryz.f158.name, by decide, Tryz.func158.trans (congrArg some (by kernel_rfl))⟩
  f25 := ⟨Tryz.f159.name, by decide, Tryz.func159.trans (congrArg some (by kernel_rfl))⟩
  f26 := ⟨Tryz.f160.name, by decide, Tryz.func160.trans (congrArg some (by kernel_rfl))⟩
  f27 := ⟨Tryz.f161.name, by decide, Tryz.func161.trans (congrArg some (by kernel_rfl))⟩
  f28 := Tryz.func162.trans (congrArg some (by kernel_rfl))
  f29 := Tryz.func163.trans (congrArg some (by kernel_rfl))
  f46 := ⟨Tryz.f229.name, by decide, Tryz.func229.trans (congrArg some (by kernel_rfl))⟩
  f47 := Tryz.func230.trans (congrArg some (by kernel_rfl))
  f48 := Tryz.func231.trans (congrArg some (by kernel_rfl))
  f49 := ⟨Tryz.f232.name, by decide, Tryz.func232.trans (congrArg some (by kernel_rfl))⟩
  f50 := ⟨Tryz.f233.name, by decide, Tryz.func233.trans (congrArg some (by kernel_rfl))⟩
  f57 := ⟨Tryz.f266.name, by decide, Tryz.func266.trans (congrArg some (by kernel_rfl))⟩
  t0 := Tryz.underlying0
  a0 := Tryz.isAgg0
  z0 := Tryz.sizeOf0
  v0 := Tryz.zeroValue0
  t3 := Tryz.underlying3
  a3 := Tryz.isAgg3
  z3 := Tryz.sizeOf3
  v3 := Tryz.zeroValue3
  t4 := Tryz.underlying4
  a4 := Tryz.isAgg4
  z4 := Tryz.sizeOf4
  v4 := Tryz.zeroValue4
  t5 := Tryz.underlying5
  a5 := Tryz.isAgg5
  z5 := Tryz.sizeOf5
  v5 := Tryz.zeroValue5
  t9 := Tryz.underlying9
  a9 := Tryz.isAgg9
  z9 := Tryz.sizeOf9
  v9 := Tryz.zeroValue9
  t22 := Tryz.underlying27
  a22 := Tryz.isAgg27
  z22 := Tryz.sizeOf27
  v22 := Tryz.zeroValue27
  t25 := Tryz.underlying94
  a25 := Tryz.isAgg94
  z25 := Tryz.sizeOf94
  v25 := Tryz.zeroValue94
  t39 := Tryz.underlying176
  a39 := Tryz.isAgg176
  z39 := Tryz.sizeOf176
  v39 := Tryz.zeroValue176
  t45 := Tryz.underlying235
  a45 := Tryz.isAgg235
  z45 := Tryz.sizeOf235
  v45 := Tryz.zeroValue235
  t46 := Tryz.underlying236
  a46 := Tryz.isAgg236
  z46 := Tryz.sizeOf236
  v46 := Tryz.zeroValue236
  t50 := Tryz.underlying73
  a50 := Tryz.isAgg73
  z50 := Tryz.sizeOf73
  v50 := Tryz.zeroValue73
  t53 := Tryz.underlying242
  a53 := Tryz.isAgg242
  z53 := Tryz.sizeOf242
  v53 := Tryz.zeroValue242
  t55 := Tryz.underlying244
  a55 := Tryz.isAgg244
  z55 := Tryz.sizeOf244
  v55 := Tryz.zeroValue244
  t66 := Tryz.underlying294
  a66 := Tryz.isAgg294
  z66 := Tryz.sizeOf294
  v66 := Tryz.zeroValue294
  t70 := Tryz.underlying230
  a70 := Tryz.isAgg230
  z70 := Tryz.sizeOf230
  v70 := Tryz.zeroValue230
  t76 := Tryz.underlying326
  a76 := Tryz.isAgg326
  z76 := Tryz.sizeOf326
  v76 := Tryz.zeroValue326
  t77 := Tryz.underlying84
  a77 := Tryz.isAgg84
  z77 := Tryz.sizeOf84
  v77 := Tryz.zeroValue84 }
end Go.Proofs
/- Sorting by a function that is given: worlds that are known but for draws and new blocks. -/
namespace Go.Sx
open Go Go.Proofs Go.RowKit
/-- Nothing but draws and new blocks. -/
def Gr (W w : World) : Prop := ∃ q os, w = Go.Sort.grow (W.drewN q) os
theorem Gr.refl (W : World) : Gr W W := ⟨0, #[], by simp [Go.Sort.grow, World.drewN]⟩
theorem Gr.trans {W w w' : World} (h : Gr W w) (k : Gr w w') : Gr W w' := by
  obtain ⟨q, os, rfl⟩ := h
  obtain ⟨q', os', rfl⟩ := k
  exact ⟨q + q', os ++ os', by simp [Go.Sort.grow, World.drewN, Array.append_assoc, Nat.add_assoc]⟩
theorem Gr.alloc {W w : World} (h : Gr W w) (o : Obj) : Gr W (w.alloc o) := h.trans ⟨0, #[o], by rw [Go.Sort.alloc_eq_grow]; rfl⟩
theorem Gr.drew {W w : World} (h : Gr W w) : Gr W w.drew := h.trans ⟨1, #[], by show w.drew = { w with heap := w.heap ++ #[], drawn := w.drawn + 1 }; rw [Array.append_empty]; rfl⟩
theorem WC.anyE {P : Program} {N : Nat} {ds : List Deferred} {Q : Post} {E : Env} {w : World} [hm : Mixed P] {id : Nat} {l : List Oper} {fuel : Nat} (hf : l.length = fuel) (h : WA P N ds l fuel (Array.replicate l.length false) Q E w.drew) :
    WC P none N ds (.region id l.toArray true) Q E w := fun a ha =>
  wpIn_region_any hm.is (by subst hf; simpa using h a ha)
theorem compareG (x y : Int) (W : World) : Fn Tryz.prog 35 #[zv x, zv y] W fun v w' => v = zv (Lib.compareInt x y) ∧ Gr W w' :=
  Calls.mono (Tryz.cmp_Compare_int x y W) (by
    rintro e w' ⟨rfl, rfl⟩
    exact ⟨_, rfl, rfl, Gr.refl _⟩)
theorem Gr.ext {W w : World} (h : Gr W w) : Ext W w := by
  obtain ⟨q, os, rfl⟩ := h
  refine ⟨rfl, rfl, rfl, by simp [Go.Sort.grow, World.drewN], fun k hk => ?_⟩
  show (W.heap ++ os)[k]? = _
  rw [Array.getElem?_append, if_pos hk]
theorem arr_at {F : Array Value} {i : Nat} (h : i < F.size) : F.toList[i]? = some F[i]! := by rw [Array.getElem?_toList, Array.getElem?_eq_getElem h, getElem!_pos F i h]
theorem putCells_id (F cur : Array Value) (h : F.size ≤ cur.size) : (Go.Sort.putCells id 0 F cur).toList.take F.size = F.toList := by
  apply List.ext_getElem?
  intro i
  rw [List.getElem?_take]
  by_cases hi : i < F.size
  · have hi2 : i < cur.size := by omega
    simp [Go.Sort.putCells, hi2, hi]
  · rw [if_neg hi, List.getElem?_eq_none (by rw [Array.length_toList]; omega)]
end Go.Sx
