/- Chapter 21: the law KnownHolds. -/
import Derived.Test.YtldhccgelcmjoaaV5
namespace Go.Sx
open Go Go.Proofs Go.RowKit
def hNew (p f u : Int) : Rc := ⟨5, 100, 1, 0, false, f, u, p, 0, 0, 0, 0, false, 0, ByteArray.mk #[]⟩
def rNew (p f : Int) : Rc := ⟨6, 0, 1, 0, false, f, 0, 0, 0, 0, 0, 0, false, p, ByteArray.mk #[]⟩
theorem slot_put (q : Nat → Slot) (k : Nat) (a : Option Addr) (c : Nat) (l : List Rc) : (row 8 fun i => slot (q i)).set (0 + k) (.slice a l.length c) = row 8 fun i => slot (updQ q k (a, c, l) i) := by
  rw [Nat.zero_add]
  exact slot_upd q k (a, c, l)
attribute [local irreducible] WC WL WX POp Then Again Fn NX W1 WA WO QL RP RA Yld LoopAt HC HL HX HN H1 HA HO HQ HB HP A.blk A.grow A.rd A.obj A.mp AgainH CutH
attribute [local irreducible] A.dfr A.loop bsA heldL
set_option maxHeartbeats 8000000 in
theorem knownHolds_fn (v : Value) (rows : List (List Int)) (hrow : ∀ y ∈ rows, y.length = 6 ∧ ∀ z ∈ y, i64W z) (h0 h1 h2 s0 s1 p0 d0 l0 : Int) (w0' : i64W h0) (w1' : i64W h1) (w2' : i64W h2) (w3' : i64W s0) (w4' : i64W s1) (w5' : i64W p0) (w6' : i64W d0) (w7' : i64W l0) (w : World) (hR : RdA 6 w v rows) :
    Fn Try.prog 4 #[v, .agg (ints [h0, h1, h2]).toArray, .agg (ints [s0, s1]).toArray, zv p0, zv d0, zv l0] w fun v w' => v = .bool true ∧ Ext w w' := by
  refine enterH (l := [_, _, _, _, _, _]) rfl Try.ntmps4 rfl ?_
  repeat' (first | apply HL.fold | apply HA.fold | apply HL.nil | apply HX.n_then | apply HC.seq | apply HC.region | refine HL.pa ?_ | refine HL.ga rfl ?_ | refine HL.na rfl ?_ | refine HL.nu rfl rfl ?_ | apply HC.block | apply HC.skip | apply HC.exit | apply HC.ret | apply HX.e_block | refine HX.e_other rfl ?_ | apply HX.e_then | apply HX.e_again | apply HX.n_block | apply HX.r_then | apply HX.r_block | apply HX.r_again | refine HC.cond_yes rfl ?_ | refine HC.cond_no rfl ?_ | refine HL.one (H1.ldb rfl memA rfl rfl ?_) | refine HC.cond rfl (fun hc => ?_) (fun hc => ?_) | refine HC.cond_b rfl (fun hc => ?_) (fun hc => ?_))
  refine HL.one (H1.boxAgg (cs := ints [h0, h1, h2]) rfl rfl (fun b7 => ?_))
  repeat' (first | apply HL.fold | apply HA.fold | apply HL.nil | apply HX.n_then | apply HC.seq | apply HC.region | refine HL.pa ?_ | refine HL.ga rfl ?_ | refine HL.na rfl ?_ | refine HL.nu rfl rfl ?_ | apply HC.block | apply HC.skip | apply HC.exit | apply HC.ret | apply HX.e_block | refine HX.e_other rfl ?_ | apply HX.e_then | apply HX.e_again | apply HX.n_block | apply HX.r_then | apply HX.r_block | apply HX.r_again | refine HC.cond_yes rfl ?_ | refine HC.cond_no rfl ?_ | refine HL.one (H1.ldb rfl memA rfl rfl ?_) | refine HC.cond rfl (fun hc => ?_) (fun hc => ?_) | refine HC.cond_b rfl (fun hc => ?_) (fun hc => ?_))
  refine HL.one (H1.boxAgg (cs := ints [s0, s1]) rfl rfl (fun b8 => ?_))
  repeat' (first | apply HL.fold | apply HA.fold | apply HL.nil | apply HX.n_then | apply HC.seq | apply HC.region | refine HL.pa ?_ | refine HL.ga rfl ?_ | refine HL.na rfl ?_ | refine HL.nu rfl rfl ?_ | apply HC.block | apply HC.skip | apply HC.exit | apply HC.ret | apply HX.e_block | refine HX.e_other rfl ?_ | apply HX.e_then | apply HX.e_again | apply HX.n_block | apply HX.r_then | apply HX.r_block | apply HX.r_again | refine HC.cond_yes rfl ?_ | refine HC.cond_no rfl ?_ | refine HL.one (H1.ldb rfl memA rfl rfl ?_) | refine HC.cond rfl (fun hc => ?_) (fun hc => ?_) | refine HC.cond_b rfl (fun hc => ?_) (fun hc => ?_))
  refine HL.one (H1.callx (u := .bool true) (vs := []) rfl rfl (fun w' _ => sane21_fn w') ?_)
  repeat' (first | apply HL.fold | apply HA.fold | apply HL.nil | apply HX.n_then | apply HC.seq | apply HC.region | refine HL.pa ?_ | refine HL.ga rfl ?_ | refine HL.na rfl ?_ | refine HL.nu rfl rfl ?_ | apply HC.block | apply HC.skip | apply HC.exit | apply HC.ret | apply HX.e_block | refine HX.e_other rfl ?_ | apply HX.e_then | apply HX.e_again | apply HX.n_block | apply HX.r_then | apply HX.r_block | apply HX.r_again | refine HC.cond_yes rfl ?_ | refine HC.cond_no rfl ?_ | refine HL.one (H1.ldb rfl memA rfl rfl ?_) | refine HC.cond rfl (fun hc => ?_) (fun hc => ?_) | refine HC.cond_b rfl (fun hc => ?_) (fun hc => ?_))
  refine HL.one (H1.callz1 (α := (Option Addr × Nat) × List Rc) (V := fun z => .slice z.1.1 z.2.length z.1.2) (An := fun z => A.grow 27 15 z.1.1 z.1.2 z.2.length (rcl z.2)) (I := fun z => z.2.length ≤ 30 ∧ ∀ r ∈ z.2, SomeOk r) (vs := [v]) rfl rfl (fun w' hM => Some_fn v rows hrow w' (hR.ext hM.ext)) ?_)
  rintro ⟨⟨al, cl⟩, l⟩ ⟨hl30, hlok⟩
  dsimp only at hl30 hlok ⊢
  repeat' (first | apply HL.fold | apply HA.fold | apply HL.nil | apply HX.n_then | apply HC.seq | apply HC.region | refine HL.pa ?_ | refine HL.ga rfl ?_ | refine HL.na rfl ?_ | refine HL.nu rfl rfl ?_ | apply HC.block | apply HC.skip | apply HC.exit | apply HC.ret | apply HX.e_block | refine HX.e_other rfl ?_ | apply HX.e_then | apply HX.e_again | apply HX.n_block | apply HX.r_then | apply HX.r_block | apply HX.r_again | refine HC.cond_yes rfl ?_ | refine HC.cond_no rfl ?_ | refine HL.one (H1.ldb rfl memA rfl rfl ?_) | refine HC.cond rfl (fun hc => ?_) (fun hc => ?_) | refine HC.cond_b rfl (fun hc => ?_) (fun hc => ?_))
  refine HL.one (H1.callz1 (α := Nat → Slot) (V := fun q => bsV q) (An := fun q => bsA q) (I := fun q => ∀ i : Nat, i < 8 → IsOf l 100000 ((i : Int) + 1) (bsL q i)) (vs := [.slice al l.length cl, zv 100000]) rfl rfl (fun w' hM => of_fn al cl l (by omega) (fun r hr => RcOk.of_valid (hlok r hr).valid) 100000 w' (hM.recs memA)) ?_)
  rintro q hq
  have hlen : ∀ i, i < 8 → (bsL q i).length ≤ 30 := fun i hi => Nat.le_trans (of_len (hq i hi)) hl30
  clear hq
  repeat' (first | apply HL.fold | apply HA.fold | apply HL.nil | apply HX.n_then | apply HC.seq | apply HC.region | refine HL.pa ?_ | refine HL.ga rfl ?_ | refine HL.na rfl ?_ | refine HL.nu rfl rfl ?_ | apply HC.block | apply HC.skip | apply HC.exit | apply HC.ret | apply HX.e_block | refine HX.e_other rfl ?_ | apply HX.e_then | apply HX.e_again | apply HX.n_block | apply HX.r_then | apply HX.r_block | apply HX.r_again | refine HC.cond_yes rfl ?_ | refine HC.cond_no rfl ?_ | refine HL.one (H1.ldb rfl memA rfl rfl ?_) | refine HC.cond rfl (fun hc => ?_) (fun hc => ?_) | refine HC.cond_b rfl (fun hc => ?_) (fun hc => ?_))
  refine HL.one (H1.alloc (cs := row 8 fun i => slot (q0 i)) rfl rfl (fun b14 => ?_))
  repeat' (first | apply HL.fold | apply HA.fold | apply HL.nil | apply HX.n_then | apply HC.seq | apply HC.region | refine HL.pa ?_ | refine HL.ga rfl ?_ | refine HL.na rfl ?_ | refine HL.nu rfl rfl ?_ | apply HC.block | apply HC.skip | apply HC.exit | apply HC.ret | apply HX.e_block | refine HX.e_other rfl ?_ | apply HX.e_then | apply HX.e_again | apply HX.n_block | apply HX.r_then | apply HX.r_block | apply HX.r_again | refine HC.cond_yes rfl ?_ | refine HC.cond_no rfl ?_ | refine HL.one (H1.ldb rfl memA rfl rfl ?_) | refine HC.cond rfl (fun hc => ?_) (fun hc => ?_) | refine HC.cond_b rfl (fun hc => ?_) (fun hc => ?_))
  refine HL.one (H1.stAgg (cs := row 8 fun i => slot (q0 i)) (vs := row 8 fun i => slot (q i)) rfl rfl rfl (slot_one q) rplA rfl ?_)
  repeat' (first | apply HL.fold | apply HA.fold | apply HL.nil | apply HX.n_then | apply HC.seq | apply HC.region | refine HL.pa ?_ | refine HL.ga rfl ?_ | refine HL.na rfl ?_ | refine HL.nu rfl rfl ?_ | apply HC.block | apply HC.skip | apply HC.exit | apply HC.ret | apply HX.e_block | refine HX.e_other rfl ?_ | apply HX.e_then | apply HX.e_again | apply HX.n_block | apply HX.r_then | apply HX.r_block | apply HX.r_again | refine HC.cond_yes rfl ?_ | refine HC.cond_no rfl ?_ | refine HL.one (H1.ldb rfl memA rfl rfl ?_) | refine HC.cond rfl (fun hc => ?_) (fun hc => ?_) | refine HC.cond_b rfl (fun hc => ?_) (fun hc => ?_))
  refine HL.one (H1.call0 (vs := [zv p0, zv 4]) rfl rfl (fun w' _ => pick21_fn p0 4 w5'.1 w5'.2 (by decide) w') ?_)
  have hP := pickI21_lt p0 (n := 4) (by decide)
  generalize pickI21 p0 4 = P0 at hP ⊢
  repeat' (first | apply HL.fold | apply HA.fold | apply HL.nil | apply HX.n_then | apply HC.seq | apply HC.region | refine HL.pa ?_ | refine HL.ga rfl ?_ | refine HL.na rfl ?_ | refine HL.nu rfl rfl ?_ | apply HC.block | apply HC.skip | apply HC.exit | apply HC.ret | apply HX.e_block | refine HX.e_other rfl ?_ | apply HX.e_then | apply HX.e_again | apply HX.n_block | apply HX.r_then | apply HX.r_block | apply HX.r_again | refine HC.cond_yes rfl ?_ | refine HC.cond_no rfl ?_ | refine HL.one (H1.ldb rfl memA rfl rfl ?_) | refine HC.cond rfl (fun hc => ?_) (fun hc => ?_) | refine HC.cond_b rfl (fun hc => ?_) (fun hc => ?_))
  refine HL.one (H1.call0 (vs := [zv d0, zv 70]) rfl rfl (fun w' _ => pick21_fn d0 70 w6'.1 w6'.2 (by decide) w') ?_)
  have hD := pickI21_lt d0 (n := 70) (by decide)
  generalize pickI21 d0 70 = D at hD ⊢
  repeat' (first | apply HL.fold | apply HA.fold | apply HL.nil | apply HX.n_then | apply HC.seq | apply HC.region | refine HL.pa ?_ | refine HL.ga rfl ?_ | refine HL.na rfl ?_ | refine HL.nu rfl rfl ?_ | apply HC.block | apply HC.skip | apply HC.exit | apply HC.ret | apply HX.e_block | refine HX.e_other rfl ?_ | apply HX.e_then | apply HX.e_again | apply HX.n_block | apply HX.r_then | apply HX.r_block | apply HX.r_again | refine HC.cond_yes rfl ?_ | refine HC.cond_no rfl ?_ | refine HL.one (H1.ldb rfl memA rfl rfl ?_) | refine HC.cond rfl (fun hc => ?_) (fun hc => ?_) | refine HC.cond_b rfl (fun hc => ?_) (fun hc => ?_))
  obtain ⟨P, hPe⟩ : ∃ P, P = 1 + P0 := ⟨_, rfl⟩
  rw [← hPe]
  clear hPe
  refine HL.one (H1.ldAgg (vs := row 8 fun i => slot (q i)) rfl memA rfl (fun i v hv => by rw [Nat.zero_add]; exact hv) rfl ?_)
  repeat' (first | apply HL.fold | apply HA.fold | apply HL.nil | apply HX.n_then | apply HC.seq | apply HC.region | refine HL.pa ?_ | refine HL.ga rfl ?_ | refine HL.na rfl ?_ | refine HL.nu rfl rfl ?_ | apply HC.block | apply HC.skip | apply HC.exit | apply HC.ret | apply HX.e_block | refine HX.e_other rfl ?_ | apply HX.e_then | apply HX.e_again | apply HX.n_block | apply HX.r_then | apply HX.r_block | apply HX.r_again | refine HC.cond_yes rfl ?_ | refine HC.cond_no rfl ?_ | refine HL.one (H1.ldb rfl memA rfl rfl ?_) | refine HC.cond rfl (fun hc => ?_) (fun hc => ?_) | refine HC.cond_b rfl (fun hc => ?_) (fun hc => ?_))
  refine HL.one (H1.alloc (cs := row 8 fun i => slot (q0 i)) rfl rfl (fun b15 => ?_))
  repeat' (first | apply HL.fold | apply HA.fold | apply HL.nil | apply HX.n_then | apply HC.seq | apply HC.region | refine HL.pa ?_ | refine HL.ga rfl ?_ | refine HL.na rfl ?_ | refine HL.nu rfl rfl ?_ | apply HC.block | apply HC.skip | apply HC.exit | apply HC.ret | apply HX.e_block | refine HX.e_other rfl ?_ | apply HX.e_then | apply HX.e_again | apply HX.n_block | apply HX.r_then | apply HX.r_block | apply HX.r_again | refine HC.cond_yes rfl ?_ | refine HC.cond_no rfl ?_ | refine HL.one (H1.ldb rfl memA rfl rfl ?_) | refine HC.cond rfl (fun hc => ?_) (fun hc => ?_) | refine HC.cond_b rfl (fun hc => ?_) (fun hc => ?_))
  refine HL.one (H1.stAgg (cs := row 8 fun i => slot (q0 i)) (vs := row 8 fun i => slot (q i)) rfl rfl rfl (slot_one q) rplA rfl ?_)
  repeat' (first | apply HL.fold | apply HA.fold | apply HL.nil | apply HX.n_then | apply HC.seq | apply HC.region | refine HL.pa ?_ | refine HL.ga rfl ?_ | refine HL.na rfl ?_ | refine HL.nu rfl rfl ?_ | apply HC.block | apply HC.skip | apply HC.exit | apply HC.ret | apply HX.e_block | refine HX.e_other rfl ?_ | apply HX.e_then | apply HX.e_again | apply HX.n_block | apply HX.r_then | apply HX.r_block | apply HX.r_again | refine HC.cond_yes rfl ?_ | refine HC.cond_no rfl ?_ | refine HL.one (H1.ldb rfl memA rfl rfl ?_) | refine HC.cond rfl (fun hc => ?_) (fun hc => ?_) | refine HC.cond_b rfl (fun hc => ?_) (fun hc => ?_))
  have hp1 := pickI21_lt h0 (n := 5) (by decide)
  have hp2 := pickI21_lt h1 (n := 40) (by decide)
  have hp3 := pickI21_lt h2 (n := 40) (by decide)
  have hp4 := pickI21_lt s0 (n := 9) (by decide)
  have hp5 := pickI21_lt s1 (n := 60) (by decide)
  obtain ⟨hn, hhn⟩ : ∃ hn : Rc, hn = hNew (pickI21 h0 5) (pickI21 h1 40) (40 + pickI21 h2 40) := ⟨_, rfl⟩
  obtain ⟨rn, hrn⟩ : ∃ rn : Rc, rn = rNew (1 + pickI21 s0 9) (pickI21 s1 60) := ⟨_, rfl⟩
  have l4 := hlen 4 (by decide)
  have l5 := hlen 5 (by decide)
  refine HC.cut (α := Option Addr × Nat) (fun z => [(3, zv P), (4, zv D), (5, zv l0), (8, .pointer (some ⟨b8, 0, none⟩)), (13, .bool true), (14, .pointer (some ⟨b14, 0, none⟩)), (15, .pointer (some ⟨b15, 0, none⟩))])
    (fun z => [A.blk b15 (row 8 fun i => slot (updQ q 4 (z.1, z.2, bsL q 4 ++ [hn]) i)) 30, A.grow 27 15 z.1 z.2 (bsL q 4 ++ [hn]).length (rcl (bsL q 4 ++ [hn])), A.blk b14 (row 8 fun i => slot (q i)) 30, bsA q, A.blk b8 (ints [s0, s1]) 39]) (fun _ => True) ?_ ?_
  · refine HC.anyC ([(⟨b14, 4, none⟩, slot (q 4)), (⟨b7, 0, none⟩, zv h0), (⟨b7, 1, none⟩, zv h1), (⟨b7, 2, none⟩, zv h2)]) rfl ?_
    refine HB.pa 1 rfl ?_
    refine HB.ld 2 rfl rfl memD ?_
    refine HB.pa 4 rfl ?_
    refine HB.ld 5 rfl rfl memD ?_
    refine HB.pa 7 rfl ?_
    refine HB.ld 8 rfl rfl memD ?_
    refine HB.pa 10 rfl ?_
    refine HB.ld 11 rfl rfl memD ?_
    refine HB.all (by repeat (first | exact Keep.nil | refine Keep.blk (by (repeat (first | exact List.Mem.head _ | apply List.Mem.tail)); done) rfl ?_ | refine Keep.grow (by (repeat (first | exact List.Mem.head _ | apply List.Mem.tail)); done) (by assumption) ?_ | refine Keep.base (by assumption) ?_)) [0] (by kernel_rfl) rfl ⟨⟨_, rfl, ?_⟩, trivial⟩
    refine HP.one ?_
    refine H1.lit0 rfl (fun bz => ?_)
    apply HB.fold
    refine HB.all (by repeat (first | exact Keep.nil | refine Keep.blk (by (repeat (first | exact List.Mem.head _ | apply List.Mem.tail)); done) rfl ?_ | refine Keep.grow (by (repeat (first | exact List.Mem.head _ | apply List.Mem.tail)); done) (by assumption) ?_ | refine Keep.base (by assumption) ?_)) [3] (by kernel_rfl) rfl ⟨⟨_, rfl, ?_⟩, trivial⟩
    refine HP.one ?_
    refine H1.appRec (e := 27) (l := []) (m := bsL q 4) (a := some ⟨bz, 0, none⟩) (c := 0) (ao := (q 4).1) (c2 := (q 4).2.1) rfl rfl rfl (fun a' c' => by first | ((repeat (first | with_reducible exact Rpl.here | with_reducible apply Rpl.there)); done) | (repeat (first | exact Rpl.here | apply Rpl.there))) (fun w hM => by obtain ⟨s, e1, e2⟩ := hM.base (q := q) memA; exact RdR.of_owns (hM.slotOwn (q := q) (k := 4) memA (by decide))) (by simp only [List.length_nil]; omega) (by decide) rfl (fun a1 c1 => ?_)
    rw [List.nil_append]
    apply HB.fold
    refine HB.all (by repeat (first | exact Keep.nil | refine Keep.blk (by (repeat (first | exact List.Mem.head _ | apply List.Mem.tail)); done) rfl ?_ | refine Keep.grow (by (repeat (first | exact List.Mem.head _ | apply List.Mem.tail)); done) (by assumption) ?_ | refine Keep.base (by assumption) ?_)) [6] (by kernel_rfl) rfl ⟨⟨_, rfl, ?_⟩, trivial⟩
    refine HP.one ?_
    refine H1.call0 (vs := [zv h0, zv 5]) rfl rfl (fun w' _ => pick21_fn h0 5 w0'.1 w0'.2 (by decide) w') ?_
    apply HB.fold
    refine HB.all (by repeat (first | exact Keep.nil | refine Keep.blk (by (repeat (first | exact List.Mem.head _ | apply List.Mem.tail)); done) rfl ?_ | refine Keep.grow (by (repeat (first | exact List.Mem.head _ | apply List.Mem.tail)); done) (by assumption) ?_ | refine Keep.base (by assumption) ?_)) [9] (by kernel_rfl) rfl ⟨⟨_, rfl, ?_⟩, trivial⟩
    refine HP.one ?_
    refine H1.call0 (vs := [zv h1, zv 40]) rfl rfl (fun w' _ => pick21_fn h1 40 w1'.1 w1'.2 (by decide) w') ?_
    apply HB.fold
    refine HB.all (by repeat (first | exact Keep.nil | refine Keep.blk (by (repeat (first | exact List.Mem.head _ | apply List.Mem.tail)); done) rfl ?_ | refine Keep.grow (by (repeat (first | exact List.Mem.head _ | apply List.Mem.tail)); done) (by assumption) ?_ | refine Keep.base (by assumption) ?_)) [12] (by kernel_rfl) rfl ⟨⟨_, rfl, ?_⟩, trivial⟩
    refine HP.one ?_
    refine H1.call0 (vs := [zv h2, zv 40]) rfl rfl (fun w' _ => pick21_fn h2 40 w2'.1 w2'.2 (by decide) w') ?_
    apply HB.fold
    refine HB.pa 13 rfl ?_
    refine HB.pa (v := recV hn) 14 rfl ?_ (by rw [hhn]; exact POp.build (cs := rcells (hNew (pickI21 h0 5) (pickI21 h1 40) (40 + pickI21 h2 40))) rfl rfl)
    refine HB.all (by repeat (first | exact Keep.nil | refine Keep.blk (by (repeat (first | exact List.Mem.head _ | apply List.Mem.tail)); done) rfl ?_ | refine Keep.grow (by (repeat (first | exact List.Mem.head _ | apply List.Mem.tail)); done) (by assumption) ?_ | refine Keep.base (by assumption) ?_)) [15] (by kernel_rfl) rfl ⟨⟨_, rfl, ?_⟩, trivial⟩
    refine HP.one ?_
    refine H1.lit (cs := rcells hn) rfl rfl rfl rfl rfl rfl (fun bl => ?_)
    apply HB.fold
    refine HB.all (by repeat (first | exact Keep.nil | refine Keep.blk (by (repeat (first | exact List.Mem.head _ | apply List.Mem.tail)); done) rfl ?_ | refine Keep.grow (by (repeat (first | exact List.Mem.head _ | apply List.Mem.tail)); done) (by assumption) ?_ | refine Keep.base (by assumption) ?_)) [16] (by kernel_rfl) rfl ⟨⟨_, rfl, ?_⟩, trivial⟩
    refine HP.one ?_
    refine H1.appRec (e := 27) (l := bsL q 4) (m := [hn]) (a := a1) (c := c1) rfl rfl rfl (fun a' c' => by first | ((repeat (first | with_reducible exact Rpl.here | with_reducible apply Rpl.there)); done) | (repeat (first | exact Rpl.here | apply Rpl.there))) (fun w hM => by have hb := hM.blk (b := bl) (cs := rcells hn) (e := 27) memA; exact RdR.of_blk (l := [hn]) (by rw [show rcl [hn] = rcells hn from List.append_nil _]; exact hb)) (by simp only [List.length_singleton]; omega) (by decide) rfl (fun a2 c2 => ?_)
    apply HB.fold
    refine HB.pa 17 rfl ?_
    refine HB.all (by repeat (first | exact Keep.nil | refine Keep.blk (by (repeat (first | exact List.Mem.head _ | apply List.Mem.tail)); done) rfl ?_ | refine Keep.grow (by (repeat (first | exact List.Mem.head _ | apply List.Mem.tail)); done) (by assumption) ?_ | refine Keep.base (by assumption) ?_)) [18] (by kernel_rfl) rfl ⟨⟨_, rfl, ?_⟩, trivial⟩
    refine HP.one ?_
    refine H1.st (b := b15) rfl rfl (by intro _ h; cases h) (by intro _ h; cases h) rplA (of_decide_eq_true rfl) ?_
    rw [slot_put]
    apply HB.fold
    refine HB.done (by repeat (first | exact Keep.nil | refine Keep.blk (by (repeat (first | exact List.Mem.head _ | apply List.Mem.tail)); done) rfl ?_ | refine Keep.grow (by (repeat (first | exact List.Mem.head _ | apply List.Mem.tail)); done) (by assumption) ?_ | refine Keep.base (by assumption) ?_)) (by kernel_rfl) ?_
    exact HX.cut (a2, c2) trivial esA (by repeat (first | exact Hs.nil _ | (refine Hs.cons pickA ?_)))
  rintro ⟨a4, c4⟩ -
  dsimp only
  repeat' (first | apply HL.fold | apply HA.fold | apply HL.nil | apply HX.n_then | apply HC.seq | apply HC.region | refine HL.pa ?_ | refine HL.ga rfl ?_ | refine HL.na rfl ?_ | refine HL.nu rfl rfl ?_ | apply HC.block | apply HC.skip | apply HC.exit | apply HC.ret | apply HX.e_block | refine HX.e_other rfl ?_ | apply HX.e_then | apply HX.e_again | apply HX.n_block | apply HX.r_then | apply HX.r_block | apply HX.r_again | refine HC.cond_yes rfl ?_ | refine HC.cond_no rfl ?_ | refine HL.one (H1.ldb rfl memA rfl rfl ?_) | refine HC.cond rfl (fun hc => ?_) (fun hc => ?_) | refine HC.cond_b rfl (fun hc => ?_) (fun hc => ?_))
  refine HL.one (H1.ldAgg (vs := row 8 fun i => slot (q i)) rfl memA rfl (fun i v hv => by rw [Nat.zero_add]; exact hv) rfl ?_)
  repeat' (first | apply HL.fold | apply HA.fold | apply HL.nil | apply HX.n_then | apply HC.seq | apply HC.region | refine HL.pa ?_ | refine HL.ga rfl ?_ | refine HL.na rfl ?_ | refine HL.nu rfl rfl ?_ | apply HC.block | apply HC.skip | apply HC.exit | apply HC.ret | apply HX.e_block | refine HX.e_other rfl ?_ | apply HX.e_then | apply HX.e_again | apply HX.n_block | apply HX.r_then | apply HX.r_block | apply HX.r_again | refine HC.cond_yes rfl ?_ | refine HC.cond_no rfl ?_ | refine HL.one (H1.ldb rfl memA rfl rfl ?_) | refine HC.cond rfl (fun hc => ?_) (fun hc => ?_) | refine HC.cond_b rfl (fun hc => ?_) (fun hc => ?_))
  refine HL.one (H1.alloc (cs := row 8 fun i => slot (q0 i)) rfl rfl (fun b16 => ?_))
  repeat' (first | apply HL.fold | apply HA.fold | apply HL.nil | apply HX.n_then | apply HC.seq | apply HC.region | refine HL.pa ?_ | refine HL.ga rfl ?_ | refine HL.na rfl ?_ | refine HL.nu rfl rfl ?_ | apply HC.block | apply HC.skip | apply HC.exit | apply HC.ret | apply HX.e_block | refine HX.e_other rfl ?_ | apply HX.e_then | apply HX.e_again | apply HX.n_block | apply HX.r_then | apply HX.r_block | apply HX.r_again | refine HC.cond_yes rfl ?_ | refine HC.cond_no rfl ?_ | refine HL.one (H1.ldb rfl memA rfl rfl ?_) | refine HC.cond rfl (fun hc => ?_) (fun hc => ?_) | refine HC.cond_b rfl (fun hc => ?_) (fun hc => ?_))
  refine HL.one (H1.stAgg (cs := row 8 fun i => slot (q0 i)) (vs := row 8 fun i => slot (q i)) rfl rfl rfl (slot_one q) rplA rfl ?_)
  repeat' (first | apply HL.fold | apply HA.fold | apply HL.nil | apply HX.n_then | apply HC.seq | apply HC.region | refine HL.pa ?_ | refine HL.ga rfl ?_ | refine HL.na rfl ?_ | refine HL.nu rfl rfl ?_ | apply HC.block | apply HC.skip | apply HC.exit | apply HC.ret | apply HX.e_block | refine HX.e_other rfl ?_ | apply HX.e_then | apply HX.e_again | apply HX.n_block | apply HX.r_then | apply HX.r_block | apply HX.r_again | refine HC.cond_yes rfl ?_ | refine HC.cond_no rfl ?_ | refine HL.one (H1.ldb rfl memA rfl rfl ?_) | refine HC.cond rfl (fun hc => ?_) (fun hc => ?_) | refine HC.cond_b rfl (fun hc => ?_) (fun hc => ?_))
  refine HC.cut (α := Option Addr × Nat) (fun z => [(3, zv P), (4, zv D), (5, zv l0), (13, .bool true), (14, .pointer (some ⟨b14, 0, none⟩)), (15, .pointer (some ⟨b15, 0, none⟩)), (16, .pointer (some ⟨b16, 0, none⟩))])
    (fun z => [A.blk b16 (row 8 fun i => slot (updQ q 5 (z.1, z.2, bsL q 5 ++ [rn]) i)) 30, A.grow 27 15 z.1 z.2 (bsL q 5 ++ [rn]).length (rcl (bsL q 5 ++ [rn])), A.blk b15 (row 8 fun i => slot (updQ q 4 (a4, c4, bsL q 4 ++ [hn]) i)) 30, A.grow 27 15 a4 c4 (bsL q 4 ++ [hn]).length (rcl (bsL q 4 ++ [hn])), A.blk b14 (row 8 fun i => slot (q i)) 30, bsA q]) (fun _ => True) ?_ ?_
  · refine HC.anyC ([(⟨b14, 5, none⟩, slot (q 5)), (⟨b8, 0, none⟩, zv s0), (⟨b8, 1, none⟩, zv s1)]) rfl ?_
    refine HB.pa 1 rfl ?_
    refine HB.ld 2 rfl rfl memD ?_
    refine HB.pa 4 rfl ?_
    refine HB.ld 5 rfl rfl memD ?_
    refine HB.pa 8 rfl ?_
    refine HB.ld 9 rfl rfl memD ?_
    refine HB.all (by repeat (first | exact Keep.nil | refine Keep.blk (by (repeat (first | exact List.Mem.head _ | apply List.Mem.tail)); done) rfl ?_ | refine Keep.grow (by (repeat (first | exact List.Mem.head _ | apply List.Mem.tail)); done) (by assumption) ?_ | refine Keep.base (by assumption) ?_)) [0] (by kernel_rfl) rfl ⟨⟨_, rfl, ?_⟩, trivial⟩
    refine HP.one ?_
    refine H1.lit0 rfl (fun bz => ?_)
    apply HB.fold
    refine HB.all (by repeat (first | exact Keep.nil | refine Keep.blk (by (repeat (first | exact List.Mem.head _ | apply List.Mem.tail)); done) rfl ?_ | refine Keep.grow (by (repeat (first | exact List.Mem.head _ | apply List.Mem.tail)); done) (by assumption) ?_ | refine Keep.base (by assumption) ?_)) [3] (by kernel_rfl) rfl ⟨⟨_, rfl, ?_⟩, trivial⟩
    refine HP.one ?_
    refine H1.appRec (e := 27) (l := []) (m := bsL q 5) (a := some ⟨bz, 0, none⟩) (c := 0) (ao := (q 5).1) (c2 := (q 5).2.1) rfl rfl rfl (fun a' c' => by first | ((repeat (first | with_reducible exact Rpl.here | with_reducible apply Rpl.there)); done) | (repeat (first | exact Rpl.here | apply Rpl.there))) (fun w hM => RdR.of_owns (hM.slotOwn (q := q) (k := 5) memA (by decide))) (by simp only [List.length_nil]; omega) (by decide) rfl (fun a1 c1 => ?_)
    rw [List.nil_append]
    apply HB.fold
    refine HB.all (by repeat (first | exact Keep.nil | refine Keep.blk (by (repeat (first | exact List.Mem.head _ | apply List.Mem.tail)); done) rfl ?_ | refine Keep.grow (by (repeat (first | exact List.Mem.head _ | apply List.Mem.tail)); done) (by assumption) ?_ | refine Keep.base (by assumption) ?_)) [6] (by kernel_rfl) rfl ⟨⟨_, rfl, ?_⟩, trivial⟩
    refine HP.one ?_
    refine H1.call0 (vs := [zv s0, zv 9]) rfl rfl (fun w' _ => pick21_fn s0 9 w3'.1 w3'.2 (by decide) w') ?_
    apply HB.fold
    refine HB.pa 7 rfl ?_
    refine HB.all (by repeat (first | exact Keep.nil | refine Keep.blk (by (repeat (first | exact List.Mem.head _ | apply List.Mem.tail)); done) rfl ?_ | refine Keep.grow (by (repeat (first | exact List.Mem.head _ | apply List.Mem.tail)); done) (by assumption) ?_ | refine Keep.base (by assumption) ?_)) [10] (by kernel_rfl) rfl ⟨⟨_, rfl, ?_⟩, trivial⟩
    refine HP.one ?_
    refine H1.call0 (vs := [zv s1, zv 60]) rfl rfl (fun w' _ => pick21_fn s1 60 w4'.1 w4'.2 (by decide) w') ?_
    apply HB.fold
    refine HB.pa (v := recV rn) 11 rfl ?_ (by rw [hrn]; exact POp.build (cs := rcells (rNew (1 + pickI21 s0 9) (pickI21 s1 60))) rfl rfl)
    refine HB.all (by repeat (first | exact Keep.nil | refine Keep.blk (by (repeat (first | exact List.Mem.head _ | apply List.Mem.tail)); done) rfl ?_ | refine Keep.grow (by (repeat (first | exact List.Mem.head _ | apply List.Mem.tail)); done) (by assumption) ?_ | refine Keep.base (by assumption) ?_)) [12] (by kernel_rfl) rfl ⟨⟨_, rfl, ?_⟩, trivial⟩
    refine HP.one ?_
    refine H1.lit (cs := rcells rn) rfl rfl rfl rfl rfl rfl (fun bl => ?_)
    apply HB.fold
    refine HB.all (by repeat (first | exact Keep.nil | refine Keep.blk (by (repeat (first | exact List.Mem.head _ | apply List.Mem.tail)); done) rfl ?_ | refine Keep.grow (by (repeat (first | exact List.Mem.head _ | apply List.Mem.tail)); done) (by assumption) ?_ | refine Keep.base (by assumption) ?_)) [13] (by kernel_rfl) rfl ⟨⟨_, rfl, ?_⟩, trivial⟩
    refine HP.one ?_
    refine H1.appRec (e := 27) (l := bsL q 5) (m := [rn]) (a := a1) (c := c1) rfl rfl rfl (fun a' c' => by first | ((repeat (first | with_reducible exact Rpl.here | with_reducible apply Rpl.there)); done) | (repeat (first | exact Rpl.here | apply Rpl.there))) (fun w hM => by have hb := hM.blk (b := bl) (cs := rcells rn) (e := 27) memA; exact RdR.of_blk (l := [rn]) (by rw [show rcl [rn] = rcells rn from List.append_nil _]; exact hb)) (by simp only [List.length_singleton]; omega) (by decide) rfl (fun a2 c2 => ?_)
    apply HB.fold
    refine HB.pa 14 rfl ?_
    refine HB.all (by repeat (first | exact Keep.nil | refine Keep.blk (by (repeat (first | exact List.Mem.head _ | apply List.Mem.tail)); done) rfl ?_ | refine Keep.grow (by (repeat (first | exact List.Mem.head _ | apply List.Mem.tail)); done) (by assumption) ?_ | refine Keep.base (by assumption) ?_)) [15] (by kernel_rfl) rfl ⟨⟨_, rfl, ?_⟩, trivial⟩
    refine HP.one ?_
    refine H1.st (b := b16) rfl rfl (by intro _ h; cases h) (by intro _ h; cases h) rplA (of_decide_eq_true rfl) ?_
    rw [slot_put]
    apply HB.fold
    refine HB.done (by repeat (first | exact Keep.nil | refine Keep.blk (by (repeat (first | exact List.Mem.head _ | apply List.Mem.tail)); done) rfl ?_ | refine Keep.grow (by (repeat (first | exact List.Mem.head _ | apply List.Mem.tail)); done) (by assumption) ?_ | refine Keep.base (by assumption) ?_)) (by kernel_rfl) ?_
    exact HX.cut (a2, c2) trivial esA (by repeat (first | exact Hs.nil _ | (refine Hs.cons pickA ?_)))
  rintro ⟨a5, c5⟩ -
  dsimp only
  clear hp1 hp2 hp3 hp4 hp5 hhn hrn
  have u44 : bsL (updQ q 4 (a4, c4, bsL q 4 ++ [hn])) 4 = bsL q 4 ++ [hn] := by rw [bsL_upd]; rfl
  have u45 : bsL (updQ q 4 (a4, c4, bsL q 4 ++ [hn])) 5 = bsL q 5 := by rw [bsL_upd]; rfl
  have u54 : bsL (updQ q 5 (a5, c5, bsL q 5 ++ [rn])) 4 = bsL q 4 := by rw [bsL_upd]; rfl
  have u55 : bsL (updQ q 5 (a5, c5, bsL q 5 ++ [rn])) 5 = bsL q 5 ++ [rn] := by rw [bsL_upd]; rfl
  have k4 : (bsL q 4 ++ [hn]).length ≤ 1000000 := by rw [List.length_append, List.length_singleton]; omega
  have k5 : (bsL q 5 ++ [rn]).length ≤ 1000000 := by rw [List.length_append, List.length_singleton]; omega
  repeat' (first | apply HL.fold | apply HA.fold | apply HL.nil | apply HX.n_then | apply HC.seq | apply HC.region | refine HL.pa ?_ | refine HL.ga rfl ?_ | refine HL.na rfl ?_ | refine HL.nu rfl rfl ?_ | apply HC.block | apply HC.skip | apply HC.exit | apply HC.ret | apply HX.e_block | refine HX.e_other rfl ?_ | apply HX.e_then | apply HX.e_again | apply HX.n_block | apply HX.r_then | apply HX.r_block | apply HX.r_again | refine HC.cond_yes rfl ?_ | refine HC.cond_no rfl ?_ | refine HL.one (H1.ldb rfl memA rfl rfl ?_) | refine HC.cond rfl (fun hc => ?_) (fun hc => ?_) | refine HC.cond_b rfl (fun hc => ?_) (fun hc => ?_))
  refine HL.one (H1.ldAgg (vs := row 8 fun i => slot (q i)) rfl memA rfl (fun i v hv => by rw [Nat.zero_add]; exact hv) rfl ?_)
  repeat' (first | apply HL.fold | apply HA.fold | apply HL.nil | apply HX.n_then | apply HC.seq | apply HC.region | refine HL.pa ?_ | refine HL.ga rfl ?_ | refine HL.na rfl ?_ | refine HL.nu rfl rfl ?_ | apply HC.block | apply HC.skip | apply HC.exit | apply HC.ret | apply HX.e_block | refine HX.e_other rfl ?_ | apply HX.e_then | apply HX.e_again | apply HX.n_block | apply HX.r_then | apply HX.r_block | apply HX.r_again | refine HC.cond_yes rfl ?_ | refine HC.cond_no rfl ?_ | refine HL.one (H1.ldb rfl memA rfl rfl ?_) | refine HC.cond rfl (fun hc => ?_) (fun hc => ?_) | refine HC.cond_b rfl (fun hc => ?_) (fun hc => ?_))
  refine HL.one (H1.callz1 (α := Option Addr × Nat) (V := fun z => .slice z.1 (heldL (bsL q 4) (bsL q 5) P D).length z.2) (An := fun z => A.grow 3 1 z.1 z.2 (heldL (bsL q 4) (bsL q 5) P D).length (ints (heldL (bsL q 4) (bsL q 5) P D))) (I := fun _ => True) (vs := [bsV q, zv P, zv D]) rfl rfl (fun w' hM => Held_fn P D w' (hM.base (q := q) memA) (by omega) (by omega)) ?_)
  rintro ⟨aw1, cw1⟩ -
  repeat' (first | apply HL.fold | apply HA.fold | apply HL.nil | apply HX.n_then | apply HC.seq | apply HC.region | refine HL.pa ?_ | refine HL.ga rfl ?_ | refine HL.na rfl ?_ | refine HL.nu rfl rfl ?_ | apply HC.skip | apply HC.exit | apply HC.ret | apply HX.e_block | refine HX.e_other rfl ?_ | apply HX.e_then | apply HX.e_again | apply HX.n_block | apply HX.r_then | apply HX.r_block | apply HX.r_again | refine HC.cond_yes rfl ?_ | refine HC.cond_no rfl ?_ | refine HL.one (H1.ldb rfl memA rfl rfl ?_) | refine HC.cond rfl (fun hc => ?_) (fun hc => ?_) | refine HC.cond_b rfl (fun hc => ?_) (fun hc => ?_))
  refine HL.one (H1.ldAgg (vs := row 8 fun i => slot ((updQ q 4 (a4, c4, bsL q 4 ++ [hn])) i)) rfl memA rfl (fun i v hv => by rw [Nat.zero_add]; exact hv) rfl ?_)
  repeat' (first | apply HL.fold | apply HA.fold | apply HL.nil | apply HX.n_then | apply HC.seq | apply HC.region | refine HL.pa ?_ | refine HL.ga rfl ?_ | refine HL.na rfl ?_ | refine HL.nu rfl rfl ?_ | apply HC.block | apply HC.skip | apply HC.exit | apply HC.ret | apply HX.e_block | refine HX.e_other rfl ?_ | apply HX.e_then | apply HX.e_again | apply HX.n_block | apply HX.r_then | apply HX.r_block | apply HX.r_again | refine HC.cond_yes rfl ?_ | refine HC.cond_no rfl ?_ | refine HL.one (H1.ldb rfl memA rfl rfl ?_) | refine HC.cond rfl (fun hc => ?_) (fun hc => ?_) | refine HC.cond_b rfl (fun hc => ?_) (fun hc => ?_))
  refine HL.one (H1.callz1 (α := Option Addr × Nat) (V := fun z => .slice z.1 (heldL (bsL q 4 ++ [hn]) (bsL q 5) P D).length z.2) (An := fun z => A.grow 3 1 z.1 z.2 (heldL (bsL q 4 ++ [hn]) (bsL q 5) P D).length (ints (heldL (bsL q 4 ++ [hn]) (bsL q 5) P D))) (I := fun _ => True) (vs := [bsV (updQ q 4 (a4, c4, bsL q 4 ++ [hn])), zv P, zv D]) rfl rfl (fun w' hM => by have h := Held_fn P D w' (hM.baseU (q := q) (k := 4) (a := a4) (c := c4) (l := bsL q 4 ++ [hn]) memA memA) (by rw [u44]; exact k4) (by rw [u45]; omega); rw [u44, u45] at h; exact h) ?_)
  rintro ⟨aw2, cw2⟩ -
  repeat' (first | apply HL.fold | apply HA.fold | apply HL.nil | apply HX.n_then | apply HC.seq | apply HC.region | refine HL.pa ?_ | refine HL.ga rfl ?_ | refine HL.na rfl ?_ | refine HL.nu rfl rfl ?_ | apply HC.skip | apply HC.exit | apply HC.ret | apply HX.e_block | refine HX.e_other rfl ?_ | apply HX.e_then | apply HX.e_again | apply HX.n_block | apply HX.r_then | apply HX.r_block | apply HX.r_again | refine HC.cond_yes rfl ?_ | refine HC.cond_no rfl ?_ | refine HL.one (H1.ldb rfl memA rfl rfl ?_) | refine HC.cond rfl (fun hc => ?_) (fun hc => ?_) | refine HC.cond_b rfl (fun hc => ?_) (fun hc => ?_))
  refine HL.one (H1.ldAgg (vs := row 8 fun i => slot ((updQ q 5 (a5, c5, bsL q 5 ++ [rn])) i)) rfl memA rfl (fun i v hv => by rw [Nat.zero_add]; exact hv) rfl ?_)
  repeat' (first | apply HL.fold | apply HA.fold | apply HL.nil | apply HX.n_then | apply HC.seq | apply HC.region | refine HL.pa ?_ | refine HL.ga rfl ?_ | refine HL.na rfl ?_ | refine HL.nu rfl rfl ?_ | apply HC.block | apply HC.skip | apply HC.exit | apply HC.ret | apply HX.e_block | refine HX.e_other rfl ?_ | apply HX.e_then | apply HX.e_again | apply HX.n_block | apply HX.r_then | apply HX.r_block | apply HX.r_again | refine HC.cond_yes rfl ?_ | refine HC.cond_no rfl ?_ | refine HL.one (H1.ldb rfl memA rfl rfl ?_) | refine HC.cond rfl (fun hc => ?_) (fun hc => ?_) | refine HC.cond_b rfl (fun hc => ?_) (fun hc => ?_))
  refine HL.one (H1.callz1 (α := Option Addr × Nat) (V := fun z => .slice z.1 (heldL (bsL q 4) (bsL q 5 ++ [rn]) P D).length z.2) (An := fun z => A.grow 3 1 z.1 z.2 (heldL (bsL q 4) (bsL q 5 ++ [rn]) P D).length (ints (heldL (bsL q 4) (bsL q 5 ++ [rn]) P D))) (I := fun _ => True) (vs := [bsV (updQ q 5 (a5, c5, bsL q 5 ++ [rn])), zv P, zv D]) rfl rfl (fun w' hM => by have h := Held_fn P D w' (hM.baseU (q := q) (k := 5) (a := a5) (c := c5) (l := bsL q 5 ++ [rn]) memA memA) (by rw [u54]; omega) (by rw [u55]; exact k5); rw [u54, u55] at h; exact h) ?_)
  rintro ⟨aw3, cw3⟩ -
  repeat' (first | apply HL.fold | apply HA.fold | apply HL.nil | apply HX.n_then | apply HC.seq | apply HC.region | refine HL.pa ?_ | refine HL.ga rfl ?_ | refine HL.na rfl ?_ | refine HL.nu rfl rfl ?_ | apply HC.skip | apply HC.exit | apply HC.ret | apply HX.e_block | refine HX.e_other rfl ?_ | apply HX.e_then | apply HX.e_again | apply HX.n_block | apply HX.r_then | apply HX.r_block | apply HX.r_again | refine HC.cond_yes rfl ?_ | refine HC.cond_no rfl ?_ | refine HL.one (H1.ldb rfl memA rfl rfl ?_) | refine HC.cond rfl (fun hc => ?_) (fun hc => ?_) | refine HC.cond_b rfl (fun hc => ?_) (fun hc => ?_))
  have hWd : ∀ x ∈ heldL (bsL q 4) (bsL q 5) P D, x ∈ heldL (bsL q 4 ++ [hn]) (bsL q 5) P D := fun x hx => held_wide hx
  have hNr : ∀ x ∈ heldL (bsL q 4) (bsL q 5 ++ [rn]) P D, x ∈ heldL (bsL q 4) (bsL q 5) P D := fun x hx => held_narrow hx
  have hcnt : (heldL (bsL q 4 ++ [hn]) (bsL q 5) P D).length ≤ (heldL (bsL q 4) (bsL q 5) P D).length + 1 := held_len
  have hW30 := heldL_le (bsL q 4) (bsL q 5) P D
  have hN30 := heldL_le (bsL q 4) (bsL q 5 ++ [rn]) P D
  generalize heldL (bsL q 4) (bsL q 5) P D = W at hWd hNr hcnt hW30 ⊢
  generalize heldL (bsL q 4 ++ [hn]) (bsL q 5) P D = Wd at hWd hcnt ⊢
  generalize heldL (bsL q 4) (bsL q 5 ++ [rn]) P D = Nr at hNr hN30 ⊢
  clear u44 u45 u54 u55 k4 k5
  refine HC.cut (α := Unit) (fun _ => [(3, zv P), (4, zv D), (5, zv l0), (13, .bool true), (14, .pointer (some ⟨b14, 0, none⟩)), (17, .slice aw1 W.length cw1), (18, .slice aw2 Wd.length cw2), (19, .slice aw3 Nr.length cw3)]) (fun _ => [A.grow 3 1 aw1 cw1 W.length (ints W), A.grow 3 1 aw2 cw2 Wd.length (ints Wd), A.grow 3 1 aw3 cw3 Nr.length (ints Nr), A.blk b14 (row 8 fun i => slot (q i)) 30, bsA q]) (fun _ => True) ?_ ?_
  · repeat' (first | apply HL.fold | apply HA.fold | apply HL.nil | apply HX.n_then | apply HC.seq | apply HC.region | refine HL.pa ?_ | refine HL.ga rfl ?_ | refine HL.na rfl ?_ | refine HL.nu rfl rfl ?_ | apply HC.block | apply HC.skip | apply HC.exit | apply HC.ret | apply HX.e_block | refine HX.e_other rfl ?_ | apply HX.e_then | apply HX.e_again | apply HX.n_block | apply HX.r_then | apply HX.r_block | apply HX.r_again | refine HC.cond_yes rfl ?_ | refine HC.cond_no rfl ?_ | refine HL.one (H1.ldb rfl memA rfl rfl ?_) | refine HC.cond rfl (fun hc => ?_) (fun hc => ?_) | refine HC.cond_b rfl (fun hc => ?_) (fun hc => ?_))
    refine HC.loop (α := Nat) (fun j => [(20, zv (j : Int)), (3, zv P), (4, zv D), (5, zv l0), (13, .bool true), (14, .pointer (some ⟨b14, 0, none⟩)), (17, .slice aw1 W.length cw1), (18, .slice aw2 Wd.length cw2), (19, .slice aw3 Nr.length cw3)]) (fun _ => [A.grow 3 1 aw1 cw1 W.length (ints W), A.grow 3 1 aw2 cw2 Wd.length (ints Wd), A.grow 3 1 aw3 cw3 Nr.length (ints Nr), A.blk b14 (row 8 fun i => slot (q i)) 30, bsA q]) (fun j => j ≤ W.length) (fun j => W.length - j) 0 (Nat.zero_le _) esA (by repeat (first | exact Hs.nil _ | (refine Hs.cons pickA ?_))) ?_
    intro j hj
    by_cases hlt : j < W.length
    rotate_left
    · obtain rfl : j = W.length := by omega
      repeat' (first | apply HL.fold | apply HA.fold | apply HL.nil | apply HX.n_then | apply HC.seq | apply HC.region | refine HL.pa ?_ | refine HL.ga rfl ?_ | refine HL.na rfl ?_ | refine HL.nu rfl rfl ?_ | apply HC.block | apply HC.skip | apply HC.exit | apply HC.ret | apply HX.e_block | refine HX.e_other rfl ?_ | apply HX.e_then | apply HX.e_again | apply HX.n_block | apply HX.r_then | apply HX.r_block | apply HX.r_again | refine HC.cond_yes rfl ?_ | refine HC.cond_no rfl ?_ | refine HL.one (H1.ldb rfl memA rfl rfl ?_) | refine HC.cond rfl (fun hc => ?_) (fun hc => ?_) | refine HC.cond_b rfl (fun hc => ?_) (fun hc => ?_))
      exact HX.cut () trivial esA (by repeat (first | exact Hs.nil _ | (refine Hs.cons pickA ?_)))
    refine HC.openg (e := 3) (a := aw1) (xs := ints W) memA (by omega) ?_
    rintro bw rfl
    repeat' (first | apply HL.fold | apply HA.fold | apply HL.nil | apply HX.n_then | apply HC.seq | apply HC.region | refine HL.pa ?_ | refine HL.ga rfl ?_ | refine HL.na rfl ?_ | refine HL.nu rfl rfl ?_ | apply HC.block | apply HC.skip | apply HC.exit | apply HC.ret | apply HX.e_block | refine HX.e_other rfl ?_ | apply HX.e_then | apply HX.e_again | apply HX.n_block | apply HX.r_then | apply HX.r_block | apply HX.r_again | refine HC.cond_yes rfl ?_ | refine HC.cond_no rfl ?_ | refine HL.one (H1.ldb rfl memA rfl rfl ?_) | refine HC.cond rfl (fun hc => ?_) (fun hc => ?_) | refine HC.cond_b rfl (fun hc => ?_) (fun hc => ?_))
    refine HL.one (H1.ldg rfl memA (ints_get hlt) rfl ?_)
    repeat' (first | apply HL.fold | apply HA.fold | apply HL.nil | apply HX.n_then | apply HC.seq | apply HC.region | refine HL.pa ?_ | refine HL.ga rfl ?_ | refine HL.na rfl ?_ | refine HL.nu rfl rfl ?_ | apply HC.block | apply HC.skip | apply HC.exit | apply HC.ret | apply HX.e_block | refine HX.e_other rfl ?_ | apply HX.e_then | apply HX.e_again | apply HX.n_block | apply HX.r_then | apply HX.r_block | apply HX.r_again | refine HC.cond_yes rfl ?_ | refine HC.cond_no rfl ?_ | refine HL.one (H1.ldb rfl memA rfl rfl ?_) | refine HC.cond rfl (fun hc => ?_) (fun hc => ?_) | refine HC.cond_b rfl (fun hc => ?_) (fun hc => ?_))
    refine HL.one (H1.callx (u := .bool true) (vs := [.slice aw2 Wd.length cw2, zv (at' W j)]) rfl rfl (fun w' hM => by have h := has21_fn (.slice aw2 Wd.length cw2) Wd (at' W j) (by omega) w' (hM.gr memA); rw [decide_eq_true (hWd _ (at_mem hlt))] at h; exact h) ?_)
    repeat' (first | apply HL.fold | apply HA.fold | apply HL.nil | apply HX.n_then | apply HC.seq | apply HC.region | refine HL.pa ?_ | refine HL.ga rfl ?_ | refine HL.na rfl ?_ | refine HL.nu rfl rfl ?_ | apply HC.block | apply HC.skip | apply HC.exit | apply HC.ret | apply HX.e_block | refine HX.e_other rfl ?_ | apply HX.e_then | apply HX.e_again | apply HX.n_block | apply HX.r_then | apply HX.r_block | apply HX.r_again | refine HC.cond_yes rfl ?_ | refine HC.cond_no rfl ?_ | refine HL.one (H1.ldb rfl memA rfl rfl ?_) | refine HC.cond rfl (fun hc => ?_) (fun hc => ?_) | refine HC.cond_b rfl (fun hc => ?_) (fun hc => ?_))
    exact HX.again (j + 1) hlt (by omega) esA (by repeat (first | exact Hs.nil _ | (refine Hs.cons pickA ?_)))
  rintro - -
  repeat' (first | apply HL.fold | apply HA.fold | apply HL.nil | apply HX.n_then | apply HC.seq | apply HC.region | refine HL.pa ?_ | refine HL.ga rfl ?_ | refine HL.na rfl ?_ | refine HL.nu rfl rfl ?_ | apply HC.skip | apply HC.exit | apply HC.ret | apply HX.e_block | refine HX.e_other rfl ?_ | apply HX.e_then | apply HX.e_again | apply HX.n_block | apply HX.r_then | apply HX.r_block | apply HX.r_again | refine HC.cond_yes rfl ?_ | refine HC.cond_no rfl ?_ | refine HL.one (H1.ldb rfl memA rfl rfl ?_) | refine HC.cond rfl (fun hc => ?_) (fun hc => ?_) | refine HC.cond_b rfl (fun hc => ?_) (fun hc => ?_))
  refine HC.cut (α := Unit) (fun _ => [(3, zv P), (4, zv D), (5, zv l0), (13, .bool true), (14, .pointer (some ⟨b14, 0, none⟩)), (17, .slice aw1 W.length cw1), (18, .slice aw2 Wd.length cw2), (19, .slice aw3 Nr.length cw3)]) (fun _ => [A.grow 3 1 aw1 cw1 W.length (ints W), A.grow 3 1 aw2 cw2 Wd.length (ints Wd), A.grow 3 1 aw3 cw3 Nr.length (ints Nr), A.blk b14 (row 8 fun i => slot (q i)) 30, bsA q]) (fun _ => True) ?_ ?_
  · repeat' (first | apply HL.fold | apply HA.fold | apply HL.nil | apply HX.n_then | apply HC.seq | apply HC.region | refine HL.pa ?_ | refine HL.ga rfl ?_ | refine HL.na rfl ?_ | refine HL.nu rfl rfl ?_ | apply HC.block | apply HC.skip | apply HC.exit | apply HC.ret | apply HX.e_block | refine HX.e_other rfl ?_ | apply HX.e_then | apply HX.e_again | apply HX.n_block | apply HX.r_then | apply HX.r_block | apply HX.r_again | refine HC.cond_yes rfl ?_ | refine HC.cond_no rfl ?_ | refine HL.one (H1.ldb rfl memA rfl rfl ?_) | refine HC.cond rfl (fun hc => ?_) (fun hc => ?_) | refine HC.cond_b rfl (fun hc => ?_) (fun hc => ?_))
    refine HC.loop (α := Nat) (fun j => [(21, zv (j : Int)), (3, zv P), (4, zv D), (5, zv l0), (13, .bool true), (14, .pointer (some ⟨b14, 0, none⟩)), (17, .slice aw1 W.length cw1), (18, .slice aw2 Wd.length cw2), (19, .slice aw3 Nr.length cw3)]) (fun _ => [A.grow 3 1 aw1 cw1 W.length (ints W), A.grow 3 1 aw2 cw2 Wd.length (ints Wd), A.grow 3 1 aw3 cw3 Nr.length (ints Nr), A.blk b14 (row 8 fun i => slot (q i)) 30, bsA q]) (fun j => j ≤ Nr.length) (fun j => Nr.length - j) 0 (Nat.zero_le _) esA (by repeat (first | exact Hs.nil _ | (refine Hs.cons pickA ?_))) ?_
    intro j hj
    by_cases hlt : j < Nr.length
    rotate_left
    · obtain rfl : j = Nr.length := by omega
      repeat' (first | apply HL.fold | apply HA.fold | apply HL.nil | apply HX.n_then | apply HC.seq | apply HC.region | refine HL.pa ?_ | refine HL.ga rfl ?_ | refine HL.na rfl ?_ | refine HL.nu rfl rfl ?_ | apply HC.block | apply HC.skip | apply HC.exit | apply HC.ret | apply HX.e_block | refine HX.e_other rfl ?_ | apply HX.e_then | apply HX.e_again | apply HX.n_block | apply HX.r_then | apply HX.r_block | apply HX.r_again | refine HC.cond_yes rfl ?_ | refine HC.cond_no rfl ?_ | refine HL.one (H1.ldb rfl memA rfl rfl ?_) | refine HC.cond rfl (fun hc => ?_) (fun hc => ?_) | refine HC.cond_b rfl (fun hc => ?_) (fun hc => ?_))
      exact HX.cut () trivial esA (by repeat (first | exact Hs.nil _ | (refine Hs.cons pickA ?_)))
    refine HC.openg (e := 3) (a := aw3) (xs := ints Nr) memA (by omega) ?_
    rintro bw rfl
    repeat' (first | apply HL.fold | apply HA.fold | apply HL.nil | apply HX.n_then | apply HC.seq | apply HC.region | refine HL.pa ?_ | refine HL.ga rfl ?_ | refine HL.na rfl ?_ | refine HL.nu rfl rfl ?_ | apply HC.block | apply HC.skip | apply HC.exit | apply HC.ret | apply HX.e_block | refine HX.e_other rfl ?_ | apply HX.e_then | apply HX.e_again | apply HX.n_block | apply HX.r_then | apply HX.r_block | apply HX.r_again | refine HC.cond_yes rfl ?_ | refine HC.cond_no rfl ?_ | refine HL.one (H1.ldb rfl memA rfl rfl ?_) | refine HC.cond rfl (fun hc => ?_) (fun hc => ?_) | refine HC.cond_b rfl (fun hc => ?_) (fun hc => ?_))
    refine HL.one (H1.ldg rfl memA (ints_get hlt) rfl ?_)
    repeat' (first | apply HL.fold | apply HA.fold | apply HL.nil | apply HX.n_then | apply HC.seq | apply HC.region | refine HL.pa ?_ | refine HL.ga rfl ?_ | refine HL.na rfl ?_ | refine HL.nu rfl rfl ?_ | apply HC.block | apply HC.skip | apply HC.exit | apply HC.ret | apply HX.e_block | refine HX.e_other rfl ?_ | apply HX.e_then | apply HX.e_again | apply HX.n_block | apply HX.r_then | apply HX.r_block | apply HX.r_again | refine HC.cond_yes rfl ?_ | refine HC.cond_no rfl ?_ | refine HL.one (H1.ldb rfl memA rfl rfl ?_) | refine HC.cond rfl (fun hc => ?_) (fun hc => ?_) | refine HC.cond_b rfl (fun hc => ?_) (fun hc => ?_))
    refine HL.one (H1.callx (u := .bool true) (vs := [.slice aw1 W.length cw1, zv (at' Nr j)]) rfl rfl (fun w' hM => by have h := has21_fn (.slice aw1 W.length cw1) W (at' Nr j) (by omega) w' (hM.gr memA); rw [decide_eq_true (hNr _ (at_mem hlt))] at h; exact h) ?_)
    repeat' (first | apply HL.fold | apply HA.fold | apply HL.nil | apply HX.n_then | apply HC.seq | apply HC.region | refine HL.pa ?_ | refine HL.ga rfl ?_ | refine HL.na rfl ?_ | refine HL.nu rfl rfl ?_ | apply HC.block | apply HC.skip | apply HC.exit | apply HC.ret | apply HX.e_block | refine HX.e_other rfl ?_ | apply HX.e_then | apply HX.e_again | apply HX.n_block | apply HX.r_then | apply HX.r_block | apply HX.r_again | refine HC.cond_yes rfl ?_ | refine HC.cond_no rfl ?_ | refine HL.one (H1.ldb rfl memA rfl rfl ?_) | refine HC.cond rfl (fun hc => ?_) (fun hc => ?_) | refine HC.cond_b rfl (fun hc => ?_) (fun hc => ?_))
    exact HX.again (j + 1) hlt (by omega) esA (by repeat (first | exact Hs.nil _ | (refine Hs.cons pickA ?_)))
  rintro - -
  repeat' (first | apply HL.fold | apply HA.fold | apply HL.nil | apply HX.n_then | apply HC.seq | apply HC.region | refine HL.pa ?_ | refine HL.ga rfl ?_ | refine HL.na rfl ?_ | refine HL.nu rfl rfl ?_ | apply HC.skip | apply HC.exit | apply HC.ret | apply HX.e_block | refine HX.e_other rfl ?_ | apply HX.e_then | apply HX.e_again | apply HX.n_block | apply HX.r_then | apply HX.r_block | apply HX.r_again | refine HC.cond_yes rfl ?_ | refine HC.cond_no rfl ?_ | refine HL.one (H1.ldb rfl memA rfl rfl ?_) | refine HC.cond rfl (fun hc => ?_) (fun hc => ?_) | refine HC.cond_b rfl (fun hc => ?_) (fun hc => ?_))
  refine HC.cut (α := Unit) (fun _ => [(3, zv P), (4, zv D), (5, zv l0), (13, .bool true), (14, .pointer (some ⟨b14, 0, none⟩)), (17, .slice aw1 W.length cw1), (18, .slice aw2 Wd.length cw2), (19, .slice aw3 Nr.length cw3)]) (fun _ => [A.grow 3 1 aw1 cw1 W.length (ints W), A.grow 3 1 aw2 cw2 Wd.length (ints Wd), A.grow 3 1 aw3 cw3 Nr.length (ints Nr), A.blk b14 (row 8 fun i => slot (q i)) 30, bsA q]) (fun _ => True) ?_ ?_
  · repeat' (first | apply HL.fold | apply HA.fold | apply HL.nil | apply HX.n_then | apply HC.seq | apply HC.region | refine HL.pa ?_ | refine HL.ga rfl ?_ | refine HL.na rfl ?_ | refine HL.nu rfl rfl ?_ | apply HC.block | apply HC.skip | apply HC.exit | apply HC.ret | apply HX.e_block | refine HX.e_other rfl ?_ | apply HX.e_then | apply HX.e_again | apply HX.n_block | apply HX.r_then | apply HX.r_block | apply HX.r_again | refine HC.cond_yes rfl ?_ | refine HC.cond_no rfl ?_ | refine HL.one (H1.ldb rfl memA rfl rfl ?_) | refine HC.cond rfl (fun hc => ?_) (fun hc => ?_) | refine HC.cond_b rfl (fun hc => ?_) (fun hc => ?_))
    refine HC.loop (α := Nat) (fun j => [(22, zv (j : Int)), (3, zv P), (4, zv D), (5, zv l0), (13, .bool true), (14, .pointer (some ⟨b14, 0, none⟩)), (17, .slice aw1 W.length cw1), (18, .slice aw2 Wd.length cw2), (19, .slice aw3 Nr.length cw3)]) (fun _ => [A.grow 3 1 aw1 cw1 W.length (ints W), A.grow 3 1 aw2 cw2 Wd.length (ints Wd), A.grow 3 1 aw3 cw3 Nr.length (ints Nr), A.blk b14 (row 8 fun i => slot (q i)) 30, bsA q]) (fun j => j ≤ (q 5).2.2.length) (fun j => (q 5).2.2.length - j) 0 (Nat.zero_le _) esA (by repeat (first | exact Hs.nil _ | (refine Hs.cons pickA ?_))) ?_
    intro j hj
    by_cases hlt : j < (q 5).2.2.length
    rotate_left
    · obtain rfl : j = (q 5).2.2.length := by omega
      repeat' (first | apply HL.fold | apply HA.fold | apply HL.nil | apply HX.n_then | apply HC.seq | apply HC.region | refine HL.pa ?_ | refine HL.ga rfl ?_ | refine HL.na rfl ?_ | refine HL.nu rfl rfl ?_ | apply HC.block | apply HC.skip | apply HC.exit | apply HC.ret | apply HX.e_block | refine HX.e_other rfl ?_ | apply HX.e_then | apply HX.e_again | apply HX.n_block | apply HX.r_then | apply HX.r_block | apply HX.r_again | refine HC.cond_yes rfl ?_ | refine HC.cond_no rfl ?_ | refine HL.one (H1.ldb rfl memA rfl rfl ?_) | refine HC.cond rfl (fun hc => ?_) (fun hc => ?_) | refine HC.cond_b rfl (fun hc => ?_) (fun hc => ?_))
      exact HX.cut () trivial esA (by repeat (first | exact Hs.nil _ | (refine Hs.cons pickA ?_)))
    have hjI : (j : Int) < ((q 5).2.2.length : Int) := by omega
    have hj31 : (j : Int) < 31 := by have h30 : (q 5).2.2.length ≤ 30 := l5; omega
    obtain ⟨r, hr⟩ : ∃ r, (bsL q 5)[j]? = some r := ⟨_, List.getElem?_eq_getElem hlt⟩
    have hrm := List.mem_of_getElem? hr
    refine HC.opens (q := q) (k := 5) memA (by decide) (fun e => by rw [e] at hrm; cases hrm) ?_
    intro bq hbq
    have hs5 : slot (q 5) = .slice (some ⟨bq, 0, none⟩) (q 5).2.2.length (q 5).2.1 := by unfold slot; rw [hbq]
    repeat' (first | apply HL.fold | apply HA.fold | apply HL.nil | apply HX.n_then | apply HC.seq | apply HC.region | refine HL.pa ?_ | refine HL.ga rfl ?_ | refine HL.na rfl ?_ | refine HL.nu rfl rfl ?_ | apply HC.block | apply HC.skip | apply HC.exit | apply HC.ret | apply HX.e_block | refine HX.e_other rfl ?_ | apply HX.e_then | apply HX.e_again | apply HX.n_block | apply HX.r_then | apply HX.r_block | apply HX.r_again | refine HC.cond_yes rfl ?_ | refine HC.cond_no rfl ?_ | refine HL.one (H1.ldb rfl memA rfl rfl ?_) | refine HC.cond rfl (fun hc => ?_) (fun hc => ?_) | refine HC.cond_b rfl (fun hc => ?_) (fun hc => ?_))
    refine HL.pa (v := .pointer (some ⟨bq, j * 15, none⟩)) ?_ (POp.index_slice (b := bq) (off := 0) (l := (q 5).2.2.length) (c := (q 5).2.1) (n := (j : Int)) (by show some (slot (q 5)) = _; rw [hs5]) rfl (by omega) (by omega) (by rw [Nat.zero_add, Int.toNat_natCast]))
    refine HL.one (H1.ldAggw (vs := rcells r) rfl rfl (fun w' hM i v hv => hM.slotCell (q := q) (k := 5) memA (by decide) hbq hr i v hv) rfl ?_)
    repeat' (first | apply HL.fold | apply HA.fold | apply HL.nil | apply HX.n_then | apply HC.seq | apply HC.region | refine HL.pa ?_ | refine HL.ga rfl ?_ | refine HL.na rfl ?_ | refine HL.nu rfl rfl ?_ | apply HC.block | apply HC.skip | apply HC.exit | apply HC.ret | apply HX.e_block | refine HX.e_other rfl ?_ | apply HX.e_then | apply HX.e_again | apply HX.n_block | apply HX.r_then | apply HX.r_block | apply HX.r_again | refine HC.cond_yes rfl ?_ | refine HC.cond_no rfl ?_ | refine HL.one (H1.ldb rfl memA rfl rfl ?_) | refine HC.cond rfl (fun hc => ?_) (fun hc => ?_) | refine HC.cond_b rfl (fun hc => ?_) (fun hc => ?_))
    refine HL.one (H1.alloc (cs := rcells rcZ) rfl rfl (fun b23 => ?_))
    repeat' (first | apply HL.fold | apply HA.fold | apply HL.nil | apply HX.n_then | apply HC.seq | apply HC.region | refine HL.pa ?_ | refine HL.ga rfl ?_ | refine HL.na rfl ?_ | refine HL.nu rfl rfl ?_ | apply HC.block | apply HC.skip | apply HC.exit | apply HC.ret | apply HX.e_block | refine HX.e_other rfl ?_ | apply HX.e_then | apply HX.e_again | apply HX.n_block | apply HX.r_then | apply HX.r_block | apply HX.r_again | refine HC.cond_yes rfl ?_ | refine HC.cond_no rfl ?_ | refine HL.one (H1.ldb rfl memA rfl rfl ?_) | refine HC.cond rfl (fun hc => ?_) (fun hc => ?_) | refine HC.cond_b rfl (fun hc => ?_) (fun hc => ?_))
    refine HL.one (H1.stAgg (cs := rcells rcZ) (vs := rcells r) rfl rfl rfl (rcells_one r) rplA rfl ?_)
    repeat' (first | apply HL.fold | apply HA.fold | apply HL.nil | apply HX.n_then | apply HC.seq | apply HC.region | refine HL.pa ?_ | refine HL.ga rfl ?_ | refine HL.na rfl ?_ | refine HL.nu rfl rfl ?_ | apply HC.block | apply HC.skip | apply HC.exit | apply HC.ret | apply HX.e_block | refine HX.e_other rfl ?_ | apply HX.e_then | apply HX.e_again | apply HX.n_block | apply HX.r_then | apply HX.r_block | apply HX.r_again | refine HC.cond_yes rfl ?_ | refine HC.cond_no rfl ?_ | refine HL.one (H1.ldb rfl memA rfl rfl ?_) | refine HC.cond rfl (fun hc => ?_) (fun hc => ?_) | refine HC.cond_b rfl (fun hc => ?_) (fun hc => ?_))
    by_cases hst : r.start ≤ D
    rotate_left
    · refine HC.any rfl ?_
      refine HA.pa 0 rfl ?_
      refine HA.pa 2 rfl ?_
      refine HA.all [1] (by kernel_rfl) rfl ⟨⟨_, rfl, ?_⟩, trivial⟩
      refine HO.one ?_
      refine H1.ldb (v := zv r.start) (cs := rcells r) rfl memA rfl rfl ?_
      apply HA.fold
      refine HA.pa 3 rfl ?_
      refine HA.pa 4 rfl ?_
      first | refine HA.ga 6 rfl rfl ?_ | refine HA.na 6 rfl rfl ?_ | refine HA.nu 6 rfl rfl ?_
      first | refine HA.ga 7 rfl rfl ?_ | refine HA.na 7 rfl rfl ?_ | refine HA.nu 7 rfl rfl ?_
      first | refine HA.ga 8 rfl rfl ?_ | refine HA.na 8 rfl rfl ?_ | refine HA.nu 8 rfl rfl ?_
      first | refine HA.ga 12 rfl rfl ?_ | refine HA.na 12 rfl rfl ?_ | refine HA.nu 12 rfl rfl ?_
      refine HA.all [5, 9, 13] (by kernel_rfl) rfl ⟨⟨_, rfl, ?_⟩, ⟨_, rfl, ?_⟩, ⟨_, rfl, ?_⟩, trivial⟩
      · refine HO.drop_a rfl ?_
        refine HA.all [9, 13] (by kernel_rfl) rfl ⟨⟨_, rfl, ?_⟩, ⟨_, rfl, ?_⟩, trivial⟩
        · refine HO.drop_a rfl ?_
          first | refine HA.ga 10 rfl rfl ?_ | refine HA.na 10 rfl rfl ?_ | refine HA.nu 10 rfl rfl ?_
          refine HA.all [11, 13] (by kernel_rfl) rfl ⟨⟨_, rfl, ?_⟩, ⟨_, rfl, ?_⟩, trivial⟩
          · refine HO.drop_a rfl ?_
            refine HA.all [13] (by kernel_rfl) rfl ⟨⟨_, rfl, ?_⟩, trivial⟩
            refine HO.drop_a rfl ?_
            refine HA.all [14] (by kernel_rfl) rfl ⟨⟨_, rfl, ?_⟩, trivial⟩
            refine HO.drop_a rfl ?_
            refine HA.pa 15 rfl ?_
            refine HA.done (by kernel_rfl) ?_
            repeat' (first | apply HL.fold | apply HA.fold | apply HL.nil | apply HX.n_then | apply HC.seq | apply HC.region | refine HL.pa ?_ | refine HL.ga rfl ?_ | refine HL.na rfl ?_ | refine HL.nu rfl rfl ?_ | apply HC.block | apply HC.skip | apply HC.exit | apply HC.ret | apply HX.e_block | refine HX.e_other rfl ?_ | apply HX.e_then | apply HX.e_again | apply HX.n_block | apply HX.r_then | apply HX.r_block | apply HX.r_again | refine HC.cond_yes rfl ?_ | refine HC.cond_no rfl ?_ | refine HL.one (H1.ldb rfl memA rfl rfl ?_) | refine HC.cond rfl (fun hc => ?_) (fun hc => ?_) | refine HC.cond_b rfl (fun hc => ?_) (fun hc => ?_))
            exact HX.again (j + 1) hlt (by omega) esA (by repeat (first | exact Hs.nil _ | (refine Hs.cons pickA ?_)))
          · refine HO.drop_a rfl ?_
            refine HA.all [11] (by kernel_rfl) rfl ⟨⟨_, rfl, ?_⟩, trivial⟩
            refine HO.drop_a rfl ?_
            refine HA.all [14] (by kernel_rfl) rfl ⟨⟨_, rfl, ?_⟩, trivial⟩
            refine HO.drop_a rfl ?_
            refine HA.pa 15 rfl ?_
            refine HA.done (by kernel_rfl) ?_
            repeat' (first | apply HL.fold | apply HA.fold | apply HL.nil | apply HX.n_then | apply HC.seq | apply HC.region | refine HL.pa ?_ | refine HL.ga rfl ?_ | refine HL.na rfl ?_ | refine HL.nu rfl rfl ?_ | apply HC.block | apply HC.skip | apply HC.exit | apply HC.ret | apply HX.e_block | refine HX.e_other rfl ?_ | apply HX.e_then | apply HX.e_again | apply HX.n_block | apply HX.r_then | apply HX.r_block | apply HX.r_again | refine HC.cond_yes rfl ?_ | refine HC.cond_no rfl ?_ | refine HL.one (H1.ldb rfl memA rfl rfl ?_) | refine HC.cond rfl (fun hc => ?_) (fun hc => ?_) | refine HC.cond_b rfl (fun hc => ?_) (fun hc => ?_))
            exact HX.again (j + 1) hlt (by omega) esA (by repeat (first | exact Hs.nil _ | (refine Hs.cons pickA ?_)))
        · refine HO.drop_a rfl ?_
          refine HA.all [9] (by kernel_rfl) rfl ⟨⟨_, rfl, ?_⟩, trivial⟩
          refine HO.drop_a rfl ?_
          first | refine HA.ga 10 rfl rfl ?_ | refine HA.na 10 rfl rfl ?_ | refine HA.nu 10 rfl rfl ?_
          refine HA.all [11] (by kernel_rfl) rfl ⟨⟨_, rfl, ?_⟩, trivial⟩
          refine HO.drop_a rfl ?_
          refine HA.all [14] (by kernel_rfl) rfl ⟨⟨_, rfl, ?_⟩, trivial⟩
          refine HO.drop_a rfl ?_
          refine HA.pa 15 rfl ?_
          refine HA.done (by kernel_rfl) ?_
          repeat' (first | apply HL.fold | apply HA.fold | apply HL.nil | apply HX.n_then | apply HC.seq | apply HC.region | refine HL.pa ?_ | refine HL.ga rfl ?_ | refine HL.na rfl ?_ | refine HL.nu rfl rfl ?_ | apply HC.block | apply HC.skip | apply HC.exit | apply HC.ret | apply HX.e_block | refine HX.e_other rfl ?_ | apply HX.e_then | apply HX.e_again | apply HX.n_block | apply HX.r_then | apply HX.r_block | apply HX.r_again | refine HC.cond_yes rfl ?_ | refine HC.cond_no rfl ?_ | refine HL.one (H1.ldb rfl memA rfl rfl ?_) | refine HC.cond rfl (fun hc => ?_) (fun hc => ?_) | refine HC.cond_b rfl (fun hc => ?_) (fun hc => ?_))
          exact HX.again (j + 1) hlt (by omega) esA (by repeat (first | exact Hs.nil _ | (refine Hs.cons pickA ?_)))
      · refine HO.drop_a rfl ?_
        first | refine HA.ga 10 rfl rfl ?_ | refine HA.na 10 rfl rfl ?_ | refine HA.nu 10 rfl rfl ?_
        refine HA.all [5, 13] (by kernel_rfl) rfl ⟨⟨_, rfl, ?_⟩, ⟨_, rfl, ?_⟩, trivial⟩
        · refine HO.drop_a rfl ?_
          refine HA.all [11, 13] (by kernel_rfl) rfl ⟨⟨_, rfl, ?_⟩, ⟨_, rfl, ?_⟩, trivial⟩
          · refine HO.drop_a rfl ?_
            refine HA.all [13] (by kernel_rfl) rfl ⟨⟨_, rfl, ?_⟩, trivial⟩
            refine HO.drop_a rfl ?_
            refine HA.all [14] (by kernel_rfl) rfl ⟨⟨_, rfl, ?_⟩, trivial⟩
            refine HO.drop_a rfl ?_
            refine HA.pa 15 rfl ?_
            refine HA.done (by kernel_rfl) ?_
            repeat' (first | apply HL.fold | apply HA.fold | apply HL.nil | apply HX.n_then | apply HC.seq | apply HC.region | refine HL.pa ?_ | refine HL.ga rfl ?_ | refine HL.na rfl ?_ | refine HL.nu rfl rfl ?_ | apply HC.block | apply HC.skip | apply HC.exit | apply HC.ret | apply HX.e_block | refine HX.e_other rfl ?_ | apply HX.e_then | apply HX.e_again | apply HX.n_block | apply HX.r_then | apply HX.r_block | apply HX.r_again | refine HC.cond_yes rfl ?_ | refine HC.cond_no rfl ?_ | refine HL.one (H1.ldb rfl memA rfl rfl ?_) | refine HC.cond rfl (fun hc => ?_) (fun hc => ?_) | refine HC.cond_b rfl (fun hc => ?_) (fun hc => ?_))
            exact HX.again (j + 1) hlt (by omega) esA (by repeat (first | exact Hs.nil _ | (refine Hs.cons pickA ?_)))
          · refine HO.drop_a rfl ?_
            refine HA.all [11] (by kernel_rfl) rfl ⟨⟨_, rfl, ?_⟩, trivial⟩
            refine HO.drop_a rfl ?_
            refine HA.all [14] (by kernel_rfl) rfl ⟨⟨_, rfl, ?_⟩, trivial⟩
            refine HO.drop_a rfl ?_
            refine HA.pa 15 rfl ?_
            refine HA.done (by kernel_rfl) ?_
            repeat' (first | apply HL.fold | apply HA.fold | apply HL.nil | apply HX.n_then | apply HC.seq | apply HC.region | refine HL.pa ?_ | refine HL.ga rfl ?_ | refine HL.na rfl ?_ | refine HL.nu rfl rfl ?_ | apply HC.block | apply HC.skip | apply HC.exit | apply HC.ret | apply HX.e_block | refine HX.e_other rfl ?_ | apply HX.e_then | apply HX.e_again | apply HX.n_block | apply HX.r_then | apply HX.r_block | apply HX.r_again | refine HC.cond_yes rfl ?_ | refine HC.cond_no rfl ?_ | refine HL.one (H1.ldb rfl memA rfl rfl ?_) | refine HC.cond rfl (fun hc => ?_) (fun hc => ?_) | refine HC.cond_b rfl (fun hc => ?_) (fun hc => ?_))
            exact HX.again (j + 1) hlt (by omega) esA (by repeat (first | exact Hs.nil _ | (refine Hs.cons pickA ?_)))
        · refine HO.drop_a rfl ?_
          refine HA.all [5] (by kernel_rfl) rfl ⟨⟨_, rfl, ?_⟩, trivial⟩
          refine HO.drop_a rfl ?_
          refine HA.all [11] (by kernel_rfl) rfl ⟨⟨_, rfl, ?_⟩, trivial⟩
          refine HO.drop_a rfl ?_
          refine HA.all [14] (by kernel_rfl) rfl ⟨⟨_, rfl, ?_⟩, trivial⟩
          refine HO.drop_a rfl ?_
          refine HA.pa 15 rfl ?_
          refine HA.done (by kernel_rfl) ?_
          repeat' (first | apply HL.fold | apply HA.fold | apply HL.nil | apply HX.n_then | apply HC.seq | apply HC.region | refine HL.pa ?_ | refine HL.ga rfl ?_ | refine HL.na rfl ?_ | refine HL.nu rfl rfl ?_ | apply HC.block | apply HC.skip | apply HC.exit | apply HC.ret | apply HX.e_block | refine HX.e_other rfl ?_ | apply HX.e_then | apply HX.e_again | apply HX.n_block | apply HX.r_then | apply HX.r_block | apply HX.r_again | refine HC.cond_yes rfl ?_ | refine HC.cond_no rfl ?_ | refine HL.one (H1.ldb rfl memA rfl rfl ?_) | refine HC.cond rfl (fun hc => ?_) (fun hc => ?_) | refine HC.cond_b rfl (fun hc => ?_) (fun hc => ?_))
          exact HX.again (j + 1) hlt (by omega) esA (by repeat (first | exact Hs.nil _ | (refine Hs.cons pickA ?_)))
      · refine HO.drop_a rfl ?_
        refine HA.all [5, 9] (by kernel_rfl) rfl ⟨⟨_, rfl, ?_⟩, ⟨_, rfl, ?_⟩, trivial⟩
        · refine HO.drop_a rfl ?_
          refine HA.all [9] (by kernel_rfl) rfl ⟨⟨_, rfl, ?_⟩, trivial⟩
          refine HO.drop_a rfl ?_
          first | refine HA.ga 10 rfl rfl ?_ | refine HA.na 10 rfl rfl ?_ | refine HA.nu 10 rfl rfl ?_
          refine HA.all [11] (by kernel_rfl) rfl ⟨⟨_, rfl, ?_⟩, trivial⟩
          refine HO.drop_a rfl ?_
          refine HA.all [14] (by kernel_rfl) rfl ⟨⟨_, rfl, ?_⟩, trivial⟩
          refine HO.drop_a rfl ?_
          refine HA.pa 15 rfl ?_
          refine HA.done (by kernel_rfl) ?_
          repeat' (first | apply HL.fold | apply HA.fold | apply HL.nil | apply HX.n_then | apply HC.seq | apply HC.region | refine HL.pa ?_ | refine HL.ga rfl ?_ | refine HL.na rfl ?_ | refine HL.nu rfl rfl ?_ | apply HC.block | apply HC.skip | apply HC.exit | apply HC.ret | apply HX.e_block | refine HX.e_other rfl ?_ | apply HX.e_then | apply HX.e_again | apply HX.n_block | apply HX.r_then | apply HX.r_block | apply HX.r_again | refine HC.cond_yes rfl ?_ | refine HC.cond_no rfl ?_ | refine HL.one (H1.ldb rfl memA rfl rfl ?_) | refine HC.cond rfl (fun hc => ?_) (fun hc => ?_) | refine HC.cond_b rfl (fun hc => ?_) (fun hc => ?_))
          exact HX.again (j + 1) hlt (by omega) esA (by repeat (first | exact Hs.nil _ | (refine Hs.cons pickA ?_)))
        · refine HO.drop_a rfl ?_
          first | refine HA.ga 10 rfl rfl ?_ | refine HA.na 10 rfl rfl ?_ | refine HA.nu 10 rfl rfl ?_
          refine HA.all [5] (by kernel_rfl) rfl ⟨⟨_, rfl, ?_⟩, trivial⟩
          refine HO.drop_a rfl ?_
          refine HA.all [11] (by kernel_rfl) rfl ⟨⟨_, rfl, ?_⟩, trivial⟩
          refine HO.drop_a rfl ?_
          refine HA.all [14] (by kernel_rfl) rfl ⟨⟨_, rfl, ?_⟩, trivial⟩
          refine HO.drop_a rfl ?_
          refine HA.pa 15 rfl ?_
          refine HA.done (by kernel_rfl) ?_
          repeat' (first | apply HL.fold | apply HA.fold | apply HL.nil | apply HX.n_then | apply HC.seq | apply HC.region | refine HL.pa ?_ | refine HL.ga rfl ?_ | refine HL.na rfl ?_ | refine HL.nu rfl rfl ?_ | apply HC.block | apply HC.skip | apply HC.exit | apply HC.ret | apply HX.e_block | refine HX.e_other rfl ?_ | apply HX.e_then | apply HX.e_again | apply HX.n_block | apply HX.r_then | apply HX.r_block | apply HX.r_again | refine HC.cond_yes rfl ?_ | refine HC.cond_no rfl ?_ | refine HL.one (H1.ldb rfl memA rfl rfl ?_) | refine HC.cond rfl (fun hc => ?_) (fun hc => ?_) | refine HC.cond_b rfl (fun hc => ?_) (fun hc => ?_))
          exact HX.again (j + 1) hlt (by omega) esA (by repeat (first | exact Hs.nil _ | (refine Hs.cons pickA ?_)))
    have hlq := pickI21_lt l0 (n := 50) (by decide)
    have hnot := held_over (L := bsL q 4) (rel := bsL q 5) (a := P) (d := D) (d' := D + pickI21 l0 50) hrm hst (by omega)
    have hLb := heldL_le (bsL q 4) (bsL q 5) P (D + pickI21 l0 50)
    have hheld := fun (w' : World) hB => Held_fn (B := bsL q) (vb := bsV q) P (D + pickI21 l0 50) w' hB (by omega) (by omega)
    refine HC.any rfl ?_
    refine HA.pa 0 rfl ?_
    refine HA.pa 2 rfl ?_
    refine HA.all [1] (by kernel_rfl) rfl ⟨⟨_, rfl, ?_⟩, trivial⟩
    refine HO.one ?_
    refine H1.ldb (v := zv r.start) (cs := rcells r) rfl memA rfl rfl ?_
    apply HA.fold
    refine HA.pa 3 rfl ?_
    refine HA.pa 4 rfl ?_
    first | refine HA.ga 6 rfl rfl ?_ | refine HA.na 6 rfl rfl ?_ | refine HA.nu 6 rfl rfl ?_
    first | refine HA.ga 7 rfl rfl ?_ | refine HA.na 7 rfl rfl ?_ | refine HA.nu 7 rfl rfl ?_
    first | refine HA.ga 8 rfl rfl ?_ | refine HA.na 8 rfl rfl ?_ | refine HA.nu 8 rfl rfl ?_
    first | refine HA.ga 12 rfl rfl ?_ | refine HA.na 12 rfl rfl ?_ | refine HA.nu 12 rfl rfl ?_
    refine HA.all [5, 9, 13] (by kernel_rfl) rfl ⟨⟨_, rfl, ?_⟩, ⟨_, rfl, ?_⟩, ⟨_, rfl, ?_⟩, trivial⟩
    · refine HO.one_a rfl ?_
      refine H1.ldAgg (vs := row 8 fun i => slot (q i)) rfl memA rfl (fun i v hv => by rw [Nat.zero_add]; exact hv) rfl ?_
      apply HA.fold
      refine HA.all [9, 13] (by kernel_rfl) rfl ⟨⟨_, rfl, ?_⟩, ⟨_, rfl, ?_⟩, trivial⟩
      · refine HO.one_a rfl ?_
        refine H1.call0 (vs := [zv l0, zv 50]) rfl rfl (fun w' _ => pick21_fn l0 50 w7'.1 w7'.2 (by decide) w') ?_
        apply HA.fold
        first | refine HA.ga 10 rfl rfl ?_ | refine HA.na 10 rfl rfl ?_ | refine HA.nu 10 rfl rfl ?_
        refine HA.all [11, 13] (by kernel_rfl) rfl ⟨⟨_, rfl, ?_⟩, ⟨_, rfl, ?_⟩, trivial⟩
        · refine HO.one_a rfl ?_
          refine H1.callz1 (α := Option Addr × Nat) (V := fun z => .slice z.1 (heldL (bsL q 4) (bsL q 5) P (D + pickI21 l0 50)).length z.2) (An := fun z => A.grow 3 1 z.1 z.2 (heldL (bsL q 4) (bsL q 5) P (D + pickI21 l0 50)).length (ints (heldL (bsL q 4) (bsL q 5) P (D + pickI21 l0 50)))) (I := fun _ => True) (vs := [bsV q, zv P, zv (D + pickI21 l0 50)]) rfl rfl (fun w' hM => hheld w' (hM.base (q := q) memA)) ?_
          rintro ⟨ah, ch⟩ -
          dsimp only
          apply HA.fold
          refine HA.all [13] (by kernel_rfl) rfl ⟨⟨_, rfl, ?_⟩, trivial⟩
          refine HO.one_a rfl ?_
          refine H1.ldb (v := zv r.party) (cs := rcells r) rfl memA rfl rfl ?_
          apply HA.fold
          refine HA.all [14] (by kernel_rfl) rfl ⟨⟨_, rfl, ?_⟩, trivial⟩
          refine HO.one_a rfl ?_
          refine H1.callx (u := .bool false) (vs := [.slice ah (heldL (bsL q 4) (bsL q 5) P (D + pickI21 l0 50)).length ch, zv r.party]) rfl rfl (fun w' hM => by have h := has21_fn (.slice ah (heldL (bsL q 4) (bsL q 5) P (D + pickI21 l0 50)).length ch) (heldL (bsL q 4) (bsL q 5) P (D + pickI21 l0 50)) r.party (by omega) w' (hM.gr memA); rw [decide_eq_false hnot] at h; exact h) ?_
          apply HA.fold
          refine HA.pa 15 rfl ?_
          refine HA.done (by kernel_rfl) ?_
          repeat' (first | apply HL.fold | apply HA.fold | apply HL.nil | apply HX.n_then | apply HC.seq | apply HC.region | refine HL.pa ?_ | refine HL.ga rfl ?_ | refine HL.na rfl ?_ | refine HL.nu rfl rfl ?_ | apply HC.block | apply HC.skip | apply HC.exit | apply HC.ret | apply HX.e_block | refine HX.e_other rfl ?_ | apply HX.e_then | apply HX.e_again | apply HX.n_block | apply HX.r_then | apply HX.r_block | apply HX.r_again | refine HC.cond_yes rfl ?_ | refine HC.cond_no rfl ?_ | refine HL.one (H1.ldb rfl memA rfl rfl ?_) | refine HC.cond rfl (fun hc => ?_) (fun hc => ?_) | refine HC.cond_b rfl (fun hc => ?_) (fun hc => ?_))
          exact HX.again (j + 1) hlt (by omega) esA (by repeat (first | exact Hs.nil _ | (refine Hs.cons pickA ?_)))
        · refine HO.one_a rfl ?_
          refine H1.ldb (v := zv r.party) (cs := rcells r) rfl memA rfl rfl ?_
          apply HA.fold
          refine HA.all [11] (by kernel_rfl) rfl ⟨⟨_, rfl, ?_⟩, trivial⟩
          refine HO.one_a rfl ?_
          refine H1.callz1 (α := Option Addr × Nat) (V := fun z => .slice z.1 (heldL (bsL q 4) (bsL q 5) P (D + pickI21 l0 50)).length z.2) (An := fun z => A.grow 3 1 z.1 z.2 (heldL (bsL q 4) (bsL q 5) P (D + pickI21 l0 50)).length (ints (heldL (bsL q 4) (bsL q 5) P (D + pickI21 l0 50)))) (I := fun _ => True) (vs := [bsV q, zv P, zv (D + pickI21 l0 50)]) rfl rfl (fun w' hM => hheld w' (hM.base (q := q) memA)) ?_
          rintro ⟨ah, ch⟩ -
          dsimp only
          apply HA.fold
          refine HA.all [14] (by kernel_rfl) rfl ⟨⟨_, rfl, ?_⟩, trivial⟩
          refine HO.one_a rfl ?_
          refine H1.callx (u := .bool false) (vs := [.slice ah (heldL (bsL q 4) (bsL q 5) P (D + pickI21 l0 50)).length ch, zv r.party]) rfl rfl (fun w' hM => by have h := has21_fn (.slice ah (heldL (bsL q 4) (bsL q 5) P (D + pickI21 l0 50)).length ch) (heldL (bsL q 4) (bsL q 5) P (D + pickI21 l0 50)) r.party (by omega) w' (hM.gr memA); rw [decide_eq_false hnot] at h; exact h) ?_
          apply HA.fold
          refine HA.pa 15 rfl ?_
          refine HA.done (by kernel_rfl) ?_
          repeat' (first | apply HL.fold | apply HA.fold | apply HL.nil | apply HX.n_then | apply HC.seq | apply HC.region | refine HL.pa ?_ | refine HL.ga rfl ?_ | refine HL.na rfl ?_ | refine HL.nu rfl rfl ?_ | apply HC.block | apply HC.skip | apply HC.exit | apply HC.ret | apply HX.e_block | refine HX.e_other rfl ?_ | apply HX.e_then | apply HX.e_again | apply HX.n_block | apply HX.r_then | apply HX.r_block | apply HX.r_again | refine HC.cond_yes rfl ?_ | refine HC.cond_no rfl ?_ | refine HL.one (H1.ldb rfl memA rfl rfl ?_) | refine HC.cond rfl (fun hc => ?_) (fun hc => ?_) | refine HC.cond_b rfl (fun hc => ?_) (fun hc => ?_))
          exact HX.again (j + 1) hlt (by omega) esA (by repeat (first | exact Hs.nil _ | (refine Hs.cons pickA ?_)))
      · refine HO.one_a rfl ?_
        refine H1.ldb (v := zv r.party) (cs := rcells r) rfl memA rfl rfl ?_
        apply HA.fold
        refine HA.all [9] (by kernel_rfl) rfl ⟨⟨_, rfl, ?_⟩, trivial⟩
        refine HO.one_a rfl ?_
        refine H1.call0 (vs := [zv l0, zv 50]) rfl rfl (fun w' _ => pick21_fn l0 50 w7'.1 w7'.2 (by decide) w') ?_
        apply HA.fold
        first | refine HA.ga 10 rfl rfl ?_ | refine HA.na 10 rfl rfl ?_ | refine HA.nu 10 rfl rfl ?_
        refine HA.all [11] (by kernel_rfl) rfl ⟨⟨_, rfl, ?_⟩, trivial⟩
        refine HO.one_a rfl ?_
        refine H1.callz1 (α := Option Addr × Nat) (V := fun z => .slice z.1 (heldL (bsL q 4) (bsL q 5) P (D + pickI21 l0 50)).length z.2) (An := fun z => A.grow 3 1 z.1 z.2 (heldL (bsL q 4) (bsL q 5) P (D + pickI21 l0 50)).length (ints (heldL (bsL q 4) (bsL q 5) P (D + pickI21 l0 50)))) (I := fun _ => True) (vs := [bsV q, zv P, zv (D + pickI21 l0 50)]) rfl rfl (fun w' hM => hheld w' (hM.base (q := q) memA)) ?_
        rintro ⟨ah, ch⟩ -
        dsimp only
        apply HA.fold
        refine HA.all [14] (by kernel_rfl) rfl ⟨⟨_, rfl, ?_⟩, trivial⟩
        refine HO.one_a rfl ?_
        refine H1.callx (u := .bool false) (vs := [.slice ah (heldL (bsL q 4) (bsL q 5) P (D + pickI21 l0 50)).length ch, zv r.party]) rfl rfl (fun w' hM => by have h := has21_fn (.slice ah (heldL (bsL q 4) (bsL q 5) P (D + pickI21 l0 50)).length ch) (heldL (bsL q 4) (bsL q 5) P (D + pickI21 l0 50)) r.party (by omega) w' (hM.gr memA); rw [decide_eq_false hnot] at h; exact h) ?_
        apply HA.fold
        refine HA.pa 15 rfl ?_
        refine HA.done (by kernel_rfl) ?_
        repeat' (first | apply HL.fold | apply HA.fold | apply HL.nil | apply HX.n_then | apply HC.seq | apply HC.region | refine HL.pa ?_ | refine HL.ga rfl ?_ | refine HL.na rfl ?_ | refine HL.nu rfl rfl ?_ | apply HC.block | apply HC.skip | apply HC.exit | apply HC.ret | apply HX.e_block | refine HX.e_other rfl ?_ | apply HX.e_then | apply HX.e_again | apply HX.n_block | apply HX.r_then | apply HX.r_block | apply HX.r_again | refine HC.cond_yes rfl ?_ | refine HC.cond_no rfl ?_ | refine HL.one (H1.ldb rfl memA rfl rfl ?_) | refine HC.cond rfl (fun hc => ?_) (fun hc => ?_) | refine HC.cond_b rfl (fun hc => ?_) (fun hc => ?_))
        exact HX.again (j + 1) hlt (by omega) esA (by repeat (first | exact Hs.nil _ | (refine Hs.cons pickA ?_)))
    · refine HO.one_a rfl ?_
      refine H1.call0 (vs := [zv l0, zv 50]) rfl rfl (fun w' _ => pick21_fn l0 50 w7'.1 w7'.2 (by decide) w') ?_
      apply HA.fold
      first | refine HA.ga 10 rfl rfl ?_ | refine HA.na 10 rfl rfl ?_ | refine HA.nu 10 rfl rfl ?_
      refine HA.all [5, 13] (by kernel_rfl) rfl ⟨⟨_, rfl, ?_⟩, ⟨_, rfl, ?_⟩, trivial⟩
      · refine HO.one_a rfl ?_
        refine H1.ldAgg (vs := row 8 fun i => slot (q i)) rfl memA rfl (fun i v hv => by rw [Nat.zero_add]; exact hv) rfl ?_
        apply HA.fold
        refine HA.all [11, 13] (by kernel_rfl) rfl ⟨⟨_, rfl, ?_⟩, ⟨_, rfl, ?_⟩, trivial⟩
        · refine HO.one_a rfl ?_
          refine H1.callz1 (α := Option Addr × Nat) (V := fun z => .slice z.1 (heldL (bsL q 4) (bsL q 5) P (D + pickI21 l0 50)).length z.2) (An := fun z => A.grow 3 1 z.1 z.2 (heldL (bsL q 4) (bsL q 5) P (D + pickI21 l0 50)).length (ints (heldL (bsL q 4) (bsL q 5) P (D + pickI21 l0 50)))) (I := fun _ => True) (vs := [bsV q, zv P, zv (D + pickI21 l0 50)]) rfl rfl (fun w' hM => hheld w' (hM.base (q := q) memA)) ?_
          rintro ⟨ah, ch⟩ -
          dsimp only
          apply HA.fold
          refine HA.all [13] (by kernel_rfl) rfl ⟨⟨_, rfl, ?_⟩, trivial⟩
          refine HO.one_a rfl ?_
          refine H1.ldb (v := zv r.party) (cs := rcells r) rfl memA rfl rfl ?_
          apply HA.fold
          refine HA.all [14] (by kernel_rfl) rfl ⟨⟨_, rfl, ?_⟩, trivial⟩
          refine HO.one_a rfl ?_
          refine H1.callx (u := .bool false) (vs := [.slice ah (heldL (bsL q 4) (bsL q 5) P (D + pickI21 l0 50)).length ch, zv r.party]) rfl rfl (fun w' hM => by have h := has21_fn (.slice ah (heldL (bsL q 4) (bsL q 5) P (D + pickI21 l0 50)).length ch) (heldL (bsL q 4) (bsL q 5) P (D + pickI21 l0 50)) r.party (by omega) w' (hM.gr memA); rw [decide_eq_false hnot] at h; exact h) ?_
          apply HA.fold
          refine HA.pa 15 rfl ?_
          refine HA.done (by kernel_rfl) ?_
          repeat' (first | apply HL.fold | apply HA.fold | apply HL.nil | apply HX.n_then | apply HC.seq | apply HC.region | refine HL.pa ?_ | refine HL.ga rfl ?_ | refine HL.na rfl ?_ | refine HL.nu rfl rfl ?_ | apply HC.block | apply HC.skip | apply HC.exit | apply HC.ret | apply HX.e_block | refine HX.e_other rfl ?_ | apply HX.e_then | apply HX.e_again | apply HX.n_block | apply HX.r_then | apply HX.r_block | apply HX.r_again | refine HC.cond_yes rfl ?_ | refine HC.cond_no rfl ?_ | refine HL.one (H1.ldb rfl memA rfl rfl ?_) | refine HC.cond rfl (fun hc => ?_) (fun hc => ?_) | refine HC.cond_b rfl (fun hc => ?_) (fun hc => ?_))
          exact HX.again (j + 1) hlt (by omega) esA (by repeat (first | exact Hs.nil _ | (refine Hs.cons pickA ?_)))
        · refine HO.one_a rfl ?_
          refine H1.ldb (v := zv r.party) (cs := rcells r) rfl memA rfl rfl ?_
          apply HA.fold
          refine HA.all [11] (by kernel_rfl) rfl ⟨⟨_, rfl, ?_⟩, trivial⟩
          refine HO.one_a rfl ?_
          refine H1.callz1 (α := Option Addr × Nat) (V := fun z => .slice z.1 (heldL (bsL q 4) (bsL q 5) P (D + pickI21 l0 50)).length z.2) (An := fun z => A.grow 3 1 z.1 z.2 (heldL (bsL q 4) (bsL q 5) P (D + pickI21 l0 50)).length (ints (heldL (bsL q 4) (bsL q 5) P (D + pickI21 l0 50)))) (I := fun _ => True) (vs := [bsV q, zv P, zv (D + pickI21 l0 50)]) rfl rfl (fun w' hM => hheld w' (hM.base (q := q) memA)) ?_
          rintro ⟨ah, ch⟩ -
          dsimp only
          apply HA.fold
          refine HA.all [14] (by kernel_rfl) rfl ⟨⟨_, rfl, ?_⟩, trivial⟩
          refine HO.one_a rfl ?_
          refine H1.callx (u := .bool false) (vs := [.slice ah (heldL (bsL q 4) (bsL q 5) P (D + pickI21 l0 50)).length ch, zv r.party]) rfl rfl (fun w' hM => by have h := has21_fn (.slice ah (heldL (bsL q 4) (bsL q 5) P (D + pickI21 l0 50)).length ch) (heldL (bsL q 4) (bsL q 5) P (D + pickI21 l0 50)) r.party (by omega) w' (hM.gr memA); rw [decide_eq_false hnot] at h; exact h) ?_
          apply HA.fold
          refine HA.pa 15 rfl ?_
          refine HA.done (by kernel_rfl) ?_
          repeat' (first | apply HL.fold | apply HA.fold | apply HL.nil | apply HX.n_then | apply HC.seq | apply HC.region | refine HL.pa ?_ | refine HL.ga rfl ?_ | refine HL.na rfl ?_ | refine HL.nu rfl rfl ?_ | apply HC.block | apply HC.skip | apply HC.exit | apply HC.ret | apply HX.e_block | refine HX.e_other rfl ?_ | apply HX.e_then | apply HX.e_again | apply HX.n_block | apply HX.r_then | apply HX.r_block | apply HX.r_again | refine HC.cond_yes rfl ?_ | refine HC.cond_no rfl ?_ | refine HL.one (H1.ldb rfl memA rfl rfl ?_) | refine HC.cond rfl (fun hc => ?_) (fun hc => ?_) | refine HC.cond_b rfl (fun hc => ?_) (fun hc => ?_))
          exact HX.again (j + 1) hlt (by omega) esA (by repeat (first | exact Hs.nil _ | (refine Hs.cons pickA ?_)))
      · refine HO.one_a rfl ?_
        refine H1.ldb (v := zv r.party) (cs := rcells r) rfl memA rfl rfl ?_
        apply HA.fold
        refine HA.all [5] (by kernel_rfl) rfl ⟨⟨_, rfl, ?_⟩, trivial⟩
        refine HO.one_a rfl ?_
        refine H1.ldAgg (vs := row 8 fun i => slot (q i)) rfl memA rfl (fun i v hv => by rw [Nat.zero_add]; exact hv) rfl ?_
        apply HA.fold
        refine HA.all [11] (by kernel_rfl) rfl ⟨⟨_, rfl, ?_⟩, trivial⟩
        refine HO.one_a rfl ?_
        refine H1.callz1 (α := Option Addr × Nat) (V := fun z => .slice z.1 (heldL (bsL q 4) (bsL q 5) P (D + pickI21 l0 50)).length z.2) (An := fun z => A.grow 3 1 z.1 z.2 (heldL (bsL q 4) (bsL q 5) P (D + pickI21 l0 50)).length (ints (heldL (bsL q 4) (bsL q 5) P (D + pickI21 l0 50)))) (I := fun _ => True) (vs := [bsV q, zv P, zv (D + pickI21 l0 50)]) rfl rfl (fun w' hM => hheld w' (hM.base (q := q) memA)) ?_
        rintro ⟨ah, ch⟩ -
        dsimp only
        apply HA.fold
        refine HA.all [14] (by kernel_rfl) rfl ⟨⟨_, rfl, ?_⟩, trivial⟩
        refine HO.one_a rfl ?_
        refine H1.callx (u := .bool false) (vs := [.slice ah (heldL (bsL q 4) (bsL q 5) P (D + pickI21 l0 50)).length ch, zv r.party]) rfl rfl (fun w' hM => by have h := has21_fn (.slice ah (heldL (bsL q 4) (bsL q 5) P (D + pickI21 l0 50)).length ch) (heldL (bsL q 4) (bsL q 5) P (D + pickI21 l0 50)) r.party (by omega) w' (hM.gr memA); rw [decide_eq_false hnot] at h; exact h) ?_
        apply HA.fold
        refine HA.pa 15 rfl ?_
        refine HA.done (by kernel_rfl) ?_
        repeat' (first | apply HL.fold | apply HA.fold | apply HL.nil | apply HX.n_then | apply HC.seq | apply HC.region | refine HL.pa ?_ | refine HL.ga rfl ?_ | refine HL.na rfl ?_ | refine HL.nu rfl rfl ?_ | apply HC.block | apply HC.skip | apply HC.exit | apply HC.ret | apply HX.e_block | refine HX.e_other rfl ?_ | apply HX.e_then | apply HX.e_again | apply HX.n_block | apply HX.r_then | apply HX.r_block | apply HX.r_again | refine HC.cond_yes rfl ?_ | refine HC.cond_no rfl ?_ | refine HL.one (H1.ldb rfl memA rfl rfl ?_) | refine HC.cond rfl (fun hc => ?_) (fun hc => ?_) | refine HC.cond_b rfl (fun hc => ?_) (fun hc => ?_))
        exact HX.again (j + 1) hlt (by omega) esA (by repeat (first | exact Hs.nil _ | (refine Hs.cons pickA ?_)))
    · refine HO.one_a rfl ?_
      refine H1.ldb (v := zv r.party) (cs := rcells r) rfl memA rfl rfl ?_
      apply HA.fold
      refine HA.all [5, 9] (by kernel_rfl) rfl ⟨⟨_, rfl, ?_⟩, ⟨_, rfl, ?_⟩, trivial⟩
      · refine HO.one_a rfl ?_
        refine H1.ldAgg (vs := row 8 fun i => slot (q i)) rfl memA rfl (fun i v hv => by rw [Nat.zero_add]; exact hv) rfl ?_
        apply HA.fold
        refine HA.all [9] (by kernel_rfl) rfl ⟨⟨_, rfl, ?_⟩, trivial⟩
        refine HO.one_a rfl ?_
        refine H1.call0 (vs := [zv l0, zv 50]) rfl rfl (fun w' _ => pick21_fn l0 50 w7'.1 w7'.2 (by decide) w') ?_
        apply HA.fold
        first | refine HA.ga 10 rfl rfl ?_ | refine HA.na 10 rfl rfl ?_ | refine HA.nu 10 rfl rfl ?_
        refine HA.all [11] (by kernel_rfl) rfl ⟨⟨_, rfl, ?_⟩, trivial⟩
        refine HO.one_a rfl ?_
        refine H1.callz1 (α := Option Addr × Nat) (V := fun z => .slice z.1 (heldL (bsL q 4) (bsL q 5) P (D + pickI21 l0 50)).length z.2) (An := fun z => A.grow 3 1 z.1 z.2 (heldL (bsL q 4) (bsL q 5) P (D + pickI21 l0 50)).length (ints (heldL (bsL q 4) (bsL q 5) P (D + pickI21 l0 50)))) (I := fun _ => True) (vs := [bsV q, zv P, zv (D + pickI21 l0 50)]) rfl rfl (fun w' hM => hheld w' (hM.base (q := q) memA)) ?_
        rintro ⟨ah, ch⟩ -
        dsimp only
        apply HA.fold
        refine HA.all [14] (by kernel_rfl) rfl ⟨⟨_, rfl, ?_⟩, trivial⟩
        refine HO.one_a rfl ?_
        refine H1.callx (u := .bool false) (vs := [.slice ah (heldL (bsL q 4) (bsL q 5) P (D + pickI21 l0 50)).length ch, zv r.party]) rfl rfl (fun w' hM => by have h := has21_fn (.slice ah (heldL (bsL q 4) (bsL q 5) P (D + pickI21 l0 50)).length ch) (heldL (bsL q 4) (bsL q 5) P (D + pickI21 l0 50)) r.party (by omega) w' (hM.gr memA); rw [decide_eq_false hnot] at h; exact h) ?_
        apply HA.fold
        refine HA.pa 15 rfl ?_
        refine HA.done (by kernel_rfl) ?_
        repeat' (first | apply HL.fold | apply HA.fold | apply HL.nil | apply HX.n_then | apply HC.seq | apply HC.region | refine HL.pa ?_ | refine HL.ga rfl ?_ | refine HL.na rfl ?_ | refine HL.nu rfl rfl ?_ | apply HC.block | apply HC.skip | apply HC.exit | apply HC.ret | apply HX.e_block | refine HX.e_other rfl ?_ | apply HX.e_then | apply HX.e_again | apply HX.n_block | apply HX.r_then | apply HX.r_block | apply HX.r_again | refine HC.cond_yes rfl ?_ | refine HC.cond_no rfl ?_ | refine HL.one (H1.ldb rfl memA rfl rfl ?_) | refine HC.cond rfl (fun hc => ?_) (fun hc => ?_) | refine HC.cond_b rfl (fun hc => ?_) (fun hc => ?_))
        exact HX.again (j + 1) hlt (by omega) esA (by repeat (first | exact Hs.nil _ | (refine Hs.cons pickA ?_)))
      · refine HO.one_a rfl ?_
        refine H1.call0 (vs := [zv l0, zv 50]) rfl rfl (fun w' _ => pick21_fn l0 50 w7'.1 w7'.2 (by decide) w') ?_
        apply HA.fold
        first | refine HA.ga 10 rfl rfl ?_ | refine HA.na 10 rfl rfl ?_ | refine HA.nu 10 rfl rfl ?_
        refine HA.all [5] (by kernel_rfl) rfl ⟨⟨_, rfl, ?_⟩, trivial⟩
        refine HO.one_a rfl ?_
        refine H1.ldAgg (vs := row 8 fun i => slot (q i)) rfl memA rfl (fun i v hv => by rw [Nat.zero_add]; exact hv) rfl ?_
        apply HA.fold
        refine HA.all [11] (by kernel_rfl) rfl ⟨⟨_, rfl, ?_⟩, trivial⟩
        refine HO.one_a rfl ?_
        refine H1.callz1 (α := Option Addr × Nat) (V := fun z => .slice z.1 (heldL (bsL q 4) (bsL q 5) P (D + pickI21 l0 50)).length z.2) (An := fun z => A.grow 3 1 z.1 z.2 (heldL (bsL q 4) (bsL q 5) P (D + pickI21 l0 50)).length (ints (heldL (bsL q 4) (bsL q 5) P (D + pickI21 l0 50)))) (I := fun _ => True) (vs := [bsV q, zv P, zv (D + pickI21 l0 50)]) rfl rfl (fun w' hM => hheld w' (hM.base (q := q) memA)) ?_
        rintro ⟨ah, ch⟩ -
        dsimp only
        apply HA.fold
        refine HA.all [14] (by kernel_rfl) rfl ⟨⟨_, rfl, ?_⟩, trivial⟩
        refine HO.one_a rfl ?_
        refine H1.callx (u := .bool false) (vs := [.slice ah (heldL (bsL q 4) (bsL q 5) P (D + pickI21 l0 50)).length ch, zv r.party]) rfl rfl (fun w' hM => by have h := has21_fn (.slice ah (heldL (bsL q 4) (bsL q 5) P (D + pickI21 l0 50)).length ch) (heldL (bsL q 4) (bsL q 5) P (D + pickI21 l0 50)) r.party (by omega) w' (hM.gr memA); rw [decide_eq_false hnot] at h; exact h) ?_
        apply HA.fold
        refine HA.pa 15 rfl ?_
        refine HA.done (by kernel_rfl) ?_
        repeat' (first | apply HL.fold | apply HA.fold | apply HL.nil | apply HX.n_then | apply HC.seq | apply HC.region | refine HL.pa ?_ | refine HL.ga rfl ?_ | refine HL.na rfl ?_ | refine HL.nu rfl rfl ?_ | apply HC.block | apply HC.skip | apply HC.exit | apply HC.ret | apply HX.e_block | refine HX.e_other rfl ?_ | apply HX.e_then | apply HX.e_again | apply HX.n_block | apply HX.r_then | apply HX.r_block | apply HX.r_again | refine HC.cond_yes rfl ?_ | refine HC.cond_no rfl ?_ | refine HL.one (H1.ldb rfl memA rfl rfl ?_) | refine HC.cond rfl (fun hc => ?_) (fun hc => ?_) | refine HC.cond_b rfl (fun hc => ?_) (fun hc => ?_))
        exact HX.again (j + 1) hlt (by omega) esA (by repeat (first | exact Hs.nil _ | (refine Hs.cons pickA ?_)))
  rintro - -
  repeat' (first | apply HL.fold | apply HA.fold | apply HL.nil | apply HX.n_then | apply HC.seq | apply HC.region | refine HL.pa ?_ | refine HL.ga rfl ?_ | refine HL.na rfl ?_ | refine HL.nu rfl rfl ?_ | apply HC.block | apply HC.skip | apply HC.exit | apply HC.ret | apply HX.e_block | refine HX.e_other rfl ?_ | apply HX.e_then | apply HX.e_again | apply HX.n_block | apply HX.r_then | apply HX.r_block | apply HX.r_again | refine HC.cond_yes rfl ?_ | refine HC.cond_no rfl ?_ | refine HL.one (H1.ldb rfl memA rfl rfl ?_) | refine HC.cond rfl (fun hc => ?_) (fun hc => ?_) | refine HC.cond_b rfl (fun hc => ?_) (fun hc => ?_))
  exact HX.ret1 rfl rfl fun w' hM => ⟨congrArg Value.bool (decide_eq_true (by omega)), hM.ext⟩
end Go.Sx

