/- Chapter 21: the law KnownOthers. -/
import Derived.Test.YtldhccgelcmjoaaGreatVB
namespace Go.Sx
open Go Go.Proofs Go.RowKit
attribute [local irreducible] WC WL WX POp Then Again Fn NX W1 WA WO QL RP RA Yld LoopAt HC HL HX HN H1 HA HO HQ HB HP A.blk A.grow A.rd A.obj A.mp AgainH CutH
attribute [local irreducible] A.dfr A.loop bsA heldL embL hidL
set_option maxHeartbeats 8000000 in
theorem knownOthers_fn (v : Value) (rows : List (List Int)) (hrow : ∀ y ∈ rows, y.length = 6 ∧ ∀ z ∈ y, i64W z) (a0 p0 b0 d0 : Int) (w0' : i64W a0) (w1' : i64W p0) (w2' : i64W b0) (w3' : i64W d0) (w : World) (hR : RdA 6 w v rows) :
    Fn Tryz.prog 4 #[v, zv a0, zv p0, zv b0, zv d0] w fun v w' => v = .bool true ∧ Ext w w' := by
  refine enterH (l := [_, _, _, _, _]) rfl Tryz.ntmps4 rfl ?_
  repeat' (first | refine HL.pa ?_ (POp.beqC rfl rfl (by first | rfl | decide)) | apply HL.fold | apply HA.fold | apply HL.nil | apply HX.n_then | apply HC.seq | apply HC.region | refine HL.pa ?_ | refine HL.ga rfl ?_ | refine HL.na rfl ?_ | refine HL.nu rfl rfl ?_ | apply HC.block | apply HC.skip | apply HC.exit | apply HC.ret | apply HX.e_block | refine HX.e_other rfl ?_ | apply HX.e_then | apply HX.e_again | apply HX.n_block | apply HX.r_then | apply HX.r_block | apply HX.r_again | refine HC.cond_yes rfl ?_ | refine HC.cond_no rfl ?_ | refine HL.one (H1.ldb rfl memA rfl rfl ?_) | refine HC.cond rfl (fun hc => ?_) (fun hc => ?_) | refine HC.cond_b rfl (fun hc => ?_) (fun hc => ?_))
  refine HL.one (H1.callx (u := .bool true) (vs := []) rfl rfl (fun w' _ => sane21_fn w') ?_)
  repeat' (first | refine HL.pa ?_ (POp.beqC rfl rfl (by first | rfl | decide)) | apply HL.fold | apply HA.fold | apply HL.nil | apply HX.n_then | apply HC.seq | apply HC.region | refine HL.pa ?_ | refine HL.ga rfl ?_ | refine HL.na rfl ?_ | refine HL.nu rfl rfl ?_ | apply HC.block | apply HC.skip | apply HC.exit | apply HC.ret | apply HX.e_block | refine HX.e_other rfl ?_ | apply HX.e_then | apply HX.e_again | apply HX.n_block | apply HX.r_then | apply HX.r_block | apply HX.r_again | refine HC.cond_yes rfl ?_ | refine HC.cond_no rfl ?_ | refine HL.one (H1.ldb rfl memA rfl rfl ?_) | refine HC.cond rfl (fun hc => ?_) (fun hc => ?_) | refine HC.cond_b rfl (fun hc => ?_) (fun hc => ?_))
  refine HL.one (H1.call0 (vs := [zv p0, zv 4]) rfl rfl (fun w' _ => pick21_fn p0 4 w1'.1 w1'.2 (by decide) w') ?_)
  have hP := pickI21_lt p0 (n := 4) (by decide)
  generalize pickI21 p0 4 = P0 at hP ⊢
  repeat' (first | refine HL.pa ?_ (POp.beqC rfl rfl (by first | rfl | decide)) | apply HL.fold | apply HA.fold | apply HL.nil | apply HX.n_then | apply HC.seq | apply HC.region | refine HL.pa ?_ | refine HL.ga rfl ?_ | refine HL.na rfl ?_ | refine HL.nu rfl rfl ?_ | apply HC.block | apply HC.skip | apply HC.exit | apply HC.ret | apply HX.e_block | refine HX.e_other rfl ?_ | apply HX.e_then | apply HX.e_again | apply HX.n_block | apply HX.r_then | apply HX.r_block | apply HX.r_again | refine HC.cond_yes rfl ?_ | refine HC.cond_no rfl ?_ | refine HL.one (H1.ldb rfl memA rfl rfl ?_) | refine HC.cond rfl (fun hc => ?_) (fun hc => ?_) | refine HC.cond_b rfl (fun hc => ?_) (fun hc => ?_))
  refine HL.one (H1.call0 (vs := [zv b0, zv 4]) rfl rfl (fun w' _ => pick21_fn b0 4 w2'.1 w2'.2 (by decide) w') ?_)
  have hb := pickI21_lt b0 (n := 4) (by decide)
  generalize pickI21 b0 4 = b at hb ⊢
  repeat' (first | refine HL.pa ?_ (POp.beqC rfl rfl (by first | rfl | decide)) | apply HL.fold | apply HA.fold | apply HL.nil | apply HX.n_then | apply HC.seq | apply HC.region | refine HL.pa ?_ | refine HL.ga rfl ?_ | refine HL.na rfl ?_ | refine HL.nu rfl rfl ?_ | apply HC.block | apply HC.skip | apply HC.exit | apply HC.ret | apply HX.e_block | refine HX.e_other rfl ?_ | apply HX.e_then | apply HX.e_again | apply HX.n_block | apply HX.r_then | apply HX.r_block | apply HX.r_again | refine HC.cond_yes rfl ?_ | refine HC.cond_no rfl ?_ | refine HL.one (H1.ldb rfl memA rfl rfl ?_) | refine HC.cond rfl (fun hc => ?_) (fun hc => ?_) | refine HC.cond_b rfl (fun hc => ?_) (fun hc => ?_))
  refine HL.one (H1.call0 (vs := [zv d0, zv 70]) rfl rfl (fun w' _ => pick21_fn d0 70 w3'.1 w3'.2 (by decide) w') ?_)
  have hd := pickI21_lt d0 (n := 70) (by decide)
  generalize pickI21 d0 70 = d at hd ⊢
  obtain ⟨p, hpe⟩ : ∃ p, p = 1 + P0 := ⟨_, rfl⟩
  rw [← hpe]
  clear hpe hP
  repeat' (first | refine HL.pa ?_ (POp.beqC rfl rfl (by first | rfl | decide)) | apply HL.fold | apply HA.fold | apply HL.nil | apply HX.n_then | apply HC.seq | apply HC.region | refine HL.pa ?_ | refine HL.ga rfl ?_ | refine HL.na rfl ?_ | refine HL.nu rfl rfl ?_ | apply HC.block | apply HC.skip | apply HC.exit | apply HC.ret | apply HX.e_block | refine HX.e_other rfl ?_ | apply HX.e_then | apply HX.e_again | apply HX.n_block | apply HX.r_then | apply HX.r_block | apply HX.r_again | refine HC.cond_yes rfl ?_ | refine HC.cond_no rfl ?_ | refine HL.one (H1.ldb rfl memA rfl rfl ?_) | refine HC.cond rfl (fun hc => ?_) (fun hc => ?_) | refine HC.cond_b rfl (fun hc => ?_) (fun hc => ?_))
  refine HL.one (H1.callz1 (α := (Option Addr × Nat) × List Rc) (V := fun z => .slice z.1.1 z.2.length z.1.2) (An := fun z => A.grow 24 15 z.1.1 z.1.2 z.2.length (rcl z.2)) (I := fun z => z.2.length ≤ 30 ∧ ∀ r ∈ z.2, SomeOk r) (vs := [v]) rfl rfl (fun w' hM => Some_fn v rows hrow w' (hR.ext hM.ext)) ?_)
  rintro ⟨⟨al, cl⟩, l⟩ ⟨hl30, hlok⟩
  dsimp only at hl30 hlok ⊢
  have hokl : ∀ t ∈ l, RcOk t := fun t ht => RcOk.of_valid (hlok t ht).valid
  repeat' (first | refine HL.pa ?_ (POp.beqC rfl rfl (by first | rfl | decide)) | apply HL.fold | apply HA.fold | apply HL.nil | apply HX.n_then | apply HC.seq | apply HC.region | refine HL.pa ?_ | refine HL.ga rfl ?_ | refine HL.na rfl ?_ | refine HL.nu rfl rfl ?_ | apply HC.skip | apply HC.exit | apply HC.ret | apply HX.e_block | refine HX.e_other rfl ?_ | apply HX.e_then | apply HX.e_again | apply HX.n_block | apply HX.r_then | apply HX.r_block | apply HX.r_again | refine HC.cond_yes rfl ?_ | refine HC.cond_no rfl ?_ | refine HL.one (H1.ldb rfl memA rfl rfl ?_) | refine HC.cond rfl (fun hc => ?_) (fun hc => ?_) | refine HC.cond_b rfl (fun hc => ?_) (fun hc => ?_))
  refine HC.cut (α := Option Addr × Nat) (fun z => [(12, .slice z.1 (l.filter (ownB p)).length z.2), (13, .slice al l.length cl), (1, zv a0), (2, zv p), (3, zv b), (4, zv d), (11, .bool true)])
    (fun z => [A.grow 24 15 z.1 z.2 (l.filter (ownB p)).length (rcl (l.filter (ownB p))), A.grow 24 15 al cl l.length (rcl l)]) (fun _ => True) ?_ ?_
  · repeat' (first | refine HL.pa ?_ (POp.beqC rfl rfl (by first | rfl | decide)) | apply HL.fold | apply HA.fold | apply HL.nil | apply HX.n_then | apply HC.seq | apply HC.region | refine HL.pa ?_ | refine HL.ga rfl ?_ | refine HL.na rfl ?_ | refine HL.nu rfl rfl ?_ | apply HC.block | apply HC.skip | apply HC.exit | apply HC.ret | apply HX.e_block | refine HX.e_other rfl ?_ | apply HX.e_then | apply HX.e_again | apply HX.n_block | apply HX.r_then | apply HX.r_block | apply HX.r_again | refine HC.cond_yes rfl ?_ | refine HC.cond_no rfl ?_ | refine HL.one (H1.ldb rfl memA rfl rfl ?_) | refine HC.cond rfl (fun hc => ?_) (fun hc => ?_) | refine HC.cond_b rfl (fun hc => ?_) (fun hc => ?_))
    refine HC.grow0 24 15 ?_
    refine HC.loop (α := Nat × Option Addr × Nat) (fun z => [(14, zv (z.1 : Int)), (12, .slice z.2.1 ((l.take z.1).filter (ownB p)).length z.2.2), (13, .slice al l.length cl), (1, zv a0), (2, zv p), (3, zv b), (4, zv d), (11, .bool true)])
      (fun z => [A.grow 24 15 z.2.1 z.2.2 ((l.take z.1).filter (ownB p)).length (rcl ((l.take z.1).filter (ownB p))), A.grow 24 15 al cl l.length (rcl l)]) (fun z => z.1 ≤ l.length) (fun z => l.length - z.1) (0, none, 0) (Nat.zero_le _) esA (by repeat (first | exact Hs.nil _ | (refine Hs.cons pickA ?_))) ?_
    rintro ⟨i, ao, co⟩ hi
    dsimp only at hi ⊢
    by_cases hlt : i < l.length
    rotate_left
    · obtain rfl : i = l.length := by omega
      rw [List.take_length]
      repeat' (first | refine HL.pa ?_ (POp.beqC rfl rfl (by first | rfl | decide)) | apply HL.fold | apply HA.fold | apply HL.nil | apply HX.n_then | apply HC.seq | apply HC.region | refine HL.pa ?_ | refine HL.ga rfl ?_ | refine HL.na rfl ?_ | refine HL.nu rfl rfl ?_ | apply HC.block | apply HC.skip | apply HC.exit | apply HC.ret | apply HX.e_block | refine HX.e_other rfl ?_ | apply HX.e_then | apply HX.e_again | apply HX.n_block | apply HX.r_then | apply HX.r_block | apply HX.r_again | refine HC.cond_yes rfl ?_ | refine HC.cond_no rfl ?_ | refine HL.one (H1.ldb rfl memA rfl rfl ?_) | refine HC.cond rfl (fun hc => ?_) (fun hc => ?_) | refine HC.cond_b rfl (fun hc => ?_) (fun hc => ?_))
      exact HX.cut (ao, co) trivial esA (by repeat (first | exact Hs.nil _ | (refine Hs.cons pickA ?_)))
    have hli : (i : Int) < (l.length : Int) := by omega
    have hll : ((l.take i).filter (ownB p)).length ≤ l.length := filt_len
    obtain ⟨r, hr⟩ : ∃ r, l[i]? = some r := ⟨_, List.getElem?_eq_getElem hlt⟩
    have hne : l ≠ [] := fun e => by rw [e] at hlt; cases hlt
    refine HC.openg (e := 24) (a := al) (xs := rcl l) memA (by omega) ?_
    rintro bl rfl
    by_cases k5 : r.kind = 5
    · by_cases pp : r.pack = p
      · have ho : ownB p r = true := by unfold ownB; simp [pp]
        repeat' (first | refine HL.pa ?_ (POp.beqC rfl rfl (by first | rfl | decide)) | apply HL.fold | apply HA.fold | apply HL.nil | apply HX.n_then | apply HC.seq | apply HC.region | refine HL.pa ?_ | refine HL.ga rfl ?_ | refine HL.na rfl ?_ | refine HL.nu rfl rfl ?_ | apply HC.block | apply HC.skip | apply HC.exit | apply HC.ret | apply HX.e_block | refine HX.e_other rfl ?_ | apply HX.e_then | apply HX.e_again | apply HX.n_block | apply HX.r_then | apply HX.r_block | apply HX.r_again | refine HC.cond_yes rfl ?_ | refine HC.cond_no rfl ?_ | refine HL.one (H1.ldb rfl memA rfl rfl ?_) | refine HC.cond rfl (fun hc => ?_) (fun hc => ?_) | refine HC.cond_b rfl (fun hc => ?_) (fun hc => ?_))
        refine HL.one (H1.ldg (v := zv r.kind) rfl memA (by simpa using rcl_get hr 0 _ rfl) rfl ?_)
        repeat' (first | refine HL.pa ?_ (POp.beqC rfl rfl (by first | rfl | decide)) | apply HL.fold | apply HA.fold | apply HL.nil | apply HX.n_then | apply HC.seq | apply HC.region | refine HL.pa ?_ | refine HL.ga rfl ?_ | refine HL.na rfl ?_ | refine HL.nu rfl rfl ?_ | apply HC.block | apply HC.skip | apply HC.exit | apply HC.ret | apply HX.e_block | refine HX.e_other rfl ?_ | apply HX.e_then | apply HX.e_again | apply HX.n_block | apply HX.r_then | apply HX.r_block | apply HX.r_again | refine HC.cond_yes rfl ?_ | refine HC.cond_no rfl ?_ | refine HL.one (H1.ldb rfl memA rfl rfl ?_) | refine HC.cond rfl (fun hc => ?_) (fun hc => ?_) | refine HC.cond_b rfl (fun hc => ?_) (fun hc => ?_))
        refine HL.one (H1.ldg (v := zv r.pack) rfl memA (by simpa using rcl_get hr 7 _ rfl) rfl ?_)
        repeat' (first | refine HL.pa ?_ (POp.beqC rfl rfl (by first | rfl | decide)) | apply HL.fold | apply HA.fold | apply HL.nil | apply HX.n_then | apply HC.seq | apply HC.region | refine HL.pa ?_ | refine HL.ga rfl ?_ | refine HL.na rfl ?_ | refine HL.nu rfl rfl ?_ | apply HC.block | apply HC.skip | apply HC.exit | apply HC.ret | apply HX.e_block | refine HX.e_other rfl ?_ | apply HX.e_then | apply HX.e_again | apply HX.n_block | apply HX.r_then | apply HX.r_block | apply HX.r_again | refine HC.cond_yes rfl ?_ | refine HC.cond_no rfl ?_ | refine HL.one (H1.ldb rfl memA rfl rfl ?_) | refine HC.cond rfl (fun hc => ?_) (fun hc => ?_) | refine HC.cond_b rfl (fun hc => ?_) (fun hc => ?_))
        refine HL.one (H1.ldg (v := zv r.pack) rfl memA (by simpa using rcl_get hr 7 _ rfl) rfl ?_)
        have hfy := filt_yes (f := ownB p) hr ho
        repeat' (first | refine HL.pa ?_ (POp.beqC rfl rfl (by first | rfl | decide)) | apply HL.fold | apply HA.fold | apply HL.nil | apply HX.n_then | apply HC.seq | apply HC.region | refine HL.pa ?_ | refine HL.ga rfl ?_ | refine HL.na rfl ?_ | refine HL.nu rfl rfl ?_ | apply HC.block | apply HC.skip | apply HC.exit | apply HC.ret | apply HX.e_block | refine HX.e_other rfl ?_ | apply HX.e_then | apply HX.e_again | apply HX.n_block | apply HX.r_then | apply HX.r_block | apply HX.r_again | refine HC.cond_yes rfl ?_ | refine HC.cond_no rfl ?_ | refine HL.one (H1.ldb rfl memA rfl rfl ?_) | refine HC.cond rfl (fun hc => ?_) (fun hc => ?_) | refine HC.cond_b rfl (fun hc => ?_) (fun hc => ?_))
        refine HL.one (H1.ldAggw (vs := rcells r) rfl rfl (fun w' hM i v hv => by obtain ⟨b', o', e1, -, hc⟩ := (hM.recs (l := l) memA).at hne; cases e1; have h := hc _ r hr i v hv; rw [Nat.zero_add] at h; exact h) rfl ?_)
        repeat' (first | refine HL.pa ?_ (POp.beqC rfl rfl (by first | rfl | decide)) | apply HL.fold | apply HA.fold | apply HL.nil | apply HX.n_then | apply HC.seq | apply HC.region | refine HL.pa ?_ | refine HL.ga rfl ?_ | refine HL.na rfl ?_ | refine HL.nu rfl rfl ?_ | apply HC.block | apply HC.skip | apply HC.exit | apply HC.ret | apply HX.e_block | refine HX.e_other rfl ?_ | apply HX.e_then | apply HX.e_again | apply HX.n_block | apply HX.r_then | apply HX.r_block | apply HX.r_again | refine HC.cond_yes rfl ?_ | refine HC.cond_no rfl ?_ | refine HL.one (H1.ldb rfl memA rfl rfl ?_) | refine HC.cond rfl (fun hc => ?_) (fun hc => ?_) | refine HC.cond_b rfl (fun hc => ?_) (fun hc => ?_))
        refine HL.one (H1.lit (cs := rcells r) rfl rfl rfl rfl rfl rfl (fun bs => ?_))
        repeat' (first | refine HL.pa ?_ (POp.beqC rfl rfl (by first | rfl | decide)) | apply HL.fold | apply HA.fold | apply HL.nil | apply HX.n_then | apply HC.seq | apply HC.region | refine HL.pa ?_ | refine HL.ga rfl ?_ | refine HL.na rfl ?_ | refine HL.nu rfl rfl ?_ | apply HC.block | apply HC.skip | apply HC.exit | apply HC.ret | apply HX.e_block | refine HX.e_other rfl ?_ | apply HX.e_then | apply HX.e_again | apply HX.n_block | apply HX.r_then | apply HX.r_block | apply HX.r_again | refine HC.cond_yes rfl ?_ | refine HC.cond_no rfl ?_ | refine HL.one (H1.ldb rfl memA rfl rfl ?_) | refine HC.cond rfl (fun hc => ?_) (fun hc => ?_) | refine HC.cond_b rfl (fun hc => ?_) (fun hc => ?_))
        refine HL.one (H1.appRec (e := 24) (l := ((l.take i).filter (ownB p))) (m := [r]) (a := ao) (c := co) rfl rfl rfl (fun a' c' => by first | ((repeat (first | with_reducible exact Rpl.here | with_reducible apply Rpl.there)); done) | (repeat (first | exact Rpl.here | apply Rpl.there))) (fun w hM => by have hb := hM.blk (b := bs) (cs := rcells r) (e := 24) memA; exact RdR.of_blk (l := [r]) (by rw [show rcl [r] = rcells r from List.append_nil _]; exact hb)) (by simp only [List.length_singleton]; omega) (by decide) rfl (fun a1 c1 => ?_))
        rw [← hfy]
        repeat' (first | refine HL.pa ?_ (POp.beqC rfl rfl (by first | rfl | decide)) | apply HL.fold | apply HA.fold | apply HL.nil | apply HX.n_then | apply HC.seq | apply HC.region | refine HL.pa ?_ | refine HL.ga rfl ?_ | refine HL.na rfl ?_ | refine HL.nu rfl rfl ?_ | apply HC.block | apply HC.skip | apply HC.exit | apply HC.ret | apply HX.e_block | refine HX.e_other rfl ?_ | apply HX.e_then | apply HX.e_again | apply HX.n_block | apply HX.r_then | apply HX.r_block | apply HX.r_again | refine HC.cond_yes rfl ?_ | refine HC.cond_no rfl ?_ | refine HL.one (H1.ldb rfl memA rfl rfl ?_) | refine HC.cond rfl (fun hc => ?_) (fun hc => ?_) | refine HC.cond_b rfl (fun hc => ?_) (fun hc => ?_))
        exact HX.again (i + 1, a1, c1) hlt (by show l.length - (i + 1) < l.length - i; omega) esA (by repeat (first | exact Hs.nil _ | (refine Hs.cons pickA ?_)))
      by_cases pz : r.pack = 0
      · have ho : ownB p r = true := by unfold ownB; simp [k5, pz]
        repeat' (first | refine HL.pa ?_ (POp.beqC rfl rfl (by first | rfl | decide)) | apply HL.fold | apply HA.fold | apply HL.nil | apply HX.n_then | apply HC.seq | apply HC.region | refine HL.pa ?_ | refine HL.ga rfl ?_ | refine HL.na rfl ?_ | refine HL.nu rfl rfl ?_ | apply HC.block | apply HC.skip | apply HC.exit | apply HC.ret | apply HX.e_block | refine HX.e_other rfl ?_ | apply HX.e_then | apply HX.e_again | apply HX.n_block | apply HX.r_then | apply HX.r_block | apply HX.r_again | refine HC.cond_yes rfl ?_ | refine HC.cond_no rfl ?_ | refine HL.one (H1.ldb rfl memA rfl rfl ?_) | refine HC.cond rfl (fun hc => ?_) (fun hc => ?_) | refine HC.cond_b rfl (fun hc => ?_) (fun hc => ?_))
        refine HL.one (H1.ldg (v := zv r.kind) rfl memA (by simpa using rcl_get hr 0 _ rfl) rfl ?_)
        repeat' (first | refine HL.pa ?_ (POp.beqC rfl rfl (by first | rfl | decide)) | apply HL.fold | apply HA.fold | apply HL.nil | apply HX.n_then | apply HC.seq | apply HC.region | refine HL.pa ?_ | refine HL.ga rfl ?_ | refine HL.na rfl ?_ | refine HL.nu rfl rfl ?_ | apply HC.block | apply HC.skip | apply HC.exit | apply HC.ret | apply HX.e_block | refine HX.e_other rfl ?_ | apply HX.e_then | apply HX.e_again | apply HX.n_block | apply HX.r_then | apply HX.r_block | apply HX.r_again | refine HC.cond_yes rfl ?_ | refine HC.cond_no rfl ?_ | refine HL.one (H1.ldb rfl memA rfl rfl ?_) | refine HC.cond rfl (fun hc => ?_) (fun hc => ?_) | refine HC.cond_b rfl (fun hc => ?_) (fun hc => ?_))
        refine HL.one (H1.ldg (v := zv r.pack) rfl memA (by simpa using rcl_get hr 7 _ rfl) rfl ?_)
        repeat' (first | refine HL.pa ?_ (POp.beqC rfl rfl (by first | rfl | decide)) | apply HL.fold | apply HA.fold | apply HL.nil | apply HX.n_then | apply HC.seq | apply HC.region | refine HL.pa ?_ | refine HL.ga rfl ?_ | refine HL.na rfl ?_ | refine HL.nu rfl rfl ?_ | apply HC.block | apply HC.skip | apply HC.exit | apply HC.ret | apply HX.e_block | refine HX.e_other rfl ?_ | apply HX.e_then | apply HX.e_again | apply HX.n_block | apply HX.r_then | apply HX.r_block | apply HX.r_again | refine HC.cond_yes rfl ?_ | refine HC.cond_no rfl ?_ | refine HL.one (H1.ldb rfl memA rfl rfl ?_) | refine HC.cond rfl (fun hc => ?_) (fun hc => ?_) | refine HC.cond_b rfl (fun hc => ?_) (fun hc => ?_))
        refine HL.one (H1.ldg (v := zv r.pack) rfl memA (by simpa using rcl_get hr 7 _ rfl) rfl ?_)
        have hfy := filt_yes (f := ownB p) hr ho
        repeat' (first | refine HL.pa ?_ (POp.beqC rfl rfl (by first | rfl | decide)) | apply HL.fold | apply HA.fold | apply HL.nil | apply HX.n_then | apply HC.seq | apply HC.region | refine HL.pa ?_ | refine HL.ga rfl ?_ | refine HL.na rfl ?_ | refine HL.nu rfl rfl ?_ | apply HC.block | apply HC.skip | apply HC.exit | apply HC.ret | apply HX.e_block | refine HX.e_other rfl ?_ | apply HX.e_then | apply HX.e_again | apply HX.n_block | apply HX.r_then | apply HX.r_block | apply HX.r_again | refine HC.cond_yes rfl ?_ | refine HC.cond_no rfl ?_ | refine HL.one (H1.ldb rfl memA rfl rfl ?_) | refine HC.cond rfl (fun hc => ?_) (fun hc => ?_) | refine HC.cond_b rfl (fun hc => ?_) (fun hc => ?_))
        refine HL.one (H1.ldAggw (vs := rcells r) rfl rfl (fun w' hM i v hv => by obtain ⟨b', o', e1, -, hc⟩ := (hM.recs (l := l) memA).at hne; cases e1; have h := hc _ r hr i v hv; rw [Nat.zero_add] at h; exact h) rfl ?_)
        repeat' (first | refine HL.pa ?_ (POp.beqC rfl rfl (by first | rfl | decide)) | apply HL.fold | apply HA.fold | apply HL.nil | apply HX.n_then | apply HC.seq | apply HC.region | refine HL.pa ?_ | refine HL.ga rfl ?_ | refine HL.na rfl ?_ | refine HL.nu rfl rfl ?_ | apply HC.block | apply HC.skip | apply HC.exit | apply HC.ret | apply HX.e_block | refine HX.e_other rfl ?_ | apply HX.e_then | apply HX.e_again | apply HX.n_block | apply HX.r_then | apply HX.r_block | apply HX.r_again | refine HC.cond_yes rfl ?_ | refine HC.cond_no rfl ?_ | refine HL.one (H1.ldb rfl memA rfl rfl ?_) | refine HC.cond rfl (fun hc => ?_) (fun hc => ?_) | refine HC.cond_b rfl (fun hc => ?_) (fun hc => ?_))
        refine HL.one (H1.lit (cs := rcells r) rfl rfl rfl rfl rfl rfl (fun bs => ?_))
        repeat' (first | refine HL.pa ?_ (POp.beqC rfl rfl (by first | rfl | decide)) | apply HL.fold | apply HA.fold | apply HL.nil | apply HX.n_then | apply HC.seq | apply HC.region | refine HL.pa ?_ | refine HL.ga rfl ?_ | refine HL.na rfl ?_ | refine HL.nu rfl rfl ?_ | apply HC.block | apply HC.skip | apply HC.exit | apply HC.ret | apply HX.e_block | refine HX.e_other rfl ?_ | apply HX.e_then | apply HX.e_again | apply HX.n_block | apply HX.r_then | apply HX.r_block | apply HX.r_again | refine HC.cond_yes rfl ?_ | refine HC.cond_no rfl ?_ | refine HL.one (H1.ldb rfl memA rfl rfl ?_) | refine HC.cond rfl (fun hc => ?_) (fun hc => ?_) | refine HC.cond_b rfl (fun hc => ?_) (fun hc => ?_))
        refine HL.one (H1.appRec (e := 24) (l := ((l.take i).filter (ownB p))) (m := [r]) (a := ao) (c := co) rfl rfl rfl (fun a' c' => by first | ((repeat (first | with_reducible exact Rpl.here | with_reducible apply Rpl.there)); done) | (repeat (first | exact Rpl.here | apply Rpl.there))) (fun w hM => by have hb := hM.blk (b := bs) (cs := rcells r) (e := 24) memA; exact RdR.of_blk (l := [r]) (by rw [show rcl [r] = rcells r from List.append_nil _]; exact hb)) (by simp only [List.length_singleton]; omega) (by decide) rfl (fun a1 c1 => ?_))
        rw [← hfy]
        repeat' (first | refine HL.pa ?_ (POp.beqC rfl rfl (by first | rfl | decide)) | apply HL.fold | apply HA.fold | apply HL.nil | apply HX.n_then | apply HC.seq | apply HC.region | refine HL.pa ?_ | refine HL.ga rfl ?_ | refine HL.na rfl ?_ | refine HL.nu rfl rfl ?_ | apply HC.block | apply HC.skip | apply HC.exit | apply HC.ret | apply HX.e_block | refine HX.e_other rfl ?_ | apply HX.e_then | apply HX.e_again | apply HX.n_block | apply HX.r_then | apply HX.r_block | apply HX.r_again | refine HC.cond_yes rfl ?_ | refine HC.cond_no rfl ?_ | refine HL.one (H1.ldb rfl memA rfl rfl ?_) | refine HC.cond rfl (fun hc => ?_) (fun hc => ?_) | refine HC.cond_b rfl (fun hc => ?_) (fun hc => ?_))
        exact HX.again (i + 1, a1, c1) hlt (by show l.length - (i + 1) < l.length - i; omega) esA (by repeat (first | exact Hs.nil _ | (refine Hs.cons pickA ?_)))
      have ho : ownB p r = false := by unfold ownB; simp [k5, pp, pz]
      repeat' (first | refine HL.pa ?_ (POp.beqC rfl rfl (by first | rfl | decide)) | apply HL.fold | apply HA.fold | apply HL.nil | apply HX.n_then | apply HC.seq | apply HC.region | refine HL.pa ?_ | refine HL.ga rfl ?_ | refine HL.na rfl ?_ | refine HL.nu rfl rfl ?_ | apply HC.block | apply HC.skip | apply HC.exit | apply HC.ret | apply HX.e_block | refine HX.e_other rfl ?_ | apply HX.e_then | apply HX.e_again | apply HX.n_block | apply HX.r_then | apply HX.r_block | apply HX.r_again | refine HC.cond_yes rfl ?_ | refine HC.cond_no rfl ?_ | refine HL.one (H1.ldb rfl memA rfl rfl ?_) | refine HC.cond rfl (fun hc => ?_) (fun hc => ?_) | refine HC.cond_b rfl (fun hc => ?_) (fun hc => ?_))
      refine HL.one (H1.ldg (v := zv r.kind) rfl memA (by simpa using rcl_get hr 0 _ rfl) rfl ?_)
      repeat' (first | refine HL.pa ?_ (POp.beqC rfl rfl (by first | rfl | decide)) | apply HL.fold | apply HA.fold | apply HL.nil | apply HX.n_then | apply HC.seq | apply HC.region | refine HL.pa ?_ | refine HL.ga rfl ?_ | refine HL.na rfl ?_ | refine HL.nu rfl rfl ?_ | apply HC.block | apply HC.skip | apply HC.exit | apply HC.ret | apply HX.e_block | refine HX.e_other rfl ?_ | apply HX.e_then | apply HX.e_again | apply HX.n_block | apply HX.r_then | apply HX.r_block | apply HX.r_again | refine HC.cond_yes rfl ?_ | refine HC.cond_no rfl ?_ | refine HL.one (H1.ldb rfl memA rfl rfl ?_) | refine HC.cond rfl (fun hc => ?_) (fun hc => ?_) | refine HC.cond_b rfl (fun hc => ?_) (fun hc => ?_))
      refine HL.one (H1.ldg (v := zv r.pack) rfl memA (by simpa using rcl_get hr 7 _ rfl) rfl ?_)
      repeat' (first | refine HL.pa ?_ (POp.beqC rfl rfl (by first | rfl | decide)) | apply HL.fold | apply HA.fold | apply HL.nil | apply HX.n_then | apply HC.seq | apply HC.region | refine HL.pa ?_ | refine HL.ga rfl ?_ | refine HL.na rfl ?_ | refine HL.nu rfl rfl ?_ | apply HC.block | apply HC.skip | apply HC.exit | apply HC.ret | apply HX.e_block | refine HX.e_other rfl ?_ | apply HX.e_then | apply HX.e_again | apply HX.n_block | apply HX.r_then | apply HX.r_block | apply HX.r_again | refine HC.cond_yes rfl ?_ | refine HC.cond_no rfl ?_ | refine HL.one (H1.ldb rfl memA rfl rfl ?_) | refine HC.cond rfl (fun hc => ?_) (fun hc => ?_) | refine HC.cond_b rfl (fun hc => ?_) (fun hc => ?_))
      refine HL.one (H1.ldg (v := zv r.pack) rfl memA (by simpa using rcl_get hr 7 _ rfl) rfl ?_)
      repeat' (first | refine HL.pa ?_ (POp.beqC rfl rfl (by first | rfl | decide)) | apply HL.fold | apply HA.fold | apply HL.nil | apply HX.n_then | apply HC.seq | apply HC.region | refine HL.pa ?_ | refine HL.ga rfl ?_ | refine HL.na rfl ?_ | refine HL.nu rfl rfl ?_ | apply HC.block | apply HC.skip | apply HC.exit | apply HC.ret | apply HX.e_block | refine HX.e_other rfl ?_ | apply HX.e_then | apply HX.e_again | apply HX.n_block | apply HX.r_then | apply HX.r_block | apply HX.r_again | refine HC.cond_yes rfl ?_ | refine HC.cond_no rfl ?_ | refine HL.one (H1.ldb rfl memA rfl rfl ?_) | refine HC.cond rfl (fun hc => ?_) (fun hc => ?_) | refine HC.cond_b rfl (fun hc => ?_) (fun hc => ?_))
      refine HL.one (H1.ldg (v := zv r.kind) rfl memA (by simpa using rcl_get hr 0 _ rfl) rfl ?_)
      have hfn := filt_no (f := ownB p) hr ho
      rw [← hfn]
      repeat' (first | refine HL.pa ?_ (POp.beqC rfl rfl (by first | rfl | decide)) | apply HL.fold | apply HA.fold | apply HL.nil | apply HX.n_then | apply HC.seq | apply HC.region | refine HL.pa ?_ | refine HL.ga rfl ?_ | refine HL.na rfl ?_ | refine HL.nu rfl rfl ?_ | apply HC.block | apply HC.skip | apply HC.exit | apply HC.ret | apply HX.e_block | refine HX.e_other rfl ?_ | apply HX.e_then | apply HX.e_again | apply HX.n_block | apply HX.r_then | apply HX.r_block | apply HX.r_again | refine HC.cond_yes rfl ?_ | refine HC.cond_no rfl ?_ | refine HL.one (H1.ldb rfl memA rfl rfl ?_) | refine HC.cond rfl (fun hc => ?_) (fun hc => ?_) | refine HC.cond_b rfl (fun hc => ?_) (fun hc => ?_))
      exact HX.again (i + 1, ao, co) hlt (by show l.length - (i + 1) < l.length - i; omega) esA (by repeat (first | exact Hs.nil _ | (refine Hs.cons pickA ?_)))
    by_cases pp : r.pack = p
    · have ho : ownB p r = true := by unfold ownB; simp [pp]
      repeat' (first | refine HL.pa ?_ (POp.beqC rfl rfl (by first | rfl | decide)) | apply HL.fold | apply HA.fold | apply HL.nil | apply HX.n_then | apply HC.seq | apply HC.region | refine HL.pa ?_ | refine HL.ga rfl ?_ | refine HL.na rfl ?_ | refine HL.nu rfl rfl ?_ | apply HC.block | apply HC.skip | apply HC.exit | apply HC.ret | apply HX.e_block | refine HX.e_other rfl ?_ | apply HX.e_then | apply HX.e_again | apply HX.n_block | apply HX.r_then | apply HX.r_block | apply HX.r_again | refine HC.cond_yes rfl ?_ | refine HC.cond_no rfl ?_ | refine HL.one (H1.ldb rfl memA rfl rfl ?_) | refine HC.cond rfl (fun hc => ?_) (fun hc => ?_) | refine HC.cond_b rfl (fun hc => ?_) (fun hc => ?_))
      refine HL.one (H1.ldg (v := zv r.kind) rfl memA (by simpa using rcl_get hr 0 _ rfl) rfl ?_)
      repeat' (first | refine HL.pa ?_ (POp.beqC rfl rfl (by first | rfl | decide)) | apply HL.fold | apply HA.fold | apply HL.nil | apply HX.n_then | apply HC.seq | apply HC.region | refine HL.pa ?_ | refine HL.ga rfl ?_ | refine HL.na rfl ?_ | refine HL.nu rfl rfl ?_ | apply HC.block | apply HC.skip | apply HC.exit | apply HC.ret | apply HX.e_block | refine HX.e_other rfl ?_ | apply HX.e_then | apply HX.e_again | apply HX.n_block | apply HX.r_then | apply HX.r_block | apply HX.r_again | refine HC.cond_yes rfl ?_ | refine HC.cond_no rfl ?_ | refine HL.one (H1.ldb rfl memA rfl rfl ?_) | refine HC.cond rfl (fun hc => ?_) (fun hc => ?_) | refine HC.cond_b rfl (fun hc => ?_) (fun hc => ?_))
      refine HL.one (H1.ldg (v := zv r.pack) rfl memA (by simpa using rcl_get hr 7 _ rfl) rfl ?_)
      have hfy := filt_yes (f := ownB p) hr ho
      repeat' (first | refine HL.pa ?_ (POp.beqC rfl rfl (by first | rfl | decide)) | apply HL.fold | apply HA.fold | apply HL.nil | apply HX.n_then | apply HC.seq | apply HC.region | refine HL.pa ?_ | refine HL.ga rfl ?_ | refine HL.na rfl ?_ | refine HL.nu rfl rfl ?_ | apply HC.block | apply HC.skip | apply HC.exit | apply HC.ret | apply HX.e_block | refine HX.e_other rfl ?_ | apply HX.e_then | apply HX.e_again | apply HX.n_block | apply HX.r_then | apply HX.r_block | apply HX.r_again | refine HC.cond_yes rfl ?_ | refine HC.cond_no rfl ?_ | refine HL.one (H1.ldb rfl memA rfl rfl ?_) | refine HC.cond rfl (fun hc => ?_) (fun hc => ?_) | refine HC.cond_b rfl (fun hc => ?_) (fun hc => ?_))
      refine HL.one (H1.ldAggw (vs := rcells r) rfl rfl (fun w' hM i v hv => by obtain ⟨b', o', e1, -, hc⟩ := (hM.recs (l := l) memA).at hne; cases e1; have h := hc _ r hr i v hv; rw [Nat.zero_add] at h; exact h) rfl ?_)
      repeat' (first | refine HL.pa ?_ (POp.beqC rfl rfl (by first | rfl | decide)) | apply HL.fold | apply HA.fold | apply HL.nil | apply HX.n_then | apply HC.seq | apply HC.region | refine HL.pa ?_ | refine HL.ga rfl ?_ | refine HL.na rfl ?_ | refine HL.nu rfl rfl ?_ | apply HC.block | apply HC.skip | apply HC.exit | apply HC.ret | apply HX.e_block | refine HX.e_other rfl ?_ | apply HX.e_then | apply HX.e_again | apply HX.n_block | apply HX.r_then | apply HX.r_block | apply HX.r_again | refine HC.cond_yes rfl ?_ | refine HC.cond_no rfl ?_ | refine HL.one (H1.ldb rfl memA rfl rfl ?_) | refine HC.cond rfl (fun hc => ?_) (fun hc => ?_) | refine HC.cond_b rfl (fun hc => ?_) (fun hc => ?_))
      refine HL.one (H1.lit (cs := rcells r) rfl rfl rfl rfl rfl rfl (fun bs => ?_))
      repeat' (first | refine HL.pa ?_ (POp.beqC rfl rfl (by first | rfl | decide)) | apply HL.fold | apply HA.fold | apply HL.nil | apply HX.n_then | apply HC.seq | apply HC.region | refine HL.pa ?_ | refine HL.ga rfl ?_ | refine HL.na rfl ?_ | refine HL.nu rfl rfl ?_ | apply HC.block | apply HC.skip | apply HC.exit | apply HC.ret | apply HX.e_block | refine HX.e_other rfl ?_ | apply HX.e_then | apply HX.e_again | apply HX.n_block | apply HX.r_then | apply HX.r_block | apply HX.r_again | refine HC.cond_yes rfl ?_ | refine HC.cond_no rfl ?_ | refine HL.one (H1.ldb rfl memA rfl rfl ?_) | refine HC.cond rfl (fun hc => ?_) (fun hc => ?_) | refine HC.cond_b rfl (fun hc => ?_) (fun hc => ?_))
      refine HL.one (H1.appRec (e := 24) (l := ((l.take i).filter (ownB p))) (m := [r]) (a := ao) (c := co) rfl rfl rfl (fun a' c' => by first | ((repeat (first | with_reducible exact Rpl.here | with_reducible apply Rpl.there)); done) | (repeat (first | exact Rpl.here | apply Rpl.there))) (fun w hM => by have hb := hM.blk (b := bs) (cs := rcells r) (e := 24) memA; exact RdR.of_blk (l := [r]) (by rw [show rcl [r] = rcells r from List.append_nil _]; exact hb)) (by simp only [List.length_singleton]; omega) (by decide) rfl (fun a1 c1 => ?_))
      rw [← hfy]
      repeat' (first | refine HL.pa ?_ (POp.beqC rfl rfl (by first | rfl | decide)) | apply HL.fold | apply HA.fold | apply HL.nil | apply HX.n_then | apply HC.seq | apply HC.region | refine HL.pa ?_ | refine HL.ga rfl ?_ | refine HL.na rfl ?_ | refine HL.nu rfl rfl ?_ | apply HC.block | apply HC.skip | apply HC.exit | apply HC.ret | apply HX.e_block | refine HX.e_other rfl ?_ | apply HX.e_then | apply HX.e_again | apply HX.n_block | apply HX.r_then | apply HX.r_block | apply HX.r_again | refine HC.cond_yes rfl ?_ | refine HC.cond_no rfl ?_ | refine HL.one (H1.ldb rfl memA rfl rfl ?_) | refine HC.cond rfl (fun hc => ?_) (fun hc => ?_) | refine HC.cond_b rfl (fun hc => ?_) (fun hc => ?_))
      exact HX.again (i + 1, a1, c1) hlt (by show l.length - (i + 1) < l.length - i; omega) esA (by repeat (first | exact Hs.nil _ | (refine Hs.cons pickA ?_)))
    by_cases k6 : r.kind = 6
    · have ho : ownB p r = true := by unfold ownB; simp [k6]
      repeat' (first | refine HL.pa ?_ (POp.beqC rfl rfl (by first | rfl | decide)) | apply HL.fold | apply HA.fold | apply HL.nil | apply HX.n_then | apply HC.seq | apply HC.region | refine HL.pa ?_ | refine HL.ga rfl ?_ | refine HL.na rfl ?_ | refine HL.nu rfl rfl ?_ | apply HC.block | apply HC.skip | apply HC.exit | apply HC.ret | apply HX.e_block | refine HX.e_other rfl ?_ | apply HX.e_then | apply HX.e_again | apply HX.n_block | apply HX.r_then | apply HX.r_block | apply HX.r_again | refine HC.cond_yes rfl ?_ | refine HC.cond_no rfl ?_ | refine HL.one (H1.ldb rfl memA rfl rfl ?_) | refine HC.cond rfl (fun hc => ?_) (fun hc => ?_) | refine HC.cond_b rfl (fun hc => ?_) (fun hc => ?_))
      refine HL.one (H1.ldg (v := zv r.kind) rfl memA (by simpa using rcl_get hr 0 _ rfl) rfl ?_)
      repeat' (first | refine HL.pa ?_ (POp.beqC rfl rfl (by first | rfl | decide)) | apply HL.fold | apply HA.fold | apply HL.nil | apply HX.n_then | apply HC.seq | apply HC.region | refine HL.pa ?_ | refine HL.ga rfl ?_ | refine HL.na rfl ?_ | refine HL.nu rfl rfl ?_ | apply HC.block | apply HC.skip | apply HC.exit | apply HC.ret | apply HX.e_block | refine HX.e_other rfl ?_ | apply HX.e_then | apply HX.e_again | apply HX.n_block | apply HX.r_then | apply HX.r_block | apply HX.r_again | refine HC.cond_yes rfl ?_ | refine HC.cond_no rfl ?_ | refine HL.one (H1.ldb rfl memA rfl rfl ?_) | refine HC.cond rfl (fun hc => ?_) (fun hc => ?_) | refine HC.cond_b rfl (fun hc => ?_) (fun hc => ?_))
      refine HL.one (H1.ldg (v := zv r.pack) rfl memA (by simpa using rcl_get hr 7 _ rfl) rfl ?_)
      repeat' (first | refine HL.pa ?_ (POp.beqC rfl rfl (by first | rfl | decide)) | apply HL.fold | apply HA.fold | apply HL.nil | apply HX.n_then | apply HC.seq | apply HC.region | refine HL.pa ?_ | refine HL.ga rfl ?_ | refine HL.na rfl ?_ | refine HL.nu rfl rfl ?_ | apply HC.block | apply HC.skip | apply HC.exit | apply HC.ret | apply HX.e_block | refine HX.e_other rfl ?_ | apply HX.e_then | apply HX.e_again | apply HX.n_block | apply HX.r_then | apply HX.r_block | apply HX.r_again | refine HC.cond_yes rfl ?_ | refine HC.cond_no rfl ?_ | refine HL.one (H1.ldb rfl memA rfl rfl ?_) | refine HC.cond rfl (fun hc => ?_) (fun hc => ?_) | refine HC.cond_b rfl (fun hc => ?_) (fun hc => ?_))
      refine HL.one (H1.ldg (v := zv r.kind) rfl memA (by simpa using rcl_get hr 0 _ rfl) rfl ?_)
      have hfy := filt_yes (f := ownB p) hr ho
      repeat' (first | refine HL.pa ?_ (POp.beqC rfl rfl (by first | rfl | decide)) | apply HL.fold | apply HA.fold | apply HL.nil | apply HX.n_then | apply HC.seq | apply HC.region | refine HL.pa ?_ | refine HL.ga rfl ?_ | refine HL.na rfl ?_ | refine HL.nu rfl rfl ?_ | apply HC.block | apply HC.skip | apply HC.exit | apply HC.ret | apply HX.e_block | refine HX.e_other rfl ?_ | apply HX.e_then | apply HX.e_again | apply HX.n_block | apply HX.r_then | apply HX.r_block | apply HX.r_again | refine HC.cond_yes rfl ?_ | refine HC.cond_no rfl ?_ | refine HL.one (H1.ldb rfl memA rfl rfl ?_) | refine HC.cond rfl (fun hc => ?_) (fun hc => ?_) | refine HC.cond_b rfl (fun hc => ?_) (fun hc => ?_))
      refine HL.one (H1.ldAggw (vs := rcells r) rfl rfl (fun w' hM i v hv => by obtain ⟨b', o', e1, -, hc⟩ := (hM.recs (l := l) memA).at hne; cases e1; have h := hc _ r hr i v hv; rw [Nat.zero_add] at h; exact h) rfl ?_)
      repeat' (first | refine HL.pa ?_ (POp.beqC rfl rfl (by first | rfl | decide)) | apply HL.fold | apply HA.fold | apply HL.nil | apply HX.n_then | apply HC.seq | apply HC.region | refine HL.pa ?_ | refine HL.ga rfl ?_ | refine HL.na rfl ?_ | refine HL.nu rfl rfl ?_ | apply HC.block | apply HC.skip | apply HC.exit | apply HC.ret | apply HX.e_block | refine HX.e_other rfl ?_ | apply HX.e_then | apply HX.e_again | apply HX.n_block | apply HX.r_then | apply HX.r_block | apply HX.r_again | refine HC.cond_yes rfl ?_ | refine HC.cond_no rfl ?_ | refine HL.one (H1.ldb rfl memA rfl rfl ?_) | refine HC.cond rfl (fun hc => ?_) (fun hc => ?_) | refine HC.cond_b rfl (fun hc => ?_) (fun hc => ?_))
      refine HL.one (H1.lit (cs := rcells r) rfl rfl rfl rfl rfl rfl (fun bs => ?_))
      repeat' (first | refine HL.pa ?_ (POp.beqC rfl rfl (by first | rfl | decide)) | apply HL.fold | apply HA.fold | apply HL.nil | apply HX.n_then | apply HC.seq | apply HC.region | refine HL.pa ?_ | refine HL.ga rfl ?_ | refine HL.na rfl ?_ | refine HL.nu rfl rfl ?_ | apply HC.block | apply HC.skip | apply HC.exit | apply HC.ret | apply HX.e_block | refine HX.e_other rfl ?_ | apply HX.e_then | apply HX.e_again | apply HX.n_block | apply HX.r_then | apply HX.r_block | apply HX.r_again | refine HC.cond_yes rfl ?_ | refine HC.cond_no rfl ?_ | refine HL.one (H1.ldb rfl memA rfl rfl ?_) | refine HC.cond rfl (fun hc => ?_) (fun hc => ?_) | refine HC.cond_b rfl (fun hc => ?_) (fun hc => ?_))
      refine HL.one (H1.appRec (e := 24) (l := ((l.take i).filter (ownB p))) (m := [r]) (a := ao) (c := co) rfl rfl rfl (fun a' c' => by first | ((repeat (first | with_reducible exact Rpl.here | with_reducible apply Rpl.there)); done) | (repeat (first | exact Rpl.here | apply Rpl.there))) (fun w hM => by have hb := hM.blk (b := bs) (cs := rcells r) (e := 24) memA; exact RdR.of_blk (l := [r]) (by rw [show rcl [r] = rcells r from List.append_nil _]; exact hb)) (by simp only [List.length_singleton]; omega) (by decide) rfl (fun a1 c1 => ?_))
      rw [← hfy]
      repeat' (first | refine HL.pa ?_ (POp.beqC rfl rfl (by first | rfl | decide)) | apply HL.fold | apply HA.fold | apply HL.nil | apply HX.n_then | apply HC.seq | apply HC.region | refine HL.pa ?_ | refine HL.ga rfl ?_ | refine HL.na rfl ?_ | refine HL.nu rfl rfl ?_ | apply HC.block | apply HC.skip | apply HC.exit | apply HC.ret | apply HX.e_block | refine HX.e_other rfl ?_ | apply HX.e_then | apply HX.e_again | apply HX.n_block | apply HX.r_then | apply HX.r_block | apply HX.r_again | refine HC.cond_yes rfl ?_ | refine HC.cond_no rfl ?_ | refine HL.one (H1.ldb rfl memA rfl rfl ?_) | refine HC.cond rfl (fun hc => ?_) (fun hc => ?_) | refine HC.cond_b rfl (fun hc => ?_) (fun hc => ?_))
      exact HX.again (i + 1, a1, c1) hlt (by show l.length - (i + 1) < l.length - i; omega) esA (by repeat (first | exact Hs.nil _ | (refine Hs.cons pickA ?_)))
    have ho : ownB p r = false := by unfold ownB; simp [k5, pp, k6]
    repeat' (first | refine HL.pa ?_ (POp.beqC rfl rfl (by first | rfl | decide)) | apply HL.fold | apply HA.fold | apply HL.nil | apply HX.n_then | apply HC.seq | apply HC.region | refine HL.pa ?_ | refine HL.ga rfl ?_ | refine HL.na rfl ?_ | refine HL.nu rfl rfl ?_ | apply HC.block | apply HC.skip | apply HC.exit | apply HC.ret | apply HX.e_block | refine HX.e_other rfl ?_ | apply HX.e_then | apply HX.e_again | apply HX.n_block | apply HX.r_then | apply HX.r_block | apply HX.r_again | refine HC.cond_yes rfl ?_ | refine HC.cond_no rfl ?_ | refine HL.one (H1.ldb rfl memA rfl rfl ?_) | refine HC.cond rfl (fun hc => ?_) (fun hc => ?_) | refine HC.cond_b rfl (fun hc => ?_) (fun hc => ?_))
    refine HL.one (H1.ldg (v := zv r.kind) rfl memA (by simpa using rcl_get hr 0 _ rfl) rfl ?_)
    repeat' (first | refine HL.pa ?_ (POp.beqC rfl rfl (by first | rfl | decide)) | apply HL.fold | apply HA.fold | apply HL.nil | apply HX.n_then | apply HC.seq | apply HC.region | refine HL.pa ?_ | refine HL.ga rfl ?_ | refine HL.na rfl ?_ | refine HL.nu rfl rfl ?_ | apply HC.block | apply HC.skip | apply HC.exit | apply HC.ret | apply HX.e_block | refine HX.e_other rfl ?_ | apply HX.e_then | apply HX.e_again | apply HX.n_block | apply HX.r_then | apply HX.r_block | apply HX.r_again | refine HC.cond_yes rfl ?_ | refine HC.cond_no rfl ?_ | refine HL.one (H1.ldb rfl memA rfl rfl ?_) | refine HC.cond rfl (fun hc => ?_) (fun hc => ?_) | refine HC.cond_b rfl (fun hc => ?_) (fun hc => ?_))
    refine HL.one (H1.ldg (v := zv r.pack) rfl memA (by simpa using rcl_get hr 7 _ rfl) rfl ?_)
    repeat' (first | refine HL.pa ?_ (POp.beqC rfl rfl (by first | rfl | decide)) | apply HL.fold | apply HA.fold | apply HL.nil | apply HX.n_then | apply HC.seq | apply HC.region | refine HL.pa ?_ | refine HL.ga rfl ?_ | refine HL.na rfl ?_ | refine HL.nu rfl rfl ?_ | apply HC.block | apply HC.skip | apply HC.exit | apply HC.ret | apply HX.e_block | refine HX.e_other rfl ?_ | apply HX.e_then | apply HX.e_again | apply HX.n_block | apply HX.r_then | apply HX.r_block | apply HX.r_again | refine HC.cond_yes rfl ?_ | refine HC.cond_no rfl ?_ | refine HL.one (H1.ldb rfl memA rfl rfl ?_) | refine HC.cond rfl (fun hc => ?_) (fun hc => ?_) | refine HC.cond_b rfl (fun hc => ?_) (fun hc => ?_))
    refine HL.one (H1.ldg (v := zv r.kind) rfl memA (by simpa using rcl_get hr 0 _ rfl) rfl ?_)
    have hfn := filt_no (f := ownB p) hr ho
    rw [← hfn]
    repeat' (first | refine HL.pa ?_ (POp.beqC rfl rfl (by first | rfl | decide)) | apply HL.fold | apply HA.fold | apply HL.nil | apply HX.n_then | apply HC.seq | apply HC.region | refine HL.pa ?_ | refine HL.ga rfl ?_ | refine HL.na rfl ?_ | refine HL.nu rfl rfl ?_ | apply HC.block | apply HC.skip | apply HC.exit | apply HC.ret | apply HX.e_block | refine HX.e_other rfl ?_ | apply HX.e_then | apply HX.e_again | apply HX.n_block | apply HX.r_then | apply HX.r_block | apply HX.r_again | refine HC.cond_yes rfl ?_ | refine HC.cond_no rfl ?_ | refine HL.one (H1.ldb rfl memA rfl rfl ?_) | refine HC.cond rfl (fun hc => ?_) (fun hc => ?_) | refine HC.cond_b rfl (fun hc => ?_) (fun hc => ?_))
    exact HX.again (i + 1, ao, co) hlt (by show l.length - (i + 1) < l.length - i; omega) esA (by repeat (first | exact Hs.nil _ | (refine Hs.cons pickA ?_)))
  rintro ⟨ao, co⟩ -
  dsimp only
  have hown30 : (l.filter (ownB p)).length ≤ 30 := Nat.le_trans (List.length_filter_le _ _) hl30
  have hownl : ∀ r ∈ l.filter (ownB p), r ∈ l := fun r hr => (List.mem_filter.1 hr).1
  have hoth : ∀ {day : Int} {L M : Nat → List Rc}, (∀ r ∈ l, r ∉ l.filter (ownB p) → ∀ s ∈ l.filter (ownB p), keyR r ≠ keyR s) → (∀ i : Nat, i < 8 → IsOf l day ((i : Int) + 1) (L i)) → (∀ i : Nat, i < 8 → IsOf (l.filter (ownB p)) day ((i : Int) + 1) (M i)) → OthC p L M := fun h1 h2 h3 => oth_of h1 h2 h3
  generalize l.filter (ownB p) = own at hown30 hownl hoth ⊢
  have hoko : ∀ t ∈ own, RcOk t := fun t ht => hokl t (hownl t ht)
  have hY := pickI21_lt a0 (n := 31) (by decide)
  repeat' (first | refine HL.pa ?_ (POp.beqC rfl rfl (by first | rfl | decide)) | apply HL.fold | apply HA.fold | apply HL.nil | apply HX.n_then | apply HC.seq | apply HC.region | refine HL.pa ?_ | refine HL.ga rfl ?_ | refine HL.na rfl ?_ | refine HL.nu rfl rfl ?_ | apply HC.block | apply HC.skip | apply HC.exit | apply HC.ret | apply HX.e_block | refine HX.e_other rfl ?_ | apply HX.e_then | apply HX.e_again | apply HX.n_block | apply HX.r_then | apply HX.r_block | apply HX.r_again | refine HC.cond_yes rfl ?_ | refine HC.cond_no rfl ?_ | refine HL.one (H1.ldb rfl memA rfl rfl ?_) | refine HC.cond rfl (fun hc => ?_) (fun hc => ?_) | refine HC.cond_b rfl (fun hc => ?_) (fun hc => ?_))
  refine HL.one (H1.call0 (vs := [zv a0, zv 31]) rfl rfl (fun w' _ => pick21_fn a0 31 w0'.1 w0'.2 (by decide) w') ?_)
  repeat' (first | refine HL.pa ?_ (POp.beqC rfl rfl (by first | rfl | decide)) | apply HL.fold | apply HA.fold | apply HL.nil | apply HX.n_then | apply HC.seq | apply HC.region | refine HL.pa ?_ | refine HL.ga rfl ?_ | refine HL.na rfl ?_ | refine HL.nu rfl rfl ?_ | apply HC.block | apply HC.skip | apply HC.exit | apply HC.ret | apply HX.e_block | refine HX.e_other rfl ?_ | apply HX.e_then | apply HX.e_again | apply HX.n_block | apply HX.r_then | apply HX.r_block | apply HX.r_again | refine HC.cond_yes rfl ?_ | refine HC.cond_no rfl ?_ | refine HL.one (H1.ldb rfl memA rfl rfl ?_) | refine HC.cond rfl (fun hc => ?_) (fun hc => ?_) | refine HC.cond_b rfl (fun hc => ?_) (fun hc => ?_))
  refine HL.one (H1.callz1 (α := Nat → Slot) (V := fun q => bsV q) (An := fun q => bsA q) (I := fun q => ∀ i : Nat, i < 8 → IsOf l (pickI21 a0 31) ((i : Int) + 1) (bsL q i)) (vs := [.slice al l.length cl, zv (pickI21 a0 31)]) rfl rfl (fun w' hM => of_fn al cl l (by omega) hokl (pickI21 a0 31) w' (hM.recs memA)) ?_)
  rintro q hq
  repeat' (first | refine HL.pa ?_ (POp.beqC rfl rfl (by first | rfl | decide)) | apply HL.fold | apply HA.fold | apply HL.nil | apply HX.n_then | apply HC.seq | apply HC.region | refine HL.pa ?_ | refine HL.ga rfl ?_ | refine HL.na rfl ?_ | refine HL.nu rfl rfl ?_ | apply HC.block | apply HC.skip | apply HC.exit | apply HC.ret | apply HX.e_block | refine HX.e_other rfl ?_ | apply HX.e_then | apply HX.e_again | apply HX.n_block | apply HX.r_then | apply HX.r_block | apply HX.r_again | refine HC.cond_yes rfl ?_ | refine HC.cond_no rfl ?_ | refine HL.one (H1.ldb rfl memA rfl rfl ?_) | refine HC.cond rfl (fun hc => ?_) (fun hc => ?_) | refine HC.cond_b rfl (fun hc => ?_) (fun hc => ?_))
  refine HL.one (H1.alloc (cs := row 8 fun i => slot (q0 i)) rfl rfl (fun b16 => ?_))
  repeat' (first | refine HL.pa ?_ (POp.beqC rfl rfl (by first | rfl | decide)) | apply HL.fold | apply HA.fold | apply HL.nil | apply HX.n_then | apply HC.seq | apply HC.region | refine HL.pa ?_ | refine HL.ga rfl ?_ | refine HL.na rfl ?_ | refine HL.nu rfl rfl ?_ | apply HC.block | apply HC.skip | apply HC.exit | apply HC.ret | apply HX.e_block | refine HX.e_other rfl ?_ | apply HX.e_then | apply HX.e_again | apply HX.n_block | apply HX.r_then | apply HX.r_block | apply HX.r_again | refine HC.cond_yes rfl ?_ | refine HC.cond_no rfl ?_ | refine HL.one (H1.ldb rfl memA rfl rfl ?_) | refine HC.cond rfl (fun hc => ?_) (fun hc => ?_) | refine HC.cond_b rfl (fun hc => ?_) (fun hc => ?_))
  refine HL.one (H1.stAgg (cs := row 8 fun i => slot (q0 i)) (vs := row 8 fun i => slot (q i)) rfl rfl rfl (slot_one q) rplA rfl ?_)
  repeat' (first | refine HL.pa ?_ (POp.beqC rfl rfl (by first | rfl | decide)) | apply HL.fold | apply HA.fold | apply HL.nil | apply HX.n_then | apply HC.seq | apply HC.region | refine HL.pa ?_ | refine HL.ga rfl ?_ | refine HL.na rfl ?_ | refine HL.nu rfl rfl ?_ | apply HC.block | apply HC.skip | apply HC.exit | apply HC.ret | apply HX.e_block | refine HX.e_other rfl ?_ | apply HX.e_then | apply HX.e_again | apply HX.n_block | apply HX.r_then | apply HX.r_block | apply HX.r_again | refine HC.cond_yes rfl ?_ | refine HC.cond_no rfl ?_ | refine HL.one (H1.ldb rfl memA rfl rfl ?_) | refine HC.cond rfl (fun hc => ?_) (fun hc => ?_) | refine HC.cond_b rfl (fun hc => ?_) (fun hc => ?_))
  refine HL.one (H1.call0 (vs := [zv a0, zv 31]) rfl rfl (fun w' _ => pick21_fn a0 31 w0'.1 w0'.2 (by decide) w') ?_)
  repeat' (first | refine HL.pa ?_ (POp.beqC rfl rfl (by first | rfl | decide)) | apply HL.fold | apply HA.fold | apply HL.nil | apply HX.n_then | apply HC.seq | apply HC.region | refine HL.pa ?_ | refine HL.ga rfl ?_ | refine HL.na rfl ?_ | refine HL.nu rfl rfl ?_ | apply HC.block | apply HC.skip | apply HC.exit | apply HC.ret | apply HX.e_block | refine HX.e_other rfl ?_ | apply HX.e_then | apply HX.e_again | apply HX.n_block | apply HX.r_then | apply HX.r_block | apply HX.r_again | refine HC.cond_yes rfl ?_ | refine HC.cond_no rfl ?_ | refine HL.one (H1.ldb rfl memA rfl rfl ?_) | refine HC.cond rfl (fun hc => ?_) (fun hc => ?_) | refine HC.cond_b rfl (fun hc => ?_) (fun hc => ?_))
  refine HL.one (H1.callz1 (α := Nat → Slot) (V := fun q => bsV q) (An := fun q => bsA q) (I := fun q => ∀ i : Nat, i < 8 → IsOf own (pickI21 a0 31) ((i : Int) + 1) (bsL q i)) (vs := [.slice ao own.length co, zv (pickI21 a0 31)]) rfl rfl (fun w' hM => of_fn ao co own (by omega) hoko (pickI21 a0 31) w' (hM.recs memA)) ?_)
  rintro u hu
  repeat' (first | refine HL.pa ?_ (POp.beqC rfl rfl (by first | rfl | decide)) | apply HL.fold | apply HA.fold | apply HL.nil | apply HX.n_then | apply HC.seq | apply HC.region | refine HL.pa ?_ | refine HL.ga rfl ?_ | refine HL.na rfl ?_ | refine HL.nu rfl rfl ?_ | apply HC.block | apply HC.skip | apply HC.exit | apply HC.ret | apply HX.e_block | refine HX.e_other rfl ?_ | apply HX.e_then | apply HX.e_again | apply HX.n_block | apply HX.r_then | apply HX.r_block | apply HX.r_again | refine HC.cond_yes rfl ?_ | refine HC.cond_no rfl ?_ | refine HL.one (H1.ldb rfl memA rfl rfl ?_) | refine HC.cond rfl (fun hc => ?_) (fun hc => ?_) | refine HC.cond_b rfl (fun hc => ?_) (fun hc => ?_))
  refine HL.one (H1.alloc (cs := row 8 fun i => slot (q0 i)) rfl rfl (fun b17 => ?_))
  repeat' (first | refine HL.pa ?_ (POp.beqC rfl rfl (by first | rfl | decide)) | apply HL.fold | apply HA.fold | apply HL.nil | apply HX.n_then | apply HC.seq | apply HC.region | refine HL.pa ?_ | refine HL.ga rfl ?_ | refine HL.na rfl ?_ | refine HL.nu rfl rfl ?_ | apply HC.block | apply HC.skip | apply HC.exit | apply HC.ret | apply HX.e_block | refine HX.e_other rfl ?_ | apply HX.e_then | apply HX.e_again | apply HX.n_block | apply HX.r_then | apply HX.r_block | apply HX.r_again | refine HC.cond_yes rfl ?_ | refine HC.cond_no rfl ?_ | refine HL.one (H1.ldb rfl memA rfl rfl ?_) | refine HC.cond rfl (fun hc => ?_) (fun hc => ?_) | refine HC.cond_b rfl (fun hc => ?_) (fun hc => ?_))
  refine HL.one (H1.stAgg (cs := row 8 fun i => slot (q0 i)) (vs := row 8 fun i => slot (u i)) rfl rfl rfl (slot_one u) rplA rfl ?_)
  repeat' (first | refine HL.pa ?_ (POp.beqC rfl rfl (by first | rfl | decide)) | apply HL.fold | apply HA.fold | apply HL.nil | apply HX.n_then | apply HC.seq | apply HC.region | refine HL.pa ?_ | refine HL.ga rfl ?_ | refine HL.na rfl ?_ | refine HL.nu rfl rfl ?_ | apply HC.skip | apply HC.exit | apply HC.ret | apply HX.e_block | refine HX.e_other rfl ?_ | apply HX.e_then | apply HX.e_again | apply HX.n_block | apply HX.r_then | apply HX.r_block | apply HX.r_again | refine HC.cond_yes rfl ?_ | refine HC.cond_no rfl ?_ | refine HL.one (H1.ldb rfl memA rfl rfl ?_) | refine HC.cond rfl (fun hc => ?_) (fun hc => ?_) | refine HC.cond_b rfl (fun hc => ?_) (fun hc => ?_))
  refine HC.cut (α := Option Addr × Nat) (fun z => [(18, .slice z.1 (l.filter fun r => !inB own r).length z.2), (12, .slice ao own.length co), (16, .pointer (some ⟨b16, 0, none⟩)), (17, .pointer (some ⟨b17, 0, none⟩)), (2, zv p), (3, zv b), (4, zv d), (11, .bool true)])
    (fun z => [A.grow 24 15 z.1 z.2 (l.filter fun r => !inB own r).length (rcl (l.filter fun r => !inB own r)), A.grow 24 15 ao co own.length (rcl own), A.blk b16 (row 8 fun i => slot (q i)) 33, bsA q, A.blk b17 (row 8 fun i => slot (u i)) 33, bsA u]) (fun _ => True) ?_ ?_
  · repeat' (first | refine HL.pa ?_ (POp.beqC rfl rfl (by first | rfl | decide)) | apply HL.fold | apply HA.fold | apply HL.nil | apply HX.n_then | apply HC.seq | apply HC.region | refine HL.pa ?_ | refine HL.ga rfl ?_ | refine HL.na rfl ?_ | refine HL.nu rfl rfl ?_ | apply HC.block | apply HC.skip | apply HC.exit | apply HC.ret | apply HX.e_block | refine HX.e_other rfl ?_ | apply HX.e_then | apply HX.e_again | apply HX.n_block | apply HX.r_then | apply HX.r_block | apply HX.r_again | refine HC.cond_yes rfl ?_ | refine HC.cond_no rfl ?_ | refine HL.one (H1.ldb rfl memA rfl rfl ?_) | refine HC.cond rfl (fun hc => ?_) (fun hc => ?_) | refine HC.cond_b rfl (fun hc => ?_) (fun hc => ?_))
    refine HC.grow0 24 15 ?_
    refine HC.loop (α := Nat × Option Addr × Nat) (fun z => [(19, zv (z.1 : Int)), (18, .slice z.2.1 ((l.take z.1).filter fun r => !inB own r).length z.2.2), (13, .slice al l.length cl), (12, .slice ao own.length co), (16, .pointer (some ⟨b16, 0, none⟩)), (17, .pointer (some ⟨b17, 0, none⟩)), (2, zv p), (3, zv b), (4, zv d), (11, .bool true)])
      (fun z => [A.grow 24 15 z.2.1 z.2.2 ((l.take z.1).filter fun r => !inB own r).length (rcl ((l.take z.1).filter fun r => !inB own r)), A.grow 24 15 al cl l.length (rcl l), A.grow 24 15 ao co own.length (rcl own), A.blk b16 (row 8 fun i => slot (q i)) 33, bsA q, A.blk b17 (row 8 fun i => slot (u i)) 33, bsA u]) (fun z => z.1 ≤ l.length) (fun z => l.length - z.1) (0, none, 0) (Nat.zero_le _) esA (by repeat (first | exact Hs.nil _ | (refine Hs.cons pickA ?_))) ?_
    rintro ⟨i, ai, ci⟩ hi
    dsimp only at hi ⊢
    by_cases hlt : i < l.length
    rotate_left
    · obtain rfl : i = l.length := by omega
      rw [List.take_length]
      repeat' (first | refine HL.pa ?_ (POp.beqC rfl rfl (by first | rfl | decide)) | apply HL.fold | apply HA.fold | apply HL.nil | apply HX.n_then | apply HC.seq | apply HC.region | refine HL.pa ?_ | refine HL.ga rfl ?_ | refine HL.na rfl ?_ | refine HL.nu rfl rfl ?_ | apply HC.block | apply HC.skip | apply HC.exit | apply HC.ret | apply HX.e_block | refine HX.e_other rfl ?_ | apply HX.e_then | apply HX.e_again | apply HX.n_block | apply HX.r_then | apply HX.r_block | apply HX.r_again | refine HC.cond_yes rfl ?_ | refine HC.cond_no rfl ?_ | refine HL.one (H1.ldb rfl memA rfl rfl ?_) | refine HC.cond rfl (fun hc => ?_) (fun hc => ?_) | refine HC.cond_b rfl (fun hc => ?_) (fun hc => ?_))
      exact HX.cut (ai, ci) trivial esA (by repeat (first | exact Hs.nil _ | (refine Hs.cons pickA ?_)))
    have hli : (i : Int) < (l.length : Int) := by omega
    have hll : ((l.take i).filter fun r => !inB own r).length ≤ l.length := filt_len
    obtain ⟨r, hr⟩ : ∃ r, l[i]? = some r := ⟨_, List.getElem?_eq_getElem hlt⟩
    have hne : l ≠ [] := fun e => by rw [e] at hlt; cases hlt
    have hro := hokl r (List.mem_of_getElem? hr)
    refine HC.openg (e := 24) (a := al) (xs := rcl l) memA (by omega) ?_
    rintro bl rfl
    repeat' (first | refine HL.pa ?_ (POp.beqC rfl rfl (by first | rfl | decide)) | apply HL.fold | apply HA.fold | apply HL.nil | apply HX.n_then | apply HC.seq | apply HC.region | refine HL.pa ?_ | refine HL.ga rfl ?_ | refine HL.na rfl ?_ | refine HL.nu rfl rfl ?_ | apply HC.block | apply HC.skip | apply HC.exit | apply HC.ret | apply HX.e_block | refine HX.e_other rfl ?_ | apply HX.e_then | apply HX.e_again | apply HX.n_block | apply HX.r_then | apply HX.r_block | apply HX.r_again | refine HC.cond_yes rfl ?_ | refine HC.cond_no rfl ?_ | refine HL.one (H1.ldb rfl memA rfl rfl ?_) | refine HC.cond rfl (fun hc => ?_) (fun hc => ?_) | refine HC.cond_b rfl (fun hc => ?_) (fun hc => ?_))
    refine HL.one (H1.ldAggw (vs := rcells r) rfl rfl (fun w' hM i v hv => by obtain ⟨b', o', e1, -, hc⟩ := (hM.recs (l := l) memA).at hne; cases e1; have h := hc _ r hr i v hv; rw [Nat.zero_add] at h; exact h) rfl ?_)
    repeat' (first | refine HL.pa ?_ (POp.beqC rfl rfl (by first | rfl | decide)) | apply HL.fold | apply HA.fold | apply HL.nil | apply HX.n_then | apply HC.seq | apply HC.region | refine HL.pa ?_ | refine HL.ga rfl ?_ | refine HL.na rfl ?_ | refine HL.nu rfl rfl ?_ | apply HC.block | apply HC.skip | apply HC.exit | apply HC.ret | apply HX.e_block | refine HX.e_other rfl ?_ | apply HX.e_then | apply HX.e_again | apply HX.n_block | apply HX.r_then | apply HX.r_block | apply HX.r_again | refine HC.cond_yes rfl ?_ | refine HC.cond_no rfl ?_ | refine HL.one (H1.ldb rfl memA rfl rfl ?_) | refine HC.cond rfl (fun hc => ?_) (fun hc => ?_) | refine HC.cond_b rfl (fun hc => ?_) (fun hc => ?_))
    refine HL.one (H1.alloc (cs := rcells rcZ) rfl rfl (fun b20 => ?_))
    repeat' (first | refine HL.pa ?_ (POp.beqC rfl rfl (by first | rfl | decide)) | apply HL.fold | apply HA.fold | apply HL.nil | apply HX.n_then | apply HC.seq | apply HC.region | refine HL.pa ?_ | refine HL.ga rfl ?_ | refine HL.na rfl ?_ | refine HL.nu rfl rfl ?_ | apply HC.block | apply HC.skip | apply HC.exit | apply HC.ret | apply HX.e_block | refine HX.e_other rfl ?_ | apply HX.e_then | apply HX.e_again | apply HX.n_block | apply HX.r_then | apply HX.r_block | apply HX.r_again | refine HC.cond_yes rfl ?_ | refine HC.cond_no rfl ?_ | refine HL.one (H1.ldb rfl memA rfl rfl ?_) | refine HC.cond rfl (fun hc => ?_) (fun hc => ?_) | refine HC.cond_b rfl (fun hc => ?_) (fun hc => ?_))
    refine HL.one (H1.stAgg (cs := rcells rcZ) (vs := rcells r) rfl rfl rfl (rcells_one r) rplA rfl ?_)
    repeat' (first | refine HL.pa ?_ (POp.beqC rfl rfl (by first | rfl | decide)) | apply HL.fold | apply HA.fold | apply HL.nil | apply HX.n_then | apply HC.seq | apply HC.region | refine HL.pa ?_ | refine HL.ga rfl ?_ | refine HL.na rfl ?_ | refine HL.nu rfl rfl ?_ | apply HC.block | apply HC.skip | apply HC.exit | apply HC.ret | apply HX.e_block | refine HX.e_other rfl ?_ | apply HX.e_then | apply HX.e_again | apply HX.n_block | apply HX.r_then | apply HX.r_block | apply HX.r_again | refine HC.cond_yes rfl ?_ | refine HC.cond_no rfl ?_ | refine HL.one (H1.ldb rfl memA rfl rfl ?_) | refine HC.cond rfl (fun hc => ?_) (fun hc => ?_) | refine HC.cond_b rfl (fun hc => ?_) (fun hc => ?_))
    refine HL.one (H1.ldAgg (vs := rcells r) rfl memA rfl (fun i v hv => by rw [Nat.zero_add]; exact hv) rfl ?_)
    repeat' (first | refine HL.pa ?_ (POp.beqC rfl rfl (by first | rfl | decide)) | apply HL.fold | apply HA.fold | apply HL.nil | apply HX.n_then | apply HC.seq | apply HC.region | refine HL.pa ?_ | refine HL.ga rfl ?_ | refine HL.na rfl ?_ | refine HL.nu rfl rfl ?_ | apply HC.block | apply HC.skip | apply HC.exit | apply HC.ret | apply HX.e_block | refine HX.e_other rfl ?_ | apply HX.e_then | apply HX.e_again | apply HX.n_block | apply HX.r_then | apply HX.r_block | apply HX.r_again | refine HC.cond_yes rfl ?_ | refine HC.cond_no rfl ?_ | refine HL.one (H1.ldb rfl memA rfl rfl ?_) | refine HC.cond rfl (fun hc => ?_) (fun hc => ?_) | refine HC.cond_b rfl (fun hc => ?_) (fun hc => ?_))
    by_cases hin : r ∈ own
    · have hfn := filt_no (f := fun r => !inB own r) hr (by rw [inB_yes hin]; rfl)
      refine HL.one (H1.callx (u := .bool true) (vs := [.slice ao own.length co, recV r]) rfl rfl (fun w' hM => by have h := in_fn (.slice ao own.length co) own r (by omega) hoko hro w' (hM.recs memA); rw [inB_yes hin] at h; exact h) ?_)
      rw [← hfn]
      repeat' (first | refine HL.pa ?_ (POp.beqC rfl rfl (by first | rfl | decide)) | apply HL.fold | apply HA.fold | apply HL.nil | apply HX.n_then | apply HC.seq | apply HC.region | refine HL.pa ?_ | refine HL.ga rfl ?_ | refine HL.na rfl ?_ | refine HL.nu rfl rfl ?_ | apply HC.block | apply HC.skip | apply HC.exit | apply HC.ret | apply HX.e_block | refine HX.e_other rfl ?_ | apply HX.e_then | apply HX.e_again | apply HX.n_block | apply HX.r_then | apply HX.r_block | apply HX.r_again | refine HC.cond_yes rfl ?_ | refine HC.cond_no rfl ?_ | refine HL.one (H1.ldb rfl memA rfl rfl ?_) | refine HC.cond rfl (fun hc => ?_) (fun hc => ?_) | refine HC.cond_b rfl (fun hc => ?_) (fun hc => ?_))
      exact HX.again (i + 1, ai, ci) hlt (by show l.length - (i + 1) < l.length - i; omega) esA (by repeat (first | exact Hs.nil _ | (refine Hs.cons pickA ?_)))
    have hfy := filt_yes (f := fun r => !inB own r) hr (by rw [inB_no hin]; rfl)
    refine HL.one (H1.callx (u := .bool false) (vs := [.slice ao own.length co, recV r]) rfl rfl (fun w' hM => by have h := in_fn (.slice ao own.length co) own r (by omega) hoko hro w' (hM.recs memA); rw [inB_no hin] at h; exact h) ?_)
    repeat' (first | refine HL.pa ?_ (POp.beqC rfl rfl (by first | rfl | decide)) | apply HL.fold | apply HA.fold | apply HL.nil | apply HX.n_then | apply HC.seq | apply HC.region | refine HL.pa ?_ | refine HL.ga rfl ?_ | refine HL.na rfl ?_ | refine HL.nu rfl rfl ?_ | apply HC.block | apply HC.skip | apply HC.exit | apply HC.ret | apply HX.e_block | refine HX.e_other rfl ?_ | apply HX.e_then | apply HX.e_again | apply HX.n_block | apply HX.r_then | apply HX.r_block | apply HX.r_again | refine HC.cond_yes rfl ?_ | refine HC.cond_no rfl ?_ | refine HL.one (H1.ldb rfl memA rfl rfl ?_) | refine HC.cond rfl (fun hc => ?_) (fun hc => ?_) | refine HC.cond_b rfl (fun hc => ?_) (fun hc => ?_))
    refine HL.one (H1.ldAgg (vs := rcells r) rfl memA rfl (fun i v hv => by rw [Nat.zero_add]; exact hv) rfl ?_)
    repeat' (first | refine HL.pa ?_ (POp.beqC rfl rfl (by first | rfl | decide)) | apply HL.fold | apply HA.fold | apply HL.nil | apply HX.n_then | apply HC.seq | apply HC.region | refine HL.pa ?_ | refine HL.ga rfl ?_ | refine HL.na rfl ?_ | refine HL.nu rfl rfl ?_ | apply HC.block | apply HC.skip | apply HC.exit | apply HC.ret | apply HX.e_block | refine HX.e_other rfl ?_ | apply HX.e_then | apply HX.e_again | apply HX.n_block | apply HX.r_then | apply HX.r_block | apply HX.r_again | refine HC.cond_yes rfl ?_ | refine HC.cond_no rfl ?_ | refine HL.one (H1.ldb rfl memA rfl rfl ?_) | refine HC.cond rfl (fun hc => ?_) (fun hc => ?_) | refine HC.cond_b rfl (fun hc => ?_) (fun hc => ?_))
    refine HL.one (H1.lit (cs := rcells r) rfl rfl rfl rfl rfl rfl (fun bs => ?_))
    repeat' (first | refine HL.pa ?_ (POp.beqC rfl rfl (by first | rfl | decide)) | apply HL.fold | apply HA.fold | apply HL.nil | apply HX.n_then | apply HC.seq | apply HC.region | refine HL.pa ?_ | refine HL.ga rfl ?_ | refine HL.na rfl ?_ | refine HL.nu rfl rfl ?_ | apply HC.block | apply HC.skip | apply HC.exit | apply HC.ret | apply HX.e_block | refine HX.e_other rfl ?_ | apply HX.e_then | apply HX.e_again | apply HX.n_block | apply HX.r_then | apply HX.r_block | apply HX.r_again | refine HC.cond_yes rfl ?_ | refine HC.cond_no rfl ?_ | refine HL.one (H1.ldb rfl memA rfl rfl ?_) | refine HC.cond rfl (fun hc => ?_) (fun hc => ?_) | refine HC.cond_b rfl (fun hc => ?_) (fun hc => ?_))
    refine HL.one (H1.appRec (e := 24) (l := ((l.take i).filter fun r => !inB own r)) (m := [r]) (a := ai) (c := ci) rfl rfl rfl (fun a' c' => by first | ((repeat (first | with_reducible exact Rpl.here | with_reducible apply Rpl.there)); done) | (repeat (first | exact Rpl.here | apply Rpl.there))) (fun w hM => by have hb := hM.blk (b := bs) (cs := rcells r) (e := 24) memA; exact RdR.of_blk (l := [r]) (by rw [show rcl [r] = rcells r from List.append_nil _]; exact hb)) (by simp only [List.length_singleton]; omega) (by decide) rfl (fun a1 c1 => ?_))
    rw [← hfy]
    repeat' (first | refine HL.pa ?_ (POp.beqC rfl rfl (by first | rfl | decide)) | apply HL.fold | apply HA.fold | apply HL.nil | apply HX.n_then | apply HC.seq | apply HC.region | refine HL.pa ?_ | refine HL.ga rfl ?_ | refine HL.na rfl ?_ | refine HL.nu rfl rfl ?_ | apply HC.block | apply HC.skip | apply HC.exit | apply HC.ret | apply HX.e_block | refine HX.e_other rfl ?_ | apply HX.e_then | apply HX.e_again | apply HX.n_block | apply HX.r_then | apply HX.r_block | apply HX.r_again | refine HC.cond_yes rfl ?_ | refine HC.cond_no rfl ?_ | refine HL.one (H1.ldb rfl memA rfl rfl ?_) | refine HC.cond rfl (fun hc => ?_) (fun hc => ?_) | refine HC.cond_b rfl (fun hc => ?_) (fun hc => ?_))
    exact HX.again (i + 1, a1, c1) hlt (by show l.length - (i + 1) < l.length - i; omega) esA (by repeat (first | exact Hs.nil _ | (refine Hs.cons pickA ?_)))
  rintro ⟨ai, ci⟩ -
  dsimp only
  have ho30 : (l.filter fun r => !inB own r).length ≤ 30 := Nat.le_trans (List.length_filter_le _ _) hl30
  have hol : ∀ r ∈ (l.filter fun r => !inB own r), r ∈ l := fun r hr => (List.mem_filter.1 hr).1
  have hom : ∀ r ∈ l, r ∉ own → r ∈ (l.filter fun r => !inB own r) := fun r hr hn => List.mem_filter.2 ⟨hr, by rw [inB_no hn]; rfl⟩
  generalize (l.filter fun r => !inB own r) = oth at ho30 hol hom ⊢
  have hoko2 : ∀ t ∈ oth, RcOk t := fun t ht => hokl t (hol t ht)
  repeat' (first | refine HL.pa ?_ (POp.beqC rfl rfl (by first | rfl | decide)) | apply HL.fold | apply HA.fold | apply HL.nil | apply HX.n_then | apply HC.seq | apply HC.region | refine HL.pa ?_ | refine HL.ga rfl ?_ | refine HL.na rfl ?_ | refine HL.nu rfl rfl ?_ | apply HC.skip | apply HC.exit | apply HC.ret | apply HX.e_block | refine HX.e_other rfl ?_ | apply HX.e_then | apply HX.e_again | apply HX.n_block | apply HX.r_then | apply HX.r_block | apply HX.r_again | refine HC.cond_yes rfl ?_ | refine HC.cond_no rfl ?_ | refine HL.one (H1.ldb rfl memA rfl rfl ?_) | refine HC.cond rfl (fun hc => ?_) (fun hc => ?_) | refine HC.cond_b rfl (fun hc => ?_) (fun hc => ?_))
  refine HC.cut (α := Bool) (fun c => [(21, .bool c), (16, .pointer (some ⟨b16, 0, none⟩)), (17, .pointer (some ⟨b17, 0, none⟩)), (2, zv p), (3, zv b), (4, zv d), (11, .bool true)]) (fun _ => [A.blk b16 (row 8 fun i => slot (q i)) 33, bsA q, A.blk b17 (row 8 fun i => slot (u i)) 33, bsA u]) (fun c => c = false → ∀ o ∈ oth, ∀ s ∈ own, keyS o ≠ keyS s) ?_ ?_
  · repeat' (first | refine HL.pa ?_ (POp.beqC rfl rfl (by first | rfl | decide)) | apply HL.fold | apply HA.fold | apply HL.nil | apply HX.n_then | apply HC.seq | apply HC.region | refine HL.pa ?_ | refine HL.ga rfl ?_ | refine HL.na rfl ?_ | refine HL.nu rfl rfl ?_ | apply HC.block | apply HC.skip | apply HC.exit | apply HC.ret | apply HX.e_block | refine HX.e_other rfl ?_ | apply HX.e_then | apply HX.e_again | apply HX.n_block | apply HX.r_then | apply HX.r_block | apply HX.r_again | refine HC.cond_yes rfl ?_ | refine HC.cond_no rfl ?_ | refine HL.one (H1.ldb rfl memA rfl rfl ?_) | refine HC.cond rfl (fun hc => ?_) (fun hc => ?_) | refine HC.cond_b rfl (fun hc => ?_) (fun hc => ?_))
    refine HC.loop (α := Nat × Bool) (fun z => [(22, zv (z.1 : Int)), (21, .bool z.2), (18, .slice ai oth.length ci), (12, .slice ao own.length co), (16, .pointer (some ⟨b16, 0, none⟩)), (17, .pointer (some ⟨b17, 0, none⟩)), (2, zv p), (3, zv b), (4, zv d), (11, .bool true)])
      (fun z => [A.grow 24 15 ai ci oth.length (rcl oth), A.grow 24 15 ao co own.length (rcl own), A.blk b16 (row 8 fun i => slot (q i)) 33, bsA q, A.blk b17 (row 8 fun i => slot (u i)) 33, bsA u]) (fun z => z.1 ≤ oth.length ∧ (z.2 = false → ∀ o ∈ oth.take z.1, ∀ s ∈ own, keyS o ≠ keyS s)) (fun z => oth.length - z.1) (0, false) ⟨Nat.zero_le _, fun _ o ho => by cases ho⟩ esA (by repeat (first | exact Hs.nil _ | (refine Hs.cons pickA ?_))) ?_
    rintro ⟨i, c⟩ ⟨hi, hI⟩
    dsimp only at hi hI ⊢
    by_cases hlt : i < oth.length
    rotate_left
    · obtain rfl : i = oth.length := by omega
      rw [List.take_length] at hI
      repeat' (first | refine HL.pa ?_ (POp.beqC rfl rfl (by first | rfl | decide)) | apply HL.fold | apply HA.fold | apply HL.nil | apply HX.n_then | apply HC.seq | apply HC.region | refine HL.pa ?_ | refine HL.ga rfl ?_ | refine HL.na rfl ?_ | refine HL.nu rfl rfl ?_ | apply HC.block | apply HC.skip | apply HC.exit | apply HC.ret | apply HX.e_block | refine HX.e_other rfl ?_ | apply HX.e_then | apply HX.e_again | apply HX.n_block | apply HX.r_then | apply HX.r_block | apply HX.r_again | refine HC.cond_yes rfl ?_ | refine HC.cond_no rfl ?_ | refine HL.one (H1.ldb rfl memA rfl rfl ?_) | refine HC.cond rfl (fun hc => ?_) (fun hc => ?_) | refine HC.cond_b rfl (fun hc => ?_) (fun hc => ?_))
      exact HX.cut c hI esA (by repeat (first | exact Hs.nil _ | (refine Hs.cons pickA ?_)))
    have hli : (i : Int) < (oth.length : Int) := by omega
    obtain ⟨o, hoi⟩ : ∃ o, oth[i]? = some o := ⟨_, List.getElem?_eq_getElem hlt⟩
    have hne : oth ≠ [] := fun e => by rw [e] at hlt; cases hlt
    have hoo := hoko2 o (List.mem_of_getElem? hoi)
    refine HC.openg (e := 24) (a := ai) (xs := rcl oth) memA (by omega) ?_
    rintro bi rfl
    repeat' (first | refine HL.pa ?_ (POp.beqC rfl rfl (by first | rfl | decide)) | apply HL.fold | apply HA.fold | apply HL.nil | apply HX.n_then | apply HC.seq | apply HC.region | refine HL.pa ?_ | refine HL.ga rfl ?_ | refine HL.na rfl ?_ | refine HL.nu rfl rfl ?_ | apply HC.block | apply HC.skip | apply HC.exit | apply HC.ret | apply HX.e_block | refine HX.e_other rfl ?_ | apply HX.e_then | apply HX.e_again | apply HX.n_block | apply HX.r_then | apply HX.r_block | apply HX.r_again | refine HC.cond_yes rfl ?_ | refine HC.cond_no rfl ?_ | refine HL.one (H1.ldb rfl memA rfl rfl ?_) | refine HC.cond rfl (fun hc => ?_) (fun hc => ?_) | refine HC.cond_b rfl (fun hc => ?_) (fun hc => ?_))
    refine HC.loop (α := Nat × Bool) (fun z => [(23, zv (z.1 : Int)), (22, zv (i : Int)), (21, .bool z.2), (18, .slice (some ⟨bi, 0, none⟩) oth.length ci), (12, .slice ao own.length co), (16, .pointer (some ⟨b16, 0, none⟩)), (17, .pointer (some ⟨b17, 0, none⟩)), (2, zv p), (3, zv b), (4, zv d), (11, .bool true)])
      (fun z => [A.grow 24 15 (some ⟨bi, 0, none⟩) ci oth.length (rcl oth), A.grow 24 15 ao co own.length (rcl own), A.blk b16 (row 8 fun i => slot (q i)) 33, bsA q, A.blk b17 (row 8 fun i => slot (u i)) 33, bsA u]) (fun z => z.1 ≤ own.length ∧ (z.2 = false → (∀ o ∈ oth.take i, ∀ s ∈ own, keyS o ≠ keyS s) ∧ ∀ s ∈ own.take z.1, keyS o ≠ keyS s)) (fun z => own.length - z.1) (0, c) ⟨Nat.zero_le _, fun h => ⟨hI h, fun s hs => by cases hs⟩⟩ esA (by repeat (first | exact Hs.nil _ | (refine Hs.cons pickA ?_))) ?_
    clear hI
    rintro ⟨k, c⟩ ⟨hk, hI⟩
    dsimp only at hk hI ⊢
    by_cases hkt : k < own.length
    rotate_left
    · obtain rfl : k = own.length := by omega
      rw [List.take_length] at hI
      repeat' (first | refine HL.pa ?_ (POp.beqC rfl rfl (by first | rfl | decide)) | apply HL.fold | apply HA.fold | apply HL.nil | apply HX.n_then | apply HC.seq | apply HC.region | refine HL.pa ?_ | refine HL.ga rfl ?_ | refine HL.na rfl ?_ | refine HL.nu rfl rfl ?_ | apply HC.block | apply HC.skip | apply HC.exit | apply HC.ret | apply HX.e_block | refine HX.e_other rfl ?_ | apply HX.e_then | apply HX.e_again | apply HX.n_block | apply HX.r_then | apply HX.r_block | apply HX.r_again | refine HC.cond_yes rfl ?_ | refine HC.cond_no rfl ?_ | refine HL.one (H1.ldb rfl memA rfl rfl ?_) | refine HC.cond rfl (fun hc => ?_) (fun hc => ?_) | refine HC.cond_b rfl (fun hc => ?_) (fun hc => ?_))
      exact HX.again (i + 1, c) ⟨hlt, fun h o' ho' => by
        rw [take_snoc hoi] at ho'
        rcases List.mem_append.1 ho' with h' | h'
        · exact (hI h).1 o' h'
        · rw [List.mem_singleton.1 h']; exact (hI h).2⟩ (by show oth.length - (i + 1) < oth.length - i; omega) esA (by repeat (first | exact Hs.nil _ | (refine Hs.cons pickA ?_)))
    have hki : (k : Int) < (own.length : Int) := by omega
    obtain ⟨s, hsk⟩ : ∃ s, own[k]? = some s := ⟨_, List.getElem?_eq_getElem hkt⟩
    have hnw : own ≠ [] := fun e => by rw [e] at hkt; cases hkt
    have hso := hoko s (List.mem_of_getElem? hsk)
    refine HC.openg (e := 24) (a := ao) (xs := rcl own) memA (by omega) ?_
    rintro bo rfl
    repeat' (first | refine HL.pa ?_ (POp.beqC rfl rfl (by first | rfl | decide)) | apply HL.fold | apply HA.fold | apply HL.nil | apply HX.n_then | apply HC.seq | apply HC.region | refine HL.pa ?_ | refine HL.ga rfl ?_ | refine HL.na rfl ?_ | refine HL.nu rfl rfl ?_ | apply HC.block | apply HC.skip | apply HC.exit | apply HC.ret | apply HX.e_block | refine HX.e_other rfl ?_ | apply HX.e_then | apply HX.e_again | apply HX.n_block | apply HX.r_then | apply HX.r_block | apply HX.r_again | refine HC.cond_yes rfl ?_ | refine HC.cond_no rfl ?_ | refine HL.one (H1.ldb rfl memA rfl rfl ?_) | refine HC.cond rfl (fun hc => ?_) (fun hc => ?_) | refine HC.cond_b rfl (fun hc => ?_) (fun hc => ?_))
    cases c with
    | true =>
      refine HC.any rfl ?_
      refine HA.pa 0 rfl ?_
      refine HA.pa 1 rfl ?_
      first | refine HA.ga 2 rfl rfl ?_ | refine HA.na 2 rfl rfl ?_ | refine HA.nu 2 rfl rfl ?_
      first | refine HA.ga 3 rfl rfl ?_ | refine HA.na 3 rfl rfl ?_ | refine HA.nu 3 rfl rfl ?_
      first | refine HA.ga 4 rfl rfl ?_ | refine HA.na 4 rfl rfl ?_ | refine HA.nu 4 rfl rfl ?_
      first | refine HA.ga 7 rfl rfl ?_ | refine HA.na 7 rfl rfl ?_ | refine HA.nu 7 rfl rfl ?_
      first | refine HA.ga 8 rfl rfl ?_ | refine HA.na 8 rfl rfl ?_ | refine HA.nu 8 rfl rfl ?_
      first | refine HA.ga 9 rfl rfl ?_ | refine HA.na 9 rfl rfl ?_ | refine HA.nu 9 rfl rfl ?_
      refine HA.all [5, 10] (by kernel_rfl) rfl ⟨⟨_, rfl, ?_⟩, ⟨_, rfl, ?_⟩, trivial⟩
      · refine HO.drop_a rfl ?_
        refine HA.all [6, 10] (by kernel_rfl) rfl ⟨⟨_, rfl, ?_⟩, ⟨_, rfl, ?_⟩, trivial⟩
        · refine HO.drop_a rfl ?_
          refine HA.all [10] (by kernel_rfl) rfl ⟨⟨_, rfl, ?_⟩, trivial⟩
          refine HO.drop_a rfl ?_
          refine HA.all [11] (by kernel_rfl) rfl ⟨⟨_, rfl, ?_⟩, trivial⟩
          refine HO.drop_a rfl ?_
          first | refine HA.ga 12 rfl rfl ?_ | refine HA.na 12 rfl rfl ?_ | refine HA.nu 12 rfl rfl ?_
          refine HA.pa 13 rfl ?_
          refine HA.pa 14 rfl ?_
          refine HA.done (by kernel_rfl) ?_
          repeat' (first | refine HL.pa ?_ (POp.beqC rfl rfl (by first | rfl | decide)) | apply HL.fold | apply HA.fold | apply HL.nil | apply HX.n_then | apply HC.seq | apply HC.region | refine HL.pa ?_ | refine HL.ga rfl ?_ | refine HL.na rfl ?_ | refine HL.nu rfl rfl ?_ | apply HC.block | apply HC.skip | apply HC.exit | apply HC.ret | apply HX.e_block | refine HX.e_other rfl ?_ | apply HX.e_then | apply HX.e_again | apply HX.n_block | apply HX.r_then | apply HX.r_block | apply HX.r_again | refine HC.cond_yes rfl ?_ | refine HC.cond_no rfl ?_ | refine HL.one (H1.ldb rfl memA rfl rfl ?_) | refine HC.cond rfl (fun hc => ?_) (fun hc => ?_) | refine HC.cond_b rfl (fun hc => ?_) (fun hc => ?_))
          exact HX.again (k + 1, true) ⟨hkt, fun h => by cases h⟩ (by show own.length - (k + 1) < own.length - k; omega) esA (by repeat (first | exact Hs.nil _ | (refine Hs.cons pickA ?_)))
        · refine HO.drop_a rfl ?_
          refine HA.all [6] (by kernel_rfl) rfl ⟨⟨_, rfl, ?_⟩, trivial⟩
          refine HO.drop_a rfl ?_
          refine HA.all [11] (by kernel_rfl) rfl ⟨⟨_, rfl, ?_⟩, trivial⟩
          refine HO.drop_a rfl ?_
          first | refine HA.ga 12 rfl rfl ?_ | refine HA.na 12 rfl rfl ?_ | refine HA.nu 12 rfl rfl ?_
          refine HA.pa 13 rfl ?_
          refine HA.pa 14 rfl ?_
          refine HA.done (by kernel_rfl) ?_
          repeat' (first | refine HL.pa ?_ (POp.beqC rfl rfl (by first | rfl | decide)) | apply HL.fold | apply HA.fold | apply HL.nil | apply HX.n_then | apply HC.seq | apply HC.region | refine HL.pa ?_ | refine HL.ga rfl ?_ | refine HL.na rfl ?_ | refine HL.nu rfl rfl ?_ | apply HC.block | apply HC.skip | apply HC.exit | apply HC.ret | apply HX.e_block | refine HX.e_other rfl ?_ | apply HX.e_then | apply HX.e_again | apply HX.n_block | apply HX.r_then | apply HX.r_block | apply HX.r_again | refine HC.cond_yes rfl ?_ | refine HC.cond_no rfl ?_ | refine HL.one (H1.ldb rfl memA rfl rfl ?_) | refine HC.cond rfl (fun hc => ?_) (fun hc => ?_) | refine HC.cond_b rfl (fun hc => ?_) (fun hc => ?_))
          exact HX.again (k + 1, true) ⟨hkt, fun h => by cases h⟩ (by show own.length - (k + 1) < own.length - k; omega) esA (by repeat (first | exact Hs.nil _ | (refine Hs.cons pickA ?_)))
      · refine HO.drop_a rfl ?_
        refine HA.all [5] (by kernel_rfl) rfl ⟨⟨_, rfl, ?_⟩, trivial⟩
        refine HO.drop_a rfl ?_
        refine HA.all [6] (by kernel_rfl) rfl ⟨⟨_, rfl, ?_⟩, trivial⟩
        refine HO.drop_a rfl ?_
        refine HA.all [11] (by kernel_rfl) rfl ⟨⟨_, rfl, ?_⟩, trivial⟩
        refine HO.drop_a rfl ?_
        first | refine HA.ga 12 rfl rfl ?_ | refine HA.na 12 rfl rfl ?_ | refine HA.nu 12 rfl rfl ?_
        refine HA.pa 13 rfl ?_
        refine HA.pa 14 rfl ?_
        refine HA.done (by kernel_rfl) ?_
        repeat' (first | refine HL.pa ?_ (POp.beqC rfl rfl (by first | rfl | decide)) | apply HL.fold | apply HA.fold | apply HL.nil | apply HX.n_then | apply HC.seq | apply HC.region | refine HL.pa ?_ | refine HL.ga rfl ?_ | refine HL.na rfl ?_ | refine HL.nu rfl rfl ?_ | apply HC.block | apply HC.skip | apply HC.exit | apply HC.ret | apply HX.e_block | refine HX.e_other rfl ?_ | apply HX.e_then | apply HX.e_again | apply HX.n_block | apply HX.r_then | apply HX.r_block | apply HX.r_again | refine HC.cond_yes rfl ?_ | refine HC.cond_no rfl ?_ | refine HL.one (H1.ldb rfl memA rfl rfl ?_) | refine HC.cond rfl (fun hc => ?_) (fun hc => ?_) | refine HC.cond_b rfl (fun hc => ?_) (fun hc => ?_))
        exact HX.again (k + 1, true) ⟨hkt, fun h => by cases h⟩ (by show own.length - (k + 1) < own.length - k; omega) esA (by repeat (first | exact Hs.nil _ | (refine Hs.cons pickA ?_)))
    | false =>
      have hI2 : decide (keyS o = keyS s) = false → (∀ o ∈ oth.take i, ∀ s ∈ own, keyS o ≠ keyS s) ∧ ∀ s ∈ own.take (k + 1), keyS o ≠ keyS s := fun hky => ⟨(hI rfl).1, fun s' hs' => by
        rw [take_snoc hsk] at hs'
        rcases List.mem_append.1 hs' with h' | h'
        · exact (hI rfl).2 s' h'
        · rw [List.mem_singleton.1 h']; exact of_decide_eq_false hky⟩
      refine HC.any rfl ?_
      refine HA.pa 0 rfl ?_
      refine HA.pa 1 rfl ?_
      first | refine HA.ga 2 rfl rfl ?_ | refine HA.na 2 rfl rfl ?_ | refine HA.nu 2 rfl rfl ?_
      first | refine HA.ga 3 rfl rfl ?_ | refine HA.na 3 rfl rfl ?_ | refine HA.nu 3 rfl rfl ?_
      first | refine HA.ga 4 rfl rfl ?_ | refine HA.na 4 rfl rfl ?_ | refine HA.nu 4 rfl rfl ?_
      first | refine HA.ga 7 rfl rfl ?_ | refine HA.na 7 rfl rfl ?_ | refine HA.nu 7 rfl rfl ?_
      first | refine HA.ga 8 rfl rfl ?_ | refine HA.na 8 rfl rfl ?_ | refine HA.nu 8 rfl rfl ?_
      first | refine HA.ga 9 rfl rfl ?_ | refine HA.na 9 rfl rfl ?_ | refine HA.nu 9 rfl rfl ?_
      refine HA.all [5, 10] (by kernel_rfl) rfl ⟨⟨_, rfl, ?_⟩, ⟨_, rfl, ?_⟩, trivial⟩
      · refine HO.one_a rfl ?_
        refine H1.ldAggw (vs := rcells o) rfl rfl (fun w' hM i v hv => by obtain ⟨b', o', e1, -, hc⟩ := (hM.recs (l := oth) memA).at hne; cases e1; have h := hc _ o hoi i v hv; rw [Nat.zero_add] at h; exact h) rfl ?_
        apply HA.fold
        refine HA.all [6, 10] (by kernel_rfl) rfl ⟨⟨_, rfl, ?_⟩, ⟨_, rfl, ?_⟩, trivial⟩
        · refine HO.one_a rfl ?_
          refine H1.callx (u := .string (keyS o)) (vs := [recV o]) rfl rfl (fun w' _ => key_fn o hoo w') ?_
          apply HA.fold
          refine HA.all [10] (by kernel_rfl) rfl ⟨⟨_, rfl, ?_⟩, trivial⟩
          refine HO.one_a rfl ?_
          refine H1.ldAggw (vs := rcells s) rfl rfl (fun w' hM i v hv => by obtain ⟨b', o', e1, -, hc⟩ := (hM.recs (l := own) memA).at hnw; cases e1; have h := hc _ s hsk i v hv; rw [Nat.zero_add] at h; exact h) rfl ?_
          apply HA.fold
          refine HA.all [11] (by kernel_rfl) rfl ⟨⟨_, rfl, ?_⟩, trivial⟩
          refine HO.one_a rfl ?_
          refine H1.callx (u := .string (keyS s)) (vs := [recV s]) rfl rfl (fun w' _ => key_fn s hso w') ?_
          apply HA.fold
          first | refine HA.ga 12 rfl rfl ?_ | refine HA.na 12 rfl rfl ?_ | refine HA.nu 12 rfl rfl ?_
          refine HA.pa 13 rfl ?_
          refine HA.pa 14 rfl ?_
          refine HA.done (by kernel_rfl) ?_
          repeat' (first | refine HL.pa ?_ (POp.beqC rfl rfl (by first | rfl | decide)) | apply HL.fold | apply HA.fold | apply HL.nil | apply HX.n_then | apply HC.seq | apply HC.region | refine HL.pa ?_ | refine HL.ga rfl ?_ | refine HL.na rfl ?_ | refine HL.nu rfl rfl ?_ | apply HC.block | apply HC.skip | apply HC.exit | apply HC.ret | apply HX.e_block | refine HX.e_other rfl ?_ | apply HX.e_then | apply HX.e_again | apply HX.n_block | apply HX.r_then | apply HX.r_block | apply HX.r_again | refine HC.cond_yes rfl ?_ | refine HC.cond_no rfl ?_ | refine HL.one (H1.ldb rfl memA rfl rfl ?_) | refine HC.cond rfl (fun hc => ?_) (fun hc => ?_) | refine HC.cond_b rfl (fun hc => ?_) (fun hc => ?_))
          exact HX.again (k + 1, decide (keyS o = keyS s)) ⟨hkt, hI2⟩ (by show own.length - (k + 1) < own.length - k; omega) esA (by repeat (first | exact Hs.nil _ | (refine Hs.cons pickA ?_)))
        · refine HO.one_a rfl ?_
          refine H1.ldAggw (vs := rcells s) rfl rfl (fun w' hM i v hv => by obtain ⟨b', o', e1, -, hc⟩ := (hM.recs (l := own) memA).at hnw; cases e1; have h := hc _ s hsk i v hv; rw [Nat.zero_add] at h; exact h) rfl ?_
          apply HA.fold
          refine HA.all [6] (by kernel_rfl) rfl ⟨⟨_, rfl, ?_⟩, trivial⟩
          refine HO.one_a rfl ?_
          refine H1.callx (u := .string (keyS o)) (vs := [recV o]) rfl rfl (fun w' _ => key_fn o hoo w') ?_
          apply HA.fold
          refine HA.all [11] (by kernel_rfl) rfl ⟨⟨_, rfl, ?_⟩, trivial⟩
          refine HO.one_a rfl ?_
          refine H1.callx (u := .string (keyS s)) (vs := [recV s]) rfl rfl (fun w' _ => key_fn s hso w') ?_
          apply HA.fold
          first | refine HA.ga 12 rfl rfl ?_ | refine HA.na 12 rfl rfl ?_ | refine HA.nu 12 rfl rfl ?_
          refine HA.pa 13 rfl ?_
          refine HA.pa 14 rfl ?_
          refine HA.done (by kernel_rfl) ?_
          repeat' (first | refine HL.pa ?_ (POp.beqC rfl rfl (by first | rfl | decide)) | apply HL.fold | apply HA.fold | apply HL.nil | apply HX.n_then | apply HC.seq | apply HC.region | refine HL.pa ?_ | refine HL.ga rfl ?_ | refine HL.na rfl ?_ | refine HL.nu rfl rfl ?_ | apply HC.block | apply HC.skip | apply HC.exit | apply HC.ret | apply HX.e_block | refine HX.e_other rfl ?_ | apply HX.e_then | apply HX.e_again | apply HX.n_block | apply HX.r_then | apply HX.r_block | apply HX.r_again | refine HC.cond_yes rfl ?_ | refine HC.cond_no rfl ?_ | refine HL.one (H1.ldb rfl memA rfl rfl ?_) | refine HC.cond rfl (fun hc => ?_) (fun hc => ?_) | refine HC.cond_b rfl (fun hc => ?_) (fun hc => ?_))
          exact HX.again (k + 1, decide (keyS o = keyS s)) ⟨hkt, hI2⟩ (by show own.length - (k + 1) < own.length - k; omega) esA (by repeat (first | exact Hs.nil _ | (refine Hs.cons pickA ?_)))
      · refine HO.one_a rfl ?_
        refine H1.ldAggw (vs := rcells s) rfl rfl (fun w' hM i v hv => by obtain ⟨b', o', e1, -, hc⟩ := (hM.recs (l := own) memA).at hnw; cases e1; have h := hc _ s hsk i v hv; rw [Nat.zero_add] at h; exact h) rfl ?_
        apply HA.fold
        refine HA.all [5] (by kernel_rfl) rfl ⟨⟨_, rfl, ?_⟩, trivial⟩
        refine HO.one_a rfl ?_
        refine H1.ldAggw (vs := rcells o) rfl rfl (fun w' hM i v hv => by obtain ⟨b', o', e1, -, hc⟩ := (hM.recs (l := oth) memA).at hne; cases e1; have h := hc _ o hoi i v hv; rw [Nat.zero_add] at h; exact h) rfl ?_
        apply HA.fold
        refine HA.all [6] (by kernel_rfl) rfl ⟨⟨_, rfl, ?_⟩, trivial⟩
        refine HO.one_a rfl ?_
        refine H1.callx (u := .string (keyS o)) (vs := [recV o]) rfl rfl (fun w' _ => key_fn o hoo w') ?_
        apply HA.fold
        refine HA.all [11] (by kernel_rfl) rfl ⟨⟨_, rfl, ?_⟩, trivial⟩
        refine HO.one_a rfl ?_
        refine H1.callx (u := .string (keyS s)) (vs := [recV s]) rfl rfl (fun w' _ => key_fn s hso w') ?_
        apply HA.fold
        first | refine HA.ga 12 rfl rfl ?_ | refine HA.na 12 rfl rfl ?_ | refine HA.nu 12 rfl rfl ?_
        refine HA.pa 13 rfl ?_
        refine HA.pa 14 rfl ?_
        refine HA.done (by kernel_rfl) ?_
        repeat' (first | refine HL.pa ?_ (POp.beqC rfl rfl (by first | rfl | decide)) | apply HL.fold | apply HA.fold | apply HL.nil | apply HX.n_then | apply HC.seq | apply HC.region | refine HL.pa ?_ | refine HL.ga rfl ?_ | refine HL.na rfl ?_ | refine HL.nu rfl rfl ?_ | apply HC.block | apply HC.skip | apply HC.exit | apply HC.ret | apply HX.e_block | refine HX.e_other rfl ?_ | apply HX.e_then | apply HX.e_again | apply HX.n_block | apply HX.r_then | apply HX.r_block | apply HX.r_again | refine HC.cond_yes rfl ?_ | refine HC.cond_no rfl ?_ | refine HL.one (H1.ldb rfl memA rfl rfl ?_) | refine HC.cond rfl (fun hc => ?_) (fun hc => ?_) | refine HC.cond_b rfl (fun hc => ?_) (fun hc => ?_))
        exact HX.again (k + 1, decide (keyS o = keyS s)) ⟨hkt, hI2⟩ (by show own.length - (k + 1) < own.length - k; omega) esA (by repeat (first | exact Hs.nil _ | (refine Hs.cons pickA ?_)))
  rintro c hI
  cases c with
  | true =>
    repeat' (first | refine HL.pa ?_ (POp.beqC rfl rfl (by first | rfl | decide)) | apply HL.fold | apply HA.fold | apply HL.nil | apply HX.n_then | apply HC.seq | apply HC.region | refine HL.pa ?_ | refine HL.ga rfl ?_ | refine HL.na rfl ?_ | refine HL.nu rfl rfl ?_ | apply HC.block | apply HC.skip | apply HC.exit | apply HC.ret | apply HX.e_block | refine HX.e_other rfl ?_ | apply HX.e_then | apply HX.e_again | apply HX.n_block | apply HX.r_then | apply HX.r_block | apply HX.r_again | refine HC.cond_yes rfl ?_ | refine HC.cond_no rfl ?_ | refine HL.one (H1.ldb rfl memA rfl rfl ?_) | refine HC.cond rfl (fun hc => ?_) (fun hc => ?_) | refine HC.cond_b rfl (fun hc => ?_) (fun hc => ?_))
    exact HX.ret1 rfl rfl fun w' hM => ⟨rfl, hM.ext⟩
  | false =>
    have hno : ∀ r ∈ l, r ∉ own → ∀ s ∈ own, keyR r ≠ keyR s := fun r hr hn s hs e => hI rfl r (hom r hr hn) s hs ((keyS_inj (hlok r hr).valid (hlok s (hownl s hs)).valid).2 e)
    have hC := hoth hno hq hu
    have hlq : ∀ i, i < 8 → (bsL q i).length ≤ 30 := fun i hi => Nat.le_trans (of_len (hq i hi)) hl30
    have hlu : ∀ i, i < 8 → (bsL u i).length ≤ 30 := fun i hi => Nat.le_trans (of_len (hu i hi)) hown30
    have c1 := fun (w' : World) hB => Consents_fn (B := bsL q) (vb := bsV q) p b d w' hB (by have := hlq 2 (by decide); omega)
    have c2 := fun (w' : World) hB => Consents_fn (B := bsL u) (vb := bsV u) p b d w' hB (by have := hlu 2 (by decide); omega)
    have e1 := fun (w' : World) hB => Embargoed_fn (B := bsL q) (vb := bsV q) p d w' hB (by have := hlq 3 (by decide); omega)
    have e2 := fun (w' : World) hB => Embargoed_fn (B := bsL u) (vb := bsV u) p d w' hB (by have := hlu 3 (by decide); omega)
    have h1 := fun (w' : World) hB => Held_fn (B := bsL q) (vb := bsV q) p d w' hB (by have := hlq 4 (by decide); omega) (by have := hlq 5 (by decide); omega)
    have h2 := fun (w' : World) hB => Held_fn (B := bsL u) (vb := bsV u) p d w' hB (by have := hlu 4 (by decide); omega) (by have := hlu 5 (by decide); omega)
    have i1 := fun (w' : World) hB => Hidden_fn (B := bsL q) (vb := bsV q) p b d w' hB (by have := hlq 6 (by decide); omega)
    have i2 := fun (w' : World) hB => Hidden_fn (B := bsL u) (vb := bsV u) p b d w' hB (by have := hlu 6 (by decide); omega)
    rw [oth_cons hC] at c2
    rw [oth_emb hC] at e2
    rw [oth_held hC] at h2
    rw [oth_hid hC] at i2
    have le := embL_le (bsL q 3) p d
    have lh := heldL_le (bsL q 4) (bsL q 5) p d
    have li := hidL_le (bsL q 6) p b d
    have l3 := hlq 3 (by decide)
    have l4 := hlq 4 (by decide)
    have l6 := hlq 6 (by decide)
    generalize (bsL q 2).any (aboutB p b d) = C at c1 c2 ⊢
    generalize embL (bsL q 3) p d = X at e1 e2 le ⊢
    generalize heldL (bsL q 4) (bsL q 5) p d = Y at h1 h2 lh ⊢
    generalize hidL (bsL q 6) p b d = Z at i1 i2 li ⊢
    clear hoth hno hq hu hI hC hownl hom hol
    repeat' (first | refine HL.pa ?_ (POp.beqC rfl rfl (by first | rfl | decide)) | apply HL.fold | apply HA.fold | apply HL.nil | apply HX.n_then | apply HC.seq | apply HC.region | refine HL.pa ?_ | refine HL.ga rfl ?_ | refine HL.na rfl ?_ | refine HL.nu rfl rfl ?_ | apply HC.block | apply HC.skip | apply HC.exit | apply HC.ret | apply HX.e_block | refine HX.e_other rfl ?_ | apply HX.e_then | apply HX.e_again | apply HX.n_block | apply HX.r_then | apply HX.r_block | apply HX.r_again | refine HC.cond_yes rfl ?_ | refine HC.cond_no rfl ?_ | refine HL.one (H1.ldb rfl memA rfl rfl ?_) | refine HC.cond rfl (fun hc => ?_) (fun hc => ?_) | refine HC.cond_b rfl (fun hc => ?_) (fun hc => ?_))
    refine HC.cut (α := Unit) (fun _ => [(24, .bool true), (16, .pointer (some ⟨b16, 0, none⟩)), (17, .pointer (some ⟨b17, 0, none⟩)), (2, zv p), (3, zv b), (4, zv d), (11, .bool true)]) (fun _ => [A.blk b16 (row 8 fun i => slot (q i)) 33, bsA q, A.blk b17 (row 8 fun i => slot (u i)) 33, bsA u]) (fun _ => True) ?_ ?_
    · refine HC.any rfl ?_
      refine HA.pa 1 rfl ?_
      refine HA.pa 2 rfl ?_
      refine HA.pa 3 rfl ?_
      refine HA.pa 6 rfl ?_
      refine HA.pa 7 rfl ?_
      refine HA.pa 8 rfl ?_
      refine HA.all [0, 5] (by kernel_rfl) rfl ⟨⟨_, rfl, ?_⟩, ⟨_, rfl, ?_⟩, trivial⟩
      · refine HO.one ?_
        refine H1.ldAgg (vs := row 8 fun i => slot (q i)) rfl memA rfl (fun i v hv => by rw [Nat.zero_add]; exact hv) rfl ?_
        apply HA.fold
        refine HA.all [4, 5] (by kernel_rfl) rfl ⟨⟨_, rfl, ?_⟩, ⟨_, rfl, ?_⟩, trivial⟩
        · refine HO.one ?_
          refine H1.callx (u := .bool C) (vs := [bsV q, zv p, zv b, zv d]) rfl rfl (fun w' hM => c1 w' (hM.base (q := q) memA)) ?_
          apply HA.fold
          refine HA.all [5] (by kernel_rfl) rfl ⟨⟨_, rfl, ?_⟩, trivial⟩
          refine HO.one ?_
          refine H1.ldAgg (vs := row 8 fun i => slot (u i)) rfl memA rfl (fun i v hv => by rw [Nat.zero_add]; exact hv) rfl ?_
          apply HA.fold
          refine HA.all [9] (by kernel_rfl) rfl ⟨⟨_, rfl, ?_⟩, trivial⟩
          refine HO.one ?_
          refine H1.callx (u := .bool C) (vs := [bsV u, zv p, zv b, zv d]) rfl rfl (fun w' hM => c2 w' (hM.base (q := u) memA)) ?_
          apply HA.fold
          refine HA.pa (v := .bool true) 10 rfl ?_ (POp.beqC rfl rfl rfl)
          refine HA.pa 11 rfl ?_
          first | refine HA.ga 13 rfl rfl ?_ | refine HA.na 13 rfl rfl ?_ | refine HA.nu 13 rfl rfl ?_
          first | refine HA.ga 14 rfl rfl ?_ | refine HA.na 14 rfl rfl ?_ | refine HA.nu 14 rfl rfl ?_
          first | refine HA.ga 17 rfl rfl ?_ | refine HA.na 17 rfl rfl ?_ | refine HA.nu 17 rfl rfl ?_
          first | refine HA.ga 18 rfl rfl ?_ | refine HA.na 18 rfl rfl ?_ | refine HA.nu 18 rfl rfl ?_
          refine HA.all [12, 16] (by kernel_rfl) rfl ⟨⟨_, rfl, ?_⟩, ⟨_, rfl, ?_⟩, trivial⟩
          · refine HO.one_a rfl ?_
            refine H1.ldAgg (vs := row 8 fun i => slot (q i)) rfl memA rfl (fun i v hv => by rw [Nat.zero_add]; exact hv) rfl ?_
            apply HA.fold
            refine HA.all [15, 16] (by kernel_rfl) rfl ⟨⟨_, rfl, ?_⟩, ⟨_, rfl, ?_⟩, trivial⟩
            · refine HO.one_a rfl ?_
              refine H1.callz1 (α := Option Addr × Nat) (V := fun z => .slice z.1 X.length z.2) (An := fun z => A.grow 3 1 z.1 z.2 X.length (ints X)) (I := fun _ => True) (vs := [bsV q, zv p, zv d]) rfl rfl (fun w' hM => e1 w' (hM.base (q := q) memA)) ?_
              rintro ⟨ax, cx⟩ -
              dsimp only
              apply HA.fold
              refine HA.all [16] (by kernel_rfl) rfl ⟨⟨_, rfl, ?_⟩, trivial⟩
              refine HO.one_a rfl ?_
              refine H1.ldAgg (vs := row 8 fun i => slot (u i)) rfl memA rfl (fun i v hv => by rw [Nat.zero_add]; exact hv) rfl ?_
              apply HA.fold
              refine HA.all [19] (by kernel_rfl) rfl ⟨⟨_, rfl, ?_⟩, trivial⟩
              refine HO.one_a rfl ?_
              refine H1.callz1 (α := Option Addr × Nat) (V := fun z => .slice z.1 X.length z.2) (An := fun z => A.grow 3 1 z.1 z.2 X.length (ints X)) (I := fun _ => True) (vs := [bsV u, zv p, zv d]) rfl rfl (fun w' hM => e2 w' (hM.base (q := u) memA)) ?_
              rintro ⟨ay, cy⟩ -
              dsimp only
              apply HA.fold
              refine HA.all [20] (by kernel_rfl) rfl ⟨⟨_, rfl, ?_⟩, trivial⟩
              refine HO.one_a rfl ?_
              refine H1.callx (u := .bool true) (vs := [.slice ax X.length cx, .slice ay X.length cy]) rfl rfl (fun w' hM => (SameInts_fn _ _ X X w' (hM.gr (xs := ints X) (a := ax) memA) (hM.gr (xs := ints X) (a := ay) memA) (by omega)).mono fun v w'' h => ⟨h.1.trans (by rw [decide_eq_true rfl]), h.2⟩) ?_
              apply HA.fold
              refine HA.pa 21 rfl ?_
              refine HA.pa 22 rfl ?_
              refine HA.done (by kernel_rfl) ?_
              exact HX.cut () trivial esA (by repeat (first | exact Hs.nil _ | (refine Hs.cons pickA ?_)))
            · refine HO.one_a rfl ?_
              refine H1.ldAgg (vs := row 8 fun i => slot (u i)) rfl memA rfl (fun i v hv => by rw [Nat.zero_add]; exact hv) rfl ?_
              apply HA.fold
              refine HA.all [15] (by kernel_rfl) rfl ⟨⟨_, rfl, ?_⟩, trivial⟩
              refine HO.one_a rfl ?_
              refine H1.callz1 (α := Option Addr × Nat) (V := fun z => .slice z.1 X.length z.2) (An := fun z => A.grow 3 1 z.1 z.2 X.length (ints X)) (I := fun _ => True) (vs := [bsV q, zv p, zv d]) rfl rfl (fun w' hM => e1 w' (hM.base (q := q) memA)) ?_
              rintro ⟨ax, cx⟩ -
              dsimp only
              apply HA.fold
              refine HA.all [19] (by kernel_rfl) rfl ⟨⟨_, rfl, ?_⟩, trivial⟩
              refine HO.one_a rfl ?_
              refine H1.callz1 (α := Option Addr × Nat) (V := fun z => .slice z.1 X.length z.2) (An := fun z => A.grow 3 1 z.1 z.2 X.length (ints X)) (I := fun _ => True) (vs := [bsV u, zv p, zv d]) rfl rfl (fun w' hM => e2 w' (hM.base (q := u) memA)) ?_
              rintro ⟨ay, cy⟩ -
              dsimp only
              apply HA.fold
              refine HA.all [20] (by kernel_rfl) rfl ⟨⟨_, rfl, ?_⟩, trivial⟩
              refine HO.one_a rfl ?_
              refine H1.callx (u := .bool true) (vs := [.slice ax X.length cx, .slice ay X.length cy]) rfl rfl (fun w' hM => (SameInts_fn _ _ X X w' (hM.gr (xs := ints X) (a := ax) memA) (hM.gr (xs := ints X) (a := ay) memA) (by omega)).mono fun v w'' h => ⟨h.1.trans (by rw [decide_eq_true rfl]), h.2⟩) ?_
              apply HA.fold
              refine HA.pa 21 rfl ?_
              refine HA.pa 22 rfl ?_
              refine HA.done (by kernel_rfl) ?_
              exact HX.cut () trivial esA (by repeat (first | exact Hs.nil _ | (refine Hs.cons pickA ?_)))
          · refine HO.one_a rfl ?_
            refine H1.ldAgg (vs := row 8 fun i => slot (u i)) rfl memA rfl (fun i v hv => by rw [Nat.zero_add]; exact hv) rfl ?_
            apply HA.fold
            refine HA.all [12] (by kernel_rfl) rfl ⟨⟨_, rfl, ?_⟩, trivial⟩
            refine HO.one_a rfl ?_
            refine H1.ldAgg (vs := row 8 fun i => slot (q i)) rfl memA rfl (fun i v hv => by rw [Nat.zero_add]; exact hv) rfl ?_
            apply HA.fold
            refine HA.all [15] (by kernel_rfl) rfl ⟨⟨_, rfl, ?_⟩, trivial⟩
            refine HO.one_a rfl ?_
            refine H1.callz1 (α := Option Addr × Nat) (V := fun z => .slice z.1 X.length z.2) (An := fun z => A.grow 3 1 z.1 z.2 X.length (ints X)) (I := fun _ => True) (vs := [bsV q, zv p, zv d]) rfl rfl (fun w' hM => e1 w' (hM.base (q := q) memA)) ?_
            rintro ⟨ax, cx⟩ -
            dsimp only
            apply HA.fold
            refine HA.all [19] (by kernel_rfl) rfl ⟨⟨_, rfl, ?_⟩, trivial⟩
            refine HO.one_a rfl ?_
            refine H1.callz1 (α := Option Addr × Nat) (V := fun z => .slice z.1 X.length z.2) (An := fun z => A.grow 3 1 z.1 z.2 X.length (ints X)) (I := fun _ => True) (vs := [bsV u, zv p, zv d]) rfl rfl (fun w' hM => e2 w' (hM.base (q := u) memA)) ?_
            rintro ⟨ay, cy⟩ -
            dsimp only
            apply HA.fold
            refine HA.all [20] (by kernel_rfl) rfl ⟨⟨_, rfl, ?_⟩, trivial⟩
            refine HO.one_a rfl ?_
            refine H1.callx (u := .bool true) (vs := [.slice ax X.length cx, .slice ay X.length cy]) rfl rfl (fun w' hM => (SameInts_fn _ _ X X w' (hM.gr (xs := ints X) (a := ax) memA) (hM.gr (xs := ints X) (a := ay) memA) (by omega)).mono fun v w'' h => ⟨h.1.trans (by rw [decide_eq_true rfl]), h.2⟩) ?_
            apply HA.fold
            refine HA.pa 21 rfl ?_
            refine HA.pa 22 rfl ?_
            refine HA.done (by kernel_rfl) ?_
            exact HX.cut () trivial esA (by repeat (first | exact Hs.nil _ | (refine Hs.cons pickA ?_)))
        · refine HO.one ?_
          refine H1.ldAgg (vs := row 8 fun i => slot (u i)) rfl memA rfl (fun i v hv => by rw [Nat.zero_add]; exact hv) rfl ?_
          apply HA.fold
          refine HA.all [4] (by kernel_rfl) rfl ⟨⟨_, rfl, ?_⟩, trivial⟩
          refine HO.one ?_
          refine H1.callx (u := .bool C) (vs := [bsV q, zv p, zv b, zv d]) rfl rfl (fun w' hM => c1 w' (hM.base (q := q) memA)) ?_
          apply HA.fold
          refine HA.all [9] (by kernel_rfl) rfl ⟨⟨_, rfl, ?_⟩, trivial⟩
          refine HO.one ?_
          refine H1.callx (u := .bool C) (vs := [bsV u, zv p, zv b, zv d]) rfl rfl (fun w' hM => c2 w' (hM.base (q := u) memA)) ?_
          apply HA.fold
          refine HA.pa (v := .bool true) 10 rfl ?_ (POp.beqC rfl rfl rfl)
          refine HA.pa 11 rfl ?_
          first | refine HA.ga 13 rfl rfl ?_ | refine HA.na 13 rfl rfl ?_ | refine HA.nu 13 rfl rfl ?_
          first | refine HA.ga 14 rfl rfl ?_ | refine HA.na 14 rfl rfl ?_ | refine HA.nu 14 rfl rfl ?_
          first | refine HA.ga 17 rfl rfl ?_ | refine HA.na 17 rfl rfl ?_ | refine HA.nu 17 rfl rfl ?_
          first | refine HA.ga 18 rfl rfl ?_ | refine HA.na 18 rfl rfl ?_ | refine HA.nu 18 rfl rfl ?_
          refine HA.all [12, 16] (by kernel_rfl) rfl ⟨⟨_, rfl, ?_⟩, ⟨_, rfl, ?_⟩, trivial⟩
          · refine HO.one_a rfl ?_
            refine H1.ldAgg (vs := row 8 fun i => slot (q i)) rfl memA rfl (fun i v hv => by rw [Nat.zero_add]; exact hv) rfl ?_
            apply HA.fold
            refine HA.all [15, 16] (by kernel_rfl) rfl ⟨⟨_, rfl, ?_⟩, ⟨_, rfl, ?_⟩, trivial⟩
            · refine HO.one_a rfl ?_
              refine H1.callz1 (α := Option Addr × Nat) (V := fun z => .slice z.1 X.length z.2) (An := fun z => A.grow 3 1 z.1 z.2 X.length (ints X)) (I := fun _ => True) (vs := [bsV q, zv p, zv d]) rfl rfl (fun w' hM => e1 w' (hM.base (q := q) memA)) ?_
              rintro ⟨ax, cx⟩ -
              dsimp only
              apply HA.fold
              refine HA.all [16] (by kernel_rfl) rfl ⟨⟨_, rfl, ?_⟩, trivial⟩
              refine HO.one_a rfl ?_
              refine H1.ldAgg (vs := row 8 fun i => slot (u i)) rfl memA rfl (fun i v hv => by rw [Nat.zero_add]; exact hv) rfl ?_
              apply HA.fold
              refine HA.all [19] (by kernel_rfl) rfl ⟨⟨_, rfl, ?_⟩, trivial⟩
              refine HO.one_a rfl ?_
              refine H1.callz1 (α := Option Addr × Nat) (V := fun z => .slice z.1 X.length z.2) (An := fun z => A.grow 3 1 z.1 z.2 X.length (ints X)) (I := fun _ => True) (vs := [bsV u, zv p, zv d]) rfl rfl (fun w' hM => e2 w' (hM.base (q := u) memA)) ?_
              rintro ⟨ay, cy⟩ -
              dsimp only
              apply HA.fold
              refine HA.all [20] (by kernel_rfl) rfl ⟨⟨_, rfl, ?_⟩, trivial⟩
              refine HO.one_a rfl ?_
              refine H1.callx (u := .bool true) (vs := [.slice ax X.length cx, .slice ay X.length cy]) rfl rfl (fun w' hM => (SameInts_fn _ _ X X w' (hM.gr (xs := ints X) (a := ax) memA) (hM.gr (xs := ints X) (a := ay) memA) (by omega)).mono fun v w'' h => ⟨h.1.trans (by rw [decide_eq_true rfl]), h.2⟩) ?_
              apply HA.fold
              refine HA.pa 21 rfl ?_
              refine HA.pa 22 rfl ?_
              refine HA.done (by kernel_rfl) ?_
              exact HX.cut () trivial esA (by repeat (first | exact Hs.nil _ | (refine Hs.cons pickA ?_)))
            · refine HO.one_a rfl ?_
              refine H1.ldAgg (vs := row 8 fun i => slot (u i)) rfl memA rfl (fun i v hv => by rw [Nat.zero_add]; exact hv) rfl ?_
              apply HA.fold
              refine HA.all [15] (by kernel_rfl) rfl ⟨⟨_, rfl, ?_⟩, trivial⟩
              refine HO.one_a rfl ?_
              refine H1.callz1 (α := Option Addr × Nat) (V := fun z => .slice z.1 X.length z.2) (An := fun z => A.grow 3 1 z.1 z.2 X.length (ints X)) (I := fun _ => True) (vs := [bsV q, zv p, zv d]) rfl rfl (fun w' hM => e1 w' (hM.base (q := q) memA)) ?_
              rintro ⟨ax, cx⟩ -
              dsimp only
              apply HA.fold
              refine HA.all [19] (by kernel_rfl) rfl ⟨⟨_, rfl, ?_⟩, trivial⟩
              refine HO.one_a rfl ?_
              refine H1.callz1 (α := Option Addr × Nat) (V := fun z => .slice z.1 X.length z.2) (An := fun z => A.grow 3 1 z.1 z.2 X.length (ints X)) (I := fun _ => True) (vs := [bsV u, zv p, zv d]) rfl rfl (fun w' hM => e2 w' (hM.base (q := u) memA)) ?_
              rintro ⟨ay, cy⟩ -
              dsimp only
              apply HA.fold
              refine HA.all [20] (by kernel_rfl) rfl ⟨⟨_, rfl, ?_⟩, trivial⟩
              refine HO.one_a rfl ?_
              refine H1.callx (u := .bool true) (vs := [.slice ax X.length cx, .slice ay X.length cy]) rfl rfl (fun w' hM => (SameInts_fn _ _ X X w' (hM.gr (xs := ints X) (a := ax) memA) (hM.gr (xs := ints X) (a := ay) memA) (by omega)).mono fun v w'' h => ⟨h.1.trans (by rw [decide_eq_true rfl]), h.2⟩) ?_
              apply HA.fold
              refine HA.pa 21 rfl ?_
              refine HA.pa 22 rfl ?_
              refine HA.done (by kernel_rfl) ?_
              exact HX.cut () trivial esA (by repeat (first | exact Hs.nil _ | (refine Hs.cons pickA ?_)))
          · refine HO.one_a rfl ?_
            refine H1.ldAgg (vs := row 8 fun i => slot (u i)) rfl memA rfl (fun i v hv => by rw [Nat.zero_add]; exact hv) rfl ?_
            apply HA.fold
            refine HA.all [12] (by kernel_rfl) rfl ⟨⟨_, rfl, ?_⟩, trivial⟩
            refine HO.one_a rfl ?_
            refine H1.ldAgg (vs := row 8 fun i => slot (q i)) rfl memA rfl (fun i v hv => by rw [Nat.zero_add]; exact hv) rfl ?_
            apply HA.fold
            refine HA.all [15] (by kernel_rfl) rfl ⟨⟨_, rfl, ?_⟩, trivial⟩
            refine HO.one_a rfl ?_
            refine H1.callz1 (α := Option Addr × Nat) (V := fun z => .slice z.1 X.length z.2) (An := fun z => A.grow 3 1 z.1 z.2 X.length (ints X)) (I := fun _ => True) (vs := [bsV q, zv p, zv d]) rfl rfl (fun w' hM => e1 w' (hM.base (q := q) memA)) ?_
            rintro ⟨ax, cx⟩ -
            dsimp only
            apply HA.fold
            refine HA.all [19] (by kernel_rfl) rfl ⟨⟨_, rfl, ?_⟩, trivial⟩
            refine HO.one_a rfl ?_
            refine H1.callz1 (α := Option Addr × Nat) (V := fun z => .slice z.1 X.length z.2) (An := fun z => A.grow 3 1 z.1 z.2 X.length (ints X)) (I := fun _ => True) (vs := [bsV u, zv p, zv d]) rfl rfl (fun w' hM => e2 w' (hM.base (q := u) memA)) ?_
            rintro ⟨ay, cy⟩ -
            dsimp only
            apply HA.fold
            refine HA.all [20] (by kernel_rfl) rfl ⟨⟨_, rfl, ?_⟩, trivial⟩
            refine HO.one_a rfl ?_
            refine H1.callx (u := .bool true) (vs := [.slice ax X.length cx, .slice ay X.length cy]) rfl rfl (fun w' hM => (SameInts_fn _ _ X X w' (hM.gr (xs := ints X) (a := ax) memA) (hM.gr (xs := ints X) (a := ay) memA) (by omega)).mono fun v w'' h => ⟨h.1.trans (by rw [decide_eq_true rfl]), h.2⟩) ?_
            apply HA.fold
            refine HA.pa 21 rfl ?_
            refine HA.pa 22 rfl ?_
            refine HA.done (by kernel_rfl) ?_
            exact HX.cut () trivial esA (by repeat (first | exact Hs.nil _ | (refine Hs.cons pickA ?_)))
      · refine HO.one ?_
        refine H1.ldAgg (vs := row 8 fun i => slot (u i)) rfl memA rfl (fun i v hv => by rw [Nat.zero_add]; exact hv) rfl ?_
        apply HA.fold
        refine HA.all [0] (by kernel_rfl) rfl ⟨⟨_, rfl, ?_⟩, trivial⟩
        refine HO.one ?_
        refine H1.ldAgg (vs := row 8 fun i => slot (q i)) rfl memA rfl (fun i v hv => by rw [Nat.zero_add]; exact hv) rfl ?_
        apply HA.fold
        refine HA.all [4] (by kernel_rfl) rfl ⟨⟨_, rfl, ?_⟩, trivial⟩
        refine HO.one ?_
        refine H1.callx (u := .bool C) (vs := [bsV q, zv p, zv b, zv d]) rfl rfl (fun w' hM => c1 w' (hM.base (q := q) memA)) ?_
        apply HA.fold
        refine HA.all [9] (by kernel_rfl) rfl ⟨⟨_, rfl, ?_⟩, trivial⟩
        refine HO.one ?_
        refine H1.callx (u := .bool C) (vs := [bsV u, zv p, zv b, zv d]) rfl rfl (fun w' hM => c2 w' (hM.base (q := u) memA)) ?_
        apply HA.fold
        refine HA.pa (v := .bool true) 10 rfl ?_ (POp.beqC rfl rfl rfl)
        refine HA.pa 11 rfl ?_
        first | refine HA.ga 13 rfl rfl ?_ | refine HA.na 13 rfl rfl ?_ | refine HA.nu 13 rfl rfl ?_
        first | refine HA.ga 14 rfl rfl ?_ | refine HA.na 14 rfl rfl ?_ | refine HA.nu 14 rfl rfl ?_
        first | refine HA.ga 17 rfl rfl ?_ | refine HA.na 17 rfl rfl ?_ | refine HA.nu 17 rfl rfl ?_
        first | refine HA.ga 18 rfl rfl ?_ | refine HA.na 18 rfl rfl ?_ | refine HA.nu 18 rfl rfl ?_
        refine HA.all [12, 16] (by kernel_rfl) rfl ⟨⟨_, rfl, ?_⟩, ⟨_, rfl, ?_⟩, trivial⟩
        · refine HO.one_a rfl ?_
          refine H1.ldAgg (vs := row 8 fun i => slot (q i)) rfl memA rfl (fun i v hv => by rw [Nat.zero_add]; exact hv) rfl ?_
          apply HA.fold
          refine HA.all [15, 16] (by kernel_rfl) rfl ⟨⟨_, rfl, ?_⟩, ⟨_, rfl, ?_⟩, trivial⟩
          · refine HO.one_a rfl ?_
            refine H1.callz1 (α := Option Addr × Nat) (V := fun z => .slice z.1 X.length z.2) (An := fun z => A.grow 3 1 z.1 z.2 X.length (ints X)) (I := fun _ => True) (vs := [bsV q, zv p, zv d]) rfl rfl (fun w' hM => e1 w' (hM.base (q := q) memA)) ?_
            rintro ⟨ax, cx⟩ -
            dsimp only
            apply HA.fold
            refine HA.all [16] (by kernel_rfl) rfl ⟨⟨_, rfl, ?_⟩, trivial⟩
            refine HO.one_a rfl ?_
            refine H1.ldAgg (vs := row 8 fun i => slot (u i)) rfl memA rfl (fun i v hv => by rw [Nat.zero_add]; exact hv) rfl ?_
            apply HA.fold
            refine HA.all [19] (by kernel_rfl) rfl ⟨⟨_, rfl, ?_⟩, trivial⟩
            refine HO.one_a rfl ?_
            refine H1.callz1 (α := Option Addr × Nat) (V := fun z => .slice z.1 X.length z.2) (An := fun z => A.grow 3 1 z.1 z.2 X.length (ints X)) (I := fun _ => True) (vs := [bsV u, zv p, zv d]) rfl rfl (fun w' hM => e2 w' (hM.base (q := u) memA)) ?_
            rintro ⟨ay, cy⟩ -
            dsimp only
            apply HA.fold
            refine HA.all [20] (by kernel_rfl) rfl ⟨⟨_, rfl, ?_⟩, trivial⟩
            refine HO.one_a rfl ?_
            refine H1.callx (u := .bool true) (vs := [.slice ax X.length cx, .slice ay X.length cy]) rfl rfl (fun w' hM => (SameInts_fn _ _ X X w' (hM.gr (xs := ints X) (a := ax) memA) (hM.gr (xs := ints X) (a := ay) memA) (by omega)).mono fun v w'' h => ⟨h.1.trans (by rw [decide_eq_true rfl]), h.2⟩) ?_
            apply HA.fold
            refine HA.pa 21 rfl ?_
            refine HA.pa 22 rfl ?_
            refine HA.done (by kernel_rfl) ?_
            exact HX.cut () trivial esA (by repeat (first | exact Hs.nil _ | (refine Hs.cons pickA ?_)))
          · refine HO.one_a rfl ?_
            refine H1.ldAgg (vs := row 8 fun i => slot (u i)) rfl memA rfl (fun i v hv => by rw [Nat.zero_add]; exact hv) rfl ?_
            apply HA.fold
            refine HA.all [15] (by kernel_rfl) rfl ⟨⟨_, rfl, ?_⟩, trivial⟩
            refine HO.one_a rfl ?_
            refine H1.callz1 (α := Option Addr × Nat) (V := fun z => .slice z.1 X.length z.2) (An := fun z => A.grow 3 1 z.1 z.2 X.length (ints X)) (I := fun _ => True) (vs := [bsV q, zv p, zv d]) rfl rfl (fun w' hM => e1 w' (hM.base (q := q) memA)) ?_
            rintro ⟨ax, cx⟩ -
            dsimp only
            apply HA.fold
            refine HA.all [19] (by kernel_rfl) rfl ⟨⟨_, rfl, ?_⟩, trivial⟩
            refine HO.one_a rfl ?_
            refine H1.callz1 (α := Option Addr × Nat) (V := fun z => .slice z.1 X.length z.2) (An := fun z => A.grow 3 1 z.1 z.2 X.length (ints X)) (I := fun _ => True) (vs := [bsV u, zv p, zv d]) rfl rfl (fun w' hM => e2 w' (hM.base (q := u) memA)) ?_
            rintro ⟨ay, cy⟩ -
            dsimp only
            apply HA.fold
            refine HA.all [20] (by kernel_rfl) rfl ⟨⟨_, rfl, ?_⟩, trivial⟩
            refine HO.one_a rfl ?_
            refine H1.callx (u := .bool true) (vs := [.slice ax X.length cx, .slice ay X.length cy]) rfl rfl (fun w' hM => (SameInts_fn _ _ X X w' (hM.gr (xs := ints X) (a := ax) memA) (hM.gr (xs := ints X) (a := ay) memA) (by omega)).mono fun v w'' h => ⟨h.1.trans (by rw [decide_eq_true rfl]), h.2⟩) ?_
            apply HA.fold
            refine HA.pa 21 rfl ?_
            refine HA.pa 22 rfl ?_
            refine HA.done (by kernel_rfl) ?_
            exact HX.cut () trivial esA (by repeat (first | exact Hs.nil _ | (refine Hs.cons pickA ?_)))
        · refine HO.one_a rfl ?_
          refine H1.ldAgg (vs := row 8 fun i => slot (u i)) rfl memA rfl (fun i v hv => by rw [Nat.zero_add]; exact hv) rfl ?_
          apply HA.fold
          refine HA.all [12] (by kernel_rfl) rfl ⟨⟨_, rfl, ?_⟩, trivial⟩
          refine HO.one_a rfl ?_
          refine H1.ldAgg (vs := row 8 fun i => slot (q i)) rfl memA rfl (fun i v hv => by rw [Nat.zero_add]; exact hv) rfl ?_
          apply HA.fold
          refine HA.all [15] (by kernel_rfl) rfl ⟨⟨_, rfl, ?_⟩, trivial⟩
          refine HO.one_a rfl ?_
          refine H1.callz1 (α := Option Addr × Nat) (V := fun z => .slice z.1 X.length z.2) (An := fun z => A.grow 3 1 z.1 z.2 X.length (ints X)) (I := fun _ => True) (vs := [bsV q, zv p, zv d]) rfl rfl (fun w' hM => e1 w' (hM.base (q := q) memA)) ?_
          rintro ⟨ax, cx⟩ -
          dsimp only
          apply HA.fold
          refine HA.all [19] (by kernel_rfl) rfl ⟨⟨_, rfl, ?_⟩, trivial⟩
          refine HO.one_a rfl ?_
          refine H1.callz1 (α := Option Addr × Nat) (V := fun z => .slice z.1 X.length z.2) (An := fun z => A.grow 3 1 z.1 z.2 X.length (ints X)) (I := fun _ => True) (vs := [bsV u, zv p, zv d]) rfl rfl (fun w' hM => e2 w' (hM.base (q := u) memA)) ?_
          rintro ⟨ay, cy⟩ -
          dsimp only
          apply HA.fold
          refine HA.all [20] (by kernel_rfl) rfl ⟨⟨_, rfl, ?_⟩, trivial⟩
          refine HO.one_a rfl ?_
          refine H1.callx (u := .bool true) (vs := [.slice ax X.length cx, .slice ay X.length cy]) rfl rfl (fun w' hM => (SameInts_fn _ _ X X w' (hM.gr (xs := ints X) (a := ax) memA) (hM.gr (xs := ints X) (a := ay) memA) (by omega)).mono fun v w'' h => ⟨h.1.trans (by rw [decide_eq_true rfl]), h.2⟩) ?_
          apply HA.fold
          refine HA.pa 21 rfl ?_
          refine HA.pa 22 rfl ?_
          refine HA.done (by kernel_rfl) ?_
          exact HX.cut () trivial esA (by repeat (first | exact Hs.nil _ | (refine Hs.cons pickA ?_)))
    rintro - -
    clear c1 c2 e1 e2 le
    repeat' (first | refine HL.pa ?_ (POp.beqC rfl rfl (by first | rfl | decide)) | apply HL.fold | apply HA.fold | apply HL.nil | apply HX.n_then | apply HC.seq | apply HC.region | refine HL.pa ?_ | refine HL.ga rfl ?_ | refine HL.na rfl ?_ | refine HL.nu rfl rfl ?_ | apply HC.block | apply HC.skip | apply HC.exit | apply HC.ret | apply HX.e_block | refine HX.e_other rfl ?_ | apply HX.e_then | apply HX.e_again | apply HX.n_block | apply HX.r_then | apply HX.r_block | apply HX.r_again | refine HC.cond_yes rfl ?_ | refine HC.cond_no rfl ?_ | refine HL.one (H1.ldb rfl memA rfl rfl ?_) | refine HC.cond rfl (fun hc => ?_) (fun hc => ?_) | refine HC.cond_b rfl (fun hc => ?_) (fun hc => ?_))
    refine HC.any rfl ?_
    refine HA.pa 0 rfl ?_
    refine HA.pa 1 rfl ?_
    first | refine HA.ga 2 rfl rfl ?_ | refine HA.na 2 rfl rfl ?_ | refine HA.nu 2 rfl rfl ?_
    refine HA.pa 3 rfl ?_
    refine HA.pa 4 rfl ?_
    first | refine HA.ga 6 rfl rfl ?_ | refine HA.na 6 rfl rfl ?_ | refine HA.nu 6 rfl rfl ?_
    first | refine HA.ga 7 rfl rfl ?_ | refine HA.na 7 rfl rfl ?_ | refine HA.nu 7 rfl rfl ?_
    first | refine HA.ga 10 rfl rfl ?_ | refine HA.na 10 rfl rfl ?_ | refine HA.nu 10 rfl rfl ?_
    first | refine HA.ga 11 rfl rfl ?_ | refine HA.na 11 rfl rfl ?_ | refine HA.nu 11 rfl rfl ?_
    refine HA.all [5, 9] (by kernel_rfl) rfl ⟨⟨_, rfl, ?_⟩, ⟨_, rfl, ?_⟩, trivial⟩
    · refine HO.one_a rfl ?_
      refine H1.ldAgg (vs := row 8 fun i => slot (q i)) rfl memA rfl (fun i v hv => by rw [Nat.zero_add]; exact hv) rfl ?_
      apply HA.fold
      refine HA.all [8, 9] (by kernel_rfl) rfl ⟨⟨_, rfl, ?_⟩, ⟨_, rfl, ?_⟩, trivial⟩
      · refine HO.one_a rfl ?_
        refine H1.callz1 (α := Option Addr × Nat) (V := fun z => .slice z.1 Y.length z.2) (An := fun z => A.grow 3 1 z.1 z.2 Y.length (ints Y)) (I := fun _ => True) (vs := [bsV q, zv p, zv d]) rfl rfl (fun w' hM => h1 w' (hM.base (q := q) memA)) ?_
        rintro ⟨ax, cx⟩ -
        dsimp only
        apply HA.fold
        refine HA.all [9] (by kernel_rfl) rfl ⟨⟨_, rfl, ?_⟩, trivial⟩
        refine HO.one_a rfl ?_
        refine H1.ldAgg (vs := row 8 fun i => slot (u i)) rfl memA rfl (fun i v hv => by rw [Nat.zero_add]; exact hv) rfl ?_
        apply HA.fold
        refine HA.all [12] (by kernel_rfl) rfl ⟨⟨_, rfl, ?_⟩, trivial⟩
        refine HO.one_a rfl ?_
        refine H1.callz1 (α := Option Addr × Nat) (V := fun z => .slice z.1 Y.length z.2) (An := fun z => A.grow 3 1 z.1 z.2 Y.length (ints Y)) (I := fun _ => True) (vs := [bsV u, zv p, zv d]) rfl rfl (fun w' hM => h2 w' (hM.base (q := u) memA)) ?_
        rintro ⟨ay, cy⟩ -
        dsimp only
        apply HA.fold
        refine HA.all [13] (by kernel_rfl) rfl ⟨⟨_, rfl, ?_⟩, trivial⟩
        refine HO.one_a rfl ?_
        refine H1.callx (u := .bool true) (vs := [.slice ax Y.length cx, .slice ay Y.length cy]) rfl rfl (fun w' hM => (SameInts_fn _ _ Y Y w' (hM.gr (xs := ints Y) (a := ax) memA) (hM.gr (xs := ints Y) (a := ay) memA) (by omega)).mono fun v w'' h => ⟨h.1.trans (by rw [decide_eq_true rfl]), h.2⟩) ?_
        apply HA.fold
        refine HA.pa 14 rfl ?_
        refine HA.pa 15 rfl ?_
        first | refine HA.ga 17 rfl rfl ?_ | refine HA.na 17 rfl rfl ?_ | refine HA.nu 17 rfl rfl ?_
        first | refine HA.ga 18 rfl rfl ?_ | refine HA.na 18 rfl rfl ?_ | refine HA.nu 18 rfl rfl ?_
        first | refine HA.ga 19 rfl rfl ?_ | refine HA.na 19 rfl rfl ?_ | refine HA.nu 19 rfl rfl ?_
        first | refine HA.ga 22 rfl rfl ?_ | refine HA.na 22 rfl rfl ?_ | refine HA.nu 22 rfl rfl ?_
        first | refine HA.ga 23 rfl rfl ?_ | refine HA.na 23 rfl rfl ?_ | refine HA.nu 23 rfl rfl ?_
        first | refine HA.ga 24 rfl rfl ?_ | refine HA.na 24 rfl rfl ?_ | refine HA.nu 24 rfl rfl ?_
        refine HA.all [16, 21] (by kernel_rfl) rfl ⟨⟨_, rfl, ?_⟩, ⟨_, rfl, ?_⟩, trivial⟩
        · refine HO.one_a rfl ?_
          refine H1.ldAgg (vs := row 8 fun i => slot (q i)) rfl memA rfl (fun i v hv => by rw [Nat.zero_add]; exact hv) rfl ?_
          apply HA.fold
          refine HA.all [20, 21] (by kernel_rfl) rfl ⟨⟨_, rfl, ?_⟩, ⟨_, rfl, ?_⟩, trivial⟩
          · refine HO.one_a rfl ?_
            refine H1.callz1 (α := Option Addr × Nat) (V := fun z => .slice z.1 Z.length z.2) (An := fun z => A.grow 3 1 z.1 z.2 Z.length (ints Z)) (I := fun _ => True) (vs := [bsV q, zv p, zv b, zv d]) rfl rfl (fun w' hM => i1 w' (hM.base (q := q) memA)) ?_
            rintro ⟨az, cz⟩ -
            dsimp only
            apply HA.fold
            refine HA.all [21] (by kernel_rfl) rfl ⟨⟨_, rfl, ?_⟩, trivial⟩
            refine HO.one_a rfl ?_
            refine H1.ldAgg (vs := row 8 fun i => slot (u i)) rfl memA rfl (fun i v hv => by rw [Nat.zero_add]; exact hv) rfl ?_
            apply HA.fold
            refine HA.all [25] (by kernel_rfl) rfl ⟨⟨_, rfl, ?_⟩, trivial⟩
            refine HO.one_a rfl ?_
            refine H1.callz1 (α := Option Addr × Nat) (V := fun z => .slice z.1 Z.length z.2) (An := fun z => A.grow 3 1 z.1 z.2 Z.length (ints Z)) (I := fun _ => True) (vs := [bsV u, zv p, zv b, zv d]) rfl rfl (fun w' hM => i2 w' (hM.base (q := u) memA)) ?_
            rintro ⟨ao2, co2⟩ -
            dsimp only
            apply HA.fold
            refine HA.all [26] (by kernel_rfl) rfl ⟨⟨_, rfl, ?_⟩, trivial⟩
            refine HO.one_a rfl ?_
            refine H1.callx (u := .bool true) (vs := [.slice az Z.length cz, .slice ao2 Z.length co2]) rfl rfl (fun w' hM => (SameInts_fn _ _ Z Z w' (hM.gr (xs := ints Z) (a := az) memA) (hM.gr (xs := ints Z) (a := ao2) memA) (by omega)).mono fun v w'' h => ⟨h.1.trans (by rw [decide_eq_true rfl]), h.2⟩) ?_
            apply HA.fold
            refine HA.pa 27 rfl ?_
            refine HA.pa 28 rfl ?_
            refine HA.done (by kernel_rfl) ?_
            repeat' (first | refine HL.pa ?_ (POp.beqC rfl rfl (by first | rfl | decide)) | apply HL.fold | apply HA.fold | apply HL.nil | apply HX.n_then | apply HC.seq | apply HC.region | refine HL.pa ?_ | refine HL.ga rfl ?_ | refine HL.na rfl ?_ | refine HL.nu rfl rfl ?_ | apply HC.block | apply HC.skip | apply HC.exit | apply HC.ret | apply HX.e_block | refine HX.e_other rfl ?_ | apply HX.e_then | apply HX.e_again | apply HX.n_block | apply HX.r_then | apply HX.r_block | apply HX.r_again | refine HC.cond_yes rfl ?_ | refine HC.cond_no rfl ?_ | refine HL.one (H1.ldb rfl memA rfl rfl ?_) | refine HC.cond rfl (fun hc => ?_) (fun hc => ?_) | refine HC.cond_b rfl (fun hc => ?_) (fun hc => ?_))
            exact HX.ret1 rfl rfl fun w' hM => ⟨rfl, hM.ext⟩
          · refine HO.one_a rfl ?_
            refine H1.ldAgg (vs := row 8 fun i => slot (u i)) rfl memA rfl (fun i v hv => by rw [Nat.zero_add]; exact hv) rfl ?_
            apply HA.fold
            refine HA.all [20] (by kernel_rfl) rfl ⟨⟨_, rfl, ?_⟩, trivial⟩
            refine HO.one_a rfl ?_
            refine H1.callz1 (α := Option Addr × Nat) (V := fun z => .slice z.1 Z.length z.2) (An := fun z => A.grow 3 1 z.1 z.2 Z.length (ints Z)) (I := fun _ => True) (vs := [bsV q, zv p, zv b, zv d]) rfl rfl (fun w' hM => i1 w' (hM.base (q := q) memA)) ?_
            rintro ⟨az, cz⟩ -
            dsimp only
            apply HA.fold
            refine HA.all [25] (by kernel_rfl) rfl ⟨⟨_, rfl, ?_⟩, trivial⟩
            refine HO.one_a rfl ?_
            refine H1.callz1 (α := Option Addr × Nat) (V := fun z => .slice z.1 Z.length z.2) (An := fun z => A.grow 3 1 z.1 z.2 Z.length (ints Z)) (I := fun _ => True) (vs := [bsV u, zv p, zv b, zv d]) rfl rfl (fun w' hM => i2 w' (hM.base (q := u) memA)) ?_
            rintro ⟨ao2, co2⟩ -
            dsimp only
            apply HA.fold
            refine HA.all [26] (by kernel_rfl) rfl ⟨⟨_, rfl, ?_⟩, trivial⟩
            refine HO.one_a rfl ?_
            refine H1.callx (u := .bool true) (vs := [.slice az Z.length cz, .slice ao2 Z.length co2]) rfl rfl (fun w' hM => (SameInts_fn _ _ Z Z w' (hM.gr (xs := ints Z) (a := az) memA) (hM.gr (xs := ints Z) (a := ao2) memA) (by omega)).mono fun v w'' h => ⟨h.1.trans (by rw [decide_eq_true rfl]), h.2⟩) ?_
            apply HA.fold
            refine HA.pa 27 rfl ?_
            refine HA.pa 28 rfl ?_
            refine HA.done (by kernel_rfl) ?_
            repeat' (first | refine HL.pa ?_ (POp.beqC rfl rfl (by first | rfl | decide)) | apply HL.fold | apply HA.fold | apply HL.nil | apply HX.n_then | apply HC.seq | apply HC.region | refine HL.pa ?_ | refine HL.ga rfl ?_ | refine HL.na rfl ?_ | refine HL.nu rfl rfl ?_ | apply HC.block | apply HC.skip | apply HC.exit | apply HC.ret | apply HX.e_block | refine HX.e_other rfl ?_ | apply HX.e_then | apply HX.e_again | apply HX.n_block | apply HX.r_then | apply HX.r_block | apply HX.r_again | refine HC.cond_yes rfl ?_ | refine HC.cond_no rfl ?_ | refine HL.one (H1.ldb rfl memA rfl rfl ?_) | refine HC.cond rfl (fun hc => ?_) (fun hc => ?_) | refine HC.cond_b rfl (fun hc => ?_) (fun hc => ?_))
            exact HX.ret1 rfl rfl fun w' hM => ⟨rfl, hM.ext⟩
        · refine HO.one_a rfl ?_
          refine H1.ldAgg (vs := row 8 fun i => slot (u i)) rfl memA rfl (fun i v hv => by rw [Nat.zero_add]; exact hv) rfl ?_
          apply HA.fold
          refine HA.all [16] (by kernel_rfl) rfl ⟨⟨_, rfl, ?_⟩, trivial⟩
          refine HO.one_a rfl ?_
          refine H1.ldAgg (vs := row 8 fun i => slot (q i)) rfl memA rfl (fun i v hv => by rw [Nat.zero_add]; exact hv) rfl ?_
          apply HA.fold
          refine HA.all [20] (by kernel_rfl) rfl ⟨⟨_, rfl, ?_⟩, trivial⟩
          refine HO.one_a rfl ?_
          refine H1.callz1 (α := Option Addr × Nat) (V := fun z => .slice z.1 Z.length z.2) (An := fun z => A.grow 3 1 z.1 z.2 Z.length (ints Z)) (I := fun _ => True) (vs := [bsV q, zv p, zv b, zv d]) rfl rfl (fun w' hM => i1 w' (hM.base (q := q) memA)) ?_
          rintro ⟨az, cz⟩ -
          dsimp only
          apply HA.fold
          refine HA.all [25] (by kernel_rfl) rfl ⟨⟨_, rfl, ?_⟩, trivial⟩
          refine HO.one_a rfl ?_
          refine H1.callz1 (α := Option Addr × Nat) (V := fun z => .slice z.1 Z.length z.2) (An := fun z => A.grow 3 1 z.1 z.2 Z.length (ints Z)) (I := fun _ => True) (vs := [bsV u, zv p, zv b, zv d]) rfl rfl (fun w' hM => i2 w' (hM.base (q := u) memA)) ?_
          rintro ⟨ao2, co2⟩ -
          dsimp only
          apply HA.fold
          refine HA.all [26] (by kernel_rfl) rfl ⟨⟨_, rfl, ?_⟩, trivial⟩
          refine HO.one_a rfl ?_
          refine H1.callx (u := .bool true) (vs := [.slice az Z.length cz, .slice ao2 Z.length co2]) rfl rfl (fun w' hM => (SameInts_fn _ _ Z Z w' (hM.gr (xs := ints Z) (a := az) memA) (hM.gr (xs := ints Z) (a := ao2) memA) (by omega)).mono fun v w'' h => ⟨h.1.trans (by rw [decide_eq_true rfl]), h.2⟩) ?_
          apply HA.fold
          refine HA.pa 27 rfl ?_
          refine HA.pa 28 rfl ?_
          refine HA.done (by kernel_rfl) ?_
          repeat' (first | refine HL.pa ?_ (POp.beqC rfl rfl (by first | rfl | decide)) | apply HL.fold | apply HA.fold | apply HL.nil | apply HX.n_then | apply HC.seq | apply HC.region | refine HL.pa ?_ | refine HL.ga rfl ?_ | refine HL.na rfl ?_ | refine HL.nu rfl rfl ?_ | apply HC.block | apply HC.skip | apply HC.exit | apply HC.ret | apply HX.e_block | refine HX.e_other rfl ?_ | apply HX.e_then | apply HX.e_again | apply HX.n_block | apply HX.r_then | apply HX.r_block | apply HX.r_again | refine HC.cond_yes rfl ?_ | refine HC.cond_no rfl ?_ | refine HL.one (H1.ldb rfl memA rfl rfl ?_) | refine HC.cond rfl (fun hc => ?_) (fun hc => ?_) | refine HC.cond_b rfl (fun hc => ?_) (fun hc => ?_))
          exact HX.ret1 rfl rfl fun w' hM => ⟨rfl, hM.ext⟩
      · refine HO.one_a rfl ?_
        refine H1.ldAgg (vs := row 8 fun i => slot (u i)) rfl memA rfl (fun i v hv => by rw [Nat.zero_add]; exact hv) rfl ?_
        apply HA.fold
        refine HA.all [8] (by kernel_rfl) rfl ⟨⟨_, rfl, ?_⟩, trivial⟩
        refine HO.one_a rfl ?_
        refine H1.callz1 (α := Option Addr × Nat) (V := fun z => .slice z.1 Y.length z.2) (An := fun z => A.grow 3 1 z.1 z.2 Y.length (ints Y)) (I := fun _ => True) (vs := [bsV q, zv p, zv d]) rfl rfl (fun w' hM => h1 w' (hM.base (q := q) memA)) ?_
        rintro ⟨ax, cx⟩ -
        dsimp only
        apply HA.fold
        refine HA.all [12] (by kernel_rfl) rfl ⟨⟨_, rfl, ?_⟩, trivial⟩
        refine HO.one_a rfl ?_
        refine H1.callz1 (α := Option Addr × Nat) (V := fun z => .slice z.1 Y.length z.2) (An := fun z => A.grow 3 1 z.1 z.2 Y.length (ints Y)) (I := fun _ => True) (vs := [bsV u, zv p, zv d]) rfl rfl (fun w' hM => h2 w' (hM.base (q := u) memA)) ?_
        rintro ⟨ay, cy⟩ -
        dsimp only
        apply HA.fold
        refine HA.all [13] (by kernel_rfl) rfl ⟨⟨_, rfl, ?_⟩, trivial⟩
        refine HO.one_a rfl ?_
        refine H1.callx (u := .bool true) (vs := [.slice ax Y.length cx, .slice ay Y.length cy]) rfl rfl (fun w' hM => (SameInts_fn _ _ Y Y w' (hM.gr (xs := ints Y) (a := ax) memA) (hM.gr (xs := ints Y) (a := ay) memA) (by omega)).mono fun v w'' h => ⟨h.1.trans (by rw [decide_eq_true rfl]), h.2⟩) ?_
        apply HA.fold
        refine HA.pa 14 rfl ?_
        refine HA.pa 15 rfl ?_
        first | refine HA.ga 17 rfl rfl ?_ | refine HA.na 17 rfl rfl ?_ | refine HA.nu 17 rfl rfl ?_
        first | refine HA.ga 18 rfl rfl ?_ | refine HA.na 18 rfl rfl ?_ | refine HA.nu 18 rfl rfl ?_
        first | refine HA.ga 19 rfl rfl ?_ | refine HA.na 19 rfl rfl ?_ | refine HA.nu 19 rfl rfl ?_
        first | refine HA.ga 22 rfl rfl ?_ | refine HA.na 22 rfl rfl ?_ | refine HA.nu 22 rfl rfl ?_
        first | refine HA.ga 23 rfl rfl ?_ | refine HA.na 23 rfl rfl ?_ | refine HA.nu 23 rfl rfl ?_
        first | refine HA.ga 24 rfl rfl ?_ | refine HA.na 24 rfl rfl ?_ | refine HA.nu 24 rfl rfl ?_
        refine HA.all [16, 21] (by kernel_rfl) rfl ⟨⟨_, rfl, ?_⟩, ⟨_, rfl, ?_⟩, trivial⟩
        · refine HO.one_a rfl ?_
          refine H1.ldAgg (vs := row 8 fun i => slot (q i)) rfl memA rfl (fun i v hv => by rw [Nat.zero_add]; exact hv) rfl ?_
          apply HA.fold
          refine HA.all [20, 21] (by kernel_rfl) rfl ⟨⟨_, rfl, ?_⟩, ⟨_, rfl, ?_⟩, trivial⟩
          · refine HO.one_a rfl ?_
            refine H1.callz1 (α := Option Addr × Nat) (V := fun z => .slice z.1 Z.length z.2) (An := fun z => A.grow 3 1 z.1 z.2 Z.length (ints Z)) (I := fun _ => True) (vs := [bsV q, zv p, zv b, zv d]) rfl rfl (fun w' hM => i1 w' (hM.base (q := q) memA)) ?_
            rintro ⟨az, cz⟩ -
            dsimp only
            apply HA.fold
            refine HA.all [21] (by kernel_rfl) rfl ⟨⟨_, rfl, ?_⟩, trivial⟩
            refine HO.one_a rfl ?_
            refine H1.ldAgg (vs := row 8 fun i => slot (u i)) rfl memA rfl (fun i v hv => by rw [Nat.zero_add]; exact hv) rfl ?_
            apply HA.fold
            refine HA.all [25] (by kernel_rfl) rfl ⟨⟨_, rfl, ?_⟩, trivial⟩
            refine HO.one_a rfl ?_
            refine H1.callz1 (α := Option Addr × Nat) (V := fun z => .slice z.1 Z.length z.2) (An := fun z => A.grow 3 1 z.1 z.2 Z.length (ints Z)) (I := fun _ => True) (vs := [bsV u, zv p, zv b, zv d]) rfl rfl (fun w' hM => i2 w' (hM.base (q := u) memA)) ?_
            rintro ⟨ao2, co2⟩ -
            dsimp only
            apply HA.fold
            refine HA.all [26] (by kernel_rfl) rfl ⟨⟨_, rfl, ?_⟩, trivial⟩
            refine HO.one_a rfl ?_
            refine H1.callx (u := .bool true) (vs := [.slice az Z.length cz, .slice ao2 Z.length co2]) rfl rfl (fun w' hM => (SameInts_fn _ _ Z Z w' (hM.gr (xs := ints Z) (a := az) memA) (hM.gr (xs := ints Z) (a := ao2) memA) (by omega)).mono fun v w'' h => ⟨h.1.trans (by rw [decide_eq_true rfl]), h.2⟩) ?_
            apply HA.fold
            refine HA.pa 27 rfl ?_
            refine HA.pa 28 rfl ?_
            refine HA.done (by kernel_rfl) ?_
            repeat' (first | refine HL.pa ?_ (POp.beqC rfl rfl (by first | rfl | decide)) | apply HL.fold | apply HA.fold | apply HL.nil | apply HX.n_then | apply HC.seq | apply HC.region | refine HL.pa ?_ | refine HL.ga rfl ?_ | refine HL.na rfl ?_ | refine HL.nu rfl rfl ?_ | apply HC.block | apply HC.skip | apply HC.exit | apply HC.ret | apply HX.e_block | refine HX.e_other rfl ?_ | apply HX.e_then | apply HX.e_again | apply HX.n_block | apply HX.r_then | apply HX.r_block | apply HX.r_again | refine HC.cond_yes rfl ?_ | refine HC.cond_no rfl ?_ | refine HL.one (H1.ldb rfl memA rfl rfl ?_) | refine HC.cond rfl (fun hc => ?_) (fun hc => ?_) | refine HC.cond_b rfl (fun hc => ?_) (fun hc => ?_))
            exact HX.ret1 rfl rfl fun w' hM => ⟨rfl, hM.ext⟩
          · refine HO.one_a rfl ?_
            refine H1.ldAgg (vs := row 8 fun i => slot (u i)) rfl memA rfl (fun i v hv => by rw [Nat.zero_add]; exact hv) rfl ?_
            apply HA.fold
            refine HA.all [20] (by kernel_rfl) rfl ⟨⟨_, rfl, ?_⟩, trivial⟩
            refine HO.one_a rfl ?_
            refine H1.callz1 (α := Option Addr × Nat) (V := fun z => .slice z.1 Z.length z.2) (An := fun z => A.grow 3 1 z.1 z.2 Z.length (ints Z)) (I := fun _ => True) (vs := [bsV q, zv p, zv b, zv d]) rfl rfl (fun w' hM => i1 w' (hM.base (q := q) memA)) ?_
            rintro ⟨az, cz⟩ -
            dsimp only
            apply HA.fold
            refine HA.all [25] (by kernel_rfl) rfl ⟨⟨_, rfl, ?_⟩, trivial⟩
            refine HO.one_a rfl ?_
            refine H1.callz1 (α := Option Addr × Nat) (V := fun z => .slice z.1 Z.length z.2) (An := fun z => A.grow 3 1 z.1 z.2 Z.length (ints Z)) (I := fun _ => True) (vs := [bsV u, zv p, zv b, zv d]) rfl rfl (fun w' hM => i2 w' (hM.base (q := u) memA)) ?_
            rintro ⟨ao2, co2⟩ -
            dsimp only
            apply HA.fold
            refine HA.all [26] (by kernel_rfl) rfl ⟨⟨_, rfl, ?_⟩, trivial⟩
            refine HO.one_a rfl ?_
            refine H1.callx (u := .bool true) (vs := [.slice az Z.length cz, .slice ao2 Z.length co2]) rfl rfl (fun w' hM => (SameInts_fn _ _ Z Z w' (hM.gr (xs := ints Z) (a := az) memA) (hM.gr (xs := ints Z) (a := ao2) memA) (by omega)).mono fun v w'' h => ⟨h.1.trans (by rw [decide_eq_true rfl]), h.2⟩) ?_
            apply HA.fold
            refine HA.pa 27 rfl ?_
            refine HA.pa 28 rfl ?_
            refine HA.done (by kernel_rfl) ?_
            repeat' (first | refine HL.pa ?_ (POp.beqC rfl rfl (by first | rfl | decide)) | apply HL.fold | apply HA.fold | apply HL.nil | apply HX.n_then | apply HC.seq | apply HC.region | refine HL.pa ?_ | refine HL.ga rfl ?_ | refine HL.na rfl ?_ | refine HL.nu rfl rfl ?_ | apply HC.block | apply HC.skip | apply HC.exit | apply HC.ret | apply HX.e_block | refine HX.e_other rfl ?_ | apply HX.e_then | apply HX.e_again | apply HX.n_block | apply HX.r_then | apply HX.r_block | apply HX.r_again | refine HC.cond_yes rfl ?_ | refine HC.cond_no rfl ?_ | refine HL.one (H1.ldb rfl memA rfl rfl ?_) | refine HC.cond rfl (fun hc => ?_) (fun hc => ?_) | refine HC.cond_b rfl (fun hc => ?_) (fun hc => ?_))
            exact HX.ret1 rfl rfl fun w' hM => ⟨rfl, hM.ext⟩
        · refine HO.one_a rfl ?_
          refine H1.ldAgg (vs := row 8 fun i => slot (u i)) rfl memA rfl (fun i v hv => by rw [Nat.zero_add]; exact hv) rfl ?_
          apply HA.fold
          refine HA.all [16] (by kernel_rfl) rfl ⟨⟨_, rfl, ?_⟩, trivial⟩
          refine HO.one_a rfl ?_
          refine H1.ldAgg (vs := row 8 fun i => slot (q i)) rfl memA rfl (fun i v hv => by rw [Nat.zero_add]; exact hv) rfl ?_
          apply HA.fold
          refine HA.all [20] (by kernel_rfl) rfl ⟨⟨_, rfl, ?_⟩, trivial⟩
          refine HO.one_a rfl ?_
          refine H1.callz1 (α := Option Addr × Nat) (V := fun z => .slice z.1 Z.length z.2) (An := fun z => A.grow 3 1 z.1 z.2 Z.length (ints Z)) (I := fun _ => True) (vs := [bsV q, zv p, zv b, zv d]) rfl rfl (fun w' hM => i1 w' (hM.base (q := q) memA)) ?_
          rintro ⟨az, cz⟩ -
          dsimp only
          apply HA.fold
          refine HA.all [25] (by kernel_rfl) rfl ⟨⟨_, rfl, ?_⟩, trivial⟩
          refine HO.one_a rfl ?_
          refine H1.callz1 (α := Option Addr × Nat) (V := fun z => .slice z.1 Z.length z.2) (An := fun z => A.grow 3 1 z.1 z.2 Z.length (ints Z)) (I := fun _ => True) (vs := [bsV u, zv p, zv b, zv d]) rfl rfl (fun w' hM => i2 w' (hM.base (q := u) memA)) ?_
          rintro ⟨ao2, co2⟩ -
          dsimp only
          apply HA.fold
          refine HA.all [26] (by kernel_rfl) rfl ⟨⟨_, rfl, ?_⟩, trivial⟩
          refine HO.one_a rfl ?_
          refine H1.callx (u := .bool true) (vs := [.slice az Z.length cz, .slice ao2 Z.length co2]) rfl rfl (fun w' hM => (SameInts_fn _ _ Z Z w' (hM.gr (xs := ints Z) (a := az) memA) (hM.gr (xs := ints Z) (a := ao2) memA) (by omega)).mono fun v w'' h => ⟨h.1.trans (by rw [decide_eq_true rfl]), h.2⟩) ?_
          apply HA.fold
          refine HA.pa 27 rfl ?_
          refine HA.pa 28 rfl ?_
          refine HA.done (by kernel_rfl) ?_
          repeat' (first | refine HL.pa ?_ (POp.beqC rfl rfl (by first | rfl | decide)) | apply HL.fold | apply HA.fold | apply HL.nil | apply HX.n_then | apply HC.seq | apply HC.region | refine HL.pa ?_ | refine HL.ga rfl ?_ | refine HL.na rfl ?_ | refine HL.nu rfl rfl ?_ | apply HC.block | apply HC.skip | apply HC.exit | apply HC.ret | apply HX.e_block | refine HX.e_other rfl ?_ | apply HX.e_then | apply HX.e_again | apply HX.n_block | apply HX.r_then | apply HX.r_block | apply HX.r_again | refine HC.cond_yes rfl ?_ | refine HC.cond_no rfl ?_ | refine HL.one (H1.ldb rfl memA rfl rfl ?_) | refine HC.cond rfl (fun hc => ?_) (fun hc => ?_) | refine HC.cond_b rfl (fun hc => ?_) (fun hc => ?_))
          exact HX.ret1 rfl rfl fun w' hM => ⟨rfl, hM.ext⟩
    · refine HO.one_a rfl ?_
      refine H1.ldAgg (vs := row 8 fun i => slot (u i)) rfl memA rfl (fun i v hv => by rw [Nat.zero_add]; exact hv) rfl ?_
      apply HA.fold
      refine HA.all [5] (by kernel_rfl) rfl ⟨⟨_, rfl, ?_⟩, trivial⟩
      refine HO.one_a rfl ?_
      refine H1.ldAgg (vs := row 8 fun i => slot (q i)) rfl memA rfl (fun i v hv => by rw [Nat.zero_add]; exact hv) rfl ?_
      apply HA.fold
      refine HA.all [8] (by kernel_rfl) rfl ⟨⟨_, rfl, ?_⟩, trivial⟩
      refine HO.one_a rfl ?_
      refine H1.callz1 (α := Option Addr × Nat) (V := fun z => .slice z.1 Y.length z.2) (An := fun z => A.grow 3 1 z.1 z.2 Y.length (ints Y)) (I := fun _ => True) (vs := [bsV q, zv p, zv d]) rfl rfl (fun w' hM => h1 w' (hM.base (q := q) memA)) ?_
      rintro ⟨ax, cx⟩ -
      dsimp only
      apply HA.fold
      refine HA.all [12] (by kernel_rfl) rfl ⟨⟨_, rfl, ?_⟩, trivial⟩
      refine HO.one_a rfl ?_
      refine H1.callz1 (α := Option Addr × Nat) (V := fun z => .slice z.1 Y.length z.2) (An := fun z => A.grow 3 1 z.1 z.2 Y.length (ints Y)) (I := fun _ => True) (vs := [bsV u, zv p, zv d]) rfl rfl (fun w' hM => h2 w' (hM.base (q := u) memA)) ?_
      rintro ⟨ay, cy⟩ -
      dsimp only
      apply HA.fold
      refine HA.all [13] (by kernel_rfl) rfl ⟨⟨_, rfl, ?_⟩, trivial⟩
      refine HO.one_a rfl ?_
      refine H1.callx (u := .bool true) (vs := [.slice ax Y.length cx, .slice ay Y.length cy]) rfl rfl (fun w' hM => (SameInts_fn _ _ Y Y w' (hM.gr (xs := ints Y) (a := ax) memA) (hM.gr (xs := ints Y) (a := ay) memA) (by omega)).mono fun v w'' h => ⟨h.1.trans (by rw [decide_eq_true rfl]), h.2⟩) ?_
      apply HA.fold
      refine HA.pa 14 rfl ?_
      refine HA.pa 15 rfl ?_
      first | refine HA.ga 17 rfl rfl ?_ | refine HA.na 17 rfl rfl ?_ | refine HA.nu 17 rfl rfl ?_
      first | refine HA.ga 18 rfl rfl ?_ | refine HA.na 18 rfl rfl ?_ | refine HA.nu 18 rfl rfl ?_
      first | refine HA.ga 19 rfl rfl ?_ | refine HA.na 19 rfl rfl ?_ | refine HA.nu 19 rfl rfl ?_
      first | refine HA.ga 22 rfl rfl ?_ | refine HA.na 22 rfl rfl ?_ | refine HA.nu 22 rfl rfl ?_
      first | refine HA.ga 23 rfl rfl ?_ | refine HA.na 23 rfl rfl ?_ | refine HA.nu 23 rfl rfl ?_
      first | refine HA.ga 24 rfl rfl ?_ | refine HA.na 24 rfl rfl ?_ | refine HA.nu 24 rfl rfl ?_
      refine HA.all [16, 21] (by kernel_rfl) rfl ⟨⟨_, rfl, ?_⟩, ⟨_, rfl, ?_⟩, trivial⟩
      · refine HO.one_a rfl ?_
        refine H1.ldAgg (vs := row 8 fun i => slot (q i)) rfl memA rfl (fun i v hv => by rw [Nat.zero_add]; exact hv) rfl ?_
        apply HA.fold
        refine HA.all [20, 21] (by kernel_rfl) rfl ⟨⟨_, rfl, ?_⟩, ⟨_, rfl, ?_⟩, trivial⟩
        · refine HO.one_a rfl ?_
          refine H1.callz1 (α := Option Addr × Nat) (V := fun z => .slice z.1 Z.length z.2) (An := fun z => A.grow 3 1 z.1 z.2 Z.length (ints Z)) (I := fun _ => True) (vs := [bsV q, zv p, zv b, zv d]) rfl rfl (fun w' hM => i1 w' (hM.base (q := q) memA)) ?_
          rintro ⟨az, cz⟩ -
          dsimp only
          apply HA.fold
          refine HA.all [21] (by kernel_rfl) rfl ⟨⟨_, rfl, ?_⟩, trivial⟩
          refine HO.one_a rfl ?_
          refine H1.ldAgg (vs := row 8 fun i => slot (u i)) rfl memA rfl (fun i v hv => by rw [Nat.zero_add]; exact hv) rfl ?_
          apply HA.fold
          refine HA.all [25] (by kernel_rfl) rfl ⟨⟨_, rfl, ?_⟩, trivial⟩
          refine HO.one_a rfl ?_
          refine H1.callz1 (α := Option Addr × Nat) (V := fun z => .slice z.1 Z.length z.2) (An := fun z => A.grow 3 1 z.1 z.2 Z.length (ints Z)) (I := fun _ => True) (vs := [bsV u, zv p, zv b, zv d]) rfl rfl (fun w' hM => i2 w' (hM.base (q := u) memA)) ?_
          rintro ⟨ao2, co2⟩ -
          dsimp only
          apply HA.fold
          refine HA.all [26] (by kernel_rfl) rfl ⟨⟨_, rfl, ?_⟩, trivial⟩
          refine HO.one_a rfl ?_
          refine H1.callx (u := .bool true) (vs := [.slice az Z.length cz, .slice ao2 Z.length co2]) rfl rfl (fun w' hM => (SameInts_fn _ _ Z Z w' (hM.gr (xs := ints Z) (a := az) memA) (hM.gr (xs := ints Z) (a := ao2) memA) (by omega)).mono fun v w'' h => ⟨h.1.trans (by rw [decide_eq_true rfl]), h.2⟩) ?_
          apply HA.fold
          refine HA.pa 27 rfl ?_
          refine HA.pa 28 rfl ?_
          refine HA.done (by kernel_rfl) ?_
          repeat' (first | refine HL.pa ?_ (POp.beqC rfl rfl (by first | rfl | decide)) | apply HL.fold | apply HA.fold | apply HL.nil | apply HX.n_then | apply HC.seq | apply HC.region | refine HL.pa ?_ | refine HL.ga rfl ?_ | refine HL.na rfl ?_ | refine HL.nu rfl rfl ?_ | apply HC.block | apply HC.skip | apply HC.exit | apply HC.ret | apply HX.e_block | refine HX.e_other rfl ?_ | apply HX.e_then | apply HX.e_again | apply HX.n_block | apply HX.r_then | apply HX.r_block | apply HX.r_again | refine HC.cond_yes rfl ?_ | refine HC.cond_no rfl ?_ | refine HL.one (H1.ldb rfl memA rfl rfl ?_) | refine HC.cond rfl (fun hc => ?_) (fun hc => ?_) | refine HC.cond_b rfl (fun hc => ?_) (fun hc => ?_))
          exact HX.ret1 rfl rfl fun w' hM => ⟨rfl, hM.ext⟩
        · refine HO.one_a rfl ?_
          refine H1.ldAgg (vs := row 8 fun i => slot (u i)) rfl memA rfl (fun i v hv => by rw [Nat.zero_add]; exact hv) rfl ?_
          apply HA.fold
          refine HA.all [20] (by kernel_rfl) rfl ⟨⟨_, rfl, ?_⟩, trivial⟩
          refine HO.one_a rfl ?_
          refine H1.callz1 (α := Option Addr × Nat) (V := fun z => .slice z.1 Z.length z.2) (An := fun z => A.grow 3 1 z.1 z.2 Z.length (ints Z)) (I := fun _ => True) (vs := [bsV q, zv p, zv b, zv d]) rfl rfl (fun w' hM => i1 w' (hM.base (q := q) memA)) ?_
          rintro ⟨az, cz⟩ -
          dsimp only
          apply HA.fold
          refine HA.all [25] (by kernel_rfl) rfl ⟨⟨_, rfl, ?_⟩, trivial⟩
          refine HO.one_a rfl ?_
          refine H1.callz1 (α := Option Addr × Nat) (V := fun z => .slice z.1 Z.length z.2) (An := fun z => A.grow 3 1 z.1 z.2 Z.length (ints Z)) (I := fun _ => True) (vs := [bsV u, zv p, zv b, zv d]) rfl rfl (fun w' hM => i2 w' (hM.base (q := u) memA)) ?_
          rintro ⟨ao2, co2⟩ -
          dsimp only
          apply HA.fold
          refine HA.all [26] (by kernel_rfl) rfl ⟨⟨_, rfl, ?_⟩, trivial⟩
          refine HO.one_a rfl ?_
          refine H1.callx (u := .bool true) (vs := [.slice az Z.length cz, .slice ao2 Z.length co2]) rfl rfl (fun w' hM => (SameInts_fn _ _ Z Z w' (hM.gr (xs := ints Z) (a := az) memA) (hM.gr (xs := ints Z) (a := ao2) memA) (by omega)).mono fun v w'' h => ⟨h.1.trans (by rw [decide_eq_true rfl]), h.2⟩) ?_
          apply HA.fold
          refine HA.pa 27 rfl ?_
          refine HA.pa 28 rfl ?_
          refine HA.done (by kernel_rfl) ?_
          repeat' (first | refine HL.pa ?_ (POp.beqC rfl rfl (by first | rfl | decide)) | apply HL.fold | apply HA.fold | apply HL.nil | apply HX.n_then | apply HC.seq | apply HC.region | refine HL.pa ?_ | refine HL.ga rfl ?_ | refine HL.na rfl ?_ | refine HL.nu rfl rfl ?_ | apply HC.block | apply HC.skip | apply HC.exit | apply HC.ret | apply HX.e_block | refine HX.e_other rfl ?_ | apply HX.e_then | apply HX.e_again | apply HX.n_block | apply HX.r_then | apply HX.r_block | apply HX.r_again | refine HC.cond_yes rfl ?_ | refine HC.cond_no rfl ?_ | refine HL.one (H1.ldb rfl memA rfl rfl ?_) | refine HC.cond rfl (fun hc => ?_) (fun hc => ?_) | refine HC.cond_b rfl (fun hc => ?_) (fun hc => ?_))
          exact HX.ret1 rfl rfl fun w' hM => ⟨rfl, hM.ext⟩
      · refine HO.one_a rfl ?_
        refine H1.ldAgg (vs := row 8 fun i => slot (u i)) rfl memA rfl (fun i v hv => by rw [Nat.zero_add]; exact hv) rfl ?_
        apply HA.fold
        refine HA.all [16] (by kernel_rfl) rfl ⟨⟨_, rfl, ?_⟩, trivial⟩
        refine HO.one_a rfl ?_
        refine H1.ldAgg (vs := row 8 fun i => slot (q i)) rfl memA rfl (fun i v hv => by rw [Nat.zero_add]; exact hv) rfl ?_
        apply HA.fold
        refine HA.all [20] (by kernel_rfl) rfl ⟨⟨_, rfl, ?_⟩, trivial⟩
        refine HO.one_a rfl ?_
        refine H1.callz1 (α := Option Addr × Nat) (V := fun z => .slice z.1 Z.length z.2) (An := fun z => A.grow 3 1 z.1 z.2 Z.length (ints Z)) (I := fun _ => True) (vs := [bsV q, zv p, zv b, zv d]) rfl rfl (fun w' hM => i1 w' (hM.base (q := q) memA)) ?_
        rintro ⟨az, cz⟩ -
        dsimp only
        apply HA.fold
        refine HA.all [25] (by kernel_rfl) rfl ⟨⟨_, rfl, ?_⟩, trivial⟩
        refine HO.one_a rfl ?_
        refine H1.callz1 (α := Option Addr × Nat) (V := fun z => .slice z.1 Z.length z.2) (An := fun z => A.grow 3 1 z.1 z.2 Z.length (ints Z)) (I := fun _ => True) (vs := [bsV u, zv p, zv b, zv d]) rfl rfl (fun w' hM => i2 w' (hM.base (q := u) memA)) ?_
        rintro ⟨ao2, co2⟩ -
        dsimp only
        apply HA.fold
        refine HA.all [26] (by kernel_rfl) rfl ⟨⟨_, rfl, ?_⟩, trivial⟩
        refine HO.one_a rfl ?_
        refine H1.callx (u := .bool true) (vs := [.slice az Z.length cz, .slice ao2 Z.length co2]) rfl rfl (fun w' hM => (SameInts_fn _ _ Z Z w' (hM.gr (xs := ints Z) (a := az) memA) (hM.gr (xs := ints Z) (a := ao2) memA) (by omega)).mono fun v w'' h => ⟨h.1.trans (by rw [decide_eq_true rfl]), h.2⟩) ?_
        apply HA.fold
        refine HA.pa 27 rfl ?_
        refine HA.pa 28 rfl ?_
        refine HA.done (by kernel_rfl) ?_
        repeat' (first | refine HL.pa ?_ (POp.beqC rfl rfl (by first | rfl | decide)) | apply HL.fold | apply HA.fold | apply HL.nil | apply HX.n_then | apply HC.seq | apply HC.region | refine HL.pa ?_ | refine HL.ga rfl ?_ | refine HL.na rfl ?_ | refine HL.nu rfl rfl ?_ | apply HC.block | apply HC.skip | apply HC.exit | apply HC.ret | apply HX.e_block | refine HX.e_other rfl ?_ | apply HX.e_then | apply HX.e_again | apply HX.n_block | apply HX.r_then | apply HX.r_block | apply HX.r_again | refine HC.cond_yes rfl ?_ | refine HC.cond_no rfl ?_ | refine HL.one (H1.ldb rfl memA rfl rfl ?_) | refine HC.cond rfl (fun hc => ?_) (fun hc => ?_) | refine HC.cond_b rfl (fun hc => ?_) (fun hc => ?_))
        exact HX.ret1 rfl rfl fun w' hM => ⟨rfl, hM.ext⟩
end Go.Sx

