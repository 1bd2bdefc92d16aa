/- Chapter 21: the law KnownEffect. -/
import Derived.Test.YtldhccgelcmjoaaGreatVE
namespace Go.Sx
open Go Go.Proofs Go.RowKit
attribute [local irreducible] WC WL WX POp Then Again Fn NX W1 WA WO QL RP RA Yld LoopAt HC HL HX HN H1 HA HO HQ HB HP A.blk A.grow A.rd A.obj A.mp AgainH CutH
attribute [local irreducible] A.dfr A.loop bsA cutR
set_option maxHeartbeats 8000000 in
theorem knownEffect_fn (v : Value) (rows : List (List Int)) (hrow : ∀ y ∈ rows, y.length = 6 ∧ ∀ z ∈ y, i64W z) (raw : Rc) (hraw : RcOk raw) (d0 : Int) (w0' : i64W d0) (w : World) (hR : RdA 6 w v rows) :
    Fn Tryz.prog 3 #[v, recV raw, zv d0] w fun v w' => v = .bool true ∧ Ext w w' := by
  refine enterH (l := [_, _, _]) rfl Tryz.ntmps3 rfl ?_
  repeat' (first | apply HL.fold | apply HA.fold | apply HL.nil | apply HX.n_then | apply HC.seq | apply HC.region | refine HL.pa ?_ | refine HL.ga rfl ?_ | refine HL.na rfl ?_ | refine HL.nu rfl rfl ?_ | apply HC.block | apply HC.skip | apply HC.exit | apply HC.ret | apply HX.e_block | refine HX.e_other rfl ?_ | apply HX.e_then | apply HX.e_again | apply HX.n_block | apply HX.r_then | apply HX.r_block | apply HX.r_again | refine HC.cond_yes rfl ?_ | refine HC.cond_no rfl ?_ | refine HL.one (H1.ldb rfl memA rfl rfl ?_) | refine HC.cond rfl (fun hc => ?_) (fun hc => ?_) | refine HC.cond_b rfl (fun hc => ?_) (fun hc => ?_))
  refine HL.one (H1.boxAgg (cs := rcells raw) rfl rfl (fun b4 => ?_))
  repeat' (first | apply HL.fold | apply HA.fold | apply HL.nil | apply HX.n_then | apply HC.seq | apply HC.region | refine HL.pa ?_ | refine HL.ga rfl ?_ | refine HL.na rfl ?_ | refine HL.nu rfl rfl ?_ | apply HC.block | apply HC.skip | apply HC.exit | apply HC.ret | apply HX.e_block | refine HX.e_other rfl ?_ | apply HX.e_then | apply HX.e_again | apply HX.n_block | apply HX.r_then | apply HX.r_block | apply HX.r_again | refine HC.cond_yes rfl ?_ | refine HC.cond_no rfl ?_ | refine HL.one (H1.ldb rfl memA rfl rfl ?_) | refine HC.cond rfl (fun hc => ?_) (fun hc => ?_) | refine HC.cond_b rfl (fun hc => ?_) (fun hc => ?_))
  refine HL.one (H1.callx (u := .bool true) (vs := []) rfl rfl (fun w' _ => sane21_fn w') ?_)
  repeat' (first | apply HL.fold | apply HA.fold | apply HL.nil | apply HX.n_then | apply HC.seq | apply HC.region | refine HL.pa ?_ | refine HL.ga rfl ?_ | refine HL.na rfl ?_ | refine HL.nu rfl rfl ?_ | apply HC.block | apply HC.skip | apply HC.exit | apply HC.ret | apply HX.e_block | refine HX.e_other rfl ?_ | apply HX.e_then | apply HX.e_again | apply HX.n_block | apply HX.r_then | apply HX.r_block | apply HX.r_again | refine HC.cond_yes rfl ?_ | refine HC.cond_no rfl ?_ | refine HL.one (H1.ldb rfl memA rfl rfl ?_) | refine HC.cond rfl (fun hc => ?_) (fun hc => ?_) | refine HC.cond_b rfl (fun hc => ?_) (fun hc => ?_))
  refine HC.cut (α := (Option Addr × Nat) × List Rc) (fun z => [(2, zv d0), (7, .bool true), (8, .slice z.1.1 z.2.length z.1.2)]) (fun z => [A.grow 24 15 z.1.1 z.1.2 z.2.length (rcl z.2)]) (fun z => z.2.length ≤ 31 ∧ ∀ r ∈ z.2, RcOk r) ?_ ?_
  · refine HC.any rfl ?_
    refine HA.pa 0 rfl ?_
    refine HA.all [1, 2] (by kernel_rfl) rfl ⟨⟨_, rfl, ?_⟩, ⟨_, rfl, ?_⟩, trivial⟩
    · refine HO.one ?_
      refine H1.callz1 (α := (Option Addr × Nat) × List Rc) (V := fun z => .slice z.1.1 z.2.length z.1.2) (An := fun z => A.grow 24 15 z.1.1 z.1.2 z.2.length (rcl z.2)) (I := fun z => z.2.length ≤ 30 ∧ ∀ r ∈ z.2, SomeOk r) (vs := [v]) rfl rfl (fun w' hM => Some_fn v rows hrow w' (hR.ext hM.ext)) ?_
      rintro ⟨⟨al, cl⟩, l⟩ ⟨hl30, hlok⟩
      dsimp only at hl30 hlok ⊢
      apply HA.fold
      refine HA.all [2] (by kernel_rfl) rfl ⟨⟨_, rfl, ?_⟩, trivial⟩
      refine HO.one ?_
      refine H1.ldAgg (vs := rcells raw) rfl memA rfl (fun i v hv => by rw [Nat.zero_add]; exact hv) rfl ?_
      apply HA.fold
      refine HA.all [3] (by kernel_rfl) rfl ⟨⟨_, rfl, ?_⟩, trivial⟩
      refine HO.one ?_
      refine H1.lit (cs := rcells raw) rfl rfl rfl rfl rfl rfl (fun bs => ?_)
      apply HA.fold
      refine HA.all [4] (by kernel_rfl) rfl ⟨⟨_, rfl, ?_⟩, trivial⟩
      refine HO.one ?_
      refine H1.callz1 (α := Option Addr × Nat) (V := fun z => .slice z.1 1 z.2) (An := fun z => A.grow 24 15 z.1 z.2 ([cutR raw] : List Rc).length (rcl [cutR raw])) (I := fun _ => True) (vs := [.slice (some ⟨bs, 0, none⟩) 1 1]) rfl rfl (fun w' hM => few_fn21 (some ⟨bs, 0, none⟩) 1 raw hraw.text w' (RdR.of_blk (l := [raw]) (by rw [show rcl [raw] = rcells raw from List.append_nil _]; exact hM.blk memA))) ?_
      rintro ⟨af, cf⟩ -
      dsimp only
      apply HA.fold
      refine HA.all [5] (by kernel_rfl) rfl ⟨⟨_, rfl, ?_⟩, trivial⟩
      refine HO.one ?_
      refine H1.appRec (e := 24) (l := l) (m := [cutR raw]) (a := al) (c := cl) (ao := af) (c2 := cf) rfl rfl rfl (fun a' c' => by first | ((repeat (first | with_reducible exact Rpl.here | with_reducible apply Rpl.there)); done) | (repeat (first | exact Rpl.here | apply Rpl.there))) (fun w hM => hM.recs (l := [cutR raw]) memA) (by simp only [List.length_singleton]; omega) (by decide) rfl (fun a2 c2 => ?_)
      apply HA.fold
      refine HA.pa 6 rfl ?_
      refine HA.done (by kernel_rfl) ?_
      exact HX.cut ((a2, c2), l ++ [cutR raw]) ⟨by rw [List.length_append, List.length_singleton]; omega, fun t ht => by
        rcases List.mem_append.1 ht with h | h
        · exact RcOk.of_valid (hlok t h).valid
        · rw [List.mem_singleton.1 h]; exact cutR_ok hraw⟩ esA (by repeat (first | exact Hs.nil _ | (refine Hs.cons pickA ?_)))
    · refine HO.one ?_
      refine H1.ldAgg (vs := rcells raw) rfl memA rfl (fun i v hv => by rw [Nat.zero_add]; exact hv) rfl ?_
      apply HA.fold
      refine HA.all [1, 3] (by kernel_rfl) rfl ⟨⟨_, rfl, ?_⟩, ⟨_, rfl, ?_⟩, trivial⟩
      · refine HO.one ?_
        refine H1.callz1 (α := (Option Addr × Nat) × List Rc) (V := fun z => .slice z.1.1 z.2.length z.1.2) (An := fun z => A.grow 24 15 z.1.1 z.1.2 z.2.length (rcl z.2)) (I := fun z => z.2.length ≤ 30 ∧ ∀ r ∈ z.2, SomeOk r) (vs := [v]) rfl rfl (fun w' hM => Some_fn v rows hrow w' (hR.ext hM.ext)) ?_
        rintro ⟨⟨al, cl⟩, l⟩ ⟨hl30, hlok⟩
        dsimp only at hl30 hlok ⊢
        apply HA.fold
        refine HA.all [3] (by kernel_rfl) rfl ⟨⟨_, rfl, ?_⟩, trivial⟩
        refine HO.one ?_
        refine H1.lit (cs := rcells raw) rfl rfl rfl rfl rfl rfl (fun bs => ?_)
        apply HA.fold
        refine HA.all [4] (by kernel_rfl) rfl ⟨⟨_, rfl, ?_⟩, trivial⟩
        refine HO.one ?_
        refine H1.callz1 (α := Option Addr × Nat) (V := fun z => .slice z.1 1 z.2) (An := fun z => A.grow 24 15 z.1 z.2 ([cutR raw] : List Rc).length (rcl [cutR raw])) (I := fun _ => True) (vs := [.slice (some ⟨bs, 0, none⟩) 1 1]) rfl rfl (fun w' hM => few_fn21 (some ⟨bs, 0, none⟩) 1 raw hraw.text w' (RdR.of_blk (l := [raw]) (by rw [show rcl [raw] = rcells raw from List.append_nil _]; exact hM.blk memA))) ?_
        rintro ⟨af, cf⟩ -
        dsimp only
        apply HA.fold
        refine HA.all [5] (by kernel_rfl) rfl ⟨⟨_, rfl, ?_⟩, trivial⟩
        refine HO.one ?_
        refine H1.appRec (e := 24) (l := l) (m := [cutR raw]) (a := al) (c := cl) (ao := af) (c2 := cf) rfl rfl rfl (fun a' c' => by first | ((repeat (first | with_reducible exact Rpl.here | with_reducible apply Rpl.there)); done) | (repeat (first | exact Rpl.here | apply Rpl.there))) (fun w hM => hM.recs (l := [cutR raw]) memA) (by simp only [List.length_singleton]; omega) (by decide) rfl (fun a2 c2 => ?_)
        apply HA.fold
        refine HA.pa 6 rfl ?_
        refine HA.done (by kernel_rfl) ?_
        exact HX.cut ((a2, c2), l ++ [cutR raw]) ⟨by rw [List.length_append, List.length_singleton]; omega, fun t ht => by
          rcases List.mem_append.1 ht with h | h
          · exact RcOk.of_valid (hlok t h).valid
          · rw [List.mem_singleton.1 h]; exact cutR_ok hraw⟩ esA (by repeat (first | exact Hs.nil _ | (refine Hs.cons pickA ?_)))
      · refine HO.one ?_
        refine H1.lit (cs := rcells raw) rfl rfl rfl rfl rfl rfl (fun bs => ?_)
        apply HA.fold
        refine HA.all [1] (by kernel_rfl) rfl ⟨⟨_, rfl, ?_⟩, trivial⟩
        refine HO.one ?_
        refine H1.callz1 (α := (Option Addr × Nat) × List Rc) (V := fun z => .slice z.1.1 z.2.length z.1.2) (An := fun z => A.grow 24 15 z.1.1 z.1.2 z.2.length (rcl z.2)) (I := fun z => z.2.length ≤ 30 ∧ ∀ r ∈ z.2, SomeOk r) (vs := [v]) rfl rfl (fun w' hM => Some_fn v rows hrow w' (hR.ext hM.ext)) ?_
        rintro ⟨⟨al, cl⟩, l⟩ ⟨hl30, hlok⟩
        dsimp only at hl30 hlok ⊢
        apply HA.fold
        refine HA.all [4] (by kernel_rfl) rfl ⟨⟨_, rfl, ?_⟩, trivial⟩
        refine HO.one ?_
        refine H1.callz1 (α := Option Addr × Nat) (V := fun z => .slice z.1 1 z.2) (An := fun z => A.grow 24 15 z.1 z.2 ([cutR raw] : List Rc).length (rcl [cutR raw])) (I := fun _ => True) (vs := [.slice (some ⟨bs, 0, none⟩) 1 1]) rfl rfl (fun w' hM => few_fn21 (some ⟨bs, 0, none⟩) 1 raw hraw.text w' (RdR.of_blk (l := [raw]) (by rw [show rcl [raw] = rcells raw from List.append_nil _]; exact hM.blk memA))) ?_
        rintro ⟨af, cf⟩ -
        dsimp only
        apply HA.fold
        refine HA.all [5] (by kernel_rfl) rfl ⟨⟨_, rfl, ?_⟩, trivial⟩
        refine HO.one ?_
        refine H1.appRec (e := 24) (l := l) (m := [cutR raw]) (a := al) (c := cl) (ao := af) (c2 := cf) rfl rfl rfl (fun a' c' => by first | ((repeat (first | with_reducible exact Rpl.here | with_reducible apply Rpl.there)); done) | (repeat (first | exact Rpl.here | apply Rpl.there))) (fun w hM => hM.recs (l := [cutR raw]) memA) (by simp only [List.length_singleton]; omega) (by decide) rfl (fun a2 c2 => ?_)
        apply HA.fold
        refine HA.pa 6 rfl ?_
        refine HA.done (by kernel_rfl) ?_
        exact HX.cut ((a2, c2), l ++ [cutR raw]) ⟨by rw [List.length_append, List.length_singleton]; omega, fun t ht => by
          rcases List.mem_append.1 ht with h | h
          · exact RcOk.of_valid (hlok t h).valid
          · rw [List.mem_singleton.1 h]; exact cutR_ok hraw⟩ esA (by repeat (first | exact Hs.nil _ | (refine Hs.cons pickA ?_)))
  rintro ⟨⟨al, cl⟩, l⟩ ⟨hl31, hokl⟩
  dsimp only at hl31 hokl ⊢
  clear hR hrow hraw
  repeat' (first | apply HL.fold | apply HA.fold | apply HL.nil | apply HX.n_then | apply HC.seq | apply HC.region | refine HL.pa ?_ | refine HL.ga rfl ?_ | refine HL.na rfl ?_ | refine HL.nu rfl rfl ?_ | apply HC.block | apply HC.skip | apply HC.exit | apply HC.ret | apply HX.e_block | refine HX.e_other rfl ?_ | apply HX.e_then | apply HX.e_again | apply HX.n_block | apply HX.r_then | apply HX.r_block | apply HX.r_again | refine HC.cond_yes rfl ?_ | refine HC.cond_no rfl ?_ | refine HL.one (H1.ldb rfl memA rfl rfl ?_) | refine HC.cond rfl (fun hc => ?_) (fun hc => ?_) | refine HC.cond_b rfl (fun hc => ?_) (fun hc => ?_))
  refine HL.one (H1.call0 (vs := [zv d0, zv 31]) rfl rfl (fun w' _ => pick21_fn d0 31 w0'.1 w0'.2 (by decide) w') ?_)
  have hY := pickI21_lt d0 (n := 31) (by decide)
  generalize pickI21 d0 31 = Y at hY ⊢
  repeat' (first | apply HL.fold | apply HA.fold | apply HL.nil | apply HX.n_then | apply HC.seq | apply HC.region | refine HL.pa ?_ | refine HL.ga rfl ?_ | refine HL.na rfl ?_ | refine HL.nu rfl rfl ?_ | apply HC.block | apply HC.skip | apply HC.exit | apply HC.ret | apply HX.e_block | refine HX.e_other rfl ?_ | apply HX.e_then | apply HX.e_again | apply HX.n_block | apply HX.r_then | apply HX.r_block | apply HX.r_again | refine HC.cond_yes rfl ?_ | refine HC.cond_no rfl ?_ | refine HL.one (H1.ldb rfl memA rfl rfl ?_) | refine HC.cond rfl (fun hc => ?_) (fun hc => ?_) | refine HC.cond_b rfl (fun hc => ?_) (fun hc => ?_))
  refine HL.one (H1.callz1 (α := Nat → Slot) (V := bsV) (An := bsA) (I := IsBase l Y) (vs := [.slice al l.length cl, zv Y]) rfl rfl (fun w' hM => of_fn al cl l (by omega) hokl Y w' (hM.recs memA)) ?_)
  rintro q hq
  repeat' (first | apply HL.fold | apply HA.fold | apply HL.nil | apply HX.n_then | apply HC.seq | apply HC.region | refine HL.pa ?_ | refine HL.ga rfl ?_ | refine HL.na rfl ?_ | refine HL.nu rfl rfl ?_ | apply HC.block | apply HC.skip | apply HC.exit | apply HC.ret | apply HX.e_block | refine HX.e_other rfl ?_ | apply HX.e_then | apply HX.e_again | apply HX.n_block | apply HX.r_then | apply HX.r_block | apply HX.r_again | refine HC.cond_yes rfl ?_ | refine HC.cond_no rfl ?_ | refine HL.one (H1.ldb rfl memA rfl rfl ?_) | refine HC.cond rfl (fun hc => ?_) (fun hc => ?_) | refine HC.cond_b rfl (fun hc => ?_) (fun hc => ?_))
  refine HL.one (H1.callz1 (α := Nat) (V := fun b => .slice (some ⟨b, 0, none⟩) 8 8) (An := fun b => A.blk b (row 8 fun i => slot (q i)) 26) (I := fun _ => True) (vs := [bsV q]) rfl rfl (fun w' hM => Lists_q q w') ?_)
  rintro ba -
  have hlq : ∀ i, i < 8 → (bsL q i).length ≤ 31 := fun i hi => Nat.le_trans (of_len (hq i hi)) hl31
  have hcq : ∀ i, i ≤ 8 → cntL (bsL q) i ≤ i * 31 := fun i hi => cntL_le i fun k hk => hlq k (by omega)
  repeat' (first | apply HL.fold | apply HA.fold | apply HL.nil | apply HX.n_then | apply HC.seq | apply HC.region | refine HL.pa ?_ | refine HL.ga rfl ?_ | refine HL.na rfl ?_ | refine HL.nu rfl rfl ?_ | apply HC.skip | apply HC.exit | apply HC.ret | apply HX.e_block | refine HX.e_other rfl ?_ | apply HX.e_then | apply HX.e_again | apply HX.n_block | apply HX.r_then | apply HX.r_block | apply HX.r_again | refine HC.cond_yes rfl ?_ | refine HC.cond_no rfl ?_ | refine HL.one (H1.ldb rfl memA rfl rfl ?_) | refine HC.cond rfl (fun hc => ?_) (fun hc => ?_) | refine HC.cond_b rfl (fun hc => ?_) (fun hc => ?_))
  refine HC.cut (α := Unit) (fun _ => [(10, zv (cntL (bsL q) 8 : Int)), (2, zv Y), (7, .bool true), (8, .slice al l.length cl)]) (fun _ => [A.grow 24 15 al cl l.length (rcl l)]) (fun _ => True) ?_ ?_
  · repeat' (first | apply HL.fold | apply HA.fold | apply HL.nil | apply HX.n_then | apply HC.seq | apply HC.region | refine HL.pa ?_ | refine HL.ga rfl ?_ | refine HL.na rfl ?_ | refine HL.nu rfl rfl ?_ | apply HC.block | apply HC.skip | apply HC.exit | apply HC.ret | apply HX.e_block | refine HX.e_other rfl ?_ | apply HX.e_then | apply HX.e_again | apply HX.n_block | apply HX.r_then | apply HX.r_block | apply HX.r_again | refine HC.cond_yes rfl ?_ | refine HC.cond_no rfl ?_ | refine HL.one (H1.ldb rfl memA rfl rfl ?_) | refine HC.cond rfl (fun hc => ?_) (fun hc => ?_) | refine HC.cond_b rfl (fun hc => ?_) (fun hc => ?_))
    refine HC.loop (α := Nat × Int) (fun z => [(11, zv (z.1 : Int)), (10, zv z.2), (2, zv Y), (7, .bool true), (8, .slice al l.length cl), (9, .slice (some ⟨ba, 0, none⟩) 8 8)]) (fun _ => [A.blk ba (row 8 fun i => slot (q i)) 26, bsA q, A.grow 24 15 al cl l.length (rcl l)]) (fun z => z.1 ≤ 8 ∧ z.2 = (cntL (bsL q) z.1 : Int)) (fun z => 8 - z.1) (0, 0) ⟨Nat.zero_le _, rfl⟩ esA (by repeat (first | exact Hs.nil _ | (refine Hs.cons pickA ?_))) ?_
    rintro ⟨i, n⟩ ⟨hi, hn⟩
    dsimp only at hi hn ⊢
    by_cases hlt : i < 8
    rotate_left
    · obtain rfl : i = 8 := by omega
      rw [hn]
      repeat' (first | apply HL.fold | apply HA.fold | apply HL.nil | apply HX.n_then | apply HC.seq | apply HC.region | refine HL.pa ?_ | refine HL.ga rfl ?_ | refine HL.na rfl ?_ | refine HL.nu rfl rfl ?_ | apply HC.block | apply HC.skip | apply HC.exit | apply HC.ret | apply HX.e_block | refine HX.e_other rfl ?_ | apply HX.e_then | apply HX.e_again | apply HX.n_block | apply HX.r_then | apply HX.r_block | apply HX.r_again | refine HC.cond_yes rfl ?_ | refine HC.cond_no rfl ?_ | refine HL.one (H1.ldb rfl memA rfl rfl ?_) | refine HC.cond rfl (fun hc => ?_) (fun hc => ?_) | refine HC.cond_b rfl (fun hc => ?_) (fun hc => ?_))
      exact HX.cut () trivial esA (by repeat (first | exact Hs.nil _ | (refine Hs.cons pickA ?_)))
    have hlti : (i : Int) < 8 := by omega
    have hqi := hq i hlt
    have hli := hlq i hlt
    have hni := hcq i hi
    have hst : n + ((bsL q i).length : Int) = (cntL (bsL q) (i + 1) : Int) := by rw [hn]; rfl
    clear hcq hlq hq
    repeat' (first | apply HL.fold | apply HA.fold | apply HL.nil | apply HX.n_then | apply HC.seq | apply HC.region | refine HL.pa ?_ | refine HL.ga rfl ?_ | refine HL.na rfl ?_ | refine HL.nu rfl rfl ?_ | apply HC.block | apply HC.skip | apply HC.exit | apply HC.ret | apply HX.e_block | refine HX.e_other rfl ?_ | apply HX.e_then | apply HX.e_again | apply HX.n_block | apply HX.r_then | apply HX.r_block | apply HX.r_again | refine HC.cond_yes rfl ?_ | refine HC.cond_no rfl ?_ | refine HL.one (H1.ldb rfl memA rfl rfl ?_) | refine HC.cond rfl (fun hc => ?_) (fun hc => ?_) | refine HC.cond_b rfl (fun hc => ?_) (fun hc => ?_))
    refine HC.loop (α := Nat × Int) (fun z => [(12, zv (z.1 : Int)), (11, zv (i : Int)), (10, zv z.2), (2, zv Y), (7, .bool true), (8, .slice al l.length cl), (9, .slice (some ⟨ba, 0, none⟩) 8 8)]) (fun _ => [A.blk ba (row 8 fun i => slot (q i)) 26, bsA q, A.grow 24 15 al cl l.length (rcl l)]) (fun z => z.1 ≤ (bsL q i).length ∧ z.2 = n + (z.1 : Int)) (fun z => (bsL q i).length - z.1) (0, n) ⟨Nat.zero_le _, by show n = n + ((0 : Nat) : Int); omega⟩ esA (by repeat (first | exact Hs.nil _ | (refine Hs.cons pickA ?_))) ?_
    rintro ⟨k, m⟩ ⟨hk, hm⟩
    dsimp only at hk hm ⊢
    by_cases hkl : k < (bsL q i).length
    rotate_left
    · obtain rfl : k = (bsL q i).length := by omega
      have hkl' : ¬ ((bsL q i).length : Int) < ((bsL q i).length : Int) := by omega
      repeat' (first | apply HL.fold | apply HA.fold | apply HL.nil | apply HX.n_then | apply HC.seq | apply HC.region | refine HL.pa ?_ | refine HL.ga rfl ?_ | refine HL.na rfl ?_ | refine HL.nu rfl rfl ?_ | apply HC.block | apply HC.skip | apply HC.exit | apply HC.ret | apply HX.e_block | refine HX.e_other rfl ?_ | apply HX.e_then | apply HX.e_again | apply HX.n_block | apply HX.r_then | apply HX.r_block | apply HX.r_again | refine HC.cond_yes rfl ?_ | refine HC.cond_no rfl ?_ | refine HL.one (H1.ldb rfl memA rfl rfl ?_) | refine HC.cond rfl (fun hc => ?_) (fun hc => ?_) | refine HC.cond_b rfl (fun hc => ?_) (fun hc => ?_))
      refine HL.one (H1.ldb (v := .slice (q i).1 (bsL q i).length (q i).2.1) (cs := row 8 fun i => slot (q i)) rfl memA (row_get _ hlt) rfl ?_)
      repeat' (first | apply HL.fold | apply HA.fold | apply HL.nil | apply HX.n_then | apply HC.seq | apply HC.region | refine HL.pa ?_ | refine HL.ga rfl ?_ | refine HL.na rfl ?_ | refine HL.nu rfl rfl ?_ | apply HC.block | apply HC.skip | apply HC.exit | apply HC.ret | apply HX.e_block | refine HX.e_other rfl ?_ | apply HX.e_then | apply HX.e_again | apply HX.n_block | apply HX.r_then | apply HX.r_block | apply HX.r_again | refine HC.cond_yes rfl ?_ | refine HC.cond_no rfl ?_ | refine HL.one (H1.ldb rfl memA rfl rfl ?_) | refine HC.cond rfl (fun hc => ?_) (fun hc => ?_) | refine HC.cond_b rfl (fun hc => ?_) (fun hc => ?_))
      exact HX.again (i + 1, m) ⟨by show i + 1 ≤ 8; omega, by show m = _; rw [hm, hst]⟩ (by show 8 - (i + 1) < 8 - i; omega) esA (by repeat (first | exact Hs.nil _ | (refine Hs.cons pickA ?_)))
    have hkl' : (k : Int) < ((bsL q i).length : Int) := by omega
    obtain ⟨r, hr⟩ : ∃ r, (bsL q i)[k]? = some r := ⟨_, List.getElem?_eq_getElem hkl⟩
    have hrm := List.mem_of_getElem? hr
    obtain ⟨hrl, hrv, hrd, hrg, hrk, hrp⟩ := list_at hqi hrm
    have hro := RcOk.of_valid hrv
    have hin : ∀ w', RdR w' (.slice al l.length cl) l → Fn Tryz.prog 11 #[.slice al l.length cl, recV r] w' fun v w'' => v = .bool true ∧ Ext w' w'' := fun w' hR => by have h := in_fn _ l r (by omega) hokl hro w' hR; rw [inB_yes hrl] at h; exact h
    have hvl : ∀ w', Fn Tryz.prog 12 #[recV r] w' fun v w'' => v = .bool true ∧ Ext w' w'' := fun w' => by have h := valid_fn r hro w'; rw [validB_yes hrv] at h; exact h
    refine HC.opens (q := q) (k := i) memA hlt (fun e => by rw [e] at hrm; cases hrm) ?_
    intro bq hbq
    repeat' (first | apply HL.fold | apply HA.fold | apply HL.nil | apply HX.n_then | apply HC.seq | apply HC.region | refine HL.pa ?_ | refine HL.ga rfl ?_ | refine HL.na rfl ?_ | refine HL.nu rfl rfl ?_ | apply HC.block | apply HC.skip | apply HC.exit | apply HC.ret | apply HX.e_block | refine HX.e_other rfl ?_ | apply HX.e_then | apply HX.e_again | apply HX.n_block | apply HX.r_then | apply HX.r_block | apply HX.r_again | refine HC.cond_yes rfl ?_ | refine HC.cond_no rfl ?_ | refine HL.one (H1.ldb rfl memA rfl rfl ?_) | refine HC.cond rfl (fun hc => ?_) (fun hc => ?_) | refine HC.cond_b rfl (fun hc => ?_) (fun hc => ?_))
    refine HL.one (H1.ldb (v := .slice (some ⟨bq, 0, none⟩) (bsL q i).length (q i).2.1) (cs := row 8 fun i => slot (q i)) rfl memA (row_slot hlt hbq) rfl ?_)
    repeat' (first | apply HL.fold | apply HA.fold | apply HL.nil | apply HX.n_then | apply HC.seq | apply HC.region | refine HL.pa ?_ | refine HL.ga rfl ?_ | refine HL.na rfl ?_ | refine HL.nu rfl rfl ?_ | apply HC.block | apply HC.skip | apply HC.exit | apply HC.ret | apply HX.e_block | refine HX.e_other rfl ?_ | apply HX.e_then | apply HX.e_again | apply HX.n_block | apply HX.r_then | apply HX.r_block | apply HX.r_again | refine HC.cond_yes rfl ?_ | refine HC.cond_no rfl ?_ | refine HL.one (H1.ldb rfl memA rfl rfl ?_) | refine HC.cond rfl (fun hc => ?_) (fun hc => ?_) | refine HC.cond_b rfl (fun hc => ?_) (fun hc => ?_))
    refine HL.one (H1.ldb (v := .slice (some ⟨bq, 0, none⟩) (bsL q i).length (q i).2.1) (cs := row 8 fun i => slot (q i)) rfl memA (row_slot hlt hbq) rfl ?_)
    repeat' (first | apply HL.fold | apply HA.fold | apply HL.nil | apply HX.n_then | apply HC.seq | apply HC.region | refine HL.pa ?_ | refine HL.ga rfl ?_ | refine HL.na rfl ?_ | refine HL.nu rfl rfl ?_ | apply HC.block | apply HC.skip | apply HC.exit | apply HC.ret | apply HX.e_block | refine HX.e_other rfl ?_ | apply HX.e_then | apply HX.e_again | apply HX.n_block | apply HX.r_then | apply HX.r_block | apply HX.r_again | refine HC.cond_yes rfl ?_ | refine HC.cond_no rfl ?_ | refine HL.one (H1.ldb rfl memA rfl rfl ?_) | refine HC.cond rfl (fun hc => ?_) (fun hc => ?_) | refine HC.cond_b rfl (fun hc => ?_) (fun hc => ?_))
    refine HL.one (H1.ldSlot (q := q) rfl memA hlt hbq hr rfl rfl ?_)
    repeat' (first | apply HL.fold | apply HA.fold | apply HL.nil | apply HX.n_then | apply HC.seq | apply HC.region | refine HL.pa ?_ | refine HL.ga rfl ?_ | refine HL.na rfl ?_ | refine HL.nu rfl rfl ?_ | apply HC.block | apply HC.skip | apply HC.exit | apply HC.ret | apply HX.e_block | refine HX.e_other rfl ?_ | apply HX.e_then | apply HX.e_again | apply HX.n_block | apply HX.r_then | apply HX.r_block | apply HX.r_again | refine HC.cond_yes rfl ?_ | refine HC.cond_no rfl ?_ | refine HL.one (H1.ldb rfl memA rfl rfl ?_) | refine HC.cond rfl (fun hc => ?_) (fun hc => ?_) | refine HC.cond_b rfl (fun hc => ?_) (fun hc => ?_))
    refine HL.one (H1.alloc (cs := rcells rcZ) rfl rfl (fun b13 => ?_))
    repeat' (first | apply HL.fold | apply HA.fold | apply HL.nil | apply HX.n_then | apply HC.seq | apply HC.region | refine HL.pa ?_ | refine HL.ga rfl ?_ | refine HL.na rfl ?_ | refine HL.nu rfl rfl ?_ | apply HC.block | apply HC.skip | apply HC.exit | apply HC.ret | apply HX.e_block | refine HX.e_other rfl ?_ | apply HX.e_then | apply HX.e_again | apply HX.n_block | apply HX.r_then | apply HX.r_block | apply HX.r_again | refine HC.cond_yes rfl ?_ | refine HC.cond_no rfl ?_ | refine HL.one (H1.ldb rfl memA rfl rfl ?_) | refine HC.cond rfl (fun hc => ?_) (fun hc => ?_) | refine HC.cond_b rfl (fun hc => ?_) (fun hc => ?_))
    refine HL.one (H1.stAgg (cs := rcells rcZ) (vs := rcells r) rfl rfl rfl (rcells_one r) rplA rfl ?_)
    repeat' (first | apply HL.fold | apply HA.fold | apply HL.nil | apply HX.n_then | apply HC.seq | apply HC.region | refine HL.pa ?_ | refine HL.ga rfl ?_ | refine HL.na rfl ?_ | refine HL.nu rfl rfl ?_ | apply HC.block | apply HC.skip | apply HC.exit | apply HC.ret | apply HX.e_block | refine HX.e_other rfl ?_ | apply HX.e_then | apply HX.e_again | apply HX.n_block | apply HX.r_then | apply HX.r_block | apply HX.r_again | refine HC.cond_yes rfl ?_ | refine HC.cond_no rfl ?_ | refine HL.one (H1.ldb rfl memA rfl rfl ?_) | refine HC.cond rfl (fun hc => ?_) (fun hc => ?_) | refine HC.cond_b rfl (fun hc => ?_) (fun hc => ?_))
    refine HC.cut (α := Bool) (fun c => [(97, .bool c), (13, .pointer (some ⟨b13, 0, none⟩)), (12, zv (k : Int)), (11, zv (i : Int)), (10, zv m), (2, zv Y), (7, .bool true), (8, .slice al l.length cl), (9, .slice (some ⟨ba, 0, none⟩) 8 8)]) (fun _ => [A.blk b13 (rcells r) 24, A.blk ba (row 8 fun i => slot (q i)) 26, bsA q, A.grow 24 15 al cl l.length (rcl l)]) (fun c => c = false) ?_ ?_
    · by_cases hk0 : k = 0
      · have hk0' : ¬ (0 : Int) < (k : Int) := by omega
        refine HC.any rfl ?_
        refine HA.pa 0 rfl ?_
        refine HA.all [1] (by kernel_rfl) rfl ⟨⟨_, rfl, ?_⟩, trivial⟩
        refine HO.one ?_
        refine H1.ldAgg (vs := rcells r) rfl memA rfl (fun i v hv => by rw [Nat.zero_add]; exact hv) rfl ?_
        apply HA.fold
        refine HA.all [2] (by kernel_rfl) rfl ⟨⟨_, rfl, ?_⟩, trivial⟩
        refine HO.one ?_
        refine H1.callx (u := .bool true) (vs := [.slice al l.length cl, recV r]) rfl rfl (fun w' hM => hin w' (hM.recs memA)) ?_
        apply HA.fold
        refine HA.pa 3 rfl ?_
        refine HA.pa 4 rfl ?_
        refine HA.all [5] (by kernel_rfl) rfl ⟨⟨_, rfl, ?_⟩, trivial⟩
        refine HO.one_a rfl ?_
        refine H1.ldAgg (vs := rcells r) rfl memA rfl (fun i v hv => by rw [Nat.zero_add]; exact hv) rfl ?_
        apply HA.fold
        refine HA.all [6] (by kernel_rfl) rfl ⟨⟨_, rfl, ?_⟩, trivial⟩
        refine HO.one_a rfl ?_
        refine H1.callx (u := .bool true) (vs := [recV r]) rfl rfl (fun w' _ => hvl w') ?_
        apply HA.fold
        first | refine HA.ga 7 rfl rfl ?_ | refine HA.na 7 rfl rfl ?_ | refine HA.nu 7 rfl rfl ?_
        refine HA.pa 8 rfl ?_
        refine HA.pa 9 rfl ?_
        first | refine HA.ga 10 rfl rfl ?_ | refine HA.na 10 rfl rfl ?_ | refine HA.nu 10 rfl rfl ?_
        first | refine HA.ga 12 rfl rfl ?_ | refine HA.na 12 rfl rfl ?_ | refine HA.nu 12 rfl rfl ?_
        refine HA.all [11] (by kernel_rfl) rfl ⟨⟨_, rfl, ?_⟩, trivial⟩
        refine HO.one_a rfl ?_
        refine H1.ldb (v := zv r.day) (cs := rcells r) rfl memA rfl rfl ?_
        apply HA.fold
        first | refine HA.ga 13 rfl rfl ?_ | refine HA.na 13 rfl rfl ?_ | refine HA.nu 13 rfl rfl ?_
        refine HA.pa 14 rfl ?_
        refine HA.pa 15 rfl ?_
        first | refine HA.ga 16 rfl rfl ?_ | refine HA.na 16 rfl rfl ?_ | refine HA.nu 16 rfl rfl ?_
        refine HA.all [17] (by kernel_rfl) rfl ⟨⟨_, rfl, ?_⟩, trivial⟩
        refine HO.one_a rfl ?_
        refine H1.ldb (v := .bool false) (cs := rcells r) rfl memA (by show some (Value.bool r.gone) = _; rw [hrg]) rfl ?_
        apply HA.fold
        refine HA.pa 18 rfl ?_
        refine HA.pa 19 rfl ?_
        first | refine HA.ga 20 rfl rfl ?_ | refine HA.na 20 rfl rfl ?_ | refine HA.nu 20 rfl rfl ?_
        first | refine HA.ga 22 rfl rfl ?_ | refine HA.na 22 rfl rfl ?_ | refine HA.nu 22 rfl rfl ?_
        first | refine HA.ga 23 rfl rfl ?_ | refine HA.na 23 rfl rfl ?_ | refine HA.nu 23 rfl rfl ?_
        refine HA.all [21] (by kernel_rfl) rfl ⟨⟨_, rfl, ?_⟩, trivial⟩
        refine HO.one_a rfl ?_
        refine H1.ldb (v := zv r.kind) (cs := rcells r) rfl memA rfl rfl ?_
        apply HA.fold
        first | refine HA.ga 24 rfl rfl ?_ | refine HA.na 24 rfl rfl ?_ | refine HA.nu 24 rfl rfl ?_
        refine HA.pa 25 rfl ?_
        refine HA.pa 26 rfl ?_
        first | refine HA.ga 27 rfl rfl ?_ | refine HA.na 27 rfl rfl ?_ | refine HA.nu 27 rfl rfl ?_
        first | refine HA.ga 28 rfl rfl ?_ | refine HA.na 28 rfl rfl ?_ | refine HA.nu 28 rfl rfl ?_
        first | refine HA.ga 29 rfl rfl ?_ | refine HA.na 29 rfl rfl ?_ | refine HA.nu 29 rfl rfl ?_
        first | refine HA.ga 30 rfl rfl ?_ | refine HA.na 30 rfl rfl ?_ | refine HA.nu 30 rfl rfl ?_
        first | refine HA.ga 31 rfl rfl ?_ | refine HA.na 31 rfl rfl ?_ | refine HA.nu 31 rfl rfl ?_
        first | refine HA.ga 32 rfl rfl ?_ | refine HA.na 32 rfl rfl ?_ | refine HA.nu 32 rfl rfl ?_
        first | refine HA.ga 34 rfl rfl ?_ | refine HA.na 34 rfl rfl ?_ | refine HA.nu 34 rfl rfl ?_
        first | refine HA.ga 35 rfl rfl ?_ | refine HA.na 35 rfl rfl ?_ | refine HA.nu 35 rfl rfl ?_
        refine HA.all [33, 39] (by kernel_rfl) rfl ⟨⟨_, rfl, ?_⟩, ⟨_, rfl, ?_⟩, trivial⟩
        · refine HO.drop_a rfl ?_
          first | refine HA.ga 36 rfl rfl ?_ | refine HA.na 36 rfl rfl ?_ | refine HA.nu 36 rfl rfl ?_
          refine HA.all [37, 39] (by kernel_rfl) rfl ⟨⟨_, rfl, ?_⟩, ⟨_, rfl, ?_⟩, trivial⟩
          · refine HO.drop_a rfl ?_
            refine HA.all [38, 39] (by kernel_rfl) rfl ⟨⟨_, rfl, ?_⟩, ⟨_, rfl, ?_⟩, trivial⟩
            · refine HO.drop_a rfl ?_
              refine HA.all [39] (by kernel_rfl) rfl ⟨⟨_, rfl, ?_⟩, trivial⟩
              refine HO.drop_a rfl ?_
              refine HA.all [40] (by kernel_rfl) rfl ⟨⟨_, rfl, ?_⟩, trivial⟩
              refine HO.drop_a rfl ?_
              first | refine HA.ga 41 rfl rfl ?_ | refine HA.na 41 rfl rfl ?_ | refine HA.nu 41 rfl rfl ?_
              first | refine HA.ga 42 rfl rfl ?_ | refine HA.na 42 rfl rfl ?_ | refine HA.nu 42 rfl rfl ?_
              refine HA.pa 43 rfl ?_
              refine HA.done (by kernel_rfl) ?_
              exact HX.cut false rfl esA (by repeat (first | exact Hs.nil _ | (refine Hs.cons pickA ?_)))
            · refine HO.drop_a rfl ?_
              refine HA.all [38] (by kernel_rfl) rfl ⟨⟨_, rfl, ?_⟩, trivial⟩
              refine HO.drop_a rfl ?_
              refine HA.all [40] (by kernel_rfl) rfl ⟨⟨_, rfl, ?_⟩, trivial⟩
              refine HO.drop_a rfl ?_
              first | refine HA.ga 41 rfl rfl ?_ | refine HA.na 41 rfl rfl ?_ | refine HA.nu 41 rfl rfl ?_
              first | refine HA.ga 42 rfl rfl ?_ | refine HA.na 42 rfl rfl ?_ | refine HA.nu 42 rfl rfl ?_
              refine HA.pa 43 rfl ?_
              refine HA.done (by kernel_rfl) ?_
              exact HX.cut false rfl esA (by repeat (first | exact Hs.nil _ | (refine Hs.cons pickA ?_)))
          · refine HO.drop_a rfl ?_
            refine HA.all [37] (by kernel_rfl) rfl ⟨⟨_, rfl, ?_⟩, trivial⟩
            refine HO.drop_a rfl ?_
            refine HA.all [38] (by kernel_rfl) rfl ⟨⟨_, rfl, ?_⟩, trivial⟩
            refine HO.drop_a rfl ?_
            refine HA.all [40] (by kernel_rfl) rfl ⟨⟨_, rfl, ?_⟩, trivial⟩
            refine HO.drop_a rfl ?_
            first | refine HA.ga 41 rfl rfl ?_ | refine HA.na 41 rfl rfl ?_ | refine HA.nu 41 rfl rfl ?_
            first | refine HA.ga 42 rfl rfl ?_ | refine HA.na 42 rfl rfl ?_ | refine HA.nu 42 rfl rfl ?_
            refine HA.pa 43 rfl ?_
            refine HA.done (by kernel_rfl) ?_
            exact HX.cut false rfl esA (by repeat (first | exact Hs.nil _ | (refine Hs.cons pickA ?_)))
        · refine HO.drop_a rfl ?_
          refine HA.all [33] (by kernel_rfl) rfl ⟨⟨_, rfl, ?_⟩, trivial⟩
          refine HO.drop_a rfl ?_
          first | refine HA.ga 36 rfl rfl ?_ | refine HA.na 36 rfl rfl ?_ | refine HA.nu 36 rfl rfl ?_
          refine HA.all [37] (by kernel_rfl) rfl ⟨⟨_, rfl, ?_⟩, trivial⟩
          refine HO.drop_a rfl ?_
          refine HA.all [38] (by kernel_rfl) rfl ⟨⟨_, rfl, ?_⟩, trivial⟩
          refine HO.drop_a rfl ?_
          refine HA.all [40] (by kernel_rfl) rfl ⟨⟨_, rfl, ?_⟩, trivial⟩
          refine HO.drop_a rfl ?_
          first | refine HA.ga 41 rfl rfl ?_ | refine HA.na 41 rfl rfl ?_ | refine HA.nu 41 rfl rfl ?_
          first | refine HA.ga 42 rfl rfl ?_ | refine HA.na 42 rfl rfl ?_ | refine HA.nu 42 rfl rfl ?_
          refine HA.pa 43 rfl ?_
          refine HA.done (by kernel_rfl) ?_
          exact HX.cut false rfl esA (by repeat (first | exact Hs.nil _ | (refine Hs.cons pickA ?_)))
      have hk0' : (0 : Int) < (k : Int) := by omega
      obtain ⟨k', rfl⟩ : ∃ k', k = k' + 1 := ⟨k - 1, by omega⟩
      obtain ⟨s, hs⟩ : ∃ s, (bsL q i)[k']? = some s := ⟨_, List.getElem?_eq_getElem (by omega)⟩
      have hasc := list_asc hqi.asc hs hr
      refine HC.any rfl ?_
      refine HA.pa 0 rfl ?_
      refine HA.all [1] (by kernel_rfl) rfl ⟨⟨_, rfl, ?_⟩, trivial⟩
      refine HO.one ?_
      refine H1.ldAgg (vs := rcells r) rfl memA rfl (fun i v hv => by rw [Nat.zero_add]; exact hv) rfl ?_
      apply HA.fold
      refine HA.all [2] (by kernel_rfl) rfl ⟨⟨_, rfl, ?_⟩, trivial⟩
      refine HO.one ?_
      refine H1.callx (u := .bool true) (vs := [.slice al l.length cl, recV r]) rfl rfl (fun w' hM => hin w' (hM.recs memA)) ?_
      apply HA.fold
      refine HA.pa 3 rfl ?_
      refine HA.pa 4 rfl ?_
      refine HA.all [5] (by kernel_rfl) rfl ⟨⟨_, rfl, ?_⟩, trivial⟩
      refine HO.one_a rfl ?_
      refine H1.ldAgg (vs := rcells r) rfl memA rfl (fun i v hv => by rw [Nat.zero_add]; exact hv) rfl ?_
      apply HA.fold
      refine HA.all [6] (by kernel_rfl) rfl ⟨⟨_, rfl, ?_⟩, trivial⟩
      refine HO.one_a rfl ?_
      refine H1.callx (u := .bool true) (vs := [recV r]) rfl rfl (fun w' _ => hvl w') ?_
      apply HA.fold
      first | refine HA.ga 7 rfl rfl ?_ | refine HA.na 7 rfl rfl ?_ | refine HA.nu 7 rfl rfl ?_
      refine HA.pa 8 rfl ?_
      refine HA.pa 9 rfl ?_
      first | refine HA.ga 10 rfl rfl ?_ | refine HA.na 10 rfl rfl ?_ | refine HA.nu 10 rfl rfl ?_
      first | refine HA.ga 12 rfl rfl ?_ | refine HA.na 12 rfl rfl ?_ | refine HA.nu 12 rfl rfl ?_
      refine HA.all [11] (by kernel_rfl) rfl ⟨⟨_, rfl, ?_⟩, trivial⟩
      refine HO.one_a rfl ?_
      refine H1.ldb (v := zv r.day) (cs := rcells r) rfl memA rfl rfl ?_
      apply HA.fold
      first | refine HA.ga 13 rfl rfl ?_ | refine HA.na 13 rfl rfl ?_ | refine HA.nu 13 rfl rfl ?_
      refine HA.pa 14 rfl ?_
      refine HA.pa 15 rfl ?_
      first | refine HA.ga 16 rfl rfl ?_ | refine HA.na 16 rfl rfl ?_ | refine HA.nu 16 rfl rfl ?_
      refine HA.all [17] (by kernel_rfl) rfl ⟨⟨_, rfl, ?_⟩, trivial⟩
      refine HO.one_a rfl ?_
      refine H1.ldb (v := .bool false) (cs := rcells r) rfl memA (by show some (Value.bool r.gone) = _; rw [hrg]) rfl ?_
      apply HA.fold
      refine HA.pa 18 rfl ?_
      refine HA.pa 19 rfl ?_
      first | refine HA.ga 20 rfl rfl ?_ | refine HA.na 20 rfl rfl ?_ | refine HA.nu 20 rfl rfl ?_
      first | refine HA.ga 22 rfl rfl ?_ | refine HA.na 22 rfl rfl ?_ | refine HA.nu 22 rfl rfl ?_
      first | refine HA.ga 23 rfl rfl ?_ | refine HA.na 23 rfl rfl ?_ | refine HA.nu 23 rfl rfl ?_
      refine HA.all [21] (by kernel_rfl) rfl ⟨⟨_, rfl, ?_⟩, trivial⟩
      refine HO.one_a rfl ?_
      refine H1.ldb (v := zv r.kind) (cs := rcells r) rfl memA rfl rfl ?_
      apply HA.fold
      first | refine HA.ga 24 rfl rfl ?_ | refine HA.na 24 rfl rfl ?_ | refine HA.nu 24 rfl rfl ?_
      refine HA.pa 25 rfl ?_
      refine HA.pa 26 rfl ?_
      first | refine HA.ga 27 rfl rfl ?_ | refine HA.na 27 rfl rfl ?_ | refine HA.nu 27 rfl rfl ?_
      first | refine HA.ga 28 rfl rfl ?_ | refine HA.na 28 rfl rfl ?_ | refine HA.nu 28 rfl rfl ?_
      first | refine HA.ga 29 rfl rfl ?_ | refine HA.na 29 rfl rfl ?_ | refine HA.nu 29 rfl rfl ?_
      first | refine HA.ga 30 rfl rfl ?_ | refine HA.na 30 rfl rfl ?_ | refine HA.nu 30 rfl rfl ?_
      first | refine HA.ga 31 rfl rfl ?_ | refine HA.na 31 rfl rfl ?_ | refine HA.nu 31 rfl rfl ?_
      first | refine HA.ga 32 rfl rfl ?_ | refine HA.na 32 rfl rfl ?_ | refine HA.nu 32 rfl rfl ?_
      first | refine HA.ga 34 rfl rfl ?_ | refine HA.na 34 rfl rfl ?_ | refine HA.nu 34 rfl rfl ?_
      first | refine HA.ga 35 rfl rfl ?_ | refine HA.na 35 rfl rfl ?_ | refine HA.nu 35 rfl rfl ?_
      refine HA.all [33, 39] (by kernel_rfl) rfl ⟨⟨_, rfl, ?_⟩, ⟨_, rfl, ?_⟩, trivial⟩
      · refine HO.one_a rfl ?_
        refine H1.ldb (v := .slice (some ⟨bq, 0, none⟩) (bsL q i).length (q i).2.1) (cs := row 8 fun i => slot (q i)) rfl memA (row_slot hlt hbq) rfl ?_
        apply HA.fold
        first | refine HA.ga 36 rfl rfl ?_ | refine HA.na 36 rfl rfl ?_ | refine HA.nu 36 rfl rfl ?_
        refine HA.all [37, 39] (by kernel_rfl) rfl ⟨⟨_, rfl, ?_⟩, ⟨_, rfl, ?_⟩, trivial⟩
        · refine HO.one_a rfl ?_
          refine H1.ldSlot (q := q) rfl memA hlt hbq hs rfl rfl ?_ (hoff := by omega)
          apply HA.fold
          refine HA.all [38, 39] (by kernel_rfl) rfl ⟨⟨_, rfl, ?_⟩, ⟨_, rfl, ?_⟩, trivial⟩
          · refine HO.one_a rfl ?_
            refine H1.callx (u := zv (numK s)) (vs := [recV s]) rfl rfl (fun w' _ => number21_fn s w') ?_
            apply HA.fold
            refine HA.all [39] (by kernel_rfl) rfl ⟨⟨_, rfl, ?_⟩, trivial⟩
            refine HO.one_a rfl ?_
            refine H1.ldAgg (vs := rcells r) rfl memA rfl (fun i v hv => by rw [Nat.zero_add]; exact hv) rfl ?_
            apply HA.fold
            refine HA.all [40] (by kernel_rfl) rfl ⟨⟨_, rfl, ?_⟩, trivial⟩
            refine HO.one_a rfl ?_
            refine H1.callx (u := zv (numK r)) (vs := [recV r]) rfl rfl (fun w' _ => number21_fn r w') ?_
            apply HA.fold
            first | refine HA.ga 41 rfl rfl ?_ | refine HA.na 41 rfl rfl ?_ | refine HA.nu 41 rfl rfl ?_
            first | refine HA.ga 42 rfl rfl ?_ | refine HA.na 42 rfl rfl ?_ | refine HA.nu 42 rfl rfl ?_
            refine HA.pa 43 rfl ?_
            refine HA.done (by kernel_rfl) ?_
            exact HX.cut (decide (numK r ≤ numK s)) (decide_eq_false (by omega)) esA (by repeat (first | exact Hs.nil _ | (refine Hs.cons pickA ?_)))
          · refine HO.one_a rfl ?_
            refine H1.ldAgg (vs := rcells r) rfl memA rfl (fun i v hv => by rw [Nat.zero_add]; exact hv) rfl ?_
            apply HA.fold
            refine HA.all [38] (by kernel_rfl) rfl ⟨⟨_, rfl, ?_⟩, trivial⟩
            refine HO.one_a rfl ?_
            refine H1.callx (u := zv (numK s)) (vs := [recV s]) rfl rfl (fun w' _ => number21_fn s w') ?_
            apply HA.fold
            refine HA.all [40] (by kernel_rfl) rfl ⟨⟨_, rfl, ?_⟩, trivial⟩
            refine HO.one_a rfl ?_
            refine H1.callx (u := zv (numK r)) (vs := [recV r]) rfl rfl (fun w' _ => number21_fn r w') ?_
            apply HA.fold
            first | refine HA.ga 41 rfl rfl ?_ | refine HA.na 41 rfl rfl ?_ | refine HA.nu 41 rfl rfl ?_
            first | refine HA.ga 42 rfl rfl ?_ | refine HA.na 42 rfl rfl ?_ | refine HA.nu 42 rfl rfl ?_
            refine HA.pa 43 rfl ?_
            refine HA.done (by kernel_rfl) ?_
            exact HX.cut (decide (numK r ≤ numK s)) (decide_eq_false (by omega)) esA (by repeat (first | exact Hs.nil _ | (refine Hs.cons pickA ?_)))
        · refine HO.one_a rfl ?_
          refine H1.ldAgg (vs := rcells r) rfl memA rfl (fun i v hv => by rw [Nat.zero_add]; exact hv) rfl ?_
          apply HA.fold
          refine HA.all [37] (by kernel_rfl) rfl ⟨⟨_, rfl, ?_⟩, trivial⟩
          refine HO.one_a rfl ?_
          refine H1.ldSlot (q := q) rfl memA hlt hbq hs rfl rfl ?_ (hoff := by omega)
          apply HA.fold
          refine HA.all [38] (by kernel_rfl) rfl ⟨⟨_, rfl, ?_⟩, trivial⟩
          refine HO.one_a rfl ?_
          refine H1.callx (u := zv (numK s)) (vs := [recV s]) rfl rfl (fun w' _ => number21_fn s w') ?_
          apply HA.fold
          refine HA.all [40] (by kernel_rfl) rfl ⟨⟨_, rfl, ?_⟩, trivial⟩
          refine HO.one_a rfl ?_
          refine H1.callx (u := zv (numK r)) (vs := [recV r]) rfl rfl (fun w' _ => number21_fn r w') ?_
          apply HA.fold
          first | refine HA.ga 41 rfl rfl ?_ | refine HA.na 41 rfl rfl ?_ | refine HA.nu 41 rfl rfl ?_
          first | refine HA.ga 42 rfl rfl ?_ | refine HA.na 42 rfl rfl ?_ | refine HA.nu 42 rfl rfl ?_
          refine HA.pa 43 rfl ?_
          refine HA.done (by kernel_rfl) ?_
          exact HX.cut (decide (numK r ≤ numK s)) (decide_eq_false (by omega)) esA (by repeat (first | exact Hs.nil _ | (refine Hs.cons pickA ?_)))
      · refine HO.one_a rfl ?_
        refine H1.ldAgg (vs := rcells r) rfl memA rfl (fun i v hv => by rw [Nat.zero_add]; exact hv) rfl ?_
        apply HA.fold
        refine HA.all [33] (by kernel_rfl) rfl ⟨⟨_, rfl, ?_⟩, trivial⟩
        refine HO.one_a rfl ?_
        refine H1.ldb (v := .slice (some ⟨bq, 0, none⟩) (bsL q i).length (q i).2.1) (cs := row 8 fun i => slot (q i)) rfl memA (row_slot hlt hbq) rfl ?_
        apply HA.fold
        first | refine HA.ga 36 rfl rfl ?_ | refine HA.na 36 rfl rfl ?_ | refine HA.nu 36 rfl rfl ?_
        refine HA.all [37] (by kernel_rfl) rfl ⟨⟨_, rfl, ?_⟩, trivial⟩
        refine HO.one_a rfl ?_
        refine H1.ldSlot (q := q) rfl memA hlt hbq hs rfl rfl ?_ (hoff := by omega)
        apply HA.fold
        refine HA.all [38] (by kernel_rfl) rfl ⟨⟨_, rfl, ?_⟩, trivial⟩
        refine HO.one_a rfl ?_
        refine H1.callx (u := zv (numK s)) (vs := [recV s]) rfl rfl (fun w' _ => number21_fn s w') ?_
        apply HA.fold
        refine HA.all [40] (by kernel_rfl) rfl ⟨⟨_, rfl, ?_⟩, trivial⟩
        refine HO.one_a rfl ?_
        refine H1.callx (u := zv (numK r)) (vs := [recV r]) rfl rfl (fun w' _ => number21_fn r w') ?_
        apply HA.fold
        first | refine HA.ga 41 rfl rfl ?_ | refine HA.na 41 rfl rfl ?_ | refine HA.nu 41 rfl rfl ?_
        first | refine HA.ga 42 rfl rfl ?_ | refine HA.na 42 rfl rfl ?_ | refine HA.nu 42 rfl rfl ?_
        refine HA.pa 43 rfl ?_
        refine HA.done (by kernel_rfl) ?_
        exact HX.cut (decide (numK r ≤ numK s)) (decide_eq_false (by omega)) esA (by repeat (first | exact Hs.nil _ | (refine Hs.cons pickA ?_)))
    rintro c rfl
    clear hin hvl
    repeat' (first | apply HL.fold | apply HA.fold | apply HL.nil | apply HX.n_then | apply HC.seq | apply HC.region | refine HL.pa ?_ | refine HL.ga rfl ?_ | refine HL.na rfl ?_ | refine HL.nu rfl rfl ?_ | apply HC.block | apply HC.skip | apply HC.exit | apply HC.ret | apply HX.e_block | refine HX.e_other rfl ?_ | apply HX.e_then | apply HX.e_again | apply HX.n_block | apply HX.r_then | apply HX.r_block | apply HX.r_again | refine HC.cond_yes rfl ?_ | refine HC.cond_no rfl ?_ | refine HL.one (H1.ldb rfl memA rfl rfl ?_) | refine HC.cond rfl (fun hc => ?_) (fun hc => ?_) | refine HC.cond_b rfl (fun hc => ?_) (fun hc => ?_))
    refine HC.loop (α := Nat) (fun j => [(14, zv (j : Int)), (13, .pointer (some ⟨b13, 0, none⟩)), (12, zv (k : Int)), (11, zv (i : Int)), (10, zv m), (2, zv Y), (7, .bool true), (8, .slice al l.length cl), (9, .slice (some ⟨ba, 0, none⟩) 8 8)]) (fun _ => [A.blk b13 (rcells r) 24, A.blk ba (row 8 fun i => slot (q i)) 26, bsA q, A.grow 24 15 al cl l.length (rcl l)]) (fun j => j ≤ l.length) (fun j => l.length - j) 0 (Nat.zero_le _) esA (by repeat (first | exact Hs.nil _ | (refine Hs.cons pickA ?_))) ?_
    intro j hj
    by_cases hjl : j < l.length
    rotate_left
    · obtain rfl : j = l.length := by omega
      repeat' (first | apply HL.fold | apply HA.fold | apply HL.nil | apply HX.n_then | apply HC.seq | apply HC.region | refine HL.pa ?_ | refine HL.ga rfl ?_ | refine HL.na rfl ?_ | refine HL.nu rfl rfl ?_ | apply HC.block | apply HC.skip | apply HC.exit | apply HC.ret | apply HX.e_block | refine HX.e_other rfl ?_ | apply HX.e_then | apply HX.e_again | apply HX.n_block | apply HX.r_then | apply HX.r_block | apply HX.r_again | refine HC.cond_yes rfl ?_ | refine HC.cond_no rfl ?_ | refine HL.one (H1.ldb rfl memA rfl rfl ?_) | refine HC.cond rfl (fun hc => ?_) (fun hc => ?_) | refine HC.cond_b rfl (fun hc => ?_) (fun hc => ?_))
      exact HX.again (k + 1, m + 1) ⟨hkl, by show m + 1 = n + ((k + 1 : Nat) : Int); omega⟩ (by show (bsL q i).length - (k + 1) < (bsL q i).length - k; omega) esA (by repeat (first | exact Hs.nil _ | (refine Hs.cons pickA ?_)))
    have hjl' : (j : Int) < (l.length : Int) := by omega
    obtain ⟨s, hs⟩ : ∃ s, l[j]? = some s := ⟨_, List.getElem?_eq_getElem hjl⟩
    have hsm := List.mem_of_getElem? hs
    have hso := hokl s hsm
    have hne : l ≠ [] := fun e => by rw [e] at hsm; cases hsm
    refine HC.openg (e := 24) (a := al) (xs := rcl l) memA (by omega) ?_
    rintro bl rfl
    repeat' (first | apply HL.fold | apply HA.fold | apply HL.nil | apply HX.n_then | apply HC.seq | apply HC.region | refine HL.pa ?_ | refine HL.ga rfl ?_ | refine HL.na rfl ?_ | refine HL.nu rfl rfl ?_ | apply HC.block | apply HC.skip | apply HC.exit | apply HC.ret | apply HX.e_block | refine HX.e_other rfl ?_ | apply HX.e_then | apply HX.e_again | apply HX.n_block | apply HX.r_then | apply HX.r_block | apply HX.r_again | refine HC.cond_yes rfl ?_ | refine HC.cond_no rfl ?_ | refine HL.one (H1.ldb rfl memA rfl rfl ?_) | refine HC.cond rfl (fun hc => ?_) (fun hc => ?_) | refine HC.cond_b rfl (fun hc => ?_) (fun hc => ?_))
    refine HC.cut (α := Bool) (fun c => [(118, .bool c), (14, zv (j : Int)), (13, .pointer (some ⟨b13, 0, none⟩)), (12, zv (k : Int)), (11, zv (i : Int)), (10, zv m), (2, zv Y), (7, .bool true), (8, .slice (some ⟨bl, 0, none⟩) l.length cl), (9, .slice (some ⟨ba, 0, none⟩) 8 8)]) (fun _ => [A.blk b13 (rcells r) 24, A.blk ba (row 8 fun i => slot (q i)) 26, bsA q, A.grow 24 15 (some ⟨bl, 0, none⟩) cl l.length (rcl l)]) (fun c => c = false) ?_ ?_
    · by_cases hsd : s.day ≤ Y
      · have hpv := prevB_no (hrp s hsm hsd)
        refine HC.any rfl ?_
        refine HA.pa 0 rfl ?_
        refine HA.pa 1 rfl ?_
        refine HA.pa 2 rfl ?_
        refine HA.pa 3 rfl ?_
        refine HA.pa 5 rfl ?_
        refine HA.all [4] (by kernel_rfl) rfl ⟨⟨_, rfl, ?_⟩, trivial⟩
        refine HO.one ?_
        refine H1.ldg (v := zv s.day) rfl memA (by simpa using rcl_get hs 3 _ rfl) rfl ?_
        apply HA.fold
        refine HA.pa 6 rfl ?_
        refine HA.pa 7 rfl ?_
        first | refine HA.ga 8 rfl rfl ?_ | refine HA.na 8 rfl rfl ?_ | refine HA.nu 8 rfl rfl ?_
        first | refine HA.ga 9 rfl rfl ?_ | refine HA.na 9 rfl rfl ?_ | refine HA.nu 9 rfl rfl ?_
        first | refine HA.ga 10 rfl rfl ?_ | refine HA.na 10 rfl rfl ?_ | refine HA.nu 10 rfl rfl ?_
        refine HA.all [11, 12] (by kernel_rfl) rfl ⟨⟨_, rfl, ?_⟩, ⟨_, rfl, ?_⟩, trivial⟩
        · refine HO.one_a rfl ?_
          refine H1.ldAggw (vs := rcells s) rfl rfl (fun w' hM i v hv => by obtain ⟨b', o', e1, -, hc⟩ := (hM.recs (l := l) memA).at hne; cases e1; have h := hc _ s hs i v hv; rw [Nat.zero_add] at h; exact h) rfl ?_
          apply HA.fold
          refine HA.all [12] (by kernel_rfl) rfl ⟨⟨_, rfl, ?_⟩, trivial⟩
          refine HO.one_a rfl ?_
          refine H1.ldAgg (vs := rcells r) rfl memA rfl (fun i v hv => by rw [Nat.zero_add]; exact hv) rfl ?_
          apply HA.fold
          refine HA.all [13] (by kernel_rfl) rfl ⟨⟨_, rfl, ?_⟩, trivial⟩
          refine HO.one_a rfl ?_
          refine H1.callx (u := .bool false) (vs := [recV s, recV r]) rfl rfl (fun w' _ => by have h := prevails_fn s r hso hro w'; rw [hpv] at h; exact h) ?_
          apply HA.fold
          refine HA.pa 14 rfl ?_
          refine HA.done (by kernel_rfl) ?_
          exact HX.cut false rfl esA (by repeat (first | exact Hs.nil _ | (refine Hs.cons pickA ?_)))
        · refine HO.one_a rfl ?_
          refine H1.ldAgg (vs := rcells r) rfl memA rfl (fun i v hv => by rw [Nat.zero_add]; exact hv) rfl ?_
          apply HA.fold
          refine HA.all [11] (by kernel_rfl) rfl ⟨⟨_, rfl, ?_⟩, trivial⟩
          refine HO.one_a rfl ?_
          refine H1.ldAggw (vs := rcells s) rfl rfl (fun w' hM i v hv => by obtain ⟨b', o', e1, -, hc⟩ := (hM.recs (l := l) memA).at hne; cases e1; have h := hc _ s hs i v hv; rw [Nat.zero_add] at h; exact h) rfl ?_
          apply HA.fold
          refine HA.all [13] (by kernel_rfl) rfl ⟨⟨_, rfl, ?_⟩, trivial⟩
          refine HO.one_a rfl ?_
          refine H1.callx (u := .bool false) (vs := [recV s, recV r]) rfl rfl (fun w' _ => by have h := prevails_fn s r hso hro w'; rw [hpv] at h; exact h) ?_
          apply HA.fold
          refine HA.pa 14 rfl ?_
          refine HA.done (by kernel_rfl) ?_
          exact HX.cut false rfl esA (by repeat (first | exact Hs.nil _ | (refine Hs.cons pickA ?_)))
      refine HC.any rfl ?_
      refine HA.pa 0 rfl ?_
      refine HA.pa 1 rfl ?_
      refine HA.pa 2 rfl ?_
      refine HA.pa 3 rfl ?_
      refine HA.pa 5 rfl ?_
      refine HA.all [4] (by kernel_rfl) rfl ⟨⟨_, rfl, ?_⟩, trivial⟩
      refine HO.one ?_
      refine H1.ldg (v := zv s.day) rfl memA (by simpa using rcl_get hs 3 _ rfl) rfl ?_
      apply HA.fold
      refine HA.pa 6 rfl ?_
      refine HA.pa 7 rfl ?_
      first | refine HA.ga 8 rfl rfl ?_ | refine HA.na 8 rfl rfl ?_ | refine HA.nu 8 rfl rfl ?_
      first | refine HA.ga 9 rfl rfl ?_ | refine HA.na 9 rfl rfl ?_ | refine HA.nu 9 rfl rfl ?_
      first | refine HA.ga 10 rfl rfl ?_ | refine HA.na 10 rfl rfl ?_ | refine HA.nu 10 rfl rfl ?_
      refine HA.all [11, 12] (by kernel_rfl) rfl ⟨⟨_, rfl, ?_⟩, ⟨_, rfl, ?_⟩, trivial⟩
      · refine HO.drop_a rfl ?_
        refine HA.all [12] (by kernel_rfl) rfl ⟨⟨_, rfl, ?_⟩, trivial⟩
        refine HO.drop_a rfl ?_
        refine HA.all [13] (by kernel_rfl) rfl ⟨⟨_, rfl, ?_⟩, trivial⟩
        refine HO.drop_a rfl ?_
        refine HA.pa 14 rfl ?_
        refine HA.done (by kernel_rfl) ?_
        exact HX.cut false rfl esA (by repeat (first | exact Hs.nil _ | (refine Hs.cons pickA ?_)))
      · refine HO.drop_a rfl ?_
        refine HA.all [11] (by kernel_rfl) rfl ⟨⟨_, rfl, ?_⟩, trivial⟩
        refine HO.drop_a rfl ?_
        refine HA.all [13] (by kernel_rfl) rfl ⟨⟨_, rfl, ?_⟩, trivial⟩
        refine HO.drop_a rfl ?_
        refine HA.pa 14 rfl ?_
        refine HA.done (by kernel_rfl) ?_
        exact HX.cut false rfl esA (by repeat (first | exact Hs.nil _ | (refine Hs.cons pickA ?_)))
    rintro c rfl
    repeat' (first | apply HL.fold | apply HA.fold | apply HL.nil | apply HX.n_then | apply HC.seq | apply HC.region | refine HL.pa ?_ | refine HL.ga rfl ?_ | refine HL.na rfl ?_ | refine HL.nu rfl rfl ?_ | apply HC.block | apply HC.skip | apply HC.exit | apply HC.ret | apply HX.e_block | refine HX.e_other rfl ?_ | apply HX.e_then | apply HX.e_again | apply HX.n_block | apply HX.r_then | apply HX.r_block | apply HX.r_again | refine HC.cond_yes rfl ?_ | refine HC.cond_no rfl ?_ | refine HL.one (H1.ldb rfl memA rfl rfl ?_) | refine HC.cond rfl (fun hc => ?_) (fun hc => ?_) | refine HC.cond_b rfl (fun hc => ?_) (fun hc => ?_))
    exact HX.again (j + 1) hjl (by omega) esA (by repeat (first | exact Hs.nil _ | (refine Hs.cons pickA ?_)))
  rintro - -
  have hC8 := hcq 8 (Nat.le_refl _)
  repeat' (first | apply HL.fold | apply HA.fold | apply HL.nil | apply HX.n_then | apply HC.seq | apply HC.region | refine HL.pa ?_ | refine HL.ga rfl ?_ | refine HL.na rfl ?_ | refine HL.nu rfl rfl ?_ | apply HC.block | apply HC.skip | apply HC.exit | apply HC.ret | apply HX.e_block | refine HX.e_other rfl ?_ | apply HX.e_then | apply HX.e_again | apply HX.n_block | apply HX.r_then | apply HX.r_block | apply HX.r_again | refine HC.cond_yes rfl ?_ | refine HC.cond_no rfl ?_ | refine HL.one (H1.ldb rfl memA rfl rfl ?_) | refine HC.cond rfl (fun hc => ?_) (fun hc => ?_) | refine HC.cond_b rfl (fun hc => ?_) (fun hc => ?_))
  refine HC.loop (α := Nat × Int) (fun z => [(16, zv (z.1 : Int)), (15, zv z.2), (10, zv (cntL (bsL q) 8 : Int)), (2, zv Y), (7, .bool true), (8, .slice al l.length cl)]) (fun _ => [A.grow 24 15 al cl l.length (rcl l)]) (fun z => z.1 ≤ l.length ∧ WantI l Y z.1 z.2) (fun z => l.length - z.1) (0, 0) ⟨Nat.zero_le _, WantI.zero l Y⟩ esA (by repeat (first | exact Hs.nil _ | (refine Hs.cons pickA ?_))) ?_
  rintro ⟨i, n⟩ ⟨hi, hn⟩
  dsimp only at hi hn ⊢
  have hnl := hn.le
  by_cases hlt : i < l.length
  rotate_left
  · obtain rfl : i = l.length := by omega
    have hcw := cnt_want hq hn
    rw [← hcw]
    repeat' (first | apply HL.fold | apply HA.fold | apply HL.nil | apply HX.n_then | apply HC.seq | apply HC.region | refine HL.pa ?_ | refine HL.ga rfl ?_ | refine HL.na rfl ?_ | refine HL.nu rfl rfl ?_ | apply HC.block | apply HC.skip | apply HC.exit | apply HC.ret | apply HX.e_block | refine HX.e_other rfl ?_ | apply HX.e_then | apply HX.e_again | apply HX.n_block | apply HX.r_then | apply HX.r_block | apply HX.r_again | refine HC.cond_yes rfl ?_ | refine HC.cond_no rfl ?_ | refine HL.one (H1.ldb rfl memA rfl rfl ?_) | refine HC.cond rfl (fun hc => ?_) (fun hc => ?_) | refine HC.cond_b rfl (fun hc => ?_) (fun hc => ?_))
    exact HX.ret1 rfl rfl fun w' hM => ⟨congrArg Value.bool (decide_eq_true rfl), hM.ext⟩
  have hlti : (i : Int) < (l.length : Int) := by omega
  obtain ⟨s, hs⟩ : ∃ s, l[i]? = some s := ⟨_, List.getElem?_eq_getElem hlt⟩
  have hsm := List.mem_of_getElem? hs
  have hso := hokl s hsm
  have hne : l ≠ [] := fun e => by rw [e] at hsm; cases hsm
  refine HC.openg (e := 24) (a := al) (xs := rcl l) memA (by omega) ?_
  rintro bl rfl
  repeat' (first | apply HL.fold | apply HA.fold | apply HL.nil | apply HX.n_then | apply HC.seq | apply HC.region | refine HL.pa ?_ | refine HL.ga rfl ?_ | refine HL.na rfl ?_ | refine HL.nu rfl rfl ?_ | apply HC.skip | apply HC.exit | apply HC.ret | apply HX.e_block | refine HX.e_other rfl ?_ | apply HX.e_then | apply HX.e_again | apply HX.n_block | apply HX.r_then | apply HX.r_block | apply HX.r_again | refine HC.cond_yes rfl ?_ | refine HC.cond_no rfl ?_ | refine HL.one (H1.ldb rfl memA rfl rfl ?_) | refine HC.cond rfl (fun hc => ?_) (fun hc => ?_) | refine HC.cond_b rfl (fun hc => ?_) (fun hc => ?_))
  refine HC.block ?_
  repeat refine HC.seq ?_
  refine HC.cut (α := Bool) (fun c => [(17, .bool c), (16, zv (i : Int)), (15, zv n), (10, zv (cntL (bsL q) 8 : Int)), (2, zv Y), (7, .bool true), (8, .slice (some ⟨bl, 0, none⟩) l.length cl)]) (fun _ => [A.grow 24 15 (some ⟨bl, 0, none⟩) cl l.length (rcl l)]) (fun c => c = true ↔ (ValidR s ∧ s.day ≤ Y ∧ s.gone = false)) ?_ ?_
  · by_cases hsv : ValidR s
    · have hvl : ∀ w', Fn Tryz.prog 12 #[recV s] w' fun v w'' => v = .bool true ∧ Ext w' w'' := fun w' => by have h := valid_fn s hso w'; rw [validB_yes hsv] at h; exact h
      repeat' (first | apply HL.fold | apply HA.fold | apply HL.nil | apply HX.n_then | apply HC.seq | apply HC.region | refine HL.pa ?_ | refine HL.ga rfl ?_ | refine HL.na rfl ?_ | refine HL.nu rfl rfl ?_ | apply HC.block | apply HC.skip | apply HC.exit | apply HC.ret | apply HX.e_block | refine HX.e_other rfl ?_ | apply HX.e_then | apply HX.e_again | apply HX.n_block | apply HX.r_then | apply HX.r_block | apply HX.r_again | refine HC.cond_yes rfl ?_ | refine HC.cond_no rfl ?_ | refine HL.one (H1.ldb rfl memA rfl rfl ?_) | refine HC.cond rfl (fun hc => ?_) (fun hc => ?_) | refine HC.cond_b rfl (fun hc => ?_) (fun hc => ?_))
      refine HL.one (H1.ldAggw (vs := rcells s) rfl rfl (fun w' hM i v hv => by obtain ⟨b', o', e1, -, hc⟩ := (hM.recs (l := l) memA).at hne; cases e1; have h := hc _ s hs i v hv; rw [Nat.zero_add] at h; exact h) rfl ?_)
      repeat' (first | apply HL.fold | apply HA.fold | apply HL.nil | apply HX.n_then | apply HC.seq | apply HC.region | refine HL.pa ?_ | refine HL.ga rfl ?_ | refine HL.na rfl ?_ | refine HL.nu rfl rfl ?_ | apply HC.block | apply HC.skip | apply HC.exit | apply HC.ret | apply HX.e_block | refine HX.e_other rfl ?_ | apply HX.e_then | apply HX.e_again | apply HX.n_block | apply HX.r_then | apply HX.r_block | apply HX.r_again | refine HC.cond_yes rfl ?_ | refine HC.cond_no rfl ?_ | refine HL.one (H1.ldb rfl memA rfl rfl ?_) | refine HC.cond rfl (fun hc => ?_) (fun hc => ?_) | refine HC.cond_b rfl (fun hc => ?_) (fun hc => ?_))
      refine HL.one (H1.callx (u := .bool true) (vs := [recV s]) rfl rfl (fun w' _ => hvl w') ?_)
      repeat' (first | apply HL.fold | apply HA.fold | apply HL.nil | apply HX.n_then | apply HC.seq | apply HC.region | refine HL.pa ?_ | refine HL.ga rfl ?_ | refine HL.na rfl ?_ | refine HL.nu rfl rfl ?_ | apply HC.block | apply HC.skip | apply HC.exit | apply HC.ret | apply HX.e_block | refine HX.e_other rfl ?_ | apply HX.e_then | apply HX.e_again | apply HX.n_block | apply HX.r_then | apply HX.r_block | apply HX.r_again | refine HC.cond_yes rfl ?_ | refine HC.cond_no rfl ?_ | refine HL.one (H1.ldb rfl memA rfl rfl ?_) | refine HC.cond rfl (fun hc => ?_) (fun hc => ?_) | refine HC.cond_b rfl (fun hc => ?_) (fun hc => ?_))
      refine HL.one (H1.ldg (v := zv s.day) rfl memA (by simpa using rcl_get hs 3 _ rfl) rfl ?_)
      by_cases hsd : s.day ≤ Y
      · repeat' (first | apply HL.fold | apply HA.fold | apply HL.nil | apply HX.n_then | apply HC.seq | apply HC.region | refine HL.pa ?_ | refine HL.ga rfl ?_ | refine HL.na rfl ?_ | refine HL.nu rfl rfl ?_ | apply HC.block | apply HC.skip | apply HC.exit | apply HC.ret | apply HX.e_block | refine HX.e_other rfl ?_ | apply HX.e_then | apply HX.e_again | apply HX.n_block | apply HX.r_then | apply HX.r_block | apply HX.r_again | refine HC.cond_yes rfl ?_ | refine HC.cond_no rfl ?_ | refine HL.one (H1.ldb rfl memA rfl rfl ?_) | refine HC.cond rfl (fun hc => ?_) (fun hc => ?_) | refine HC.cond_b rfl (fun hc => ?_) (fun hc => ?_))
        cases hsg : s.gone with
        | true =>
          refine HL.one (H1.ldg (v := .bool true) rfl memA (by have h := rcl_get hs 4 (.bool true) (by show some (Value.bool s.gone) = _; rw [hsg]); simpa using h) rfl ?_)
          repeat' (first | apply HL.fold | apply HA.fold | apply HL.nil | apply HX.n_then | apply HC.seq | apply HC.region | refine HL.pa ?_ | refine HL.ga rfl ?_ | refine HL.na rfl ?_ | refine HL.nu rfl rfl ?_ | apply HC.block | apply HC.skip | apply HC.exit | apply HC.ret | apply HX.e_block | refine HX.e_other rfl ?_ | apply HX.e_then | apply HX.e_again | apply HX.n_block | apply HX.r_then | apply HX.r_block | apply HX.r_again | refine HC.cond_yes rfl ?_ | refine HC.cond_no rfl ?_ | refine HL.one (H1.ldb rfl memA rfl rfl ?_) | refine HC.cond rfl (fun hc => ?_) (fun hc => ?_) | refine HC.cond_b rfl (fun hc => ?_) (fun hc => ?_))
          exact HX.cut (!true) ⟨fun e => (by cases e), fun e => (by cases e.2.2)⟩ esA (by repeat (first | exact Hs.nil _ | (refine Hs.cons pickA ?_)))
        | false =>
          refine HL.one (H1.ldg (v := .bool false) rfl memA (by have h := rcl_get hs 4 (.bool false) (by show some (Value.bool s.gone) = _; rw [hsg]); simpa using h) rfl ?_)
          repeat' (first | apply HL.fold | apply HA.fold | apply HL.nil | apply HX.n_then | apply HC.seq | apply HC.region | refine HL.pa ?_ | refine HL.ga rfl ?_ | refine HL.na rfl ?_ | refine HL.nu rfl rfl ?_ | apply HC.block | apply HC.skip | apply HC.exit | apply HC.ret | apply HX.e_block | refine HX.e_other rfl ?_ | apply HX.e_then | apply HX.e_again | apply HX.n_block | apply HX.r_then | apply HX.r_block | apply HX.r_again | refine HC.cond_yes rfl ?_ | refine HC.cond_no rfl ?_ | refine HL.one (H1.ldb rfl memA rfl rfl ?_) | refine HC.cond rfl (fun hc => ?_) (fun hc => ?_) | refine HC.cond_b rfl (fun hc => ?_) (fun hc => ?_))
          exact HX.cut (!false) ⟨fun _ => ⟨hsv, hsd, rfl⟩, fun _ => rfl⟩ esA (by repeat (first | exact Hs.nil _ | (refine Hs.cons pickA ?_)))
      · repeat' (first | apply HL.fold | apply HA.fold | apply HL.nil | apply HX.n_then | apply HC.seq | apply HC.region | refine HL.pa ?_ | refine HL.ga rfl ?_ | refine HL.na rfl ?_ | refine HL.nu rfl rfl ?_ | apply HC.block | apply HC.skip | apply HC.exit | apply HC.ret | apply HX.e_block | refine HX.e_other rfl ?_ | apply HX.e_then | apply HX.e_again | apply HX.n_block | apply HX.r_then | apply HX.r_block | apply HX.r_again | refine HC.cond_yes rfl ?_ | refine HC.cond_no rfl ?_ | refine HL.one (H1.ldb rfl memA rfl rfl ?_) | refine HC.cond rfl (fun hc => ?_) (fun hc => ?_) | refine HC.cond_b rfl (fun hc => ?_) (fun hc => ?_))
        exact HX.cut false ⟨fun e => (by cases e), fun e => absurd e.2.1 hsd⟩ esA (by repeat (first | exact Hs.nil _ | (refine Hs.cons pickA ?_)))
    · have hvl : ∀ w', Fn Tryz.prog 12 #[recV s] w' fun v w'' => v = .bool false ∧ Ext w' w'' := fun w' => by have h := valid_fn s hso w'; rw [validB_no hsv] at h; exact h
      repeat' (first | apply HL.fold | apply HA.fold | apply HL.nil | apply HX.n_then | apply HC.seq | apply HC.region | refine HL.pa ?_ | refine HL.ga rfl ?_ | refine HL.na rfl ?_ | refine HL.nu rfl rfl ?_ | apply HC.block | apply HC.skip | apply HC.exit | apply HC.ret | apply HX.e_block | refine HX.e_other rfl ?_ | apply HX.e_then | apply HX.e_again | apply HX.n_block | apply HX.r_then | apply HX.r_block | apply HX.r_again | refine HC.cond_yes rfl ?_ | refine HC.cond_no rfl ?_ | refine HL.one (H1.ldb rfl memA rfl rfl ?_) | refine HC.cond rfl (fun hc => ?_) (fun hc => ?_) | refine HC.cond_b rfl (fun hc => ?_) (fun hc => ?_))
      refine HL.one (H1.ldAggw (vs := rcells s) rfl rfl (fun w' hM i v hv => by obtain ⟨b', o', e1, -, hc⟩ := (hM.recs (l := l) memA).at hne; cases e1; have h := hc _ s hs i v hv; rw [Nat.zero_add] at h; exact h) rfl ?_)
      repeat' (first | apply HL.fold | apply HA.fold | apply HL.nil | apply HX.n_then | apply HC.seq | apply HC.region | refine HL.pa ?_ | refine HL.ga rfl ?_ | refine HL.na rfl ?_ | refine HL.nu rfl rfl ?_ | apply HC.block | apply HC.skip | apply HC.exit | apply HC.ret | apply HX.e_block | refine HX.e_other rfl ?_ | apply HX.e_then | apply HX.e_again | apply HX.n_block | apply HX.r_then | apply HX.r_block | apply HX.r_again | refine HC.cond_yes rfl ?_ | refine HC.cond_no rfl ?_ | refine HL.one (H1.ldb rfl memA rfl rfl ?_) | refine HC.cond rfl (fun hc => ?_) (fun hc => ?_) | refine HC.cond_b rfl (fun hc => ?_) (fun hc => ?_))
      refine HL.one (H1.callx (u := .bool false) (vs := [recV s]) rfl rfl (fun w' _ => hvl w') ?_)
      repeat' (first | apply HL.fold | apply HA.fold | apply HL.nil | apply HX.n_then | apply HC.seq | apply HC.region | refine HL.pa ?_ | refine HL.ga rfl ?_ | refine HL.na rfl ?_ | refine HL.nu rfl rfl ?_ | apply HC.block | apply HC.skip | apply HC.exit | apply HC.ret | apply HX.e_block | refine HX.e_other rfl ?_ | apply HX.e_then | apply HX.e_again | apply HX.n_block | apply HX.r_then | apply HX.r_block | apply HX.r_again | refine HC.cond_yes rfl ?_ | refine HC.cond_no rfl ?_ | refine HL.one (H1.ldb rfl memA rfl rfl ?_) | refine HC.cond rfl (fun hc => ?_) (fun hc => ?_) | refine HC.cond_b rfl (fun hc => ?_) (fun hc => ?_))
      exact HX.cut false ⟨fun e => (by cases e), fun e => absurd e.1 hsv⟩ esA (by repeat (first | exact Hs.nil _ | (refine Hs.cons pickA ?_)))
  rintro c hcc
  have hf := FlagI.zero (l := l) (i := i) hcc
  clear hcc
  repeat' (first | apply HL.fold | apply HA.fold | apply HL.nil | apply HX.n_then | apply HC.seq | apply HC.region | refine HL.pa ?_ | refine HL.ga rfl ?_ | refine HL.na rfl ?_ | refine HL.nu rfl rfl ?_ | apply HC.block | apply HC.skip | apply HC.exit | apply HC.ret | apply HX.e_block | refine HX.e_other rfl ?_ | apply HX.e_then | apply HX.e_again | apply HX.n_block | apply HX.r_then | apply HX.r_block | apply HX.r_again | refine HC.cond_yes rfl ?_ | refine HC.cond_no rfl ?_ | refine HL.one (H1.ldb rfl memA rfl rfl ?_) | refine HC.cond rfl (fun hc => ?_) (fun hc => ?_) | refine HC.cond_b rfl (fun hc => ?_) (fun hc => ?_))
  refine HC.loop (α := Nat × Bool) (fun z => [(18, zv (z.1 : Int)), (17, .bool z.2), (16, zv (i : Int)), (15, zv n), (10, zv (cntL (bsL q) 8 : Int)), (2, zv Y), (7, .bool true), (8, .slice (some ⟨bl, 0, none⟩) l.length cl)]) (fun _ => [A.grow 24 15 (some ⟨bl, 0, none⟩) cl l.length (rcl l)]) (fun z => z.1 ≤ l.length ∧ FlagI l Y i s z.1 z.2) (fun z => l.length - z.1) (0, c) ⟨Nat.zero_le _, hf⟩ esA (by repeat (first | exact Hs.nil _ | (refine Hs.cons pickA ?_))) ?_
  clear hf
  rintro ⟨k, c⟩ ⟨hk, hf⟩
  dsimp only at hk hf ⊢
  cases c with
  | false =>
    have hw2 := hf.no hs hn
    by_cases hkl : k < l.length
    · have hklI : (k : Int) < (l.length : Int) := by omega
      repeat' (first | apply HL.fold | apply HA.fold | apply HL.nil | apply HX.n_then | apply HC.seq | apply HC.region | refine HL.pa ?_ | refine HL.ga rfl ?_ | refine HL.na rfl ?_ | refine HL.nu rfl rfl ?_ | apply HC.block | apply HC.skip | apply HC.exit | apply HC.ret | apply HX.e_block | refine HX.e_other rfl ?_ | apply HX.e_then | apply HX.e_again | apply HX.n_block | apply HX.r_then | apply HX.r_block | apply HX.r_again | refine HC.cond_yes rfl ?_ | refine HC.cond_no rfl ?_ | refine HL.one (H1.ldb rfl memA rfl rfl ?_) | refine HC.cond rfl (fun hc => ?_) (fun hc => ?_) | refine HC.cond_b rfl (fun hc => ?_) (fun hc => ?_))
      exact HX.again (i + 1, n) ⟨hlt, hw2⟩ (by show l.length - (i + 1) < l.length - i; omega) esA (by repeat (first | exact Hs.nil _ | (refine Hs.cons pickA ?_)))
    · have hklI : ¬ (k : Int) < (l.length : Int) := by omega
      repeat' (first | apply HL.fold | apply HA.fold | apply HL.nil | apply HX.n_then | apply HC.seq | apply HC.region | refine HL.pa ?_ | refine HL.ga rfl ?_ | refine HL.na rfl ?_ | refine HL.nu rfl rfl ?_ | apply HC.block | apply HC.skip | apply HC.exit | apply HC.ret | apply HX.e_block | refine HX.e_other rfl ?_ | apply HX.e_then | apply HX.e_again | apply HX.n_block | apply HX.r_then | apply HX.r_block | apply HX.r_again | refine HC.cond_yes rfl ?_ | refine HC.cond_no rfl ?_ | refine HL.one (H1.ldb rfl memA rfl rfl ?_) | refine HC.cond rfl (fun hc => ?_) (fun hc => ?_) | refine HC.cond_b rfl (fun hc => ?_) (fun hc => ?_))
      exact HX.again (i + 1, n) ⟨hlt, hw2⟩ (by show l.length - (i + 1) < l.length - i; omega) esA (by repeat (first | exact Hs.nil _ | (refine Hs.cons pickA ?_)))
  | true =>
    by_cases hkl : k < l.length
    rotate_left
    · obtain rfl : k = l.length := by omega
      have hw2 := hf.yes hs hn
      repeat' (first | apply HL.fold | apply HA.fold | apply HL.nil | apply HX.n_then | apply HC.seq | apply HC.region | refine HL.pa ?_ | refine HL.ga rfl ?_ | refine HL.na rfl ?_ | refine HL.nu rfl rfl ?_ | apply HC.block | apply HC.skip | apply HC.exit | apply HC.ret | apply HX.e_block | refine HX.e_other rfl ?_ | apply HX.e_then | apply HX.e_again | apply HX.n_block | apply HX.r_then | apply HX.r_block | apply HX.r_again | refine HC.cond_yes rfl ?_ | refine HC.cond_no rfl ?_ | refine HL.one (H1.ldb rfl memA rfl rfl ?_) | refine HC.cond rfl (fun hc => ?_) (fun hc => ?_) | refine HC.cond_b rfl (fun hc => ?_) (fun hc => ?_))
      exact HX.again (i + 1, n + 1) ⟨hlt, hw2⟩ (by show l.length - (i + 1) < l.length - i; omega) esA (by repeat (first | exact Hs.nil _ | (refine Hs.cons pickA ?_)))
    have hklI : (k : Int) < (l.length : Int) := by omega
    obtain ⟨t, ht⟩ : ∃ t, l[k]? = some t := ⟨_, List.getElem?_eq_getElem hkl⟩
    have hto := hokl t (List.mem_of_getElem? ht)
    repeat' (first | apply HL.fold | apply HA.fold | apply HL.nil | apply HX.n_then | apply HC.seq | apply HC.region | refine HL.pa ?_ | refine HL.ga rfl ?_ | refine HL.na rfl ?_ | refine HL.nu rfl rfl ?_ | apply HC.block | apply HC.skip | apply HC.exit | apply HC.ret | apply HX.e_block | refine HX.e_other rfl ?_ | apply HX.e_then | apply HX.e_again | apply HX.n_block | apply HX.r_then | apply HX.r_block | apply HX.r_again | refine HC.cond_yes rfl ?_ | refine HC.cond_no rfl ?_ | refine HL.one (H1.ldb rfl memA rfl rfl ?_) | refine HC.cond rfl (fun hc => ?_) (fun hc => ?_) | refine HC.cond_b rfl (fun hc => ?_) (fun hc => ?_))
    refine HC.cut (α := Bool) (fun c => [(191, .bool c), (18, zv (k : Int)), (17, .bool true), (16, zv (i : Int)), (15, zv n), (10, zv (cntL (bsL q) 8 : Int)), (2, zv Y), (7, .bool true), (8, .slice (some ⟨bl, 0, none⟩) l.length cl)]) (fun _ => [A.grow 24 15 (some ⟨bl, 0, none⟩) cl l.length (rcl l)]) (fun c => c = true ↔ ((t.day ≤ Y ∧ Prev t s) ∨ (k < i ∧ t = s))) ?_ ?_
    · by_cases htd : t.day ≤ Y
      · by_cases hp : Prev t s
        · have hpv : ∀ w', Fn Tryz.prog 14 #[recV t, recV s] w' fun v w'' => v = .bool true ∧ Ext w' w'' := fun w' => by have h := prevails_fn t s hto hso w'; rw [prevB_yes hp] at h; exact h
          refine HC.any rfl ?_
          refine HA.pa 0 rfl ?_
          refine HA.pa 1 rfl ?_
          refine HA.pa 2 rfl ?_
          refine HA.pa 3 rfl ?_
          refine HA.pa 5 rfl ?_
          refine HA.all [4] (by kernel_rfl) rfl ⟨⟨_, rfl, ?_⟩, trivial⟩
          refine HO.one ?_
          refine H1.ldg (v := zv t.day) rfl memA (by simpa using rcl_get ht 3 _ rfl) rfl ?_
          apply HA.fold
          refine HA.pa 6 rfl ?_
          refine HA.pa 7 rfl ?_
          first | refine HA.ga 8 rfl rfl ?_ | refine HA.na 8 rfl rfl ?_ | refine HA.nu 8 rfl rfl ?_
          first | refine HA.ga 9 rfl rfl ?_ | refine HA.na 9 rfl rfl ?_ | refine HA.nu 9 rfl rfl ?_
          first | refine HA.ga 10 rfl rfl ?_ | refine HA.na 10 rfl rfl ?_ | refine HA.nu 10 rfl rfl ?_
          first | refine HA.ga 12 rfl rfl ?_ | refine HA.na 12 rfl rfl ?_ | refine HA.nu 12 rfl rfl ?_
          first | refine HA.ga 13 rfl rfl ?_ | refine HA.na 13 rfl rfl ?_ | refine HA.nu 13 rfl rfl ?_
          first | refine HA.ga 14 rfl rfl ?_ | refine HA.na 14 rfl rfl ?_ | refine HA.nu 14 rfl rfl ?_
          refine HA.all [11, 15] (by kernel_rfl) rfl ⟨⟨_, rfl, ?_⟩, ⟨_, rfl, ?_⟩, trivial⟩
          · refine HO.one_a rfl ?_
            refine H1.ldAggw (vs := rcells t) rfl rfl (fun w' hM i v hv => by obtain ⟨b', o', e1, -, hc⟩ := (hM.recs (l := l) memA).at hne; cases e1; have h := hc _ t ht i v hv; rw [Nat.zero_add] at h; exact h) rfl ?_
            apply HA.fold
            refine HA.all [15] (by kernel_rfl) rfl ⟨⟨_, rfl, ?_⟩, trivial⟩
            refine HO.one_a rfl ?_
            refine H1.ldAggw (vs := rcells s) rfl rfl (fun w' hM i v hv => by obtain ⟨b', o', e1, -, hc⟩ := (hM.recs (l := l) memA).at hne; cases e1; have h := hc _ s hs i v hv; rw [Nat.zero_add] at h; exact h) rfl ?_
            apply HA.fold
            refine HA.all [16] (by kernel_rfl) rfl ⟨⟨_, rfl, ?_⟩, trivial⟩
            refine HO.one_a rfl ?_
            refine H1.callx (u := .bool true) (vs := [recV t, recV s]) rfl rfl (fun w' _ => hpv w') ?_
            apply HA.fold
            refine HA.pa 17 rfl ?_
            refine HA.pa 18 rfl ?_
            first | refine HA.ga 19 rfl rfl ?_ | refine HA.na 19 rfl rfl ?_ | refine HA.nu 19 rfl rfl ?_
            first | refine HA.ga 20 rfl rfl ?_ | refine HA.na 20 rfl rfl ?_ | refine HA.nu 20 rfl rfl ?_
            first | refine HA.ga 21 rfl rfl ?_ | refine HA.na 21 rfl rfl ?_ | refine HA.nu 21 rfl rfl ?_
            first | refine HA.ga 22 rfl rfl ?_ | refine HA.na 22 rfl rfl ?_ | refine HA.nu 22 rfl rfl ?_
            first | refine HA.ga 23 rfl rfl ?_ | refine HA.na 23 rfl rfl ?_ | refine HA.nu 23 rfl rfl ?_
            first | refine HA.ga 24 rfl rfl ?_ | refine HA.na 24 rfl rfl ?_ | refine HA.nu 24 rfl rfl ?_
            first | refine HA.ga 25 rfl rfl ?_ | refine HA.na 25 rfl rfl ?_ | refine HA.nu 25 rfl rfl ?_
            first | refine HA.ga 27 rfl rfl ?_ | refine HA.na 27 rfl rfl ?_ | refine HA.nu 27 rfl rfl ?_
            first | refine HA.ga 28 rfl rfl ?_ | refine HA.na 28 rfl rfl ?_ | refine HA.nu 28 rfl rfl ?_
            first | refine HA.ga 29 rfl rfl ?_ | refine HA.na 29 rfl rfl ?_ | refine HA.nu 29 rfl rfl ?_
            refine HA.all [26, 30] (by kernel_rfl) rfl ⟨⟨_, rfl, ?_⟩, ⟨_, rfl, ?_⟩, trivial⟩
            · refine HO.drop_u rfl ?_
              refine HA.all [30] (by kernel_rfl) rfl ⟨⟨_, rfl, ?_⟩, trivial⟩
              refine HO.drop_u rfl ?_
              first | refine HA.ga 31 rfl rfl ?_ | refine HA.na 31 rfl rfl ?_ | refine HA.nu 31 rfl rfl ?_
              first | refine HA.ga 32 rfl rfl ?_ | refine HA.na 32 rfl rfl ?_ | refine HA.nu 32 rfl rfl ?_
              refine HA.pa 33 rfl ?_
              refine HA.done (by kernel_rfl) ?_
              exact HX.cut true ⟨fun _ => .inl ⟨htd, hp⟩, fun _ => rfl⟩ esA (by repeat (first | exact Hs.nil _ | (refine Hs.cons pickA ?_)))
            · refine HO.drop_u rfl ?_
              refine HA.all [26] (by kernel_rfl) rfl ⟨⟨_, rfl, ?_⟩, trivial⟩
              refine HO.drop_u rfl ?_
              first | refine HA.ga 31 rfl rfl ?_ | refine HA.na 31 rfl rfl ?_ | refine HA.nu 31 rfl rfl ?_
              first | refine HA.ga 32 rfl rfl ?_ | refine HA.na 32 rfl rfl ?_ | refine HA.nu 32 rfl rfl ?_
              refine HA.pa 33 rfl ?_
              refine HA.done (by kernel_rfl) ?_
              exact HX.cut true ⟨fun _ => .inl ⟨htd, hp⟩, fun _ => rfl⟩ esA (by repeat (first | exact Hs.nil _ | (refine Hs.cons pickA ?_)))
          · refine HO.one_a rfl ?_
            refine H1.ldAggw (vs := rcells s) rfl rfl (fun w' hM i v hv => by obtain ⟨b', o', e1, -, hc⟩ := (hM.recs (l := l) memA).at hne; cases e1; have h := hc _ s hs i v hv; rw [Nat.zero_add] at h; exact h) rfl ?_
            apply HA.fold
            refine HA.all [11] (by kernel_rfl) rfl ⟨⟨_, rfl, ?_⟩, trivial⟩
            refine HO.one_a rfl ?_
            refine H1.ldAggw (vs := rcells t) rfl rfl (fun w' hM i v hv => by obtain ⟨b', o', e1, -, hc⟩ := (hM.recs (l := l) memA).at hne; cases e1; have h := hc _ t ht i v hv; rw [Nat.zero_add] at h; exact h) rfl ?_
            apply HA.fold
            refine HA.all [16] (by kernel_rfl) rfl ⟨⟨_, rfl, ?_⟩, trivial⟩
            refine HO.one_a rfl ?_
            refine H1.callx (u := .bool true) (vs := [recV t, recV s]) rfl rfl (fun w' _ => hpv w') ?_
            apply HA.fold
            refine HA.pa 17 rfl ?_
            refine HA.pa 18 rfl ?_
            first | refine HA.ga 19 rfl rfl ?_ | refine HA.na 19 rfl rfl ?_ | refine HA.nu 19 rfl rfl ?_
            first | refine HA.ga 20 rfl rfl ?_ | refine HA.na 20 rfl rfl ?_ | refine HA.nu 20 rfl rfl ?_
            first | refine HA.ga 21 rfl rfl ?_ | refine HA.na 21 rfl rfl ?_ | refine HA.nu 21 rfl rfl ?_
            first | refine HA.ga 22 rfl rfl ?_ | refine HA.na 22 rfl rfl ?_ | refine HA.nu 22 rfl rfl ?_
            first | refine HA.ga 23 rfl rfl ?_ | refine HA.na 23 rfl rfl ?_ | refine HA.nu 23 rfl rfl ?_
            first | refine HA.ga 24 rfl rfl ?_ | refine HA.na 24 rfl rfl ?_ | refine HA.nu 24 rfl rfl ?_
            first | refine HA.ga 25 rfl rfl ?_ | refine HA.na 25 rfl rfl ?_ | refine HA.nu 25 rfl rfl ?_
            first | refine HA.ga 27 rfl rfl ?_ | refine HA.na 27 rfl rfl ?_ | refine HA.nu 27 rfl rfl ?_
            first | refine HA.ga 28 rfl rfl ?_ | refine HA.na 28 rfl rfl ?_ | refine HA.nu 28 rfl rfl ?_
            first | refine HA.ga 29 rfl rfl ?_ | refine HA.na 29 rfl rfl ?_ | refine HA.nu 29 rfl rfl ?_
            refine HA.all [26, 30] (by kernel_rfl) rfl ⟨⟨_, rfl, ?_⟩, ⟨_, rfl, ?_⟩, trivial⟩
            · refine HO.drop_u rfl ?_
              refine HA.all [30] (by kernel_rfl) rfl ⟨⟨_, rfl, ?_⟩, trivial⟩
              refine HO.drop_u rfl ?_
              first | refine HA.ga 31 rfl rfl ?_ | refine HA.na 31 rfl rfl ?_ | refine HA.nu 31 rfl rfl ?_
              first | refine HA.ga 32 rfl rfl ?_ | refine HA.na 32 rfl rfl ?_ | refine HA.nu 32 rfl rfl ?_
              refine HA.pa 33 rfl ?_
              refine HA.done (by kernel_rfl) ?_
              exact HX.cut true ⟨fun _ => .inl ⟨htd, hp⟩, fun _ => rfl⟩ esA (by repeat (first | exact Hs.nil _ | (refine Hs.cons pickA ?_)))
            · refine HO.drop_u rfl ?_
              refine HA.all [26] (by kernel_rfl) rfl ⟨⟨_, rfl, ?_⟩, trivial⟩
              refine HO.drop_u rfl ?_
              first | refine HA.ga 31 rfl rfl ?_ | refine HA.na 31 rfl rfl ?_ | refine HA.nu 31 rfl rfl ?_
              first | refine HA.ga 32 rfl rfl ?_ | refine HA.na 32 rfl rfl ?_ | refine HA.nu 32 rfl rfl ?_
              refine HA.pa 33 rfl ?_
              refine HA.done (by kernel_rfl) ?_
              exact HX.cut true ⟨fun _ => .inl ⟨htd, hp⟩, fun _ => rfl⟩ esA (by repeat (first | exact Hs.nil _ | (refine Hs.cons pickA ?_)))
        have hpv : ∀ w', Fn Tryz.prog 14 #[recV t, recV s] w' fun v w'' => v = .bool false ∧ Ext w' w'' := fun w' => by have h := prevails_fn t s hto hso w'; rw [prevB_no hp] at h; exact h
        by_cases hki : k < i
        · have hkiI : (k : Int) < (i : Int) := by omega
          refine HC.any rfl ?_
          refine HA.pa 0 rfl ?_
          refine HA.pa 1 rfl ?_
          refine HA.pa 2 rfl ?_
          refine HA.pa 3 rfl ?_
          refine HA.pa 5 rfl ?_
          refine HA.all [4] (by kernel_rfl) rfl ⟨⟨_, rfl, ?_⟩, trivial⟩
          refine HO.one ?_
          refine H1.ldg (v := zv t.day) rfl memA (by simpa using rcl_get ht 3 _ rfl) rfl ?_
          apply HA.fold
          refine HA.pa 6 rfl ?_
          refine HA.pa 7 rfl ?_
          first | refine HA.ga 8 rfl rfl ?_ | refine HA.na 8 rfl rfl ?_ | refine HA.nu 8 rfl rfl ?_
          first | refine HA.ga 9 rfl rfl ?_ | refine HA.na 9 rfl rfl ?_ | refine HA.nu 9 rfl rfl ?_
          first | refine HA.ga 10 rfl rfl ?_ | refine HA.na 10 rfl rfl ?_ | refine HA.nu 10 rfl rfl ?_
          first | refine HA.ga 12 rfl rfl ?_ | refine HA.na 12 rfl rfl ?_ | refine HA.nu 12 rfl rfl ?_
          first | refine HA.ga 13 rfl rfl ?_ | refine HA.na 13 rfl rfl ?_ | refine HA.nu 13 rfl rfl ?_
          first | refine HA.ga 14 rfl rfl ?_ | refine HA.na 14 rfl rfl ?_ | refine HA.nu 14 rfl rfl ?_
          refine HA.all [11, 15] (by kernel_rfl) rfl ⟨⟨_, rfl, ?_⟩, ⟨_, rfl, ?_⟩, trivial⟩
          · refine HO.one_a rfl ?_
            refine H1.ldAggw (vs := rcells t) rfl rfl (fun w' hM i v hv => by obtain ⟨b', o', e1, -, hc⟩ := (hM.recs (l := l) memA).at hne; cases e1; have h := hc _ t ht i v hv; rw [Nat.zero_add] at h; exact h) rfl ?_
            apply HA.fold
            refine HA.all [15] (by kernel_rfl) rfl ⟨⟨_, rfl, ?_⟩, trivial⟩
            refine HO.one_a rfl ?_
            refine H1.ldAggw (vs := rcells s) rfl rfl (fun w' hM i v hv => by obtain ⟨b', o', e1, -, hc⟩ := (hM.recs (l := l) memA).at hne; cases e1; have h := hc _ s hs i v hv; rw [Nat.zero_add] at h; exact h) rfl ?_
            apply HA.fold
            refine HA.all [16] (by kernel_rfl) rfl ⟨⟨_, rfl, ?_⟩, trivial⟩
            refine HO.one_a rfl ?_
            refine H1.callx (u := .bool false) (vs := [recV t, recV s]) rfl rfl (fun w' _ => hpv w') ?_
            apply HA.fold
            refine HA.pa 17 rfl ?_
            refine HA.pa 18 rfl ?_
            first | refine HA.ga 19 rfl rfl ?_ | refine HA.na 19 rfl rfl ?_ | refine HA.nu 19 rfl rfl ?_
            first | refine HA.ga 20 rfl rfl ?_ | refine HA.na 20 rfl rfl ?_ | refine HA.nu 20 rfl rfl ?_
            first | refine HA.ga 21 rfl rfl ?_ | refine HA.na 21 rfl rfl ?_ | refine HA.nu 21 rfl rfl ?_
            first | refine HA.ga 22 rfl rfl ?_ | refine HA.na 22 rfl rfl ?_ | refine HA.nu 22 rfl rfl ?_
            first | refine HA.ga 23 rfl rfl ?_ | refine HA.na 23 rfl rfl ?_ | refine HA.nu 23 rfl rfl ?_
            first | refine HA.ga 24 rfl rfl ?_ | refine HA.na 24 rfl rfl ?_ | refine HA.nu 24 rfl rfl ?_
            first | refine HA.ga 25 rfl rfl ?_ | refine HA.na 25 rfl rfl ?_ | refine HA.nu 25 rfl rfl ?_
            first | refine HA.ga 27 rfl rfl ?_ | refine HA.na 27 rfl rfl ?_ | refine HA.nu 27 rfl rfl ?_
            first | refine HA.ga 28 rfl rfl ?_ | refine HA.na 28 rfl rfl ?_ | refine HA.nu 28 rfl rfl ?_
            first | refine HA.ga 29 rfl rfl ?_ | refine HA.na 29 rfl rfl ?_ | refine HA.nu 29 rfl rfl ?_
            refine HA.all [26, 30] (by kernel_rfl) rfl ⟨⟨_, rfl, ?_⟩, ⟨_, rfl, ?_⟩, trivial⟩
            · refine HO.one_a rfl ?_
              refine H1.ldAggw (vs := rcells t) rfl rfl (fun w' hM i v hv => by obtain ⟨b', o', e1, -, hc⟩ := (hM.recs (l := l) memA).at hne; cases e1; have h := hc _ t ht i v hv; rw [Nat.zero_add] at h; exact h) rfl ?_
              apply HA.fold
              refine HA.all [30] (by kernel_rfl) rfl ⟨⟨_, rfl, ?_⟩, trivial⟩
              refine HO.one_a rfl ?_
              refine H1.ldAggw (vs := rcells s) rfl rfl (fun w' hM i v hv => by obtain ⟨b', o', e1, -, hc⟩ := (hM.recs (l := l) memA).at hne; cases e1; have h := hc _ s hs i v hv; rw [Nat.zero_add] at h; exact h) rfl ?_
              apply HA.fold
              refine HA.ga (v := .bool (eqR t s)) 31 rfl rfl ?_ (hp := POp.eqRec rfl rfl hto hso)
              first | refine HA.ga 32 rfl rfl ?_ | refine HA.na 32 rfl rfl ?_ | refine HA.nu 32 rfl rfl ?_
              refine HA.pa 33 rfl ?_
              refine HA.done (by kernel_rfl) ?_
              exact HX.cut (eqR t s) ⟨fun e => .inr ⟨hki, eqR_iff.1 e⟩, fun h => h.elim (fun h => absurd h.2 hp) (fun h => eqR_iff.2 h.2)⟩ esA (by repeat (first | exact Hs.nil _ | (refine Hs.cons pickA ?_)))
            · refine HO.one_a rfl ?_
              refine H1.ldAggw (vs := rcells s) rfl rfl (fun w' hM i v hv => by obtain ⟨b', o', e1, -, hc⟩ := (hM.recs (l := l) memA).at hne; cases e1; have h := hc _ s hs i v hv; rw [Nat.zero_add] at h; exact h) rfl ?_
              apply HA.fold
              refine HA.all [26] (by kernel_rfl) rfl ⟨⟨_, rfl, ?_⟩, trivial⟩
              refine HO.one_a rfl ?_
              refine H1.ldAggw (vs := rcells t) rfl rfl (fun w' hM i v hv => by obtain ⟨b', o', e1, -, hc⟩ := (hM.recs (l := l) memA).at hne; cases e1; have h := hc _ t ht i v hv; rw [Nat.zero_add] at h; exact h) rfl ?_
              apply HA.fold
              refine HA.ga (v := .bool (eqR t s)) 31 rfl rfl ?_ (hp := POp.eqRec rfl rfl hto hso)
              first | refine HA.ga 32 rfl rfl ?_ | refine HA.na 32 rfl rfl ?_ | refine HA.nu 32 rfl rfl ?_
              refine HA.pa 33 rfl ?_
              refine HA.done (by kernel_rfl) ?_
              exact HX.cut (eqR t s) ⟨fun e => .inr ⟨hki, eqR_iff.1 e⟩, fun h => h.elim (fun h => absurd h.2 hp) (fun h => eqR_iff.2 h.2)⟩ esA (by repeat (first | exact Hs.nil _ | (refine Hs.cons pickA ?_)))
          · refine HO.one_a rfl ?_
            refine H1.ldAggw (vs := rcells s) rfl rfl (fun w' hM i v hv => by obtain ⟨b', o', e1, -, hc⟩ := (hM.recs (l := l) memA).at hne; cases e1; have h := hc _ s hs i v hv; rw [Nat.zero_add] at h; exact h) rfl ?_
            apply HA.fold
            refine HA.all [11] (by kernel_rfl) rfl ⟨⟨_, rfl, ?_⟩, trivial⟩
            refine HO.one_a rfl ?_
            refine H1.ldAggw (vs := rcells t) rfl rfl (fun w' hM i v hv => by obtain ⟨b', o', e1, -, hc⟩ := (hM.recs (l := l) memA).at hne; cases e1; have h := hc _ t ht i v hv; rw [Nat.zero_add] at h; exact h) rfl ?_
            apply HA.fold
            refine HA.all [16] (by kernel_rfl) rfl ⟨⟨_, rfl, ?_⟩, trivial⟩
            refine HO.one_a rfl ?_
            refine H1.callx (u := .bool false) (vs := [recV t, recV s]) rfl rfl (fun w' _ => hpv w') ?_
            apply HA.fold
            refine HA.pa 17 rfl ?_
            refine HA.pa 18 rfl ?_
            first | refine HA.ga 19 rfl rfl ?_ | refine HA.na 19 rfl rfl ?_ | refine HA.nu 19 rfl rfl ?_
            first | refine HA.ga 20 rfl rfl ?_ | refine HA.na 20 rfl rfl ?_ | refine HA.nu 20 rfl rfl ?_
            first | refine HA.ga 21 rfl rfl ?_ | refine HA.na 21 rfl rfl ?_ | refine HA.nu 21 rfl rfl ?_
            first | refine HA.ga 22 rfl rfl ?_ | refine HA.na 22 rfl rfl ?_ | refine HA.nu 22 rfl rfl ?_
            first | refine HA.ga 23 rfl rfl ?_ | refine HA.na 23 rfl rfl ?_ | refine HA.nu 23 rfl rfl ?_
            first | refine HA.ga 24 rfl rfl ?_ | refine HA.na 24 rfl rfl ?_ | refine HA.nu 24 rfl rfl ?_
            first | refine HA.ga 25 rfl rfl ?_ | refine HA.na 25 rfl rfl ?_ | refine HA.nu 25 rfl rfl ?_
            first | refine HA.ga 27 rfl rfl ?_ | refine HA.na 27 rfl rfl ?_ | refine HA.nu 27 rfl rfl ?_
            first | refine HA.ga 28 rfl rfl ?_ | refine HA.na 28 rfl rfl ?_ | refine HA.nu 28 rfl rfl ?_
            first | refine HA.ga 29 rfl rfl ?_ | refine HA.na 29 rfl rfl ?_ | refine HA.nu 29 rfl rfl ?_
            refine HA.all [26, 30] (by kernel_rfl) rfl ⟨⟨_, rfl, ?_⟩, ⟨_, rfl, ?_⟩, trivial⟩
            · refine HO.one_a rfl ?_
              refine H1.ldAggw (vs := rcells t) rfl rfl (fun w' hM i v hv => by obtain ⟨b', o', e1, -, hc⟩ := (hM.recs (l := l) memA).at hne; cases e1; have h := hc _ t ht i v hv; rw [Nat.zero_add] at h; exact h) rfl ?_
              apply HA.fold
              refine HA.all [30] (by kernel_rfl) rfl ⟨⟨_, rfl, ?_⟩, trivial⟩
              refine HO.one_a rfl ?_
              refine H1.ldAggw (vs := rcells s) rfl rfl (fun w' hM i v hv => by obtain ⟨b', o', e1, -, hc⟩ := (hM.recs (l := l) memA).at hne; cases e1; have h := hc _ s hs i v hv; rw [Nat.zero_add] at h; exact h) rfl ?_
              apply HA.fold
              refine HA.ga (v := .bool (eqR t s)) 31 rfl rfl ?_ (hp := POp.eqRec rfl rfl hto hso)
              first | refine HA.ga 32 rfl rfl ?_ | refine HA.na 32 rfl rfl ?_ | refine HA.nu 32 rfl rfl ?_
              refine HA.pa 33 rfl ?_
              refine HA.done (by kernel_rfl) ?_
              exact HX.cut (eqR t s) ⟨fun e => .inr ⟨hki, eqR_iff.1 e⟩, fun h => h.elim (fun h => absurd h.2 hp) (fun h => eqR_iff.2 h.2)⟩ esA (by repeat (first | exact Hs.nil _ | (refine Hs.cons pickA ?_)))
            · refine HO.one_a rfl ?_
              refine H1.ldAggw (vs := rcells s) rfl rfl (fun w' hM i v hv => by obtain ⟨b', o', e1, -, hc⟩ := (hM.recs (l := l) memA).at hne; cases e1; have h := hc _ s hs i v hv; rw [Nat.zero_add] at h; exact h) rfl ?_
              apply HA.fold
              refine HA.all [26] (by kernel_rfl) rfl ⟨⟨_, rfl, ?_⟩, trivial⟩
              refine HO.one_a rfl ?_
              refine H1.ldAggw (vs := rcells t) rfl rfl (fun w' hM i v hv => by obtain ⟨b', o', e1, -, hc⟩ := (hM.recs (l := l) memA).at hne; cases e1; have h := hc _ t ht i v hv; rw [Nat.zero_add] at h; exact h) rfl ?_
              apply HA.fold
              refine HA.ga (v := .bool (eqR t s)) 31 rfl rfl ?_ (hp := POp.eqRec rfl rfl hto hso)
              first | refine HA.ga 32 rfl rfl ?_ | refine HA.na 32 rfl rfl ?_ | refine HA.nu 32 rfl rfl ?_
              refine HA.pa 33 rfl ?_
              refine HA.done (by kernel_rfl) ?_
              exact HX.cut (eqR t s) ⟨fun e => .inr ⟨hki, eqR_iff.1 e⟩, fun h => h.elim (fun h => absurd h.2 hp) (fun h => eqR_iff.2 h.2)⟩ esA (by repeat (first | exact Hs.nil _ | (refine Hs.cons pickA ?_)))
        have hkiI : ¬ (k : Int) < (i : Int) := by omega
        refine HC.any rfl ?_
        refine HA.pa 0 rfl ?_
        refine HA.pa 1 rfl ?_
        refine HA.pa 2 rfl ?_
        refine HA.pa 3 rfl ?_
        refine HA.pa 5 rfl ?_
        refine HA.all [4] (by kernel_rfl) rfl ⟨⟨_, rfl, ?_⟩, trivial⟩
        refine HO.one ?_
        refine H1.ldg (v := zv t.day) rfl memA (by simpa using rcl_get ht 3 _ rfl) rfl ?_
        apply HA.fold
        refine HA.pa 6 rfl ?_
        refine HA.pa 7 rfl ?_
        first | refine HA.ga 8 rfl rfl ?_ | refine HA.na 8 rfl rfl ?_ | refine HA.nu 8 rfl rfl ?_
        first | refine HA.ga 9 rfl rfl ?_ | refine HA.na 9 rfl rfl ?_ | refine HA.nu 9 rfl rfl ?_
        first | refine HA.ga 10 rfl rfl ?_ | refine HA.na 10 rfl rfl ?_ | refine HA.nu 10 rfl rfl ?_
        first | refine HA.ga 12 rfl rfl ?_ | refine HA.na 12 rfl rfl ?_ | refine HA.nu 12 rfl rfl ?_
        first | refine HA.ga 13 rfl rfl ?_ | refine HA.na 13 rfl rfl ?_ | refine HA.nu 13 rfl rfl ?_
        first | refine HA.ga 14 rfl rfl ?_ | refine HA.na 14 rfl rfl ?_ | refine HA.nu 14 rfl rfl ?_
        refine HA.all [11, 15] (by kernel_rfl) rfl ⟨⟨_, rfl, ?_⟩, ⟨_, rfl, ?_⟩, trivial⟩
        · refine HO.one_a rfl ?_
          refine H1.ldAggw (vs := rcells t) rfl rfl (fun w' hM i v hv => by obtain ⟨b', o', e1, -, hc⟩ := (hM.recs (l := l) memA).at hne; cases e1; have h := hc _ t ht i v hv; rw [Nat.zero_add] at h; exact h) rfl ?_
          apply HA.fold
          refine HA.all [15] (by kernel_rfl) rfl ⟨⟨_, rfl, ?_⟩, trivial⟩
          refine HO.one_a rfl ?_
          refine H1.ldAggw (vs := rcells s) rfl rfl (fun w' hM i v hv => by obtain ⟨b', o', e1, -, hc⟩ := (hM.recs (l := l) memA).at hne; cases e1; have h := hc _ s hs i v hv; rw [Nat.zero_add] at h; exact h) rfl ?_
          apply HA.fold
          refine HA.all [16] (by kernel_rfl) rfl ⟨⟨_, rfl, ?_⟩, trivial⟩
          refine HO.one_a rfl ?_
          refine H1.callx (u := .bool false) (vs := [recV t, recV s]) rfl rfl (fun w' _ => hpv w') ?_
          apply HA.fold
          refine HA.pa 17 rfl ?_
          refine HA.pa 18 rfl ?_
          first | refine HA.ga 19 rfl rfl ?_ | refine HA.na 19 rfl rfl ?_ | refine HA.nu 19 rfl rfl ?_
          first | refine HA.ga 20 rfl rfl ?_ | refine HA.na 20 rfl rfl ?_ | refine HA.nu 20 rfl rfl ?_
          first | refine HA.ga 21 rfl rfl ?_ | refine HA.na 21 rfl rfl ?_ | refine HA.nu 21 rfl rfl ?_
          first | refine HA.ga 22 rfl rfl ?_ | refine HA.na 22 rfl rfl ?_ | refine HA.nu 22 rfl rfl ?_
          first | refine HA.ga 23 rfl rfl ?_ | refine HA.na 23 rfl rfl ?_ | refine HA.nu 23 rfl rfl ?_
          first | refine HA.ga 24 rfl rfl ?_ | refine HA.na 24 rfl rfl ?_ | refine HA.nu 24 rfl rfl ?_
          first | refine HA.ga 25 rfl rfl ?_ | refine HA.na 25 rfl rfl ?_ | refine HA.nu 25 rfl rfl ?_
          first | refine HA.ga 27 rfl rfl ?_ | refine HA.na 27 rfl rfl ?_ | refine HA.nu 27 rfl rfl ?_
          first | refine HA.ga 28 rfl rfl ?_ | refine HA.na 28 rfl rfl ?_ | refine HA.nu 28 rfl rfl ?_
          first | refine HA.ga 29 rfl rfl ?_ | refine HA.na 29 rfl rfl ?_ | refine HA.nu 29 rfl rfl ?_
          refine HA.all [26, 30] (by kernel_rfl) rfl ⟨⟨_, rfl, ?_⟩, ⟨_, rfl, ?_⟩, trivial⟩
          · refine HO.drop_a rfl ?_
            refine HA.all [30] (by kernel_rfl) rfl ⟨⟨_, rfl, ?_⟩, trivial⟩
            refine HO.drop_a rfl ?_
            first | refine HA.ga 31 rfl rfl ?_ | refine HA.na 31 rfl rfl ?_ | refine HA.nu 31 rfl rfl ?_
            first | refine HA.ga 32 rfl rfl ?_ | refine HA.na 32 rfl rfl ?_ | refine HA.nu 32 rfl rfl ?_
            refine HA.pa 33 rfl ?_
            refine HA.done (by kernel_rfl) ?_
            exact HX.cut false ⟨fun e => (by cases e), fun h => h.elim (fun h => absurd h.2 hp) (fun h => absurd h.1 hki)⟩ esA (by repeat (first | exact Hs.nil _ | (refine Hs.cons pickA ?_)))
          · refine HO.drop_a rfl ?_
            refine HA.all [26] (by kernel_rfl) rfl ⟨⟨_, rfl, ?_⟩, trivial⟩
            refine HO.drop_a rfl ?_
            first | refine HA.ga 31 rfl rfl ?_ | refine HA.na 31 rfl rfl ?_ | refine HA.nu 31 rfl rfl ?_
            first | refine HA.ga 32 rfl rfl ?_ | refine HA.na 32 rfl rfl ?_ | refine HA.nu 32 rfl rfl ?_
            refine HA.pa 33 rfl ?_
            refine HA.done (by kernel_rfl) ?_
            exact HX.cut false ⟨fun e => (by cases e), fun h => h.elim (fun h => absurd h.2 hp) (fun h => absurd h.1 hki)⟩ esA (by repeat (first | exact Hs.nil _ | (refine Hs.cons pickA ?_)))
        · refine HO.one_a rfl ?_
          refine H1.ldAggw (vs := rcells s) rfl rfl (fun w' hM i v hv => by obtain ⟨b', o', e1, -, hc⟩ := (hM.recs (l := l) memA).at hne; cases e1; have h := hc _ s hs i v hv; rw [Nat.zero_add] at h; exact h) rfl ?_
          apply HA.fold
          refine HA.all [11] (by kernel_rfl) rfl ⟨⟨_, rfl, ?_⟩, trivial⟩
          refine HO.one_a rfl ?_
          refine H1.ldAggw (vs := rcells t) rfl rfl (fun w' hM i v hv => by obtain ⟨b', o', e1, -, hc⟩ := (hM.recs (l := l) memA).at hne; cases e1; have h := hc _ t ht i v hv; rw [Nat.zero_add] at h; exact h) rfl ?_
          apply HA.fold
          refine HA.all [16] (by kernel_rfl) rfl ⟨⟨_, rfl, ?_⟩, trivial⟩
          refine HO.one_a rfl ?_
          refine H1.callx (u := .bool false) (vs := [recV t, recV s]) rfl rfl (fun w' _ => hpv w') ?_
          apply HA.fold
          refine HA.pa 17 rfl ?_
          refine HA.pa 18 rfl ?_
          first | refine HA.ga 19 rfl rfl ?_ | refine HA.na 19 rfl rfl ?_ | refine HA.nu 19 rfl rfl ?_
          first | refine HA.ga 20 rfl rfl ?_ | refine HA.na 20 rfl rfl ?_ | refine HA.nu 20 rfl rfl ?_
          first | refine HA.ga 21 rfl rfl ?_ | refine HA.na 21 rfl rfl ?_ | refine HA.nu 21 rfl rfl ?_
          first | refine HA.ga 22 rfl rfl ?_ | refine HA.na 22 rfl rfl ?_ | refine HA.nu 22 rfl rfl ?_
          first | refine HA.ga 23 rfl rfl ?_ | refine HA.na 23 rfl rfl ?_ | refine HA.nu 23 rfl rfl ?_
          first | refine HA.ga 24 rfl rfl ?_ | refine HA.na 24 rfl rfl ?_ | refine HA.nu 24 rfl rfl ?_
          first | refine HA.ga 25 rfl rfl ?_ | refine HA.na 25 rfl rfl ?_ | refine HA.nu 25 rfl rfl ?_
          first | refine HA.ga 27 rfl rfl ?_ | refine HA.na 27 rfl rfl ?_ | refine HA.nu 27 rfl rfl ?_
          first | refine HA.ga 28 rfl rfl ?_ | refine HA.na 28 rfl rfl ?_ | refine HA.nu 28 rfl rfl ?_
          first | refine HA.ga 29 rfl rfl ?_ | refine HA.na 29 rfl rfl ?_ | refine HA.nu 29 rfl rfl ?_
          refine HA.all [26, 30] (by kernel_rfl) rfl ⟨⟨_, rfl, ?_⟩, ⟨_, rfl, ?_⟩, trivial⟩
          · refine HO.drop_a rfl ?_
            refine HA.all [30] (by kernel_rfl) rfl ⟨⟨_, rfl, ?_⟩, trivial⟩
            refine HO.drop_a rfl ?_
            first | refine HA.ga 31 rfl rfl ?_ | refine HA.na 31 rfl rfl ?_ | refine HA.nu 31 rfl rfl ?_
            first | refine HA.ga 32 rfl rfl ?_ | refine HA.na 32 rfl rfl ?_ | refine HA.nu 32 rfl rfl ?_
            refine HA.pa 33 rfl ?_
            refine HA.done (by kernel_rfl) ?_
            exact HX.cut false ⟨fun e => (by cases e), fun h => h.elim (fun h => absurd h.2 hp) (fun h => absurd h.1 hki)⟩ esA (by repeat (first | exact Hs.nil _ | (refine Hs.cons pickA ?_)))
          · refine HO.drop_a rfl ?_
            refine HA.all [26] (by kernel_rfl) rfl ⟨⟨_, rfl, ?_⟩, trivial⟩
            refine HO.drop_a rfl ?_
            first | refine HA.ga 31 rfl rfl ?_ | refine HA.na 31 rfl rfl ?_ | refine HA.nu 31 rfl rfl ?_
            first | refine HA.ga 32 rfl rfl ?_ | refine HA.na 32 rfl rfl ?_ | refine HA.nu 32 rfl rfl ?_
            refine HA.pa 33 rfl ?_
            refine HA.done (by kernel_rfl) ?_
            exact HX.cut false ⟨fun e => (by cases e), fun h => h.elim (fun h => absurd h.2 hp) (fun h => absurd h.1 hki)⟩ esA (by repeat (first | exact Hs.nil _ | (refine Hs.cons pickA ?_)))
      by_cases hki : k < i
      · have hkiI : (k : Int) < (i : Int) := by omega
        refine HC.any rfl ?_
        refine HA.pa 0 rfl ?_
        refine HA.pa 1 rfl ?_
        refine HA.pa 2 rfl ?_
        refine HA.pa 3 rfl ?_
        refine HA.pa 5 rfl ?_
        refine HA.all [4] (by kernel_rfl) rfl ⟨⟨_, rfl, ?_⟩, trivial⟩
        refine HO.one ?_
        refine H1.ldg (v := zv t.day) rfl memA (by simpa using rcl_get ht 3 _ rfl) rfl ?_
        apply HA.fold
        refine HA.pa 6 rfl ?_
        refine HA.pa 7 rfl ?_
        first | refine HA.ga 8 rfl rfl ?_ | refine HA.na 8 rfl rfl ?_ | refine HA.nu 8 rfl rfl ?_
        first | refine HA.ga 9 rfl rfl ?_ | refine HA.na 9 rfl rfl ?_ | refine HA.nu 9 rfl rfl ?_
        first | refine HA.ga 10 rfl rfl ?_ | refine HA.na 10 rfl rfl ?_ | refine HA.nu 10 rfl rfl ?_
        first | refine HA.ga 12 rfl rfl ?_ | refine HA.na 12 rfl rfl ?_ | refine HA.nu 12 rfl rfl ?_
        first | refine HA.ga 13 rfl rfl ?_ | refine HA.na 13 rfl rfl ?_ | refine HA.nu 13 rfl rfl ?_
        first | refine HA.ga 14 rfl rfl ?_ | refine HA.na 14 rfl rfl ?_ | refine HA.nu 14 rfl rfl ?_
        refine HA.all [11, 15] (by kernel_rfl) rfl ⟨⟨_, rfl, ?_⟩, ⟨_, rfl, ?_⟩, trivial⟩
        · refine HO.drop_a rfl ?_
          refine HA.all [15] (by kernel_rfl) rfl ⟨⟨_, rfl, ?_⟩, trivial⟩
          refine HO.drop_a rfl ?_
          refine HA.all [16] (by kernel_rfl) rfl ⟨⟨_, rfl, ?_⟩, trivial⟩
          refine HO.drop_a rfl ?_
          refine HA.pa 17 rfl ?_
          refine HA.pa 18 rfl ?_
          first | refine HA.ga 19 rfl rfl ?_ | refine HA.na 19 rfl rfl ?_ | refine HA.nu 19 rfl rfl ?_
          first | refine HA.ga 20 rfl rfl ?_ | refine HA.na 20 rfl rfl ?_ | refine HA.nu 20 rfl rfl ?_
          first | refine HA.ga 21 rfl rfl ?_ | refine HA.na 21 rfl rfl ?_ | refine HA.nu 21 rfl rfl ?_
          first | refine HA.ga 22 rfl rfl ?_ | refine HA.na 22 rfl rfl ?_ | refine HA.nu 22 rfl rfl ?_
          first | refine HA.ga 23 rfl rfl ?_ | refine HA.na 23 rfl rfl ?_ | refine HA.nu 23 rfl rfl ?_
          first | refine HA.ga 24 rfl rfl ?_ | refine HA.na 24 rfl rfl ?_ | refine HA.nu 24 rfl rfl ?_
          first | refine HA.ga 25 rfl rfl ?_ | refine HA.na 25 rfl rfl ?_ | refine HA.nu 25 rfl rfl ?_
          first | refine HA.ga 27 rfl rfl ?_ | refine HA.na 27 rfl rfl ?_ | refine HA.nu 27 rfl rfl ?_
          first | refine HA.ga 28 rfl rfl ?_ | refine HA.na 28 rfl rfl ?_ | refine HA.nu 28 rfl rfl ?_
          first | refine HA.ga 29 rfl rfl ?_ | refine HA.na 29 rfl rfl ?_ | refine HA.nu 29 rfl rfl ?_
          refine HA.all [26, 30] (by kernel_rfl) rfl ⟨⟨_, rfl, ?_⟩, ⟨_, rfl, ?_⟩, trivial⟩
          · refine HO.one_a rfl ?_
            refine H1.ldAggw (vs := rcells t) rfl rfl (fun w' hM i v hv => by obtain ⟨b', o', e1, -, hc⟩ := (hM.recs (l := l) memA).at hne; cases e1; have h := hc _ t ht i v hv; rw [Nat.zero_add] at h; exact h) rfl ?_
            apply HA.fold
            refine HA.all [30] (by kernel_rfl) rfl ⟨⟨_, rfl, ?_⟩, trivial⟩
            refine HO.one_a rfl ?_
            refine H1.ldAggw (vs := rcells s) rfl rfl (fun w' hM i v hv => by obtain ⟨b', o', e1, -, hc⟩ := (hM.recs (l := l) memA).at hne; cases e1; have h := hc _ s hs i v hv; rw [Nat.zero_add] at h; exact h) rfl ?_
            apply HA.fold
            refine HA.ga (v := .bool (eqR t s)) 31 rfl rfl ?_ (hp := POp.eqRec rfl rfl hto hso)
            first | refine HA.ga 32 rfl rfl ?_ | refine HA.na 32 rfl rfl ?_ | refine HA.nu 32 rfl rfl ?_
            refine HA.pa 33 rfl ?_
            refine HA.done (by kernel_rfl) ?_
            exact HX.cut (eqR t s) ⟨fun e => .inr ⟨hki, eqR_iff.1 e⟩, fun h => h.elim (fun h => absurd h.1 htd) (fun h => eqR_iff.2 h.2)⟩ esA (by repeat (first | exact Hs.nil _ | (refine Hs.cons pickA ?_)))
          · refine HO.one_a rfl ?_
            refine H1.ldAggw (vs := rcells s) rfl rfl (fun w' hM i v hv => by obtain ⟨b', o', e1, -, hc⟩ := (hM.recs (l := l) memA).at hne; cases e1; have h := hc _ s hs i v hv; rw [Nat.zero_add] at h; exact h) rfl ?_
            apply HA.fold
            refine HA.all [26] (by kernel_rfl) rfl ⟨⟨_, rfl, ?_⟩, trivial⟩
            refine HO.one_a rfl ?_
            refine H1.ldAggw (vs := rcells t) rfl rfl (fun w' hM i v hv => by obtain ⟨b', o', e1, -, hc⟩ := (hM.recs (l := l) memA).at hne; cases e1; have h := hc _ t ht i v hv; rw [Nat.zero_add] at h; exact h) rfl ?_
            apply HA.fold
            refine HA.ga (v := .bool (eqR t s)) 31 rfl rfl ?_ (hp := POp.eqRec rfl rfl hto hso)
            first | refine HA.ga 32 rfl rfl ?_ | refine HA.na 32 rfl rfl ?_ | refine HA.nu 32 rfl rfl ?_
            refine HA.pa 33 rfl ?_
            refine HA.done (by kernel_rfl) ?_
            exact HX.cut (eqR t s) ⟨fun e => .inr ⟨hki, eqR_iff.1 e⟩, fun h => h.elim (fun h => absurd h.1 htd) (fun h => eqR_iff.2 h.2)⟩ esA (by repeat (first | exact Hs.nil _ | (refine Hs.cons pickA ?_)))
        · refine HO.drop_a rfl ?_
          refine HA.all [11] (by kernel_rfl) rfl ⟨⟨_, rfl, ?_⟩, trivial⟩
          refine HO.drop_a rfl ?_
          refine HA.all [16] (by kernel_rfl) rfl ⟨⟨_, rfl, ?_⟩, trivial⟩
          refine HO.drop_a rfl ?_
          refine HA.pa 17 rfl ?_
          refine HA.pa 18 rfl ?_
          first | refine HA.ga 19 rfl rfl ?_ | refine HA.na 19 rfl rfl ?_ | refine HA.nu 19 rfl rfl ?_
          first | refine HA.ga 20 rfl rfl ?_ | refine HA.na 20 rfl rfl ?_ | refine HA.nu 20 rfl rfl ?_
          first | refine HA.ga 21 rfl rfl ?_ | refine HA.na 21 rfl rfl ?_ | refine HA.nu 21 rfl rfl ?_
          first | refine HA.ga 22 rfl rfl ?_ | refine HA.na 22 rfl rfl ?_ | refine HA.nu 22 rfl rfl ?_
          first | refine HA.ga 23 rfl rfl ?_ | refine HA.na 23 rfl rfl ?_ | refine HA.nu 23 rfl rfl ?_
          first | refine HA.ga 24 rfl rfl ?_ | refine HA.na 24 rfl rfl ?_ | refine HA.nu 24 rfl rfl ?_
          first | refine HA.ga 25 rfl rfl ?_ | refine HA.na 25 rfl rfl ?_ | refine HA.nu 25 rfl rfl ?_
          first | refine HA.ga 27 rfl rfl ?_ | refine HA.na 27 rfl rfl ?_ | refine HA.nu 27 rfl rfl ?_
          first | refine HA.ga 28 rfl rfl ?_ | refine HA.na 28 rfl rfl ?_ | refine HA.nu 28 rfl rfl ?_
          first | refine HA.ga 29 rfl rfl ?_ | refine HA.na 29 rfl rfl ?_ | refine HA.nu 29 rfl rfl ?_
          refine HA.all [26, 30] (by kernel_rfl) rfl ⟨⟨_, rfl, ?_⟩, ⟨_, rfl, ?_⟩, trivial⟩
          · refine HO.one_a rfl ?_
            refine H1.ldAggw (vs := rcells t) rfl rfl (fun w' hM i v hv => by obtain ⟨b', o', e1, -, hc⟩ := (hM.recs (l := l) memA).at hne; cases e1; have h := hc _ t ht i v hv; rw [Nat.zero_add] at h; exact h) rfl ?_
            apply HA.fold
            refine HA.all [30] (by kernel_rfl) rfl ⟨⟨_, rfl, ?_⟩, trivial⟩
            refine HO.one_a rfl ?_
            refine H1.ldAggw (vs := rcells s) rfl rfl (fun w' hM i v hv => by obtain ⟨b', o', e1, -, hc⟩ := (hM.recs (l := l) memA).at hne; cases e1; have h := hc _ s hs i v hv; rw [Nat.zero_add] at h; exact h) rfl ?_
            apply HA.fold
            refine HA.ga (v := .bool (eqR t s)) 31 rfl rfl ?_ (hp := POp.eqRec rfl rfl hto hso)
            first | refine HA.ga 32 rfl rfl ?_ | refine HA.na 32 rfl rfl ?_ | refine HA.nu 32 rfl rfl ?_
            refine HA.pa 33 rfl ?_
            refine HA.done (by kernel_rfl) ?_
            exact HX.cut (eqR t s) ⟨fun e => .inr ⟨hki, eqR_iff.1 e⟩, fun h => h.elim (fun h => absurd h.1 htd) (fun h => eqR_iff.2 h.2)⟩ esA (by repeat (first | exact Hs.nil _ | (refine Hs.cons pickA ?_)))
          · refine HO.one_a rfl ?_
            refine H1.ldAggw (vs := rcells s) rfl rfl (fun w' hM i v hv => by obtain ⟨b', o', e1, -, hc⟩ := (hM.recs (l := l) memA).at hne; cases e1; have h := hc _ s hs i v hv; rw [Nat.zero_add] at h; exact h) rfl ?_
            apply HA.fold
            refine HA.all [26] (by kernel_rfl) rfl ⟨⟨_, rfl, ?_⟩, trivial⟩
            refine HO.one_a rfl ?_
            refine H1.ldAggw (vs := rcells t) rfl rfl (fun w' hM i v hv => by obtain ⟨b', o', e1, -, hc⟩ := (hM.recs (l := l) memA).at hne; cases e1; have h := hc _ t ht i v hv; rw [Nat.zero_add] at h; exact h) rfl ?_
            apply HA.fold
            refine HA.ga (v := .bool (eqR t s)) 31 rfl rfl ?_ (hp := POp.eqRec rfl rfl hto hso)
            first | refine HA.ga 32 rfl rfl ?_ | refine HA.na 32 rfl rfl ?_ | refine HA.nu 32 rfl rfl ?_
            refine HA.pa 33 rfl ?_
            refine HA.done (by kernel_rfl) ?_
            exact HX.cut (eqR t s) ⟨fun e => .inr ⟨hki, eqR_iff.1 e⟩, fun h => h.elim (fun h => absurd h.1 htd) (fun h => eqR_iff.2 h.2)⟩ esA (by repeat (first | exact Hs.nil _ | (refine Hs.cons pickA ?_)))
      have hkiI : ¬ (k : Int) < (i : Int) := by omega
      refine HC.any rfl ?_
      refine HA.pa 0 rfl ?_
      refine HA.pa 1 rfl ?_
      refine HA.pa 2 rfl ?_
      refine HA.pa 3 rfl ?_
      refine HA.pa 5 rfl ?_
      refine HA.all [4] (by kernel_rfl) rfl ⟨⟨_, rfl, ?_⟩, trivial⟩
      refine HO.one ?_
      refine H1.ldg (v := zv t.day) rfl memA (by simpa using rcl_get ht 3 _ rfl) rfl ?_
      apply HA.fold
      refine HA.pa 6 rfl ?_
      refine HA.pa 7 rfl ?_
      first | refine HA.ga 8 rfl rfl ?_ | refine HA.na 8 rfl rfl ?_ | refine HA.nu 8 rfl rfl ?_
      first | refine HA.ga 9 rfl rfl ?_ | refine HA.na 9 rfl rfl ?_ | refine HA.nu 9 rfl rfl ?_
      first | refine HA.ga 10 rfl rfl ?_ | refine HA.na 10 rfl rfl ?_ | refine HA.nu 10 rfl rfl ?_
      first | refine HA.ga 12 rfl rfl ?_ | refine HA.na 12 rfl rfl ?_ | refine HA.nu 12 rfl rfl ?_
      first | refine HA.ga 13 rfl rfl ?_ | refine HA.na 13 rfl rfl ?_ | refine HA.nu 13 rfl rfl ?_
      first | refine HA.ga 14 rfl rfl ?_ | refine HA.na 14 rfl rfl ?_ | refine HA.nu 14 rfl rfl ?_
      refine HA.all [11, 15] (by kernel_rfl) rfl ⟨⟨_, rfl, ?_⟩, ⟨_, rfl, ?_⟩, trivial⟩
      · refine HO.drop_a rfl ?_
        refine HA.all [15] (by kernel_rfl) rfl ⟨⟨_, rfl, ?_⟩, trivial⟩
        refine HO.drop_a rfl ?_
        refine HA.all [16] (by kernel_rfl) rfl ⟨⟨_, rfl, ?_⟩, trivial⟩
        refine HO.drop_a rfl ?_
        refine HA.pa 17 rfl ?_
        refine HA.pa 18 rfl ?_
        first | refine HA.ga 19 rfl rfl ?_ | refine HA.na 19 rfl rfl ?_ | refine HA.nu 19 rfl rfl ?_
        first | refine HA.ga 20 rfl rfl ?_ | refine HA.na 20 rfl rfl ?_ | refine HA.nu 20 rfl rfl ?_
        first | refine HA.ga 21 rfl rfl ?_ | refine HA.na 21 rfl rfl ?_ | refine HA.nu 21 rfl rfl ?_
        first | refine HA.ga 22 rfl rfl ?_ | refine HA.na 22 rfl rfl ?_ | refine HA.nu 22 rfl rfl ?_
        first | refine HA.ga 23 rfl rfl ?_ | refine HA.na 23 rfl rfl ?_ | refine HA.nu 23 rfl rfl ?_
        first | refine HA.ga 24 rfl rfl ?_ | refine HA.na 24 rfl rfl ?_ | refine HA.nu 24 rfl rfl ?_
        first | refine HA.ga 25 rfl rfl ?_ | refine HA.na 25 rfl rfl ?_ | refine HA.nu 25 rfl rfl ?_
        first | refine HA.ga 27 rfl rfl ?_ | refine HA.na 27 rfl rfl ?_ | refine HA.nu 27 rfl rfl ?_
        first | refine HA.ga 28 rfl rfl ?_ | refine HA.na 28 rfl rfl ?_ | refine HA.nu 28 rfl rfl ?_
        first | refine HA.ga 29 rfl rfl ?_ | refine HA.na 29 rfl rfl ?_ | refine HA.nu 29 rfl rfl ?_
        refine HA.all [26, 30] (by kernel_rfl) rfl ⟨⟨_, rfl, ?_⟩, ⟨_, rfl, ?_⟩, trivial⟩
        · refine HO.drop_a rfl ?_
          refine HA.all [30] (by kernel_rfl) rfl ⟨⟨_, rfl, ?_⟩, trivial⟩
          refine HO.drop_a rfl ?_
          first | refine HA.ga 31 rfl rfl ?_ | refine HA.na 31 rfl rfl ?_ | refine HA.nu 31 rfl rfl ?_
          first | refine HA.ga 32 rfl rfl ?_ | refine HA.na 32 rfl rfl ?_ | refine HA.nu 32 rfl rfl ?_
          refine HA.pa 33 rfl ?_
          refine HA.done (by kernel_rfl) ?_
          exact HX.cut false ⟨fun e => (by cases e), fun h => h.elim (fun h => absurd h.1 htd) (fun h => absurd h.1 hki)⟩ esA (by repeat (first | exact Hs.nil _ | (refine Hs.cons pickA ?_)))
        · refine HO.drop_a rfl ?_
          refine HA.all [26] (by kernel_rfl) rfl ⟨⟨_, rfl, ?_⟩, trivial⟩
          refine HO.drop_a rfl ?_
          first | refine HA.ga 31 rfl rfl ?_ | refine HA.na 31 rfl rfl ?_ | refine HA.nu 31 rfl rfl ?_
          first | refine HA.ga 32 rfl rfl ?_ | refine HA.na 32 rfl rfl ?_ | refine HA.nu 32 rfl rfl ?_
          refine HA.pa 33 rfl ?_
          refine HA.done (by kernel_rfl) ?_
          exact HX.cut false ⟨fun e => (by cases e), fun h => h.elim (fun h => absurd h.1 htd) (fun h => absurd h.1 hki)⟩ esA (by repeat (first | exact Hs.nil _ | (refine Hs.cons pickA ?_)))
      · refine HO.drop_a rfl ?_
        refine HA.all [11] (by kernel_rfl) rfl ⟨⟨_, rfl, ?_⟩, trivial⟩
        refine HO.drop_a rfl ?_
        refine HA.all [16] (by kernel_rfl) rfl ⟨⟨_, rfl, ?_⟩, trivial⟩
        refine HO.drop_a rfl ?_
        refine HA.pa 17 rfl ?_
        refine HA.pa 18 rfl ?_
        first | refine HA.ga 19 rfl rfl ?_ | refine HA.na 19 rfl rfl ?_ | refine HA.nu 19 rfl rfl ?_
        first | refine HA.ga 20 rfl rfl ?_ | refine HA.na 20 rfl rfl ?_ | refine HA.nu 20 rfl rfl ?_
        first | refine HA.ga 21 rfl rfl ?_ | refine HA.na 21 rfl rfl ?_ | refine HA.nu 21 rfl rfl ?_
        first | refine HA.ga 22 rfl rfl ?_ | refine HA.na 22 rfl rfl ?_ | refine HA.nu 22 rfl rfl ?_
        first | refine HA.ga 23 rfl rfl ?_ | refine HA.na 23 rfl rfl ?_ | refine HA.nu 23 rfl rfl ?_
        first | refine HA.ga 24 rfl rfl ?_ | refine HA.na 24 rfl rfl ?_ | refine HA.nu 24 rfl rfl ?_
        first | refine HA.ga 25 rfl rfl ?_ | refine HA.na 25 rfl rfl ?_ | refine HA.nu 25 rfl rfl ?_
        first | refine HA.ga 27 rfl rfl ?_ | refine HA.na 27 rfl rfl ?_ | refine HA.nu 27 rfl rfl ?_
        first | refine HA.ga 28 rfl rfl ?_ | refine HA.na 28 rfl rfl ?_ | refine HA.nu 28 rfl rfl ?_
        first | refine HA.ga 29 rfl rfl ?_ | refine HA.na 29 rfl rfl ?_ | refine HA.nu 29 rfl rfl ?_
        refine HA.all [26, 30] (by kernel_rfl) rfl ⟨⟨_, rfl, ?_⟩, ⟨_, rfl, ?_⟩, trivial⟩
        · refine HO.drop_a rfl ?_
          refine HA.all [30] (by kernel_rfl) rfl ⟨⟨_, rfl, ?_⟩, trivial⟩
          refine HO.drop_a rfl ?_
          first | refine HA.ga 31 rfl rfl ?_ | refine HA.na 31 rfl rfl ?_ | refine HA.nu 31 rfl rfl ?_
          first | refine HA.ga 32 rfl rfl ?_ | refine HA.na 32 rfl rfl ?_ | refine HA.nu 32 rfl rfl ?_
          refine HA.pa 33 rfl ?_
          refine HA.done (by kernel_rfl) ?_
          exact HX.cut false ⟨fun e => (by cases e), fun h => h.elim (fun h => absurd h.1 htd) (fun h => absurd h.1 hki)⟩ esA (by repeat (first | exact Hs.nil _ | (refine Hs.cons pickA ?_)))
        · refine HO.drop_a rfl ?_
          refine HA.all [26] (by kernel_rfl) rfl ⟨⟨_, rfl, ?_⟩, trivial⟩
          refine HO.drop_a rfl ?_
          first | refine HA.ga 31 rfl rfl ?_ | refine HA.na 31 rfl rfl ?_ | refine HA.nu 31 rfl rfl ?_
          first | refine HA.ga 32 rfl rfl ?_ | refine HA.na 32 rfl rfl ?_ | refine HA.nu 32 rfl rfl ?_
          refine HA.pa 33 rfl ?_
          refine HA.done (by kernel_rfl) ?_
          exact HX.cut false ⟨fun e => (by cases e), fun h => h.elim (fun h => absurd h.1 htd) (fun h => absurd h.1 hki)⟩ esA (by repeat (first | exact Hs.nil _ | (refine Hs.cons pickA ?_)))
    rintro c hb
    cases c with
    | true =>
      have hf2 := FlagI.bad (k' := k + 1) ht (hb.1 rfl)
      repeat' (first | apply HL.fold | apply HA.fold | apply HL.nil | apply HX.n_then | apply HC.seq | apply HC.region | refine HL.pa ?_ | refine HL.ga rfl ?_ | refine HL.na rfl ?_ | refine HL.nu rfl rfl ?_ | apply HC.block | apply HC.skip | apply HC.exit | apply HC.ret | apply HX.e_block | refine HX.e_other rfl ?_ | apply HX.e_then | apply HX.e_again | apply HX.n_block | apply HX.r_then | apply HX.r_block | apply HX.r_again | refine HC.cond_yes rfl ?_ | refine HC.cond_no rfl ?_ | refine HL.one (H1.ldb rfl memA rfl rfl ?_) | refine HC.cond rfl (fun hc => ?_) (fun hc => ?_) | refine HC.cond_b rfl (fun hc => ?_) (fun hc => ?_))
      exact HX.again (k + 1, false) ⟨hkl, hf2⟩ (by show l.length - (k + 1) < l.length - k; omega) esA (by repeat (first | exact Hs.nil _ | (refine Hs.cons pickA ?_)))
    | false =>
      have hf2 := hf.good ht (fun h => by have := hb.2 h; cases this)
      repeat' (first | apply HL.fold | apply HA.fold | apply HL.nil | apply HX.n_then | apply HC.seq | apply HC.region | refine HL.pa ?_ | refine HL.ga rfl ?_ | refine HL.na rfl ?_ | refine HL.nu rfl rfl ?_ | apply HC.block | apply HC.skip | apply HC.exit | apply HC.ret | apply HX.e_block | refine HX.e_other rfl ?_ | apply HX.e_then | apply HX.e_again | apply HX.n_block | apply HX.r_then | apply HX.r_block | apply HX.r_again | refine HC.cond_yes rfl ?_ | refine HC.cond_no rfl ?_ | refine HL.one (H1.ldb rfl memA rfl rfl ?_) | refine HC.cond rfl (fun hc => ?_) (fun hc => ?_) | refine HC.cond_b rfl (fun hc => ?_) (fun hc => ?_))
      exact HX.again (k + 1, true) ⟨hkl, hf2⟩ (by show l.length - (k + 1) < l.length - k; omega) esA (by repeat (first | exact Hs.nil _ | (refine Hs.cons pickA ?_)))
end Go.Sx

