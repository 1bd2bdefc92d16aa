/- Plan of the program. -/
import Derived.Test.YtfjkdciblblalaaGreatDoorRP
import Derived.Test.YtfjkdciblblalaaGreatDoorHr
import Derived.Test.YtfjkdciblblalaaGreatDoorHx5
namespace Go.Sx
open Go Go.Proofs
structure St where
  d : Nat
  zs : List (Option Addr × Nat)
  a : Option Addr
  c : Nat
/-- What lies there while Plan's loop over the days goes on. -/
def planF (b7 b8 b9 b10 b14 bl bs b16 : Nat) (lv tv : Value) (wd kk : Int) (S : List Value) (asz : Option Addr) (csz : Nat) (surv : List Int) (rest : List Atom) : List Atom :=
  A.blk b7 [lv] 23 :: A.blk b8 [tv] 23 :: A.blk b9 [.int .i64 wd] 3 :: A.blk b10 [.int .i64 kk] 3 :: A.blk b14 S 99 :: A.blk bl [.pointer (some ⟨b16, 0, none⟩)] 106 :: A.blk bs S 99 ::
    A.grow 3 1 asz csz surv.length (ints surv) :: rest
attribute [local irreducible] WC WL WX POp Then Again Fn NX W1 WA WO QL RP RA Yld LoopAt HC HL HX HN H1 HA HO HQ A.blk A.grow A.rd A.obj AgainH CutH
theorem days_fn (S : List Value) (ad : Addr) (w : World) :
    Fn Tryz.prog 53 #[.agg S.toArray, .pointer (some ad)] w fun x w' => ∃ z : Nat × Nat, True ∧ x = .func (.func 92) #[] #[.pointer (some ⟨z.1, 0, none⟩), .pointer (some ⟨z.2, 0, none⟩)] ∧
      Mm w [A.blk z.1 [.pointer (some ad)] 106, A.blk z.2 S 99] w' := by
  refine enterH (l := [_, _]) rfl Tryz.ntmps53 rfl ?_
  repeat' (first | apply HL.fold | apply HA.fold | apply HL.nil | apply HX.n_then | apply HC.seq | apply HC.region | refine HL.pa ?_ | refine HL.ga rfl ?_ | refine HL.na rfl ?_ | refine HL.nu rfl rfl ?_ | apply HC.block | apply HC.skip | apply HC.exit | apply HC.ret | apply HX.e_block | refine HX.e_other rfl ?_ | apply HX.e_then | apply HX.e_again | apply HX.n_block | apply HX.r_then | apply HX.r_block | apply HX.r_again | refine HC.cond_yes rfl ?_ | refine HC.cond_no rfl ?_ | refine HL.one (H1.ldb rfl memA rfl rfl ?_) | refine HC.cond rfl (fun hc => ?_) (fun hc => ?_) | refine HC.cond_b rfl (fun hc => ?_) (fun hc => ?_))
  refine HL.one (H1.boxAgg (cs := S) rfl rfl (fun b2 => ?_))
  repeat' (first | apply HL.fold | apply HA.fold | apply HL.nil | apply HX.n_then | apply HC.seq | apply HC.region | refine HL.pa ?_ | refine HL.ga rfl ?_ | refine HL.na rfl ?_ | refine HL.nu rfl rfl ?_ | apply HC.block | apply HC.skip | apply HC.exit | apply HC.ret | apply HX.e_block | refine HX.e_other rfl ?_ | apply HX.e_then | apply HX.e_again | apply HX.n_block | apply HX.r_then | apply HX.r_block | apply HX.r_again | refine HC.cond_yes rfl ?_ | refine HC.cond_no rfl ?_ | refine HL.one (H1.ldb rfl memA rfl rfl ?_) | refine HC.cond rfl (fun hc => ?_) (fun hc => ?_) | refine HC.cond_b rfl (fun hc => ?_) (fun hc => ?_))
  refine HL.one (H1.box rfl rfl rfl (fun b3 => ?_))
  repeat' (first | apply HL.fold | apply HA.fold | apply HL.nil | apply HX.n_then | apply HC.seq | apply HC.region | refine HL.pa ?_ | refine HL.ga rfl ?_ | refine HL.na rfl ?_ | refine HL.nu rfl rfl ?_ | apply HC.block | apply HC.skip | apply HC.exit | apply HC.ret | apply HX.e_block | refine HX.e_other rfl ?_ | apply HX.e_then | apply HX.e_again | apply HX.n_block | apply HX.r_then | apply HX.r_block | apply HX.r_again | refine HC.cond_yes rfl ?_ | refine HC.cond_no rfl ?_ | refine HL.one (H1.ldb rfl memA rfl rfl ?_) | refine HC.cond rfl (fun hc => ?_) (fun hc => ?_) | refine HC.cond_b rfl (fun hc => ?_) (fun hc => ?_))
  exact HX.ret1 rfl rfl fun w' hM => ⟨(b3, b2), trivial, rfl, hM⟩
theorem days1_fn {w0 : World} {K0 K1 : Atom} {b7 b8 b9 b10 b14 bl bs b16 l : Nat} {lv tv : Value} {wd kk dl : Int} {asz : Option Addr} {csz : Nat} {surv lost tos : List Int} {width k : Nat} (hlv : ∃ a c, lv = .slice a lost.length c)
    (hs : surv.length ≤ 100000) (hl : lost.length ≤ 100000) (hd : 0 ≤ dl ∧ dl ≤ 1000)
    (hy : ∀ (d : Nat) (zs : List (Option Addr × Nat)) (a : Option Addr) (c : Nat) (h : Option Addr × Nat), zs.length = (planAt surv lost tos width k d).length → ((planAt surv lost tos width k d).length = 0 ∨ ∃ b, a = some ⟨b, 0, none⟩) → (planAt surv lost tos width k d).length < lost.length → (d : Int) < dl →
      ∀ w, Mm w0 (A.grow 3 1 h.1 h.2 (hasL surv (planAt surv lost tos width k d) d).length (ints (hasL surv (planAt surv lost tos width k d) d)) :: K0 :: K1 :: planF b7 b8 b9 b10 b14 bl bs b16 lv tv wd kk [.slice asz surv.length csz, lv, .int .i64 wd, .int .i64 kk, .int .i64 dl] asz csz surv
        (A.blk b16 [.slice a (planAt surv lost tos width k d).length c] 32 :: A.grow 37 5 a c (planAt surv lost tos width k d).length (tcells (planAt surv lost tos width k d) zs) :: srcAts (planAt surv lost tos width k d) zs)) w →
      Yld Tryz.prog l [.int .i64 (d : Int), .slice h.1 (hasL surv (planAt surv lost tos width k d) d).length h.2] w fun b w' => b = true ∧ ∃ z : St, (z.d = d + 1 ∧ z.zs.length = (planAt surv lost tos width k z.d).length ∧ ((planAt surv lost tos width k z.d).length = 0 ∨ ∃ b, z.a = some ⟨b, 0, none⟩)) ∧
        Mm w0 (K0 :: K1 :: planF b7 b8 b9 b10 b14 bl bs b16 lv tv wd kk [.slice asz surv.length csz, lv, .int .i64 wd, .int .i64 kk, .int .i64 dl] asz csz surv
          (A.blk b16 [.slice z.a (planAt surv lost tos width k z.d).length z.c] 32 :: A.grow 37 5 z.a z.c (planAt surv lost tos width k z.d).length (tcells (planAt surv lost tos width k z.d) z.zs) :: srcAts (planAt surv lost tos width k z.d) z.zs)) w') :
    ∀ w, Mm w0 (K0 :: K1 :: planF b7 b8 b9 b10 b14 bl bs b16 lv tv wd kk [.slice asz surv.length csz, lv, .int .i64 wd, .int .i64 kk, .int .i64 dl] asz csz surv (A.blk b16 [.slice none 0 0] 32 :: A.grow 37 5 none 0 0 [] :: [])) w →
      Fn Tryz.prog 92 (.func (.yield l) #[] #[] :: [.pointer (some ⟨bl, 0, none⟩), .pointer (some ⟨bs, 0, none⟩)]).toArray w fun _ w' => ∃ z : St, (z.zs.length = (planAt surv lost tos width k z.d).length ∧ (z.d : Int) ≤ dl ∧ (lost.length ≤ (planAt surv lost tos width k z.d).length ∨ dl ≤ z.d)) ∧
        Mm w0 (K0 :: K1 :: planF b7 b8 b9 b10 b14 bl bs b16 lv tv wd kk [.slice asz surv.length csz, lv, .int .i64 wd, .int .i64 kk, .int .i64 dl] asz csz surv
          (A.blk b16 [.slice z.a (planAt surv lost tos width k z.d).length z.c] 32 :: A.grow 37 5 z.a z.c (planAt surv lost tos width k z.d).length (tcells (planAt surv lost tos width k z.d) z.zs) :: srcAts (planAt surv lost tos width k z.d) z.zs)) w' := by
  intro w hM
  obtain ⟨alv, clv, rfl⟩ := hlv
  refine enterK (l := [_, _, _]) hM rfl Tryz.ntmps92 rfl ?_
  repeat' (first | apply HL.fold | apply HA.fold | apply HL.nil | apply HX.n_then | apply HC.seq | apply HC.region | refine HL.pa ?_ | refine HL.ga rfl ?_ | refine HL.na rfl ?_ | refine HL.nu rfl rfl ?_ | apply HC.block | apply HC.skip | apply HC.exit | apply HC.ret | apply HX.e_block | refine HX.e_other rfl ?_ | apply HX.e_then | apply HX.e_again | apply HX.n_block | apply HX.r_then | apply HX.r_block | apply HX.r_again | refine HC.cond_yes rfl ?_ | refine HC.cond_no rfl ?_ | refine HL.one (H1.ldb rfl memA rfl rfl ?_) | refine HC.cond rfl (fun hc => ?_) (fun hc => ?_) | refine HC.cond_b rfl (fun hc => ?_) (fun hc => ?_))
  refine HC.loop (α := St) (fun z => [(0, .func (.yield l) #[] #[]), (1, .pointer (some ⟨bl, 0, none⟩)), (2, .pointer (some ⟨bs, 0, none⟩)), (4, .int .i64 (z.d : Int))])
    (fun z => K0 :: K1 :: planF b7 b8 b9 b10 b14 bl bs b16 (.slice alv lost.length clv) tv wd kk [.slice asz surv.length csz, .slice alv lost.length clv, .int .i64 wd, .int .i64 kk, .int .i64 dl] asz csz surv
          (A.blk b16 [.slice z.a (planAt surv lost tos width k z.d).length z.c] 32 :: A.grow 37 5 z.a z.c (planAt surv lost tos width k z.d).length (tcells (planAt surv lost tos width k z.d) z.zs) :: srcAts (planAt surv lost tos width k z.d) z.zs))
    (fun z => (z.zs.length = (planAt surv lost tos width k z.d).length ∧ (z.d : Int) ≤ dl) ∧ ((planAt surv lost tos width k z.d).length = 0 ∨ ∃ b, z.a = some ⟨b, 0, none⟩)) (fun z => dl.toNat - z.d) ⟨0, [], none, 0⟩ ⟨⟨rfl, hd.1⟩, .inl rfl⟩ esA (Hs.refl _) ?_
  rintro ⟨d, zs, a, c⟩ ⟨⟨hz, hdl⟩, ha⟩
  dsimp only at hz hdl ha ⊢
  have hple := plan_len_le (surv := surv) (lost := lost) (tos := tos) (width := width) (k := k) d
  have hy' := hy d zs a c
  generalize hO : planAt surv lost tos width k d = O at *
  delta planF
  by_cases hlt : O.length < lost.length
  · by_cases hdd : (d : Int) < dl
    · repeat' (first | apply HL.fold | apply HA.fold | apply HL.nil | apply HX.n_then | apply HC.seq | apply HC.region | refine HL.pa ?_ | refine HL.ga rfl ?_ | refine HL.na rfl ?_ | refine HL.nu rfl rfl ?_ | apply HC.block | apply HC.skip | apply HC.exit | apply HC.ret | apply HX.e_block | refine HX.e_other rfl ?_ | apply HX.e_then | apply HX.e_again | apply HX.n_block | apply HX.r_then | apply HX.r_block | apply HX.r_again | refine HC.cond_yes rfl ?_ | refine HC.cond_no rfl ?_ | refine HL.one (H1.ldb rfl memA rfl rfl ?_) | refine HC.cond rfl (fun hc => ?_) (fun hc => ?_) | refine HC.cond_b rfl (fun hc => ?_) (fun hc => ?_))
      refine HC.quietS [(some 5, [1], []), (some 6, [5], [0]), (some 7, [6], [1]), (some 8, [7], [2]), (some 9, [2], []), (some 10, [9], [4]), (some 11, [10], [5]), (some 12, [8, 11], [3, 6]), (some 13, [12], [7]), (some 14, [4, 13], [8]), (some 15, [2, 13], [8]), (some 16, [15, 13], [10, 8]), (some 17, [14, 16, 13], [9, 11, 8]), (some 18, [13, 17], [8, 12])] (by kernel_rfl) (by kernel_rfl) (by kernel_rfl) ?_
      repeat' (first | refine HQ.pa ?_ | refine HQ.ga rfl ?_ | refine HQ.na rfl ?_ | refine HQ.nu rfl ?_ | refine HQ.ldb rfl memA rfl rfl ?_)
      refine HQ.pa ?_ (POp.nilCheck rfl)
      repeat' (first | refine HQ.pa ?_ | refine HQ.ga rfl ?_ | refine HQ.na rfl ?_ | refine HQ.nu rfl ?_ | refine HQ.ldb rfl memA rfl rfl ?_)
      refine HQ.nil ?_
      repeat' (first | apply HL.fold | apply HA.fold | apply HL.nil | apply HX.n_then | apply HC.seq | apply HC.region | refine HL.pa ?_ | refine HL.ga rfl ?_ | refine HL.na rfl ?_ | refine HL.nu rfl rfl ?_ | apply HC.block | apply HC.skip | apply HC.exit | apply HC.ret | apply HX.e_block | refine HX.e_other rfl ?_ | apply HX.e_then | apply HX.e_again | apply HX.n_block | apply HX.r_then | apply HX.r_block | apply HX.r_again | refine HC.cond_yes rfl ?_ | refine HC.cond_no rfl ?_ | refine HL.one (H1.ldb rfl memA rfl rfl ?_) | refine HC.cond rfl (fun hc => ?_) (fun hc => ?_) | refine HC.cond_b rfl (fun hc => ?_) (fun hc => ?_))
      refine HC.any rfl ?_
      refine HA.pa 0 rfl ?_
      refine HA.pa 1 rfl ?_
      refine HA.pa 6 rfl ?_
      refine HA.all [2, 3] (by kernel_rfl) rfl ⟨⟨_, rfl, ?_⟩, ⟨_, rfl, ?_⟩, trivial⟩
      · refine HO.one ?_
        refine H1.ldAgg (vs := [.slice asz surv.length csz, .slice alv lost.length clv, .int .i64 wd, .int .i64 kk, .int .i64 dl]) rfl memA rfl (fun i v hv => by rw [Nat.zero_add]; exact hv) rfl ?_
        apply HA.fold
        refine HA.all [3] (by kernel_rfl) rfl ⟨⟨_, rfl, ?_⟩, trivial⟩
        refine HO.one ?_
        refine H1.ldb rfl memA rfl rfl ?_
        apply HA.fold
        refine HA.all [4] (by kernel_rfl) rfl ⟨⟨_, rfl, ?_⟩, trivial⟩
        refine HO.one ?_
        refine H1.pa ?_ (POp.nilCheck rfl)
        apply HA.fold
        refine HA.all [5] (by kernel_rfl) rfl ⟨⟨_, rfl, ?_⟩, trivial⟩
        refine HO.one ?_
        refine H1.ldb rfl memA rfl rfl ?_
        apply HA.fold
        refine HA.all [7] (by kernel_rfl) rfl ⟨⟨_, rfl, ?_⟩, trivial⟩
        refine HO.one ?_
        refine H1.callz1 (vs := [.agg #[.slice asz surv.length csz, .slice alv lost.length clv, .int .i64 wd, .int .i64 kk, .int .i64 dl], .slice a O.length c, .int .i64 (d : Int)]) rfl rfl (fun w' hM => has_fn _ _ _ surv O wd kk dl d hs (by omega) w' (hM.gr memA) (hM.tl hz memA (fun x hx => by repeat (first | exact hx | apply List.Mem.tail)))) ?_
        rintro ⟨ah, ch⟩ -
        dsimp only
        apply HA.fold
        refine HA.all [8] (by kernel_rfl) rfl ⟨⟨_, rfl, ?_⟩, trivial⟩
        refine HO.one ?_
        refine H1.yield rfl rfl rfl (hy' (ah, ch) hz ha hlt hdd) ?_
        rintro z ⟨hz1, hz2, hz3⟩
        apply HA.fold
        refine HA.pa 9 rfl ?_
        refine HA.done (by kernel_rfl) ?_
        delta planF
        repeat' (first | apply HL.fold | apply HA.fold | apply HL.nil | apply HX.n_then | apply HC.seq | apply HC.region | refine HL.pa ?_ | refine HL.ga rfl ?_ | refine HL.na rfl ?_ | refine HL.nu rfl rfl ?_ | apply HC.block | apply HC.skip | apply HC.exit | apply HC.ret | apply HX.e_block | refine HX.e_other rfl ?_ | apply HX.e_then | apply HX.e_again | apply HX.n_block | apply HX.r_then | apply HX.r_block | apply HX.r_again | refine HC.cond_yes rfl ?_ | refine HC.cond_no rfl ?_ | refine HL.one (H1.ldb rfl memA rfl rfl ?_) | refine HC.cond rfl (fun hc => ?_) (fun hc => ?_) | refine HC.cond_b rfl (fun hc => ?_) (fun hc => ?_))
        refine HX.again z ⟨⟨hz2, by omega⟩, hz3⟩ (by rw [hz1]; omega) (by rw [hz1]; repeat (first | exact trivial | refine ⟨rfl, ?_⟩)) (Hs.refl _)
      · refine HO.one ?_
        refine H1.ldb rfl memA rfl rfl ?_
        apply HA.fold
        refine HA.all [2, 4] (by kernel_rfl) rfl ⟨⟨_, rfl, ?_⟩, ⟨_, rfl, ?_⟩, trivial⟩
        · refine HO.one ?_
          refine H1.ldAgg (vs := [.slice asz surv.length csz, .slice alv lost.length clv, .int .i64 wd, .int .i64 kk, .int .i64 dl]) rfl memA rfl (fun i v hv => by rw [Nat.zero_add]; exact hv) rfl ?_
          apply HA.fold
          refine HA.all [4] (by kernel_rfl) rfl ⟨⟨_, rfl, ?_⟩, trivial⟩
          refine HO.one ?_
          refine H1.pa ?_ (POp.nilCheck rfl)
          apply HA.fold
          refine HA.all [5] (by kernel_rfl) rfl ⟨⟨_, rfl, ?_⟩, trivial⟩
          refine HO.one ?_
          refine H1.ldb rfl memA rfl rfl ?_
          apply HA.fold
          refine HA.all [7] (by kernel_rfl) rfl ⟨⟨_, rfl, ?_⟩, trivial⟩
          refine HO.one ?_
          refine H1.callz1 (vs := [.agg #[.slice asz surv.length csz, .slice alv lost.length clv, .int .i64 wd, .int .i64 kk, .int .i64 dl], .slice a O.length c, .int .i64 (d : Int)]) rfl rfl (fun w' hM => has_fn _ _ _ surv O wd kk dl d hs (by omega) w' (hM.gr memA) (hM.tl hz memA (fun x hx => by repeat (first | exact hx | apply List.Mem.tail)))) ?_
          rintro ⟨ah, ch⟩ -
          dsimp only
          apply HA.fold
          refine HA.all [8] (by kernel_rfl) rfl ⟨⟨_, rfl, ?_⟩, trivial⟩
          refine HO.one ?_
          refine H1.yield rfl rfl rfl (hy' (ah, ch) hz ha hlt hdd) ?_
          rintro z ⟨hz1, hz2, hz3⟩
          apply HA.fold
          refine HA.pa 9 rfl ?_
          refine HA.done (by kernel_rfl) ?_
          delta planF
          repeat' (first | apply HL.fold | apply HA.fold | apply HL.nil | apply HX.n_then | apply HC.seq | apply HC.region | refine HL.pa ?_ | refine HL.ga rfl ?_ | refine HL.na rfl ?_ | refine HL.nu rfl rfl ?_ | apply HC.block | apply HC.skip | apply HC.exit | apply HC.ret | apply HX.e_block | refine HX.e_other rfl ?_ | apply HX.e_then | apply HX.e_again | apply HX.n_block | apply HX.r_then | apply HX.r_block | apply HX.r_again | refine HC.cond_yes rfl ?_ | refine HC.cond_no rfl ?_ | refine HL.one (H1.ldb rfl memA rfl rfl ?_) | refine HC.cond rfl (fun hc => ?_) (fun hc => ?_) | refine HC.cond_b rfl (fun hc => ?_) (fun hc => ?_))
          refine HX.again z ⟨⟨hz2, by omega⟩, hz3⟩ (by rw [hz1]; omega) (by rw [hz1]; repeat (first | exact trivial | refine ⟨rfl, ?_⟩)) (Hs.refl _)
        · refine HO.one ?_
          refine H1.pa ?_ (POp.nilCheck rfl)
          apply HA.fold
          refine HA.all [2, 5] (by kernel_rfl) rfl ⟨⟨_, rfl, ?_⟩, ⟨_, rfl, ?_⟩, trivial⟩
          · refine HO.one ?_
            refine H1.ldAgg (vs := [.slice asz surv.length csz, .slice alv lost.length clv, .int .i64 wd, .int .i64 kk, .int .i64 dl]) rfl memA rfl (fun i v hv => by rw [Nat.zero_add]; exact hv) rfl ?_
            apply HA.fold
            refine HA.all [5] (by kernel_rfl) rfl ⟨⟨_, rfl, ?_⟩, trivial⟩
            refine HO.one ?_
            refine H1.ldb rfl memA rfl rfl ?_
            apply HA.fold
            refine HA.all [7] (by kernel_rfl) rfl ⟨⟨_, rfl, ?_⟩, trivial⟩
            refine HO.one ?_
            refine H1.callz1 (vs := [.agg #[.slice asz surv.length csz, .slice alv lost.length clv, .int .i64 wd, .int .i64 kk, .int .i64 dl], .slice a O.length c, .int .i64 (d : Int)]) rfl rfl (fun w' hM => has_fn _ _ _ surv O wd kk dl d hs (by omega) w' (hM.gr memA) (hM.tl hz memA (fun x hx => by repeat (first | exact hx | apply List.Mem.tail)))) ?_
            rintro ⟨ah, ch⟩ -
            dsimp only
            apply HA.fold
            refine HA.all [8] (by kernel_rfl) rfl ⟨⟨_, rfl, ?_⟩, trivial⟩
            refine HO.one ?_
            refine H1.yield rfl rfl rfl (hy' (ah, ch) hz ha hlt hdd) ?_
            rintro z ⟨hz1, hz2, hz3⟩
            apply HA.fold
            refine HA.pa 9 rfl ?_
            refine HA.done (by kernel_rfl) ?_
            delta planF
            repeat' (first | apply HL.fold | apply HA.fold | apply HL.nil | apply HX.n_then | apply HC.seq | apply HC.region | refine HL.pa ?_ | refine HL.ga rfl ?_ | refine HL.na rfl ?_ | refine HL.nu rfl rfl ?_ | apply HC.block | apply HC.skip | apply HC.exit | apply HC.ret | apply HX.e_block | refine HX.e_other rfl ?_ | apply HX.e_then | apply HX.e_again | apply HX.n_block | apply HX.r_then | apply HX.r_block | apply HX.r_again | refine HC.cond_yes rfl ?_ | refine HC.cond_no rfl ?_ | refine HL.one (H1.ldb rfl memA rfl rfl ?_) | refine HC.cond rfl (fun hc => ?_) (fun hc => ?_) | refine HC.cond_b rfl (fun hc => ?_) (fun hc => ?_))
            refine HX.again z ⟨⟨hz2, by omega⟩, hz3⟩ (by rw [hz1]; omega) (by rw [hz1]; repeat (first | exact trivial | refine ⟨rfl, ?_⟩)) (Hs.refl _)
          · refine HO.one ?_
            refine H1.ldb rfl memA rfl rfl ?_
            apply HA.fold
            refine HA.all [2] (by kernel_rfl) rfl ⟨⟨_, rfl, ?_⟩, trivial⟩
            refine HO.one ?_
            refine H1.ldAgg (vs := [.slice asz surv.length csz, .slice alv lost.length clv, .int .i64 wd, .int .i64 kk, .int .i64 dl]) rfl memA rfl (fun i v hv => by rw [Nat.zero_add]; exact hv) rfl ?_
            apply HA.fold
            refine HA.all [7] (by kernel_rfl) rfl ⟨⟨_, rfl, ?_⟩, trivial⟩
            refine HO.one ?_
            refine H1.callz1 (vs := [.agg #[.slice asz surv.length csz, .slice alv lost.length clv, .int .i64 wd, .int .i64 kk, .int .i64 dl], .slice a O.length c, .int .i64 (d : Int)]) rfl rfl (fun w' hM => has_fn _ _ _ surv O wd kk dl d hs (by omega) w' (hM.gr memA) (hM.tl hz memA (fun x hx => by repeat (first | exact hx | apply List.Mem.tail)))) ?_
            rintro ⟨ah, ch⟩ -
            dsimp only
            apply HA.fold
            refine HA.all [8] (by kernel_rfl) rfl ⟨⟨_, rfl, ?_⟩, trivial⟩
            refine HO.one ?_
            refine H1.yield rfl rfl rfl (hy' (ah, ch) hz ha hlt hdd) ?_
            rintro z ⟨hz1, hz2, hz3⟩
            apply HA.fold
            refine HA.pa 9 rfl ?_
            refine HA.done (by kernel_rfl) ?_
            delta planF
            repeat' (first | apply HL.fold | apply HA.fold | apply HL.nil | apply HX.n_then | apply HC.seq | apply HC.region | refine HL.pa ?_ | refine HL.ga rfl ?_ | refine HL.na rfl ?_ | refine HL.nu rfl rfl ?_ | apply HC.block | apply HC.skip | apply HC.exit | apply HC.ret | apply HX.e_block | refine HX.e_other rfl ?_ | apply HX.e_then | apply HX.e_again | apply HX.n_block | apply HX.r_then | apply HX.r_block | apply HX.r_again | refine HC.cond_yes rfl ?_ | refine HC.cond_no rfl ?_ | refine HL.one (H1.ldb rfl memA rfl rfl ?_) | refine HC.cond rfl (fun hc => ?_) (fun hc => ?_) | refine HC.cond_b rfl (fun hc => ?_) (fun hc => ?_))
            refine HX.again z ⟨⟨hz2, by omega⟩, hz3⟩ (by rw [hz1]; omega) (by rw [hz1]; repeat (first | exact trivial | refine ⟨rfl, ?_⟩)) (Hs.refl _)
    · repeat' (first | apply HL.fold | apply HA.fold | apply HL.nil | apply HX.n_then | apply HC.seq | apply HC.region | refine HL.pa ?_ | refine HL.ga rfl ?_ | refine HL.na rfl ?_ | refine HL.nu rfl rfl ?_ | apply HC.block | apply HC.skip | apply HC.exit | apply HC.ret | apply HX.e_block | refine HX.e_other rfl ?_ | apply HX.e_then | apply HX.e_again | apply HX.n_block | apply HX.r_then | apply HX.r_block | apply HX.r_again | refine HC.cond_yes rfl ?_ | refine HC.cond_no rfl ?_ | refine HL.one (H1.ldb rfl memA rfl rfl ?_) | refine HC.cond rfl (fun hc => ?_) (fun hc => ?_) | refine HC.cond_b rfl (fun hc => ?_) (fun hc => ?_))
      refine HC.quietS [(some 5, [1], []), (some 6, [5], [0]), (some 7, [6], [1]), (some 8, [7], [2]), (some 9, [2], []), (some 10, [9], [4]), (some 11, [10], [5]), (some 12, [8, 11], [3, 6]), (some 13, [12], [7]), (some 14, [4, 13], [8]), (some 15, [2, 13], [8]), (some 16, [15, 13], [10, 8]), (some 17, [14, 16, 13], [9, 11, 8]), (some 18, [13, 17], [8, 12])] (by kernel_rfl) (by kernel_rfl) (by kernel_rfl) ?_
      repeat' (first | refine HQ.pa ?_ | refine HQ.ga rfl ?_ | refine HQ.na rfl ?_ | refine HQ.nu rfl ?_ | refine HQ.ldb rfl memA rfl rfl ?_)
      refine HQ.pa ?_ (POp.nilCheck rfl)
      repeat' (first | refine HQ.pa ?_ | refine HQ.ga rfl ?_ | refine HQ.na rfl ?_ | refine HQ.nu rfl ?_ | refine HQ.ldb rfl memA rfl rfl ?_)
      refine HQ.nil ?_
      repeat' (first | apply HL.fold | apply HA.fold | apply HL.nil | apply HX.n_then | apply HC.seq | apply HC.region | refine HL.pa ?_ | refine HL.ga rfl ?_ | refine HL.na rfl ?_ | refine HL.nu rfl rfl ?_ | apply HC.block | apply HC.skip | apply HC.exit | apply HC.ret | apply HX.e_block | refine HX.e_other rfl ?_ | apply HX.e_then | apply HX.e_again | apply HX.n_block | apply HX.r_then | apply HX.r_block | apply HX.r_again | refine HC.cond_yes rfl ?_ | refine HC.cond_no rfl ?_ | refine HL.one (H1.ldb rfl memA rfl rfl ?_) | refine HC.cond rfl (fun hc => ?_) (fun hc => ?_) | refine HC.cond_b rfl (fun hc => ?_) (fun hc => ?_))
      refine HX.end0 rfl fun w' hM => ⟨⟨d, zs, a, c⟩, ⟨by dsimp only; rw [hO]; exact hz, hdl, .inr (by dsimp only; omega)⟩, ?_⟩
      dsimp only; rw [hO]; exact hM
  · repeat' (first | apply HL.fold | apply HA.fold | apply HL.nil | apply HX.n_then | apply HC.seq | apply HC.region | refine HL.pa ?_ | refine HL.ga rfl ?_ | refine HL.na rfl ?_ | refine HL.nu rfl rfl ?_ | apply HC.block | apply HC.skip | apply HC.exit | apply HC.ret | apply HX.e_block | refine HX.e_other rfl ?_ | apply HX.e_then | apply HX.e_again | apply HX.n_block | apply HX.r_then | apply HX.r_block | apply HX.r_again | refine HC.cond_yes rfl ?_ | refine HC.cond_no rfl ?_ | refine HL.one (H1.ldb rfl memA rfl rfl ?_) | refine HC.cond rfl (fun hc => ?_) (fun hc => ?_) | refine HC.cond_b rfl (fun hc => ?_) (fun hc => ?_))
    refine HC.quietS [(some 5, [1], []), (some 6, [5], [0]), (some 7, [6], [1]), (some 8, [7], [2]), (some 9, [2], []), (some 10, [9], [4]), (some 11, [10], [5]), (some 12, [8, 11], [3, 6]), (some 13, [12], [7]), (some 14, [4, 13], [8]), (some 15, [2, 13], [8]), (some 16, [15, 13], [10, 8]), (some 17, [14, 16, 13], [9, 11, 8]), (some 18, [13, 17], [8, 12])] (by kernel_rfl) (by kernel_rfl) (by kernel_rfl) ?_
    repeat' (first | refine HQ.pa ?_ | refine HQ.ga rfl ?_ | refine HQ.na rfl ?_ | refine HQ.nu rfl ?_ | refine HQ.ldb rfl memA rfl rfl ?_)
    refine HQ.pa ?_ (POp.nilCheck rfl)
    repeat' (first | refine HQ.pa ?_ | refine HQ.ga rfl ?_ | refine HQ.na rfl ?_ | refine HQ.nu rfl ?_ | refine HQ.ldb rfl memA rfl rfl ?_)
    refine HQ.nil ?_
    repeat' (first | apply HL.fold | apply HA.fold | apply HL.nil | apply HX.n_then | apply HC.seq | apply HC.region | refine HL.pa ?_ | refine HL.ga rfl ?_ | refine HL.na rfl ?_ | refine HL.nu rfl rfl ?_ | apply HC.block | apply HC.skip | apply HC.exit | apply HC.ret | apply HX.e_block | refine HX.e_other rfl ?_ | apply HX.e_then | apply HX.e_again | apply HX.n_block | apply HX.r_then | apply HX.r_block | apply HX.r_again | refine HC.cond_yes rfl ?_ | refine HC.cond_no rfl ?_ | refine HL.one (H1.ldb rfl memA rfl rfl ?_) | refine HC.cond rfl (fun hc => ?_) (fun hc => ?_) | refine HC.cond_b rfl (fun hc => ?_) (fun hc => ?_))
    refine HX.end0 rfl fun w' hM => ⟨⟨d, zs, a, c⟩, ⟨by dsimp only; rw [hO]; exact hz, hdl, .inl (by dsimp only; rw [hO]; omega)⟩, ?_⟩
    dsimp only; rw [hO]; exact hM
noncomputable def goodB (holders lost tos : List Int) (width k deadline : Int) : Bool := rightB holders lost width k deadline && (decide (tos.length = lost.length) && (decide (custs tos) && !(tos.any fun c => (survS holders lost).contains c))) && !(decide (0 < lost.length) && decide (((survS holders lost).length : Int) < k))
/-- The days' transfers of a situation. -/
def planD (holders lost tos : List Int) (width k deadline : Int) : List Tr := planAt (survS holders lost) lost tos width.toNat k.toNat deadline.toNat
noncomputable def planB (holders lost tos : List Int) (width k deadline : Int) : Bool := goodB holders lost tos width k deadline && decide (lost.length ≤ (planD holders lost tos width k deadline).length)
noncomputable def planR (holders lost tos : List Int) (width k deadline : Int) : List Tr := if planB holders lost tos width k deadline = true then planD holders lost tos width k deadline else []
theorem plan_none {holders lost tos : List Int} {width k deadline : Int} (h : planB holders lost tos width k deadline = false) {w w' : World} (hx : Ext w w') :
    ∃ z : List (Option Addr × Nat) × Option Addr × Nat, z.1.length = (planR holders lost tos width k deadline).length ∧
      (.tuple #[.slice none 0 0, .int .i64 190] : Value) = .tuple #[.slice z.2.1 (planR holders lost tos width k deadline).length z.2.2, .int .i64 (if planB holders lost tos width k deadline = true then 0 else 190)] ∧
      Mm w (A.grow 37 5 z.2.1 z.2.2 (planR holders lost tos width k deadline).length (tcells (planR holders lost tos width k deadline) z.1) :: srcAts (planR holders lost tos width k deadline) z.1) w' := by
  have e : planR holders lost tos width k deadline = [] := by unfold planR; rw [if_neg (by rw [h]; simp)]
  rw [e]
  refine ⟨([], none, 0), rfl, ?_, (Mm.nil hx).grow0 _ _⟩
  rw [if_neg (by rw [h]; simp)]; rfl
set_option maxHeartbeats 1000000 in
theorem plan_fn (v u t : Value) (holders lost tos : List Int) (width k deadline : Int) (hh : holders.length ≤ 1000000) (hl : lost.length ≤ 1000000) (ht : tos.length ≤ 1000000) (w : World) (hR : Rd w v (ints holders)) (hS : Rd w u (ints lost)) (hT : Rd w t (ints tos)) :
    Fn Tryz.prog 19 #[v, u, t, .int .i64 width, .int .i64 k, .int .i64 deadline] w fun x w' => ∃ z : List (Option Addr × Nat) × Option Addr × Nat, z.1.length = (planR holders lost tos width k deadline).length ∧
      x = .tuple #[.slice z.2.1 (planR holders lost tos width k deadline).length z.2.2, .int .i64 (if planB holders lost tos width k deadline = true then 0 else 190)] ∧
      Mm w (A.grow 37 5 z.2.1 z.2.2 (planR holders lost tos width k deadline).length (tcells (planR holders lost tos width k deadline) z.1) :: srcAts (planR holders lost tos width k deadline) z.1) w' := by
  obtain ⟨a, c, rfl, hc⟩ := hR.isInts
  obtain ⟨a', c', rfl, hc'⟩ := hS.isInts
  obtain ⟨a2, c2, rfl, hc2⟩ := hT.isInts
  refine enterMH (l := [_, _, _, _, _, _]) rfl Tryz.ntmps19 rfl ?_
  repeat' (first | apply HL.fold | apply HA.fold | apply HL.nil | apply HX.n_then | apply HC.seq | apply HC.region | refine HL.pa ?_ | refine HL.ga rfl ?_ | refine HL.na rfl ?_ | refine HL.nu rfl rfl ?_ | apply HC.block | apply HC.skip | apply HC.exit | apply HC.ret | apply HX.e_block | refine HX.e_other rfl ?_ | apply HX.e_then | apply HX.e_again | apply HX.n_block | apply HX.r_then | apply HX.r_block | apply HX.r_again | refine HC.cond_yes rfl ?_ | refine HC.cond_no rfl ?_ | refine HL.one (H1.ldb rfl memA rfl rfl ?_) | refine HC.cond rfl (fun hc => ?_) (fun hc => ?_) | refine HC.cond_b rfl (fun hc => ?_) (fun hc => ?_))
  refine HL.one (H1.box rfl rfl rfl (fun b7 => ?_))
  repeat' (first | apply HL.fold | apply HA.fold | apply HL.nil | apply HX.n_then | apply HC.seq | apply HC.region | refine HL.pa ?_ | refine HL.ga rfl ?_ | refine HL.na rfl ?_ | refine HL.nu rfl rfl ?_ | apply HC.block | apply HC.skip | apply HC.exit | apply HC.ret | apply HX.e_block | refine HX.e_other rfl ?_ | apply HX.e_then | apply HX.e_again | apply HX.n_block | apply HX.r_then | apply HX.r_block | apply HX.r_again | refine HC.cond_yes rfl ?_ | refine HC.cond_no rfl ?_ | refine HL.one (H1.ldb rfl memA rfl rfl ?_) | refine HC.cond rfl (fun hc => ?_) (fun hc => ?_) | refine HC.cond_b rfl (fun hc => ?_) (fun hc => ?_))
  refine HL.one (H1.box rfl rfl rfl (fun b8 => ?_))
  repeat' (first | apply HL.fold | apply HA.fold | apply HL.nil | apply HX.n_then | apply HC.seq | apply HC.region | refine HL.pa ?_ | refine HL.ga rfl ?_ | refine HL.na rfl ?_ | refine HL.nu rfl rfl ?_ | apply HC.block | apply HC.skip | apply HC.exit | apply HC.ret | apply HX.e_block | refine HX.e_other rfl ?_ | apply HX.e_then | apply HX.e_again | apply HX.n_block | apply HX.r_then | apply HX.r_block | apply HX.r_again | refine HC.cond_yes rfl ?_ | refine HC.cond_no rfl ?_ | refine HL.one (H1.ldb rfl memA rfl rfl ?_) | refine HC.cond rfl (fun hc => ?_) (fun hc => ?_) | refine HC.cond_b rfl (fun hc => ?_) (fun hc => ?_))
  refine HL.one (H1.box rfl rfl rfl (fun b9 => ?_))
  repeat' (first | apply HL.fold | apply HA.fold | apply HL.nil | apply HX.n_then | apply HC.seq | apply HC.region | refine HL.pa ?_ | refine HL.ga rfl ?_ | refine HL.na rfl ?_ | refine HL.nu rfl rfl ?_ | apply HC.block | apply HC.skip | apply HC.exit | apply HC.ret | apply HX.e_block | refine HX.e_other rfl ?_ | apply HX.e_then | apply HX.e_again | apply HX.n_block | apply HX.r_then | apply HX.r_block | apply HX.r_again | refine HC.cond_yes rfl ?_ | refine HC.cond_no rfl ?_ | refine HL.one (H1.ldb rfl memA rfl rfl ?_) | refine HC.cond rfl (fun hc => ?_) (fun hc => ?_) | refine HC.cond_b rfl (fun hc => ?_) (fun hc => ?_))
  refine HL.one (H1.box rfl rfl rfl (fun b10 => ?_))
  repeat' (first | apply HL.fold | apply HA.fold | apply HL.nil | apply HX.n_then | apply HC.seq | apply HC.region | refine HL.pa ?_ | refine HL.ga rfl ?_ | refine HL.na rfl ?_ | refine HL.nu rfl rfl ?_ | apply HC.block | apply HC.skip | apply HC.exit | apply HC.ret | apply HX.e_block | refine HX.e_other rfl ?_ | apply HX.e_then | apply HX.e_again | apply HX.n_block | apply HX.r_then | apply HX.r_block | apply HX.r_again | refine HC.cond_yes rfl ?_ | refine HC.cond_no rfl ?_ | refine HL.one (H1.ldb rfl memA rfl rfl ?_) | refine HC.cond rfl (fun hc => ?_) (fun hc => ?_) | refine HC.cond_b rfl (fun hc => ?_) (fun hc => ?_))
  refine HL.one (H1.callz1 (vs := [.slice a holders.length c, .slice a' lost.length c', .int .i64 width, .int .i64 k, .int .i64 deadline]) rfl rfl (fun w' hM => of_fn _ _ holders lost width k deadline hh hl w' (hM.rd0 hR) (hM.rd0 hS)) ?_)
  rintro ⟨asz, csz⟩ -
  dsimp only
  by_cases hr : Right holders lost width k deadline
  rotate_left
  · have hb : planB holders lost tos width k deadline = false := by unfold planB goodB; rw [rightB_no hr]; rfl
    rw [rightB_no hr]
    repeat' (first | apply HL.fold | apply HA.fold | apply HL.nil | apply HX.n_then | apply HC.seq | apply HC.region | refine HL.pa ?_ | refine HL.ga rfl ?_ | refine HL.na rfl ?_ | refine HL.nu rfl rfl ?_ | apply HC.block | apply HC.skip | apply HC.exit | apply HC.ret | apply HX.e_block | refine HX.e_other rfl ?_ | apply HX.e_then | apply HX.e_again | apply HX.n_block | apply HX.r_then | apply HX.r_block | apply HX.r_again | refine HC.cond_yes rfl ?_ | refine HC.cond_no rfl ?_ | refine HL.one (H1.ldb rfl memA rfl rfl ?_) | refine HC.cond rfl (fun hc => ?_) (fun hc => ?_) | refine HC.cond_b rfl (fun hc => ?_) (fun hc => ?_))
    refine HL.one (H1.alloc (cs := [.slice none 0 0, .slice none 0 0, .int .i64 0, .int .i64 0, .int .i64 0]) rfl rfl (fun b14 => ?_))
    repeat' (first | apply HL.fold | apply HA.fold | apply HL.nil | apply HX.n_then | apply HC.seq | apply HC.region | refine HL.pa ?_ | refine HL.ga rfl ?_ | refine HL.na rfl ?_ | refine HL.nu rfl rfl ?_ | apply HC.block | apply HC.skip | apply HC.exit | apply HC.ret | apply HX.e_block | refine HX.e_other rfl ?_ | apply HX.e_then | apply HX.e_again | apply HX.n_block | apply HX.r_then | apply HX.r_block | apply HX.r_again | refine HC.cond_yes rfl ?_ | refine HC.cond_no rfl ?_ | refine HL.one (H1.ldb rfl memA rfl rfl ?_) | refine HC.cond rfl (fun hc => ?_) (fun hc => ?_) | refine HC.cond_b rfl (fun hc => ?_) (fun hc => ?_))
    refine HL.one (H1.stAgg (cs := [.slice none 0 0, .slice none 0 0, .int .i64 0, .int .i64 0, .int .i64 0]) (vs := [.slice asz (rsurv holders lost width k deadline).length csz, .slice a' lost.length c', .int .i64 width, .int .i64 k, .int .i64 deadline]) rfl rfl rfl (by intro v hv; simp only [List.mem_cons, List.not_mem_nil, or_false] at hv; rcases hv with rfl | rfl | rfl | rfl | rfl <;> rfl) rplA rfl ?_)
    repeat' (first | apply HL.fold | apply HA.fold | apply HL.nil | apply HX.n_then | apply HC.seq | apply HC.region | refine HL.pa ?_ | refine HL.ga rfl ?_ | refine HL.na rfl ?_ | refine HL.nu rfl rfl ?_ | apply HC.block | apply HC.skip | apply HC.exit | apply HC.ret | apply HX.e_block | refine HX.e_other rfl ?_ | apply HX.e_then | apply HX.e_again | apply HX.n_block | apply HX.r_then | apply HX.r_block | apply HX.r_again | refine HC.cond_yes rfl ?_ | refine HC.cond_no rfl ?_ | refine HL.one (H1.ldb rfl memA rfl rfl ?_) | refine HC.cond rfl (fun hc => ?_) (fun hc => ?_) | refine HC.cond_b rfl (fun hc => ?_) (fun hc => ?_))
    exact HX.retM0_2 rfl rfl rfl fun w' hM => plan_none hb hM.ext
  have e : rsurv holders lost width k deadline = survS holders lost := by unfold rsurv; rw [rightB_yes hr]; rfl
  have hsl := survS_len holders lost
  have hh9 := hr.n9
  have hl9 := asc_len hr.asc
  obtain ⟨wd, rfl⟩ : ∃ n : Nat, width = (n : Int) := ⟨width.toNat, by have := hr.w; omega⟩
  obtain ⟨kk, rfl⟩ : ∃ n : Nat, k = (n : Int) := ⟨k.toNat, by have := hr.k; omega⟩
  have hw9 := hr.w
  have hk9 := hr.k
  rw [rightB_yes hr, e]
  have hgd : goodB holders lost tos wd kk deadline = ((decide (tos.length = lost.length) && (decide (custs tos) && !(tos.any fun c => (survS holders lost).contains c))) && !(decide (0 < lost.length) && decide (((survS holders lost).length : Int) < (kk : Int)))) := by unfold goodB; rw [rightB_yes hr, Bool.true_and]
  have hpd : planD holders lost tos wd kk deadline = planAt (survS holders lost) lost tos wd kk deadline.toNat := rfl
  generalize survS holders lost = surv at *
  repeat' (first | apply HL.fold | apply HA.fold | apply HL.nil | apply HX.n_then | apply HC.seq | apply HC.region | refine HL.pa ?_ | refine HL.ga rfl ?_ | refine HL.na rfl ?_ | refine HL.nu rfl rfl ?_ | apply HC.block | apply HC.skip | apply HC.exit | apply HC.ret | apply HX.e_block | refine HX.e_other rfl ?_ | apply HX.e_then | apply HX.e_again | apply HX.n_block | apply HX.r_then | apply HX.r_block | apply HX.r_again | refine HC.cond_yes rfl ?_ | refine HC.cond_no rfl ?_ | refine HL.one (H1.ldb rfl memA rfl rfl ?_) | refine HC.cond rfl (fun hc => ?_) (fun hc => ?_) | refine HC.cond_b rfl (fun hc => ?_) (fun hc => ?_))
  refine HL.one (H1.alloc (cs := [.slice none 0 0, .slice none 0 0, .int .i64 0, .int .i64 0, .int .i64 0]) rfl rfl (fun b14 => ?_))
  repeat' (first | apply HL.fold | apply HA.fold | apply HL.nil | apply HX.n_then | apply HC.seq | apply HC.region | refine HL.pa ?_ | refine HL.ga rfl ?_ | refine HL.na rfl ?_ | refine HL.nu rfl rfl ?_ | apply HC.block | apply HC.skip | apply HC.exit | apply HC.ret | apply HX.e_block | refine HX.e_other rfl ?_ | apply HX.e_then | apply HX.e_again | apply HX.n_block | apply HX.r_then | apply HX.r_block | apply HX.r_again | refine HC.cond_yes rfl ?_ | refine HC.cond_no rfl ?_ | refine HL.one (H1.ldb rfl memA rfl rfl ?_) | refine HC.cond rfl (fun hc => ?_) (fun hc => ?_) | refine HC.cond_b rfl (fun hc => ?_) (fun hc => ?_))
  refine HL.one (H1.stAgg (cs := [.slice none 0 0, .slice none 0 0, .int .i64 0, .int .i64 0, .int .i64 0]) (vs := [.slice asz surv.length csz, .slice a' lost.length c', .int .i64 (wd : Int), .int .i64 (kk : Int), .int .i64 deadline]) rfl rfl rfl (by intro v hv; simp only [List.mem_cons, List.not_mem_nil, or_false] at hv; rcases hv with rfl | rfl | rfl | rfl | rfl <;> rfl) rplA rfl ?_)
  repeat' (first | apply HL.fold | apply HA.fold | apply HL.nil | apply HX.n_then | apply HC.seq | apply HC.region | refine HL.pa ?_ | refine HL.ga rfl ?_ | refine HL.na rfl ?_ | refine HL.nu rfl rfl ?_ | apply HC.block | apply HC.skip | apply HC.exit | apply HC.ret | apply HX.e_block | refine HX.e_other rfl ?_ | apply HX.e_then | apply HX.e_again | apply HX.n_block | apply HX.r_then | apply HX.r_block | apply HX.r_again | refine HC.cond_yes rfl ?_ | refine HC.cond_no rfl ?_ | refine HL.one (H1.ldb rfl memA rfl rfl ?_) | refine HC.cond rfl (fun hc => ?_) (fun hc => ?_) | refine HC.cond_b rfl (fun hc => ?_) (fun hc => ?_))
  refine HL.one (H1.ldAgg (vs := [.slice asz surv.length csz, .slice a' lost.length c', .int .i64 (wd : Int), .int .i64 (kk : Int), .int .i64 deadline]) rfl memA rfl (fun i v hv => by rw [Nat.zero_add]; exact hv) rfl ?_)
  repeat' (first | apply HL.fold | apply HA.fold | apply HL.nil | apply HX.n_then | apply HC.seq | apply HC.region | refine HL.pa ?_ | refine HL.ga rfl ?_ | refine HL.na rfl ?_ | refine HL.nu rfl rfl ?_ | apply HC.block | apply HC.skip | apply HC.exit | apply HC.ret | apply HX.e_block | refine HX.e_other rfl ?_ | apply HX.e_then | apply HX.e_again | apply HX.n_block | apply HX.r_then | apply HX.r_block | apply HX.r_again | refine HC.cond_yes rfl ?_ | refine HC.cond_no rfl ?_ | refine HL.one (H1.ldb rfl memA rfl rfl ?_) | refine HC.cond rfl (fun hc => ?_) (fun hc => ?_) | refine HC.cond_b rfl (fun hc => ?_) (fun hc => ?_))
  refine HL.one (H1.callx (vs := [.agg #[.slice asz surv.length csz, .slice a' lost.length c', .int .i64 (wd : Int), .int .i64 (kk : Int), .int .i64 deadline], .slice a2 tos.length c2]) rfl rfl (fun w' hM => places_fn _ _ _ surv lost tos wd kk deadline (by omega) hl ht w' (hM.gr memA) (hM.rd0 hS) (hM.rd0 hT)) ?_)
  cases hpl : (decide (tos.length = lost.length) && (decide (custs tos) && !(tos.any fun c => surv.contains c))) with
  | false =>
    have hb : planB holders lost tos wd kk deadline = false := by unfold planB; rw [hgd, hpl]; rfl
    repeat' (first | apply HL.fold | apply HA.fold | apply HL.nil | apply HX.n_then | apply HC.seq | apply HC.region | refine HL.pa ?_ | refine HL.ga rfl ?_ | refine HL.na rfl ?_ | refine HL.nu rfl rfl ?_ | apply HC.block | apply HC.skip | apply HC.exit | apply HC.ret | apply HX.e_block | refine HX.e_other rfl ?_ | apply HX.e_then | apply HX.e_again | apply HX.n_block | apply HX.r_then | apply HX.r_block | apply HX.r_again | refine HC.cond_yes rfl ?_ | refine HC.cond_no rfl ?_ | refine HL.one (H1.ldb rfl memA rfl rfl ?_) | refine HC.cond rfl (fun hc => ?_) (fun hc => ?_) | refine HC.cond_b rfl (fun hc => ?_) (fun hc => ?_))
    exact HX.retM0_2 rfl rfl rfl fun w' hM => plan_none hb hM.ext
  | true =>
    by_cases h0 : 0 < lost.length
    · by_cases h1 : (surv.length : Int) < (kk : Int)
      · have hb : planB holders lost tos wd kk deadline = false := by unfold planB; rw [hgd, hpl, decide_eq_true h0, decide_eq_true h1]; rfl
        repeat' (first | apply HL.fold | apply HA.fold | apply HL.nil | apply HX.n_then | apply HC.seq | apply HC.region | refine HL.pa ?_ | refine HL.ga rfl ?_ | refine HL.na rfl ?_ | refine HL.nu rfl rfl ?_ | apply HC.block | apply HC.skip | apply HC.exit | apply HC.ret | apply HX.e_block | refine HX.e_other rfl ?_ | apply HX.e_then | apply HX.e_again | apply HX.n_block | apply HX.r_then | apply HX.r_block | apply HX.r_again | refine HC.cond_yes rfl ?_ | refine HC.cond_no rfl ?_ | refine HL.one (H1.ldb rfl memA rfl rfl ?_) | refine HC.cond rfl (fun hc => ?_) (fun hc => ?_) | refine HC.cond_b rfl (fun hc => ?_) (fun hc => ?_))
        exact HX.retM0_2 rfl rfl rfl fun w' hM => plan_none hb hM.ext
      · have hg : goodB holders lost tos wd kk deadline = true := by rw [hgd, hpl, decide_eq_false h1]; simp
        --TAIL1
        repeat' (first | apply HL.fold | apply HA.fold | apply HL.nil | apply HX.n_then | apply HC.seq | apply HC.region | refine HL.pa ?_ | refine HL.ga rfl ?_ | refine HL.na rfl ?_ | refine HL.nu rfl rfl ?_ | apply HC.block | apply HC.skip | apply HC.exit | apply HC.ret | apply HX.e_block | refine HX.e_other rfl ?_ | apply HX.e_then | apply HX.e_again | apply HX.n_block | apply HX.r_then | apply HX.r_block | apply HX.r_again | refine HC.cond_yes rfl ?_ | refine HC.cond_no rfl ?_ | refine HL.one (H1.ldb rfl memA rfl rfl ?_) | refine HC.cond rfl (fun hc => ?_) (fun hc => ?_) | refine HC.cond_b rfl (fun hc => ?_) (fun hc => ?_))
        refine HL.one (H1.alloc (cs := [.slice none 0 0]) rfl rfl (fun b16 => ?_))
        repeat' (first | apply HL.fold | apply HA.fold | apply HL.nil | apply HX.n_then | apply HC.seq | apply HC.region | refine HL.pa ?_ | refine HL.ga rfl ?_ | refine HL.na rfl ?_ | refine HL.nu rfl rfl ?_ | apply HC.block | apply HC.skip | apply HC.exit | apply HC.ret | apply HX.e_block | refine HX.e_other rfl ?_ | apply HX.e_then | apply HX.e_again | apply HX.n_block | apply HX.r_then | apply HX.r_block | apply HX.r_again | refine HC.cond_yes rfl ?_ | refine HC.cond_no rfl ?_ | refine HL.one (H1.ldb rfl memA rfl rfl ?_) | refine HC.cond rfl (fun hc => ?_) (fun hc => ?_) | refine HC.cond_b rfl (fun hc => ?_) (fun hc => ?_))
        refine HL.one (H1.ldAgg (vs := [.slice asz surv.length csz, .slice a' lost.length c', .int .i64 (wd : Int), .int .i64 (kk : Int), .int .i64 deadline]) rfl memA rfl (fun i v hv => by rw [Nat.zero_add]; exact hv) rfl ?_)
        repeat' (first | apply HL.fold | apply HA.fold | apply HL.nil | apply HX.n_then | apply HC.seq | apply HC.region | refine HL.pa ?_ | refine HL.ga rfl ?_ | refine HL.na rfl ?_ | refine HL.nu rfl rfl ?_ | apply HC.block | apply HC.skip | apply HC.exit | apply HC.ret | apply HX.e_block | refine HX.e_other rfl ?_ | apply HX.e_then | apply HX.e_again | apply HX.n_block | apply HX.r_then | apply HX.r_block | apply HX.r_again | refine HC.cond_yes rfl ?_ | refine HC.cond_no rfl ?_ | refine HL.one (H1.ldb rfl memA rfl rfl ?_) | refine HC.cond rfl (fun hc => ?_) (fun hc => ?_) | refine HC.cond_b rfl (fun hc => ?_) (fun hc => ?_))
        refine HL.one (H1.callz (vs := [.agg #[.slice asz surv.length csz, .slice a' lost.length c', .int .i64 (wd : Int), .int .i64 (kk : Int), .int .i64 deadline], .pointer (some ⟨b16, 0, none⟩)]) rfl rfl (fun w' hM => days_fn [.slice asz surv.length csz, .slice a' lost.length c', .int .i64 (wd : Int), .int .i64 (kk : Int), .int .i64 deadline] ⟨b16, 0, none⟩ w') ?_)
        rintro ⟨bl, bs⟩ -
        dsimp only [List.cons_append, List.nil_append]
        repeat' (first | apply HL.fold | apply HA.fold | apply HL.nil | apply HX.n_then | apply HC.seq | apply HC.region | refine HL.pa ?_ | refine HL.ga rfl ?_ | refine HL.na rfl ?_ | refine HL.nu rfl rfl ?_ | apply HC.block | apply HC.skip | apply HC.exit | apply HC.ret | apply HX.e_block | refine HX.e_other rfl ?_ | apply HX.e_then | apply HX.e_again | apply HX.n_block | apply HX.r_then | apply HX.r_block | apply HX.r_again | refine HC.cond_yes rfl ?_ | refine HC.cond_no rfl ?_ | refine HL.one (H1.ldb rfl memA rfl rfl ?_) | refine HC.cond rfl (fun hc => ?_) (fun hc => ?_) | refine HC.cond_b rfl (fun hc => ?_) (fun hc => ?_))
        refine HC.grow0 37 5 ?_
        refine HC.sub [(7, .pointer (some ⟨b7, 0, none⟩)), (8, .pointer (some ⟨b8, 0, none⟩)), (9, .pointer (some ⟨b9, 0, none⟩)), (10, .pointer (some ⟨b10, 0, none⟩)), (16, .pointer (some ⟨b16, 0, none⟩)), (53, .func (.func 92) #[] #[.pointer (some ⟨bl, 0, none⟩), .pointer (some ⟨bs, 0, none⟩)])]
          (planF b7 b8 b9 b10 b14 bl bs b16 (.slice a' lost.length c') (.slice a2 tos.length c2) wd kk [.slice asz surv.length csz, .slice a' lost.length c', .int .i64 (wd : Int), .int .i64 (kk : Int), .int .i64 deadline] asz csz surv (A.blk b16 [.slice none 0 0] 32 :: A.grow 37 5 none 0 0 [] :: [])) ?_ esA (by delta planF; repeat (first | exact Hs.nil _ | (refine Hs.cons pickA ?_)))
        refine HC.rangeFunc (α := St) (lb := [.pointer (some ⟨bl, 0, none⟩), .pointer (some ⟨bs, 0, none⟩)])
          (fun z => planF b7 b8 b9 b10 b14 bl bs b16 (.slice a' lost.length c') (.slice a2 tos.length c2) wd kk [.slice asz surv.length csz, .slice a' lost.length c', .int .i64 (wd : Int), .int .i64 (kk : Int), .int .i64 deadline] asz csz surv
            (A.blk b16 [.slice z.a (planAt surv lost tos wd kk z.d).length z.c] 32 :: A.grow 37 5 z.a z.c (planAt surv lost tos wd kk z.d).length (tcells (planAt surv lost tos wd kk z.d) z.zs) :: srcAts (planAt surv lost tos wd kk z.d) z.zs))
          (fun z => z.zs.length = (planAt surv lost tos wd kk z.d).length ∧ (z.d : Int) ≤ deadline ∧ (lost.length ≤ (planAt surv lost tos wd kk z.d).length ∨ deadline ≤ z.d)) rfl ?_ ?_
        · intro D l L hL w1 hM1
          refine days1_fn ⟨a', c', rfl⟩ (by omega) (by omega) hr.d ?_ w1 hM1
          rintro d zs ao co ⟨ah, ch⟩ hz ha hlt hdd
          dsimp only
          have hO9 : (planAt surv lost tos wd kk d).length < 9 := by omega
          have hstep : planAt surv lost tos wd kk (d + 1) = planAt surv lost tos wd kk d ++ (List.range (dayN (hasL surv (planAt surv lost tos wd kk d) d).length wd kk lost.length (planAt surv lost tos wd kk d).length)).map (newT (hasL surv (planAt surv lost tos wd kk d) d) lost tos kk (planAt surv lost tos wd kk d).length d) := rfl
          have hm : (hasL surv (planAt surv lost tos wd kk d) d).length = surv.length + (planAt surv lost tos wd kk d).length := plan_has_len d
          generalize planAt surv lost tos wd kk d = O at *
          generalize hasL surv O d = h at *
          have hd1000 : (d : Int) ≤ 1000 := by have := hr.d; omega
          refine Yld.ofH hL memA rfl rfl ?_
          dsimp only [List.zip_cons_cons, List.zip_nil_right, putAll]
          repeat' (first | apply HL.fold | apply HA.fold | apply HL.nil | apply HX.n_then | apply HC.seq | apply HC.region | refine HL.pa ?_ | refine HL.ga rfl ?_ | refine HL.na rfl ?_ | refine HL.nu rfl rfl ?_ | apply HC.block | apply HC.skip | apply HC.exit | apply HC.ret | apply HX.e_block | refine HX.e_other rfl ?_ | apply HX.e_then | apply HX.e_again | apply HX.n_block | apply HX.r_then | apply HX.r_block | apply HX.r_again | refine HC.cond_yes rfl ?_ | refine HC.cond_no rfl ?_ | refine HL.one (H1.ldb rfl memA rfl rfl ?_) | refine HC.cond rfl (fun hc => ?_) (fun hc => ?_) | refine HC.cond_b rfl (fun hc => ?_) (fun hc => ?_))
          refine HX.ra hL rplA ?_
          delta planF
          repeat' (first | apply HL.fold | apply HA.fold | apply HL.nil | apply HX.n_then | apply HC.seq | apply HC.region | refine HL.pa ?_ | refine HL.ga rfl ?_ | refine HL.na rfl ?_ | refine HL.nu rfl rfl ?_ | apply HC.block | apply HC.skip | apply HC.exit | apply HC.ret | apply HX.e_block | refine HX.e_other rfl ?_ | apply HX.e_then | apply HX.e_again | apply HX.n_block | apply HX.r_then | apply HX.r_block | apply HX.r_again | refine HC.cond_yes rfl ?_ | refine HC.cond_no rfl ?_ | refine HL.one (H1.ldb rfl memA rfl rfl ?_) | refine HC.cond rfl (fun hc => ?_) (fun hc => ?_) | refine HC.cond_b rfl (fun hc => ?_) (fun hc => ?_))
          have hmul : (h.length : Int) * (wd : Int) = ((h.length * wd : Nat) : Int) := by push_cast; rfl
          have hmul9 : h.length * wd ≤ 18 * 9 := Nat.mul_le_mul (by omega) (by omega)
          have hmin : min ((h.length : Int) * (wd : Int) / (kk : Int)) ((lost.length : Int) - (O.length : Int)) = ((dayN h.length wd kk lost.length O.length : Nat) : Int) := by
            unfold dayN
            rw [hmul, ← Int.natCast_ediv]
            omega
          have hnn : dayN h.length wd kk lost.length O.length ≤ lost.length - O.length := Nat.min_le_right _ _
          generalize dayN h.length wd kk lost.length O.length = nn at *
          refine HC.quietS [(some 58, [18], []), (some 59, [58], [0]), (some 60, [9], []), (some 61, [59, 60], [1, 2]), (some 62, [10], []), (some 63, [61, 62], [3, 4]), (some 64, [7], []), (some 65, [64], [6]), (some 66, [19], []), (some 67, [65, 66], [7, 8]), (some 68, [63, 67], [5, 9]), (some 69, [], [])] (by kernel_rfl) (by kernel_rfl) (by kernel_rfl) ?_
          repeat' (first | refine HQ.pa ?_ | refine HQ.ga rfl ?_ | refine HQ.na rfl ?_ | refine HQ.nu rfl ?_ | refine HQ.ldb rfl memA rfl rfl ?_)
          refine HQ.nil ?_
          rw [hmin]
          repeat' (first | apply HL.fold | apply HA.fold | apply HL.nil | apply HX.n_then | apply HC.seq | apply HC.region | refine HL.pa ?_ | refine HL.ga rfl ?_ | refine HL.na rfl ?_ | refine HL.nu rfl rfl ?_ | apply HC.block | apply HC.skip | apply HC.exit | apply HC.ret | apply HX.e_block | refine HX.e_other rfl ?_ | apply HX.e_then | apply HX.e_again | apply HX.n_block | apply HX.r_then | apply HX.r_block | apply HX.r_again | refine HC.cond_yes rfl ?_ | refine HC.cond_no rfl ?_ | refine HL.one (H1.ldb rfl memA rfl rfl ?_) | refine HC.cond rfl (fun hc => ?_) (fun hc => ?_) | refine HC.cond_b rfl (fun hc => ?_) (fun hc => ?_))
          replace hstep : planAt surv lost tos wd kk (d + 1) = dayO O h lost tos kk d nn := hstep
          refine HC.loop (α := Nat × List (Option Addr × Nat) × Option Addr × Nat) (fun z => [(7, .pointer (some ⟨b7, 0, none⟩)), (8, .pointer (some ⟨b8, 0, none⟩)), (9, .pointer (some ⟨b9, 0, none⟩)), (10, .pointer (some ⟨b10, 0, none⟩)), (16, .pointer (some ⟨b16, 0, none⟩)), (17, .int .i64 (d : Int)), (18, .slice ah h.length ch), (19, .int .i64 (O.length : Int)), (68, .int .i64 (nn : Int)), (69, .int .i64 (z.1 : Int))])
            (fun z => A.grow 3 1 ah ch h.length (ints h) :: L .busy none :: A.dfr D :: planF b7 b8 b9 b10 b14 bl bs b16 (.slice a' lost.length c') (.slice a2 tos.length c2) wd kk [.slice asz surv.length csz, .slice a' lost.length c', .int .i64 (wd : Int), .int .i64 (kk : Int), .int .i64 deadline] asz csz surv (A.blk b16 [.slice z.2.2.1 (dayO O h lost tos kk d z.1).length z.2.2.2] 32 :: A.grow 37 5 z.2.2.1 z.2.2.2 (dayO O h lost tos kk d z.1).length (tcells (dayO O h lost tos kk d z.1) z.2.1) :: srcAts (dayO O h lost tos kk d z.1) z.2.1))
            (fun z => z.1 ≤ nn ∧ z.2.1.length = (dayO O h lost tos kk d z.1).length ∧ ((dayO O h lost tos kk d z.1).length = 0 ∨ ∃ b, z.2.2.1 = some ⟨b, 0, none⟩)) (fun z => nn - z.1) (0, zs, ao, co) ⟨Nat.zero_le _, by rw [dayO_zero]; exact hz, by rw [dayO_zero]; exact ha⟩ esA (by simp only [dayO_zero]; exact Hs.refl _) ?_
          rintro ⟨j, zj, aj, cj⟩ ⟨hj, hzj, haj⟩
          dsimp only at hj hzj haj ⊢
          have hXl := dayO_len O h lost tos kk d j
          have hXs := dayO_step O h lost tos kk d j
          by_cases hjn : j < nn
          · generalize dayO O h lost tos kk d j = X at *
            have hjk : (j : Int) * (kk : Int) = ((j * kk : Nat) : Int) := by push_cast; rfl
            have hjk9 : j * kk ≤ 9 * 9 := Nat.mul_le_mul (by omega) (by omega)
            have hmp : 0 < h.length := by omega
            have hlo : O.length + j < lost.length := by omega
            have htl : tos.length = lost.length := by
              rw [Bool.and_eq_true] at hpl
              exact of_decide_eq_true hpl.1
            have hto : O.length + j < tos.length := by omega
            obtain ⟨bS, offS, rfl, -⟩ := hS.iat (by intro e; rw [e] at hlo; simp at hlo)
            obtain ⟨bT, offT, rfl, -⟩ := hT.iat (by intro e; rw [e] at hto; simp at hto)
            delta planF
            refine HC.openg (e := 3) (xs := ints h) memA (by omega) ?_
            rintro bh rfl
            repeat' (first | apply HL.fold | apply HA.fold | apply HL.nil | apply HX.n_then | apply HC.seq | apply HC.region | refine HL.pa ?_ | refine HL.ga rfl ?_ | refine HL.na rfl ?_ | refine HL.nu rfl rfl ?_ | apply HC.block | apply HC.skip | apply HC.exit | apply HC.ret | apply HX.e_block | refine HX.e_other rfl ?_ | apply HX.e_then | apply HX.e_again | apply HX.n_block | apply HX.r_then | apply HX.r_block | apply HX.r_again | refine HC.cond_yes rfl ?_ | refine HC.cond_no rfl ?_ | refine HL.one (H1.ldb rfl memA rfl rfl ?_) | refine HC.cond rfl (fun hc => ?_) (fun hc => ?_) | refine HC.cond_b rfl (fun hc => ?_) (fun hc => ?_))
            refine HC.cut (α := Nat) (fun b21 => [(7, .pointer (some ⟨b7, 0, none⟩)), (8, .pointer (some ⟨b8, 0, none⟩)), (9, .pointer (some ⟨b9, 0, none⟩)), (10, .pointer (some ⟨b10, 0, none⟩)), (16, .pointer (some ⟨b16, 0, none⟩)), (17, .int .i64 (d : Int)), (18, .slice (some ⟨bh, 0, none⟩) h.length ch), (19, .int .i64 (O.length : Int)), (68, .int .i64 (nn : Int)), (69, .int .i64 (j : Int)), (20, .int .i64 (j : Int)), (21, .pointer (some ⟨b21, 0, none⟩))])
              (fun b21 => A.blk b21 [.int .i64 (at' lost (O.length + j)), .int .i64 (at' tos (O.length + j)), .slice none 0 0, .int .i64 (d : Int), .int .i64 ((d : Int) + 1)] 37 :: A.grow 3 1 (some ⟨bh, 0, none⟩) ch h.length (ints h) :: L .busy none :: A.dfr D :: planF b7 b8 b9 b10 b14 bl bs b16 (.slice (some ⟨bS, offS, none⟩) lost.length c') (.slice (some ⟨bT, offT, none⟩) tos.length c2) wd kk [.slice asz surv.length csz, .slice (some ⟨bS, offS, none⟩) lost.length c', .int .i64 (wd : Int), .int .i64 (kk : Int), .int .i64 deadline] asz csz surv (A.blk b16 [.slice aj X.length cj] 32 :: A.grow 37 5 aj cj X.length (tcells X zj) :: srcAts X zj)) (fun _ => True) ?_ ?_
            · have hgS := hS.cell (ints_get hlo)
              have hgT := hT.cell (ints_get hto)
              refine HC.anyCR ([(⟨b7, 0, none⟩, .slice (some ⟨bS, offS, none⟩) lost.length c'), (⟨b8, 0, none⟩, .slice (some ⟨bT, offT, none⟩) tos.length c2), (⟨bS, offS + (O.length + j), none⟩, zv (at' lost (O.length + j))), (⟨bT, offT + (O.length + j), none⟩, zv (at' tos (O.length + j)))]) rfl ?_
              refine HB.ld 0 rfl rfl memD ?_
              refine HB.pa 1 rfl ?_
              refine HB.pa 2 rfl ?_
              refine HB.pa (v := .int .i64 ((O.length + j : Nat) : Int)) 3 rfl ?_ (by rw [show ((O.length + j : Nat) : Int) = (O.length : Int) + (j : Int) from by push_cast; rfl]; exact POp.add rfl rfl (by omega) (by omega))
              refine HB.pa 4 rfl ?_
              refine HB.ld 5 rfl rfl memD ?_
              refine HB.ld 6 rfl rfl memD ?_
              refine HB.pa 7 rfl ?_
              refine HB.pa 8 rfl ?_
              refine HB.pa (v := .int .i64 ((O.length + j : Nat) : Int)) 9 rfl ?_ (by rw [show ((O.length + j : Nat) : Int) = (O.length : Int) + (j : Int) from by push_cast; rfl]; exact POp.add rfl rfl (by omega) (by omega))
              refine HB.pa 10 rfl ?_
              refine HB.ld 11 rfl rfl memD ?_
              refine HB.pa 12 rfl ?_
              refine HB.pa 13 rfl ?_
              refine HB.pa 14 rfl ?_
              refine HB.pa (v := .agg #[.int .i64 (at' lost (O.length + j)), .int .i64 (at' tos (O.length + j)), .slice none 0 0, .int .i64 (d : Int), .int .i64 ((d : Int) + 1)]) 15 rfl ?_ (POp.build (cs := [.int .i64 (at' lost (O.length + j)), .int .i64 (at' tos (O.length + j)), .slice none 0 0, .int .i64 (d : Int), .int .i64 ((d : Int) + 1)]) rfl rfl)
              refine HB.all (by repeat (first | exact Keep.nil | refine Keep.blk (by (repeat (first | exact List.Mem.head _ | apply List.Mem.tail)); done) rfl ?_ | refine Keep.grow (by (repeat (first | exact List.Mem.head _ | apply List.Mem.tail)); done) (by assumption) ?_ | refine Keep.base (by assumption) ?_)) [16] (by kernel_rfl) rfl ⟨⟨_, rfl, ?_⟩, trivial⟩
              refine HP.one ?_
              refine H1.alloc (cs := tcell trz (.slice none 0 0)) rfl rfl (fun b21 => ?_)
              apply HB.fold
              refine HB.all (by repeat (first | exact Keep.nil | refine Keep.blk (by (repeat (first | exact List.Mem.head _ | apply List.Mem.tail)); done) rfl ?_ | refine Keep.grow (by (repeat (first | exact List.Mem.head _ | apply List.Mem.tail)); done) (by assumption) ?_ | refine Keep.base (by assumption) ?_)) [17] (by kernel_rfl) rfl ⟨⟨_, rfl, ?_⟩, trivial⟩
              refine HP.one ?_
              refine H1.stAgg (cs := tcell trz (.slice none 0 0)) (vs := [.int .i64 (at' lost (O.length + j)), .int .i64 (at' tos (O.length + j)), .slice none 0 0, .int .i64 (d : Int), .int .i64 ((d : Int) + 1)]) rfl rfl rfl (by intro v hv; simp only [List.mem_cons, List.not_mem_nil, or_false] at hv; rcases hv with rfl | rfl | rfl | rfl | rfl <;> rfl) rplA rfl ?_
              apply HB.fold
              refine HB.done (by repeat (first | exact Keep.nil | refine Keep.blk (by (repeat (first | exact List.Mem.head _ | apply List.Mem.tail)); done) rfl ?_ | refine Keep.grow (by (repeat (first | exact List.Mem.head _ | apply List.Mem.tail)); done) (by assumption) ?_ | refine Keep.base (by assumption) ?_)) (by kernel_rfl) ?_
              delta planF
              exact HX.cut b21 trivial esA (by repeat (first | exact Hs.nil _ | (refine Hs.cons pickA ?_)); exact Hs.refl _)
            rintro b21 -
            delta planF
            repeat' (first | apply HL.fold | apply HA.fold | apply HL.nil | apply HX.n_then | apply HC.seq | apply HC.region | refine HL.pa ?_ | refine HL.ga rfl ?_ | refine HL.na rfl ?_ | refine HL.nu rfl rfl ?_ | apply HC.block | apply HC.skip | apply HC.exit | apply HC.ret | apply HX.e_block | refine HX.e_other rfl ?_ | apply HX.e_then | apply HX.e_again | apply HX.n_block | apply HX.r_then | apply HX.r_block | apply HX.r_again | refine HC.cond_yes rfl ?_ | refine HC.cond_no rfl ?_ | refine HL.one (H1.ldb rfl memA rfl rfl ?_) | refine HC.cond rfl (fun hc => ?_) (fun hc => ?_) | refine HC.cond_b rfl (fun hc => ?_) (fun hc => ?_))
            refine HC.grow0 3 1 ?_
            refine HC.loop (α := Nat × Option Addr × Nat) (fun z => [(7, .pointer (some ⟨b7, 0, none⟩)), (8, .pointer (some ⟨b8, 0, none⟩)), (9, .pointer (some ⟨b9, 0, none⟩)), (10, .pointer (some ⟨b10, 0, none⟩)), (16, .pointer (some ⟨b16, 0, none⟩)), (17, .int .i64 (d : Int)), (18, .slice (some ⟨bh, 0, none⟩) h.length ch), (19, .int .i64 (O.length : Int)), (68, .int .i64 (nn : Int)), (69, .int .i64 (j : Int)), (20, .int .i64 (j : Int)), (21, .pointer (some ⟨b21, 0, none⟩)), (88, .int .i64 (kk : Int)), (89, .int .i64 (z.1 : Int))])
              (fun z => A.blk b21 [.int .i64 (at' lost (O.length + j)), .int .i64 (at' tos (O.length + j)), .slice z.2.1 (fromI h kk j z.1).length z.2.2, .int .i64 (d : Int), .int .i64 ((d : Int) + 1)] 37 :: A.grow 3 1 z.2.1 z.2.2 (fromI h kk j z.1).length (ints (fromI h kk j z.1)) :: A.grow 3 1 (some ⟨bh, 0, none⟩) ch h.length (ints h) :: L .busy none :: A.dfr D :: planF b7 b8 b9 b10 b14 bl bs b16 (.slice (some ⟨bS, offS, none⟩) lost.length c') (.slice (some ⟨bT, offT, none⟩) tos.length c2) wd kk [.slice asz surv.length csz, .slice (some ⟨bS, offS, none⟩) lost.length c', .int .i64 (wd : Int), .int .i64 (kk : Int), .int .i64 deadline] asz csz surv (A.blk b16 [.slice aj X.length cj] 32 :: A.grow 37 5 aj cj X.length (tcells X zj) :: srcAts X zj))
              (fun z => z.1 ≤ kk ∧ (z.1 = 0 ∨ ∃ b, z.2.1 = some ⟨b, 0, none⟩)) (fun z => kk - z.1) (0, none, 0) ⟨Nat.zero_le _, .inl rfl⟩ esA (by delta planF; repeat (first | exact Hs.nil _ | (refine Hs.cons pickA ?_)); exact Hs.refl _) ?_
            rintro ⟨i, ai, ci⟩ ⟨hi, hai⟩
            dsimp only at hi hai ⊢
            have hFl := fromI_len h kk j i
            have hFs := fromI_step h kk j i
            by_cases hik : i < kk
            · obtain ⟨q, hq⟩ : ∃ q, q = (j * kk + i) % h.length := ⟨_, rfl⟩
              have hql : q < h.length := by rw [hq]; exact Nat.mod_lt _ hmp
              have hqi : ((q : Nat) : Int) = ((j : Int) * (kk : Int) + (i : Int)) % (h.length : Int) := by rw [hq]; push_cast; rfl
              rw [← hq] at hFs
              generalize fromI h kk j i = F at *
              delta planF
              repeat' (first | apply HL.fold | apply HA.fold | apply HL.nil | apply HX.n_then | apply HC.seq | apply HC.region | refine HL.pa ?_ | refine HL.ga rfl ?_ | refine HL.na rfl ?_ | refine HL.nu rfl rfl ?_ | apply HC.block | apply HC.skip | apply HC.exit | apply HC.ret | apply HX.e_block | refine HX.e_other rfl ?_ | apply HX.e_then | apply HX.e_again | apply HX.n_block | apply HX.r_then | apply HX.r_block | apply HX.r_again | refine HC.cond_yes rfl ?_ | refine HC.cond_no rfl ?_ | refine HL.one (H1.ldb rfl memA rfl rfl ?_) | refine HC.cond rfl (fun hc => ?_) (fun hc => ?_) | refine HC.cond_b rfl (fun hc => ?_) (fun hc => ?_))
              have hgq := ints_get hql
              refine HC.anyCR ([(⟨b10, 0, none⟩, .int .i64 (kk : Int)), (⟨bh, q, none⟩, zv (at' h q))]) rfl ?_
              refine HB.pa 0 rfl ?_
              refine HB.pa 2 rfl ?_
              refine HB.pa 3 rfl ?_
              refine HB.ld 4 rfl rfl memD ?_
              refine HB.pa 5 rfl ?_
              refine HB.pa 6 rfl ?_
              refine HB.pa 7 rfl ?_
              refine HB.pa 8 rfl ?_
              refine HB.pa 9 rfl ?_
              refine HB.pa (v := .int .i64 ((q : Nat) : Int)) 10 rfl ?_ (by rw [hqi]; exact POp.rem rfl rfl (by omega) (by omega))
              refine HB.pa 11 rfl ?_
              refine HB.ld 12 rfl rfl memD ?_
              refine HB.all (by repeat (first | exact Keep.nil | refine Keep.blk (by (repeat (first | exact List.Mem.head _ | apply List.Mem.tail)); done) rfl ?_ | refine Keep.grow (by (repeat (first | exact List.Mem.head _ | apply List.Mem.tail)); done) (by assumption) ?_ | refine Keep.base (by assumption) ?_)) [1, 13] (by kernel_rfl) rfl ⟨⟨_, rfl, ?_⟩, ⟨_, rfl, ?_⟩, trivial⟩
              · refine HP.one ?_
                refine H1.ldb rfl memA rfl rfl ?_
                apply HB.fold
                refine HB.all (by repeat (first | exact Keep.nil | refine Keep.blk (by (repeat (first | exact List.Mem.head _ | apply List.Mem.tail)); done) rfl ?_ | refine Keep.grow (by (repeat (first | exact List.Mem.head _ | apply List.Mem.tail)); done) (by assumption) ?_ | refine Keep.base (by assumption) ?_)) [13] (by kernel_rfl) rfl ⟨⟨_, rfl, ?_⟩, trivial⟩
                refine HP.one ?_
                refine H1.lit (cs := [.int .i64 (at' h q)]) rfl rfl rfl rfl rfl rfl (fun b4 => ?_)
                apply HB.fold
                refine HB.all (by repeat (first | exact Keep.nil | refine Keep.blk (by (repeat (first | exact List.Mem.head _ | apply List.Mem.tail)); done) rfl ?_ | refine Keep.grow (by (repeat (first | exact List.Mem.head _ | apply List.Mem.tail)); done) (by assumption) ?_ | refine Keep.base (by assumption) ?_)) [14] (by kernel_rfl) rfl ⟨⟨_, rfl, ?_⟩, trivial⟩
                refine HP.one ?_
                refine H1.app1 (u := .int .i64 (at' h q)) rfl rfl (fun _ _ => by first | ((repeat (first | with_reducible exact Rpl.here | with_reducible apply Rpl.there)); done) | (repeat (first | exact Rpl.here | apply Rpl.there))) memA rfl rfl (by omega) rfl rfl (fun a4 c4 => ?_)
                apply HB.fold
                refine HB.pa 15 rfl ?_
                refine HB.all (by repeat (first | exact Keep.nil | refine Keep.blk (by (repeat (first | exact List.Mem.head _ | apply List.Mem.tail)); done) rfl ?_ | refine Keep.grow (by (repeat (first | exact List.Mem.head _ | apply List.Mem.tail)); done) (by assumption) ?_ | refine Keep.base (by assumption) ?_)) [16] (by kernel_rfl) rfl ⟨⟨_, rfl, ?_⟩, trivial⟩
                refine HP.one ?_
                refine H1.st rfl rfl (by intro _ h; cases h) (by intro _ h; cases h) rplA (by show 2 < 5; decide) ?_
                apply HB.fold
                refine HB.done (by repeat (first | exact Keep.nil | refine Keep.blk (by (repeat (first | exact List.Mem.head _ | apply List.Mem.tail)); done) rfl ?_ | refine Keep.grow (by (repeat (first | exact List.Mem.head _ | apply List.Mem.tail)); done) (by assumption) ?_ | refine Keep.base (by assumption) ?_)) (by kernel_rfl) ?_
                repeat' (first | apply HL.fold | apply HA.fold | apply HL.nil | apply HX.n_then | apply HC.seq | apply HC.region | refine HL.pa ?_ | refine HL.ga rfl ?_ | refine HL.na rfl ?_ | refine HL.nu rfl rfl ?_ | apply HC.block | apply HC.skip | apply HC.exit | apply HC.ret | apply HX.e_block | refine HX.e_other rfl ?_ | apply HX.e_then | apply HX.e_again | apply HX.n_block | apply HX.r_then | apply HX.r_block | apply HX.r_again | refine HC.cond_yes rfl ?_ | refine HC.cond_no rfl ?_ | refine HL.one (H1.ldb rfl memA rfl rfl ?_) | refine HC.cond rfl (fun hc => ?_) (fun hc => ?_) | refine HC.cond_b rfl (fun hc => ?_) (fun hc => ?_))
                refine HX.again (i + 1, some ⟨a4, 0, none⟩, c4) ⟨by show i + 1 ≤ kk; omega, .inr ⟨a4, rfl⟩⟩ (by show kk - (i + 1) < kk - i; omega) esA ?_
                dsimp only
                rw [hFs, List.length_append, ints_app]
                repeat (first | exact Hs.nil _ | (refine Hs.cons pickA ?_))
                exact Hs.skip
              · refine HP.one ?_
                refine H1.lit (cs := [.int .i64 (at' h q)]) rfl rfl rfl rfl rfl rfl (fun b4 => ?_)
                apply HB.fold
                refine HB.all (by repeat (first | exact Keep.nil | refine Keep.blk (by (repeat (first | exact List.Mem.head _ | apply List.Mem.tail)); done) rfl ?_ | refine Keep.grow (by (repeat (first | exact List.Mem.head _ | apply List.Mem.tail)); done) (by assumption) ?_ | refine Keep.base (by assumption) ?_)) [1] (by kernel_rfl) rfl ⟨⟨_, rfl, ?_⟩, trivial⟩
                refine HP.one ?_
                refine H1.ldb rfl memA rfl rfl ?_
                apply HB.fold
                refine HB.all (by repeat (first | exact Keep.nil | refine Keep.blk (by (repeat (first | exact List.Mem.head _ | apply List.Mem.tail)); done) rfl ?_ | refine Keep.grow (by (repeat (first | exact List.Mem.head _ | apply List.Mem.tail)); done) (by assumption) ?_ | refine Keep.base (by assumption) ?_)) [14] (by kernel_rfl) rfl ⟨⟨_, rfl, ?_⟩, trivial⟩
                refine HP.one ?_
                refine H1.app1 (u := .int .i64 (at' h q)) rfl rfl (fun _ _ => by first | ((repeat (first | with_reducible exact Rpl.here | with_reducible apply Rpl.there)); done) | (repeat (first | exact Rpl.here | apply Rpl.there))) memA rfl rfl (by omega) rfl rfl (fun a4 c4 => ?_)
                apply HB.fold
                refine HB.pa 15 rfl ?_
                refine HB.all (by repeat (first | exact Keep.nil | refine Keep.blk (by (repeat (first | exact List.Mem.head _ | apply List.Mem.tail)); done) rfl ?_ | refine Keep.grow (by (repeat (first | exact List.Mem.head _ | apply List.Mem.tail)); done) (by assumption) ?_ | refine Keep.base (by assumption) ?_)) [16] (by kernel_rfl) rfl ⟨⟨_, rfl, ?_⟩, trivial⟩
                refine HP.one ?_
                refine H1.st rfl rfl (by intro _ h; cases h) (by intro _ h; cases h) rplA (by show 2 < 5; decide) ?_
                apply HB.fold
                refine HB.done (by repeat (first | exact Keep.nil | refine Keep.blk (by (repeat (first | exact List.Mem.head _ | apply List.Mem.tail)); done) rfl ?_ | refine Keep.grow (by (repeat (first | exact List.Mem.head _ | apply List.Mem.tail)); done) (by assumption) ?_ | refine Keep.base (by assumption) ?_)) (by kernel_rfl) ?_
                repeat' (first | apply HL.fold | apply HA.fold | apply HL.nil | apply HX.n_then | apply HC.seq | apply HC.region | refine HL.pa ?_ | refine HL.ga rfl ?_ | refine HL.na rfl ?_ | refine HL.nu rfl rfl ?_ | apply HC.block | apply HC.skip | apply HC.exit | apply HC.ret | apply HX.e_block | refine HX.e_other rfl ?_ | apply HX.e_then | apply HX.e_again | apply HX.n_block | apply HX.r_then | apply HX.r_block | apply HX.r_again | refine HC.cond_yes rfl ?_ | refine HC.cond_no rfl ?_ | refine HL.one (H1.ldb rfl memA rfl rfl ?_) | refine HC.cond rfl (fun hc => ?_) (fun hc => ?_) | refine HC.cond_b rfl (fun hc => ?_) (fun hc => ?_))
                refine HX.again (i + 1, some ⟨a4, 0, none⟩, c4) ⟨by show i + 1 ≤ kk; omega, .inr ⟨a4, rfl⟩⟩ (by show kk - (i + 1) < kk - i; omega) esA ?_
                dsimp only
                rw [hFs, List.length_append, ints_app]
                repeat (first | exact Hs.nil _ | (refine Hs.cons pickA ?_))
                exact Hs.skip
            · obtain rfl : i = kk := by omega
              obtain ⟨bf, rfl⟩ := hai.resolve_left (by omega)
              have hnT : newT h lost tos i O.length d j = ⟨at' lost (O.length + j), at' tos (O.length + j), srt (fromI h i j i), (d : Int), (d : Int) + 1⟩ := rfl
              rw [hnT] at hXs
              generalize fromI h i j i = F at *
              delta planF
              repeat' (first | apply HL.fold | apply HA.fold | apply HL.nil | apply HX.n_then | apply HC.seq | apply HC.region | refine HL.pa ?_ | refine HL.ga rfl ?_ | refine HL.na rfl ?_ | refine HL.nu rfl rfl ?_ | apply HC.block | apply HC.skip | apply HC.exit | apply HC.ret | apply HX.e_block | refine HX.e_other rfl ?_ | apply HX.e_then | apply HX.e_again | apply HX.n_block | apply HX.r_then | apply HX.r_block | apply HX.r_again | refine HC.cond_yes rfl ?_ | refine HC.cond_no rfl ?_ | refine HL.one (H1.ldb rfl memA rfl rfl ?_) | refine HC.cond rfl (fun hc => ?_) (fun hc => ?_) | refine HC.cond_b rfl (fun hc => ?_) (fun hc => ?_))
              refine HL.one (H1.callm (α := Unit) (V := fun _ => .tuple #[]) (I := fun _ => True) (H' := fun _ => A.blk b21 [.int .i64 (at' lost (O.length + j)), .int .i64 (at' tos (O.length + j)), .slice (some ⟨bf, 0, none⟩) F.length ci, .int .i64 (d : Int), .int .i64 ((d : Int) + 1)] 37 :: A.grow 3 1 (some ⟨bf, 0, none⟩) ci F.length (ints (srt F)) :: A.grow 3 1 (some ⟨bh, 0, none⟩) ch h.length (ints h) :: L .busy none :: A.dfr D :: A.blk b7 [.slice (some ⟨bS, offS, none⟩) lost.length c'] 23 :: A.blk b8 [.slice (some ⟨bT, offT, none⟩) tos.length c2] 23 :: A.blk b9 [.int .i64 (wd : Int)] 3 :: A.blk b10 [.int .i64 (i : Int)] 3 :: A.blk b14 [.slice asz surv.length csz, .slice (some ⟨bS, offS, none⟩) lost.length c', .int .i64 (wd : Int), .int .i64 (i : Int), .int .i64 deadline] 99 :: A.blk bl [.pointer (some ⟨b16, 0, none⟩)] 106 :: A.blk bs [.slice asz surv.length csz, .slice (some ⟨bS, offS, none⟩) lost.length c', .int .i64 (wd : Int), .int .i64 (i : Int), .int .i64 deadline] 99 :: A.grow 3 1 asz csz surv.length (ints surv) :: A.blk b16 [.slice aj X.length cj] 32 :: A.grow 37 5 aj cj X.length (tcells X zj) :: srcAts X zj)
                (vs := [.slice (some ⟨bf, 0, none⟩) F.length ci]) rfl rfl (fun w' hM => ?_) ?_)
              · exact (sort_own hM rplA (by omega)).mono fun x w'' ⟨h1, h2⟩ => ⟨(), trivial, h1, h2⟩
              rintro - -
              repeat' (first | apply HL.fold | apply HA.fold | apply HL.nil | apply HX.n_then | apply HC.seq | apply HC.region | refine HL.pa ?_ | refine HL.ga rfl ?_ | refine HL.na rfl ?_ | refine HL.nu rfl rfl ?_ | apply HC.block | apply HC.skip | apply HC.exit | apply HC.ret | apply HX.e_block | refine HX.e_other rfl ?_ | apply HX.e_then | apply HX.e_again | apply HX.n_block | apply HX.r_then | apply HX.r_block | apply HX.r_again | refine HC.cond_yes rfl ?_ | refine HC.cond_no rfl ?_ | refine HL.one (H1.ldb rfl memA rfl rfl ?_) | refine HC.cond rfl (fun hc => ?_) (fun hc => ?_) | refine HC.cond_b rfl (fun hc => ?_) (fun hc => ?_))
              refine HL.one (H1.ldAgg (vs := [.int .i64 (at' lost (O.length + j)), .int .i64 (at' tos (O.length + j)), .slice (some ⟨bf, 0, none⟩) F.length ci, .int .i64 (d : Int), .int .i64 ((d : Int) + 1)]) rfl memA rfl (fun i v hv => by rw [Nat.zero_add]; exact hv) rfl ?_)
              repeat' (first | apply HL.fold | apply HA.fold | apply HL.nil | apply HX.n_then | apply HC.seq | apply HC.region | refine HL.pa ?_ | refine HL.ga rfl ?_ | refine HL.na rfl ?_ | refine HL.nu rfl rfl ?_ | apply HC.block | apply HC.skip | apply HC.exit | apply HC.ret | apply HX.e_block | refine HX.e_other rfl ?_ | apply HX.e_then | apply HX.e_again | apply HX.n_block | apply HX.r_then | apply HX.r_block | apply HX.r_again | refine HC.cond_yes rfl ?_ | refine HC.cond_no rfl ?_ | refine HL.one (H1.ldb rfl memA rfl rfl ?_) | refine HC.cond rfl (fun hc => ?_) (fun hc => ?_) | refine HC.cond_b rfl (fun hc => ?_) (fun hc => ?_))
              refine HL.one (H1.lit (cs := [.int .i64 (at' lost (O.length + j)), .int .i64 (at' tos (O.length + j)), .slice (some ⟨bf, 0, none⟩) F.length ci, .int .i64 (d : Int), .int .i64 ((d : Int) + 1)]) rfl rfl rfl rfl rfl rfl (fun b5 => ?_))
              repeat' (first | apply HL.fold | apply HA.fold | apply HL.nil | apply HX.n_then | apply HC.seq | apply HC.region | refine HL.pa ?_ | refine HL.ga rfl ?_ | refine HL.na rfl ?_ | refine HL.nu rfl rfl ?_ | apply HC.block | apply HC.skip | apply HC.exit | apply HC.ret | apply HX.e_block | refine HX.e_other rfl ?_ | apply HX.e_then | apply HX.e_again | apply HX.n_block | apply HX.r_then | apply HX.r_block | apply HX.r_again | refine HC.cond_yes rfl ?_ | refine HC.cond_no rfl ?_ | refine HL.one (H1.ldb rfl memA rfl rfl ?_) | refine HC.cond rfl (fun hc => ?_) (fun hc => ?_) | refine HC.cond_b rfl (fun hc => ?_) (fun hc => ?_))
              refine HL.one (H1.app (e := 37) (sz := 5) (m := 1) (news := [.int .i64 (at' lost (O.length + j)), .int .i64 (at' tos (O.length + j)), .slice (some ⟨bf, 0, none⟩) F.length ci, .int .i64 (d : Int), .int .i64 ((d : Int) + 1)]) rfl (by decide) rfl rfl (fun _ _ => by first | ((repeat (first | with_reducible exact Rpl.here | with_reducible apply Rpl.there)); done) | (repeat (first | exact Rpl.here | apply Rpl.there))) rfl (fun w hM k u hk => by rw [add_lit, Nat.zero_add]; exact (hM.blk memA).cell hk) (by intro v hv; simp only [List.mem_cons, List.not_mem_nil, or_false] at hv; rcases hv with rfl | rfl | rfl | rfl | rfl <;> rfl) (by omega) (by decide) rfl (fun a6 c6 ha6 => ?_))
              repeat' (first | apply HL.fold | apply HA.fold | apply HL.nil | apply HX.n_then | apply HC.seq | apply HC.region | refine HL.pa ?_ | refine HL.ga rfl ?_ | refine HL.na rfl ?_ | refine HL.nu rfl rfl ?_ | apply HC.block | apply HC.skip | apply HC.exit | apply HC.ret | apply HX.e_block | refine HX.e_other rfl ?_ | apply HX.e_then | apply HX.e_again | apply HX.n_block | apply HX.r_then | apply HX.r_block | apply HX.r_again | refine HC.cond_yes rfl ?_ | refine HC.cond_no rfl ?_ | refine HL.one (H1.ldb rfl memA rfl rfl ?_) | refine HC.cond rfl (fun hc => ?_) (fun hc => ?_) | refine HC.cond_b rfl (fun hc => ?_) (fun hc => ?_))
              refine HL.one (H1.st rfl rfl (by intro _ h; cases h) (by intro _ h; cases h) rplA (by exact Nat.zero_lt_one) ?_)
              repeat' (first | apply HL.fold | apply HA.fold | apply HL.nil | apply HX.n_then | apply HC.seq | apply HC.region | refine HL.pa ?_ | refine HL.ga rfl ?_ | refine HL.na rfl ?_ | refine HL.nu rfl rfl ?_ | apply HC.block | apply HC.skip | apply HC.exit | apply HC.ret | apply HX.e_block | refine HX.e_other rfl ?_ | apply HX.e_then | apply HX.e_again | apply HX.n_block | apply HX.r_then | apply HX.r_block | apply HX.r_again | refine HC.cond_yes rfl ?_ | refine HC.cond_no rfl ?_ | refine HL.one (H1.ldb rfl memA rfl rfl ?_) | refine HC.cond rfl (fun hc => ?_) (fun hc => ?_) | refine HC.cond_b rfl (fun hc => ?_) (fun hc => ?_))
              have e1 : tcell ⟨at' lost (O.length + j), at' tos (O.length + j), srt F, (d : Int), (d : Int) + 1⟩ (hval ⟨at' lost (O.length + j), at' tos (O.length + j), srt F, (d : Int), (d : Int) + 1⟩ (some ⟨bf, 0, none⟩, ci)) = [.int .i64 (at' lost (O.length + j)), .int .i64 (at' tos (O.length + j)), .slice (some ⟨bf, 0, none⟩) F.length ci, .int .i64 (d : Int), .int .i64 ((d : Int) + 1)] := by simp [tcell, hval, srt_len]
              have e2 : srcA (⟨at' lost (O.length + j), at' tos (O.length + j), srt F, (d : Int), (d : Int) + 1⟩, (some ⟨bf, 0, none⟩, ci)) = A.grow 3 1 (some ⟨bf, 0, none⟩) ci F.length (ints (srt F)) := by simp [srcA, srt_len]
              refine HX.again (j + 1, zj ++ [(some ⟨bf, 0, none⟩, ci)], a6, c6) ⟨by show j + 1 ≤ nn; omega, ?_, .inr (ha6.resolve_left (by omega))⟩ (by show nn - (j + 1) < nn - j; omega) (by dsimp only; repeat (first | exact trivial | refine ⟨rfl, ?_⟩)) ?_
              · dsimp only
                rw [hXs, List.length_append, List.length_append, hzj]; rfl
              · dsimp only
                rw [hXs, List.length_append, tcells_snoc hzj, srcAts_snoc hzj, e1, e2]
                repeat (first | exact Hs.nil _ | (refine Hs.cons pickA ?_))
                exact Hs.end2
          · obtain rfl : j = nn := by omega
            delta planF
            repeat' (first | apply HL.fold | apply HA.fold | apply HL.nil | apply HX.n_then | apply HC.seq | apply HC.region | refine HL.pa ?_ | refine HL.ga rfl ?_ | refine HL.na rfl ?_ | refine HL.nu rfl rfl ?_ | apply HC.block | apply HC.skip | apply HC.exit | apply HC.ret | apply HX.e_block | refine HX.e_other rfl ?_ | apply HX.e_then | apply HX.e_again | apply HX.n_block | apply HX.r_then | apply HX.r_block | apply HX.r_again | refine HC.cond_yes rfl ?_ | refine HC.cond_no rfl ?_ | refine HL.one (H1.ldb rfl memA rfl rfl ?_) | refine HC.cond rfl (fun hc => ?_) (fun hc => ?_) | refine HC.cond_b rfl (fun hc => ?_) (fun hc => ?_))
            refine HX.rp_n hL rplA fun w' hM => ⟨rfl, ⟨d + 1, zj, aj, cj⟩, ⟨rfl, ?_, ?_⟩, ?_⟩
            · dsimp only; rw [hstep]; exact hzj
            · dsimp only; rw [hstep]; exact haj
            · dsimp only; rw [hstep]; exact hM.tail
        · rintro D ⟨d, zs, ao, co⟩ ⟨hz, hd1, hd2⟩
          dsimp only at hz hd1 hd2 ⊢
          have hpl2 : planAt surv lost tos wd kk deadline.toNat = planAt surv lost tos wd kk d := by
            rcases hd2 with hd2 | hd2
            · exact plan_full hd2 _ (by omega)
            · rw [show d = deadline.toNat by omega]
          rw [hpl2] at hpd
          have hple := plan_len_le (surv := surv) (lost := lost) (tos := tos) (width := wd) (k := kk) d
          generalize planAt surv lost tos wd kk d = O at *
          delta planF
          by_cases hlt : O.length < lost.length
          · have hb : planB holders lost tos wd kk deadline = false := by unfold planB; rw [hpd, decide_eq_false (by omega), Bool.and_false]
            repeat' (first | apply HL.fold | apply HA.fold | apply HL.nil | apply HX.n_then | apply HC.seq | apply HC.region | refine HL.pa ?_ | refine HL.ga rfl ?_ | refine HL.na rfl ?_ | refine HL.nu rfl rfl ?_ | apply HC.block | apply HC.skip | apply HC.exit | apply HC.ret | apply HX.e_block | refine HX.e_other rfl ?_ | apply HX.e_then | apply HX.e_again | apply HX.n_block | apply HX.r_then | apply HX.r_block | apply HX.r_again | refine HC.cond_yes rfl ?_ | refine HC.cond_no rfl ?_ | refine HL.one (H1.ldb rfl memA rfl rfl ?_) | refine HC.cond rfl (fun hc => ?_) (fun hc => ?_) | refine HC.cond_b rfl (fun hc => ?_) (fun hc => ?_))
            exact HX.retM2 rfl rfl rfl (by repeat (first | exact Pick.here | apply Pick.there)) fun w' hM => plan_none hb hM.ext
          · have hb : planB holders lost tos wd kk deadline = true := by unfold planB; rw [hpd, hg, decide_eq_true (by omega), Bool.and_true]
            have hR' : planR holders lost tos wd kk deadline = O := by unfold planR; rw [if_pos hb, hpd]
            repeat' (first | apply HL.fold | apply HA.fold | apply HL.nil | apply HX.n_then | apply HC.seq | apply HC.region | refine HL.pa ?_ | refine HL.ga rfl ?_ | refine HL.na rfl ?_ | refine HL.nu rfl rfl ?_ | apply HC.block | apply HC.skip | apply HC.exit | apply HC.ret | apply HX.e_block | refine HX.e_other rfl ?_ | apply HX.e_then | apply HX.e_again | apply HX.n_block | apply HX.r_then | apply HX.r_block | apply HX.r_again | refine HC.cond_yes rfl ?_ | refine HC.cond_no rfl ?_ | refine HL.one (H1.ldb rfl memA rfl rfl ?_) | refine HC.cond rfl (fun hc => ?_) (fun hc => ?_) | refine HC.cond_b rfl (fun hc => ?_) (fun hc => ?_))
            refine HX.retM2 rfl rfl rfl (by repeat (first | exact Pick.here | apply Pick.there)) fun w' hM => ⟨(zs, ao, co), ?_, ?_, ?_⟩
            · rw [hR']; exact hz
            · rw [hR', if_pos hb]
            · rw [hR']; exact hM.tail.tail.tail.tail.tail.tail.tail.tail.tail
    · have hg : goodB holders lost tos wd kk deadline = true := by rw [hgd, hpl, decide_eq_false h0]; simp
      repeat' (first | apply HL.fold | apply HA.fold | apply HL.nil | apply HX.n_then | apply HC.seq | apply HC.region | refine HL.pa ?_ | refine HL.ga rfl ?_ | refine HL.na rfl ?_ | refine HL.nu rfl rfl ?_ | apply HC.block | apply HC.skip | apply HC.exit | apply HC.ret | apply HX.e_block | refine HX.e_other rfl ?_ | apply HX.e_then | apply HX.e_again | apply HX.n_block | apply HX.r_then | apply HX.r_block | apply HX.r_again | refine HC.cond_yes rfl ?_ | refine HC.cond_no rfl ?_ | refine HL.one (H1.ldb rfl memA rfl rfl ?_) | refine HC.cond rfl (fun hc => ?_) (fun hc => ?_) | refine HC.cond_b rfl (fun hc => ?_) (fun hc => ?_))
      refine HL.one (H1.alloc (cs := [.slice none 0 0]) rfl rfl (fun b16 => ?_))
      repeat' (first | apply HL.fold | apply HA.fold | apply HL.nil | apply HX.n_then | apply HC.seq | apply HC.region | refine HL.pa ?_ | refine HL.ga rfl ?_ | refine HL.na rfl ?_ | refine HL.nu rfl rfl ?_ | apply HC.block | apply HC.skip | apply HC.exit | apply HC.ret | apply HX.e_block | refine HX.e_other rfl ?_ | apply HX.e_then | apply HX.e_again | apply HX.n_block | apply HX.r_then | apply HX.r_block | apply HX.r_again | refine HC.cond_yes rfl ?_ | refine HC.cond_no rfl ?_ | refine HL.one (H1.ldb rfl memA rfl rfl ?_) | refine HC.cond rfl (fun hc => ?_) (fun hc => ?_) | refine HC.cond_b rfl (fun hc => ?_) (fun hc => ?_))
      refine HL.one (H1.ldAgg (vs := [.slice asz surv.length csz, .slice a' lost.length c', .int .i64 (wd : Int), .int .i64 (kk : Int), .int .i64 deadline]) rfl memA rfl (fun i v hv => by rw [Nat.zero_add]; exact hv) rfl ?_)
      repeat' (first | apply HL.fold | apply HA.fold | apply HL.nil | apply HX.n_then | apply HC.seq | apply HC.region | refine HL.pa ?_ | refine HL.ga rfl ?_ | refine HL.na rfl ?_ | refine HL.nu rfl rfl ?_ | apply HC.block | apply HC.skip | apply HC.exit | apply HC.ret | apply HX.e_block | refine HX.e_other rfl ?_ | apply HX.e_then | apply HX.e_again | apply HX.n_block | apply HX.r_then | apply HX.r_block | apply HX.r_again | refine HC.cond_yes rfl ?_ | refine HC.cond_no rfl ?_ | refine HL.one (H1.ldb rfl memA rfl rfl ?_) | refine HC.cond rfl (fun hc => ?_) (fun hc => ?_) | refine HC.cond_b rfl (fun hc => ?_) (fun hc => ?_))
      refine HL.one (H1.callz (vs := [.agg #[.slice asz surv.length csz, .slice a' lost.length c', .int .i64 (wd : Int), .int .i64 (kk : Int), .int .i64 deadline], .pointer (some ⟨b16, 0, none⟩)]) rfl rfl (fun w' hM => days_fn [.slice asz surv.length csz, .slice a' lost.length c', .int .i64 (wd : Int), .int .i64 (kk : Int), .int .i64 deadline] ⟨b16, 0, none⟩ w') ?_)
      rintro ⟨bl, bs⟩ -
      dsimp only [List.cons_append, List.nil_append]
      repeat' (first | apply HL.fold | apply HA.fold | apply HL.nil | apply HX.n_then | apply HC.seq | apply HC.region | refine HL.pa ?_ | refine HL.ga rfl ?_ | refine HL.na rfl ?_ | refine HL.nu rfl rfl ?_ | apply HC.block | apply HC.skip | apply HC.exit | apply HC.ret | apply HX.e_block | refine HX.e_other rfl ?_ | apply HX.e_then | apply HX.e_again | apply HX.n_block | apply HX.r_then | apply HX.r_block | apply HX.r_again | refine HC.cond_yes rfl ?_ | refine HC.cond_no rfl ?_ | refine HL.one (H1.ldb rfl memA rfl rfl ?_) | refine HC.cond rfl (fun hc => ?_) (fun hc => ?_) | refine HC.cond_b rfl (fun hc => ?_) (fun hc => ?_))
      refine HC.grow0 37 5 ?_
      refine HC.sub [(7, .pointer (some ⟨b7, 0, none⟩)), (8, .pointer (some ⟨b8, 0, none⟩)), (9, .pointer (some ⟨b9, 0, none⟩)), (10, .pointer (some ⟨b10, 0, none⟩)), (16, .pointer (some ⟨b16, 0, none⟩)), (53, .func (.func 92) #[] #[.pointer (some ⟨bl, 0, none⟩), .pointer (some ⟨bs, 0, none⟩)])]
        (planF b7 b8 b9 b10 b14 bl bs b16 (.slice a' lost.length c') (.slice a2 tos.length c2) wd kk [.slice asz surv.length csz, .slice a' lost.length c', .int .i64 (wd : Int), .int .i64 (kk : Int), .int .i64 deadline] asz csz surv (A.blk b16 [.slice none 0 0] 32 :: A.grow 37 5 none 0 0 [] :: [])) ?_ esA (by delta planF; repeat (first | exact Hs.nil _ | (refine Hs.cons pickA ?_)))
      refine HC.rangeFunc (α := St) (lb := [.pointer (some ⟨bl, 0, none⟩), .pointer (some ⟨bs, 0, none⟩)])
        (fun z => planF b7 b8 b9 b10 b14 bl bs b16 (.slice a' lost.length c') (.slice a2 tos.length c2) wd kk [.slice asz surv.length csz, .slice a' lost.length c', .int .i64 (wd : Int), .int .i64 (kk : Int), .int .i64 deadline] asz csz surv
          (A.blk b16 [.slice z.a (planAt surv lost tos wd kk z.d).length z.c] 32 :: A.grow 37 5 z.a z.c (planAt surv lost tos wd kk z.d).length (tcells (planAt surv lost tos wd kk z.d) z.zs) :: srcAts (planAt surv lost tos wd kk z.d) z.zs))
        (fun z => z.zs.length = (planAt surv lost tos wd kk z.d).length ∧ (z.d : Int) ≤ deadline ∧ (lost.length ≤ (planAt surv lost tos wd kk z.d).length ∨ deadline ≤ z.d)) rfl ?_ ?_
      · intro D l L hL w1 hM1
        refine days1_fn ⟨a', c', rfl⟩ (by omega) (by omega) hr.d ?_ w1 hM1
        intro d zs a c h h1 h2 h3
        omega
      · rintro D ⟨d, zs, ao, co⟩ ⟨hz, hd1, hd2⟩
        dsimp only at hz hd1 hd2 ⊢
        have hpl2 : planAt surv lost tos wd kk deadline.toNat = planAt surv lost tos wd kk d := by
          rcases hd2 with hd2 | hd2
          · exact plan_full hd2 _ (by omega)
          · rw [show d = deadline.toNat by omega]
        rw [hpl2] at hpd
        have hple := plan_len_le (surv := surv) (lost := lost) (tos := tos) (width := wd) (k := kk) d
        generalize planAt surv lost tos wd kk d = O at *
        delta planF
        by_cases hlt : O.length < lost.length
        · have hb : planB holders lost tos wd kk deadline = false := by unfold planB; rw [hpd, decide_eq_false (by omega), Bool.and_false]
          repeat' (first | apply HL.fold | apply HA.fold | apply HL.nil | apply HX.n_then | apply HC.seq | apply HC.region | refine HL.pa ?_ | refine HL.ga rfl ?_ | refine HL.na rfl ?_ | refine HL.nu rfl rfl ?_ | apply HC.block | apply HC.skip | apply HC.exit | apply HC.ret | apply HX.e_block | refine HX.e_other rfl ?_ | apply HX.e_then | apply HX.e_again | apply HX.n_block | apply HX.r_then | apply HX.r_block | apply HX.r_again | refine HC.cond_yes rfl ?_ | refine HC.cond_no rfl ?_ | refine HL.one (H1.ldb rfl memA rfl rfl ?_) | refine HC.cond rfl (fun hc => ?_) (fun hc => ?_) | refine HC.cond_b rfl (fun hc => ?_) (fun hc => ?_))
          exact HX.retM2 rfl rfl rfl (by repeat (first | exact Pick.here | apply Pick.there)) fun w' hM => plan_none hb hM.ext
        · have hb : planB holders lost tos wd kk deadline = true := by unfold planB; rw [hpd, hg, decide_eq_true (by omega), Bool.and_true]
          have hR' : planR holders lost tos wd kk deadline = O := by unfold planR; rw [if_pos hb, hpd]
          repeat' (first | apply HL.fold | apply HA.fold | apply HL.nil | apply HX.n_then | apply HC.seq | apply HC.region | refine HL.pa ?_ | refine HL.ga rfl ?_ | refine HL.na rfl ?_ | refine HL.nu rfl rfl ?_ | apply HC.block | apply HC.skip | apply HC.exit | apply HC.ret | apply HX.e_block | refine HX.e_other rfl ?_ | apply HX.e_then | apply HX.e_again | apply HX.n_block | apply HX.r_then | apply HX.r_block | apply HX.r_again | refine HC.cond_yes rfl ?_ | refine HC.cond_no rfl ?_ | refine HL.one (H1.ldb rfl memA rfl rfl ?_) | refine HC.cond rfl (fun hc => ?_) (fun hc => ?_) | refine HC.cond_b rfl (fun hc => ?_) (fun hc => ?_))
          refine HX.retM2 rfl rfl rfl (by repeat (first | exact Pick.here | apply Pick.there)) fun w' hM => ⟨(zs, ao, co), ?_, ?_, ?_⟩
          · rw [hR']; exact hz
          · rw [hR', if_pos hb]
          · rw [hR']; exact hM.tail.tail.tail.tail.tail.tail.tail.tail.tail
end Go.Sx

