/- The fixed examples of the laws: sane. -/
import Derived.Test.YtcnjfccbfdoacaaRK
import Derived.Test.YtcnjfccbfdoacaaR7
namespace Go.Sx
open Go Go.Proofs
/-- Some atoms as one. -/
def A.all (K : List Atom) : Atom := ⟨fps K, fun w => ∀ x ∈ K, x.p w, fun w w' hs h hp x hx => x.loc w w' hs (fun b hb => h b (mem_fps hx hb)) (hp x hx)⟩
theorem Mm.pack {w0 w : World} {K H : List Atom} (h : Mm w0 (K ++ H) w) : Mm w0 (A.all K :: H) w := by
  refine ⟨h.ext, fun x hx => ?_, ?_, fun b hb => ?_⟩
  · rcases List.mem_cons.1 hx with rfl | hx
    · exact fun y hy => h.all y (List.mem_append_left _ hy)
    · exact h.all x (List.mem_append_right _ hx)
  · have := h.nd; rwa [fps_append] at this
  · refine h.rng b ?_
    rw [fps_append]; exact hb
theorem Mm.pack1 {w0 w : World} {K : List Atom} (h : Mm w0 K w) : Mm w0 [A.all K] w := Mm.pack (H := []) (by simpa using h)
/-- Transfers of the call's own, as one atom. -/
def A.ts (a : Option Addr) (c : Nat) (l : List Tr) (zs : List (Option Addr × Nat)) : Atom := A.all (A.grow 52 5 a c l.length (tcells l zs) :: srcAts l zs)
theorem tl_of {w : World} {a : Option Addr} {c : Nat} {l : List Tr} {zs : List (Option Addr × Nat)} (h : ∀ x ∈ A.grow 52 5 a c l.length (tcells l zs) :: srcAts l zs, x.p w) (hz : zs.length = l.length) : RdT w (.slice a l.length c) l := by
  have hown : w.ownsRow 0 52 5 (.slice a l.length c) l.length (tcells l zs) := h _ (List.Mem.head _)
  refine ⟨a, c, fun i => hval (tr l i) (zs.getD i (none, 0)), rfl, ?_, ?_, fun i hi => ?_⟩
  · rcases hown.2 with ⟨hv, h0⟩ | ⟨g, cap, cur, hv, -, -, hnc, -⟩
    · omega
    · cases hv; exact hnc
  · by_cases h0 : l = []
    · exact .inl h0
    · right
      have hne : l.length ≠ 0 := fun e => h0 (List.eq_nil_of_length_eq_zero e)
      rcases hown.2 with ⟨hv, h3⟩ | ⟨g, cap, cur, hv, hbg, hg, rest⟩
      · exact absurd h3 hne
      · cases hv
        refine ⟨g, 0, rfl, (Array.getElem?_eq_some_iff.1 hg).1, fun i j u hi hu => ?_⟩
        have := tcells_get hz hi hu
        rw [Nat.zero_add]
        exact ownsRow_cell hown this
  · have h1 : w.ownsRow 0 3 1 (hval (tr l i) (zs.getD i (none, 0))) (tr l i).src.length (ints (tr l i).src) := h _ (List.Mem.tail _ (srcAts_mem hz hi))
    exact Rd.of_owns h1
theorem Mm.ts {w0 w : World} {H : List Atom} {a : Option Addr} {c : Nat} {l : List Tr} {zs : List (Option Addr × Nat)} (hM : Mm w0 H w) (hm : A.ts a c l zs ∈ H) (hz : zs.length = l.length) : RdT w (.slice a l.length c) l :=
  tl_of (hM.all _ hm) hz
theorem blk_rd {w : World} {b : Nat} {l : List Int} {e : TypeId} (h : Blk w b (ints l) e) : Rd w (.slice (some ⟨b, 0, none⟩) l.length l.length) (ints l) := by
  refine ⟨_, _, by rw [ints_len], by rw [ints_len]; exact Nat.le_refl _, .inr ⟨b, 0, rfl, h.lt, fun i u hu => ?_⟩⟩
  rw [Nat.zero_add]; exact h.cell hu
theorem two_rd {w : World} {b : Nat} {t0 t1 : Tr} {h0 h1 : Value} {e : TypeId} (h : Blk w b (tcell t0 h0 ++ tcell t1 h1) e) (hr0 : Rd w h0 (ints t0.src)) (hr1 : Rd w h1 (ints t1.src)) : RdT w (.slice (some ⟨b, 0, none⟩) 2 2) [t0, t1] := by
  refine ⟨_, _, fun i => if i = 0 then h0 else h1, rfl, by simp, .inr ⟨b, 0, rfl, h.lt, fun i j u hi hu => ?_⟩, fun i hi => ?_⟩
  · have hj : j < 5 := by
      have := (List.getElem?_eq_some_iff.1 hu).1
      simpa [tcell] using this
    match i, hi with
    | 0, _ =>
      rw [show 0 + 0 * 5 + j = j by omega]
      refine h.cell ?_
      rw [List.getElem?_append_left (by simpa [tcell] using hj)]
      exact hu
    | 1, _ =>
      refine h.cell ?_
      rw [List.getElem?_append_right (by simp [tcell])]
      have e : 0 + 1 * 5 + j - (tcell t0 h0).length = j := by simp [tcell]
      rw [e]
      exact hu
  · match i, hi with
    | 0, _ => exact hr0
    | 1, _ => exact hr1
theorem rd_none {w : World} : Rd w (.slice none 0 0) (ints []) := ⟨none, 0, rfl, Nat.le_refl _, .inl rfl⟩
theorem rdt_none {w : World} : RdT w (.slice none 0 0) [] := ⟨none, 0, fun _ => undef, rfl, Nat.le_refl _, .inl rfl, fun i hi => by cases hi⟩
theorem plan_ok {v u t : Value} {holders lost to : List Int} {width k deadline : Int} {l : List Tr} (hb : planB holders lost to width k deadline = true) (he : planR holders lost to width k deadline = l) (hh : holders.length ≤ 1000000) (hl : lost.length ≤ 1000000) (ht : to.length ≤ 1000000) (w : World) (hR : Rd w v (ints holders)) (hS : Rd w u (ints lost)) (hT : Rd w t (ints to)) :
    Fn Try.prog 25 #[v, u, t, .int .i64 width, .int .i64 k, .int .i64 deadline] w fun x w' => ∃ z : List (Option Addr × Nat) × Option Addr × Nat, z.1.length = l.length ∧
      x = .tuple #[.slice z.2.1 l.length z.2.2, .int .i64 0] ∧ Mm w [A.ts z.2.1 z.2.2 l z.1] w' := by
  refine (plan_fn v u t holders lost to width k deadline hh hl ht w hR hS hT).mono ?_
  rintro x w' ⟨z, h1, h2, h3⟩
  rw [he] at h1 h2 h3
  rw [if_pos hb] at h2
  exact ⟨z, h1, h2, h3.pack1⟩
theorem plan_bad {v u t : Value} {holders lost to : List Int} {width k deadline : Int} (hb : planB holders lost to width k deadline = false) (hh : holders.length ≤ 1000000) (hl : lost.length ≤ 1000000) (ht : to.length ≤ 1000000) (w : World) (hR : Rd w v (ints holders)) (hS : Rd w u (ints lost)) (hT : Rd w t (ints to)) :
    Fn Try.prog 25 #[v, u, t, .int .i64 width, .int .i64 k, .int .i64 deadline] w fun x w' => ∃ z : Option Addr × Nat, True ∧ x = .tuple #[.slice z.1 0 z.2, .int .i64 190] ∧ Ext w w' := by
  refine (plan_fn v u t holders lost to width k deadline hh hl ht w hR hS hT).mono ?_
  rintro x w' ⟨z, h1, h2, h3⟩
  have he : planR holders lost to width k deadline = [] := by unfold planR; rw [if_neg (by rw [hb]; simp)]
  rw [he] at h2
  rw [if_neg (by rw [hb]; simp)] at h2
  exact ⟨z.2, trivial, h2, h3.ext⟩
attribute [local irreducible] WC WL WX POp Then Again Fn NX W1 WA WO QL RP RA Yld LoopAt HC HL HX HN H1 HA HO HQ HB HP A.blk A.grow A.rd A.obj A.mp AgainH CutH
attribute [local irreducible] A.all A.ts
set_option maxHeartbeats 2000000 in
theorem sane_fn (w : World) : Fn Try.prog 10 #[] w fun x w' => x = .bool true ∧ Ext w w' := by
  refine enterH (l := []) rfl Try.ntmps10 rfl ?_
  repeat' (first | apply HL.fold | apply HA.fold | apply HL.nil | apply HX.n_then | apply HC.seq | apply HC.region | refine HL.pa ?_ | refine HL.ga rfl ?_ | refine HL.na rfl ?_ | refine HL.nu rfl rfl ?_ | apply HC.block | apply HC.skip | apply HC.exit | apply HC.ret | apply HX.e_block | refine HX.e_other rfl ?_ | apply HX.e_then | apply HX.e_again | apply HX.n_block | apply HX.r_then | apply HX.r_block | apply HX.r_again | refine HC.cond_yes rfl ?_ | refine HC.cond_no rfl ?_ | refine HL.one (H1.ldb rfl memA rfl rfl ?_) | refine HC.cond rfl (fun hc => ?_) (fun hc => ?_) | refine HC.cond_b rfl (fun hc => ?_) (fun hc => ?_))
  refine HL.one (H1.lit (cs := ints sH) rfl rfl rfl rfl rfl rfl (fun bh => ?_))
  repeat' (first | apply HL.fold | apply HA.fold | apply HL.nil | apply HX.n_then | apply HC.seq | apply HC.region | refine HL.pa ?_ | refine HL.ga rfl ?_ | refine HL.na rfl ?_ | refine HL.nu rfl rfl ?_ | apply HC.block | apply HC.skip | apply HC.exit | apply HC.ret | apply HX.e_block | refine HX.e_other rfl ?_ | apply HX.e_then | apply HX.e_again | apply HX.n_block | apply HX.r_then | apply HX.r_block | apply HX.r_again | refine HC.cond_yes rfl ?_ | refine HC.cond_no rfl ?_ | refine HL.one (H1.ldb rfl memA rfl rfl ?_) | refine HC.cond rfl (fun hc => ?_) (fun hc => ?_) | refine HC.cond_b rfl (fun hc => ?_) (fun hc => ?_))
  refine HL.one (H1.lit (cs := ints sL) rfl rfl rfl rfl rfl rfl (fun bl => ?_))
  repeat' (first | apply HL.fold | apply HA.fold | apply HL.nil | apply HX.n_then | apply HC.seq | apply HC.region | refine HL.pa ?_ | refine HL.ga rfl ?_ | refine HL.na rfl ?_ | refine HL.nu rfl rfl ?_ | apply HC.block | apply HC.skip | apply HC.exit | apply HC.ret | apply HX.e_block | refine HX.e_other rfl ?_ | apply HX.e_then | apply HX.e_again | apply HX.n_block | apply HX.r_then | apply HX.r_block | apply HX.r_again | refine HC.cond_yes rfl ?_ | refine HC.cond_no rfl ?_ | refine HL.one (H1.ldb rfl memA rfl rfl ?_) | refine HC.cond rfl (fun hc => ?_) (fun hc => ?_) | refine HC.cond_b rfl (fun hc => ?_) (fun hc => ?_))
  refine HL.one (H1.lit (cs := ints sT) rfl rfl rfl rfl rfl rfl (fun bt => ?_))
  repeat' (first | apply HL.fold | apply HA.fold | apply HL.nil | apply HX.n_then | apply HC.seq | apply HC.region | refine HL.pa ?_ | refine HL.ga rfl ?_ | refine HL.na rfl ?_ | refine HL.nu rfl rfl ?_ | apply HC.block | apply HC.skip | apply HC.exit | apply HC.ret | apply HX.e_block | refine HX.e_other rfl ?_ | apply HX.e_then | apply HX.e_again | apply HX.n_block | apply HX.r_then | apply HX.r_block | apply HX.r_again | refine HC.cond_yes rfl ?_ | refine HC.cond_no rfl ?_ | refine HL.one (H1.ldb rfl memA rfl rfl ?_) | refine HC.cond rfl (fun hc => ?_) (fun hc => ?_) | refine HC.cond_b rfl (fun hc => ?_) (fun hc => ?_))
  refine HL.one (H1.callz1 (An := (fun z : List (Option Addr × Nat) × Option Addr × Nat => A.ts z.2.1 z.2.2 sOne z.1)) (vs := [.slice (some ⟨bh, 0, none⟩) 5 5, .slice (some ⟨bl, 0, none⟩) 2 2, .slice (some ⟨bt, 0, none⟩) 2 2, .int .i64 1, .int .i64 2, .int .i64 9]) rfl rfl (fun w' hM => plan_ok pB1 pR1 (by decide) (by decide) (by decide) w' (blk_rd (l := sH) (hM.blk memD)) (blk_rd (l := sL) (hM.blk memD)) (blk_rd (l := sT) (hM.blk memD))) ?_)
  rintro ⟨z1, a1, c1⟩ hz1
  dsimp only at hz1 ⊢
  repeat' (first | apply HL.fold | apply HA.fold | apply HL.nil | apply HX.n_then | apply HC.seq | apply HC.region | refine HL.pa ?_ | refine HL.ga rfl ?_ | refine HL.na rfl ?_ | refine HL.nu rfl rfl ?_ | apply HC.block | apply HC.skip | apply HC.exit | apply HC.ret | apply HX.e_block | refine HX.e_other rfl ?_ | apply HX.e_then | apply HX.e_again | apply HX.n_block | apply HX.r_then | apply HX.r_block | apply HX.r_again | refine HC.cond_yes rfl ?_ | refine HC.cond_no rfl ?_ | refine HL.one (H1.ldb rfl memA rfl rfl ?_) | refine HC.cond rfl (fun hc => ?_) (fun hc => ?_) | refine HC.cond_b rfl (fun hc => ?_) (fun hc => ?_))
  refine HL.one (H1.callz1 (An := (fun z : List (Option Addr × Nat) × Option Addr × Nat => A.ts z.2.1 z.2.2 sTwo z.1)) (vs := [.slice (some ⟨bh, 0, none⟩) 5 5, .slice (some ⟨bl, 0, none⟩) 2 2, .slice (some ⟨bt, 0, none⟩) 2 2, .int .i64 2, .int .i64 2, .int .i64 9]) rfl rfl (fun w' hM => plan_ok pB2 pR2 (by decide) (by decide) (by decide) w' (blk_rd (l := sH) (hM.blk memD)) (blk_rd (l := sL) (hM.blk memD)) (blk_rd (l := sT) (hM.blk memD))) ?_)
  rintro ⟨z2, a2, c2⟩ hz2
  dsimp only at hz2 ⊢
  repeat' (first | apply HL.fold | apply HA.fold | apply HL.nil | apply HX.n_then | apply HC.seq | apply HC.region | refine HL.pa ?_ | refine HL.ga rfl ?_ | refine HL.na rfl ?_ | refine HL.nu rfl rfl ?_ | apply HC.block | apply HC.skip | apply HC.exit | apply HC.ret | apply HX.e_block | refine HX.e_other rfl ?_ | apply HX.e_then | apply HX.e_again | apply HX.n_block | apply HX.r_then | apply HX.r_block | apply HX.r_again | refine HC.cond_yes rfl ?_ | refine HC.cond_no rfl ?_ | refine HL.one (H1.ldb rfl memA rfl rfl ?_) | refine HC.cond rfl (fun hc => ?_) (fun hc => ?_) | refine HC.cond_b rfl (fun hc => ?_) (fun hc => ?_))
  refine HL.one (H1.callp (vs := [.slice (some ⟨bh, 0, none⟩) 5 5, .slice (some ⟨bl, 0, none⟩) 2 2, .slice (some ⟨bt, 0, none⟩) 2 2, .int .i64 1, .int .i64 2, .int .i64 1]) rfl rfl (fun w' hM => plan_bad pB3 (by decide) (by decide) (by decide) w' (blk_rd (l := sH) (hM.blk memD)) (blk_rd (l := sL) (hM.blk memD)) (blk_rd (l := sT) (hM.blk memD))) ?_)
  rintro ⟨a3, c3⟩ -
  dsimp only
  repeat' (first | apply HL.fold | apply HA.fold | apply HL.nil | apply HX.n_then | apply HC.seq | apply HC.region | refine HL.pa ?_ | refine HL.ga rfl ?_ | refine HL.na rfl ?_ | refine HL.nu rfl rfl ?_ | apply HC.block | apply HC.skip | apply HC.exit | apply HC.ret | apply HX.e_block | refine HX.e_other rfl ?_ | apply HX.e_then | apply HX.e_again | apply HX.n_block | apply HX.r_then | apply HX.r_block | apply HX.r_again | refine HC.cond_yes rfl ?_ | refine HC.cond_no rfl ?_ | refine HL.one (H1.ldb rfl memA rfl rfl ?_) | refine HC.cond rfl (fun hc => ?_) (fun hc => ?_) | refine HC.cond_b rfl (fun hc => ?_) (fun hc => ?_))
  refine HL.one (H1.callp (vs := [.slice (some ⟨bh, 0, none⟩) 5 5, .slice (some ⟨bl, 0, none⟩) 2 2, .slice (some ⟨bt, 0, none⟩) 2 2, .int .i64 1, .int .i64 4, .int .i64 9]) rfl rfl (fun w' hM => plan_bad pB4 (by decide) (by decide) (by decide) w' (blk_rd (l := sH) (hM.blk memD)) (blk_rd (l := sL) (hM.blk memD)) (blk_rd (l := sT) (hM.blk memD))) ?_)
  rintro ⟨a4, c4⟩ -
  dsimp only
  repeat' (first | apply HL.fold | apply HA.fold | apply HL.nil | apply HX.n_then | apply HC.seq | apply HC.region | refine HL.pa ?_ | refine HL.ga rfl ?_ | refine HL.na rfl ?_ | refine HL.nu rfl rfl ?_ | apply HC.block | apply HC.skip | apply HC.exit | apply HC.ret | apply HX.e_block | refine HX.e_other rfl ?_ | apply HX.e_then | apply HX.e_again | apply HX.n_block | apply HX.r_then | apply HX.r_block | apply HX.r_again | refine HC.cond_yes rfl ?_ | refine HC.cond_no rfl ?_ | refine HL.one (H1.ldb rfl memA rfl rfl ?_) | refine HC.cond rfl (fun hc => ?_) (fun hc => ?_) | refine HC.cond_b rfl (fun hc => ?_) (fun hc => ?_))
  refine HL.one (H1.lit (cs := ints [1, 2]) rfl rfl rfl rfl rfl rfl (fun bx1 => ?_))
  repeat' (first | apply HL.fold | apply HA.fold | apply HL.nil | apply HX.n_then | apply HC.seq | apply HC.region | refine HL.pa ?_ | refine HL.ga rfl ?_ | refine HL.na rfl ?_ | refine HL.nu rfl rfl ?_ | apply HC.block | apply HC.skip | apply HC.exit | apply HC.ret | apply HX.e_block | refine HX.e_other rfl ?_ | apply HX.e_then | apply HX.e_again | apply HX.n_block | apply HX.r_then | apply HX.r_block | apply HX.r_again | refine HC.cond_yes rfl ?_ | refine HC.cond_no rfl ?_ | refine HL.one (H1.ldb rfl memA rfl rfl ?_) | refine HC.cond rfl (fun hc => ?_) (fun hc => ?_) | refine HC.cond_b rfl (fun hc => ?_) (fun hc => ?_))
  refine HL.build (cs := [.int .i64 0, .int .i64 5, .slice (some ⟨bx1, 0, none⟩) 2 2, .int .i64 0, .int .i64 1]) rfl rfl rfl ?_
  repeat' (first | apply HL.fold | apply HA.fold | apply HL.nil | apply HX.n_then | apply HC.seq | apply HC.region | refine HL.pa ?_ | refine HL.ga rfl ?_ | refine HL.na rfl ?_ | refine HL.nu rfl rfl ?_ | apply HC.block | apply HC.skip | apply HC.exit | apply HC.ret | apply HX.e_block | refine HX.e_other rfl ?_ | apply HX.e_then | apply HX.e_again | apply HX.n_block | apply HX.r_then | apply HX.r_block | apply HX.r_again | refine HC.cond_yes rfl ?_ | refine HC.cond_no rfl ?_ | refine HL.one (H1.ldb rfl memA rfl rfl ?_) | refine HC.cond rfl (fun hc => ?_) (fun hc => ?_) | refine HC.cond_b rfl (fun hc => ?_) (fun hc => ?_))
  refine HL.one (H1.lit (cs := ints [1, 2]) rfl rfl rfl rfl rfl rfl (fun by1 => ?_))
  repeat' (first | apply HL.fold | apply HA.fold | apply HL.nil | apply HX.n_then | apply HC.seq | apply HC.region | refine HL.pa ?_ | refine HL.ga rfl ?_ | refine HL.na rfl ?_ | refine HL.nu rfl rfl ?_ | apply HC.block | apply HC.skip | apply HC.exit | apply HC.ret | apply HX.e_block | refine HX.e_other rfl ?_ | apply HX.e_then | apply HX.e_again | apply HX.n_block | apply HX.r_then | apply HX.r_block | apply HX.r_again | refine HC.cond_yes rfl ?_ | refine HC.cond_no rfl ?_ | refine HL.one (H1.ldb rfl memA rfl rfl ?_) | refine HC.cond rfl (fun hc => ?_) (fun hc => ?_) | refine HC.cond_b rfl (fun hc => ?_) (fun hc => ?_))
  refine HL.build (cs := [.int .i64 3, .int .i64 6, .slice (some ⟨by1, 0, none⟩) 2 2, .int .i64 1, .int .i64 2]) rfl rfl rfl ?_
  repeat' (first | apply HL.fold | apply HA.fold | apply HL.nil | apply HX.n_then | apply HC.seq | apply HC.region | refine HL.pa ?_ | refine HL.ga rfl ?_ | refine HL.na rfl ?_ | refine HL.nu rfl rfl ?_ | apply HC.block | apply HC.skip | apply HC.exit | apply HC.ret | apply HX.e_block | refine HX.e_other rfl ?_ | apply HX.e_then | apply HX.e_again | apply HX.n_block | apply HX.r_then | apply HX.r_block | apply HX.r_again | refine HC.cond_yes rfl ?_ | refine HC.cond_no rfl ?_ | refine HL.one (H1.ldb rfl memA rfl rfl ?_) | refine HC.cond rfl (fun hc => ?_) (fun hc => ?_) | refine HC.cond_b rfl (fun hc => ?_) (fun hc => ?_))
  refine HL.one (H1.lit (cs := [.int .i64 0, .int .i64 5, .slice (some ⟨bx1, 0, none⟩) 2 2, .int .i64 0, .int .i64 1] ++ [.int .i64 3, .int .i64 6, .slice (some ⟨by1, 0, none⟩) 2 2, .int .i64 1, .int .i64 2]) rfl rfl rfl rfl rfl rfl (fun bz1 => ?_))
  repeat' (first | apply HL.fold | apply HA.fold | apply HL.nil | apply HX.n_then | apply HC.seq | apply HC.region | refine HL.pa ?_ | refine HL.ga rfl ?_ | refine HL.na rfl ?_ | refine HL.nu rfl rfl ?_ | apply HC.block | apply HC.skip | apply HC.exit | apply HC.ret | apply HX.e_block | refine HX.e_other rfl ?_ | apply HX.e_then | apply HX.e_again | apply HX.n_block | apply HX.r_then | apply HX.r_block | apply HX.r_again | refine HC.cond_yes rfl ?_ | refine HC.cond_no rfl ?_ | refine HL.one (H1.ldb rfl memA rfl rfl ?_) | refine HC.cond rfl (fun hc => ?_) (fun hc => ?_) | refine HC.cond_b rfl (fun hc => ?_) (fun hc => ?_))
  refine HL.one (H1.lit (cs := ints [1, 2]) rfl rfl rfl rfl rfl rfl (fun bx2 => ?_))
  repeat' (first | apply HL.fold | apply HA.fold | apply HL.nil | apply HX.n_then | apply HC.seq | apply HC.region | refine HL.pa ?_ | refine HL.ga rfl ?_ | refine HL.na rfl ?_ | refine HL.nu rfl rfl ?_ | apply HC.block | apply HC.skip | apply HC.exit | apply HC.ret | apply HX.e_block | refine HX.e_other rfl ?_ | apply HX.e_then | apply HX.e_again | apply HX.n_block | apply HX.r_then | apply HX.r_block | apply HX.r_again | refine HC.cond_yes rfl ?_ | refine HC.cond_no rfl ?_ | refine HL.one (H1.ldb rfl memA rfl rfl ?_) | refine HC.cond rfl (fun hc => ?_) (fun hc => ?_) | refine HC.cond_b rfl (fun hc => ?_) (fun hc => ?_))
  refine HL.build (cs := [.int .i64 0, .int .i64 5, .slice (some ⟨bx2, 0, none⟩) 2 2, .int .i64 0, .int .i64 1]) rfl rfl rfl ?_
  repeat' (first | apply HL.fold | apply HA.fold | apply HL.nil | apply HX.n_then | apply HC.seq | apply HC.region | refine HL.pa ?_ | refine HL.ga rfl ?_ | refine HL.na rfl ?_ | refine HL.nu rfl rfl ?_ | apply HC.block | apply HC.skip | apply HC.exit | apply HC.ret | apply HX.e_block | refine HX.e_other rfl ?_ | apply HX.e_then | apply HX.e_again | apply HX.n_block | apply HX.r_then | apply HX.r_block | apply HX.r_again | refine HC.cond_yes rfl ?_ | refine HC.cond_no rfl ?_ | refine HL.one (H1.ldb rfl memA rfl rfl ?_) | refine HC.cond rfl (fun hc => ?_) (fun hc => ?_) | refine HC.cond_b rfl (fun hc => ?_) (fun hc => ?_))
  refine HL.one (H1.lit (cs := ints [1, 4]) rfl rfl rfl rfl rfl rfl (fun by2 => ?_))
  repeat' (first | apply HL.fold | apply HA.fold | apply HL.nil | apply HX.n_then | apply HC.seq | apply HC.region | refine HL.pa ?_ | refine HL.ga rfl ?_ | refine HL.na rfl ?_ | refine HL.nu rfl rfl ?_ | apply HC.block | apply HC.skip | apply HC.exit | apply HC.ret | apply HX.e_block | refine HX.e_other rfl ?_ | apply HX.e_then | apply HX.e_again | apply HX.n_block | apply HX.r_then | apply HX.r_block | apply HX.r_again | refine HC.cond_yes rfl ?_ | refine HC.cond_no rfl ?_ | refine HL.one (H1.ldb rfl memA rfl rfl ?_) | refine HC.cond rfl (fun hc => ?_) (fun hc => ?_) | refine HC.cond_b rfl (fun hc => ?_) (fun hc => ?_))
  refine HL.build (cs := [.int .i64 3, .int .i64 6, .slice (some ⟨by2, 0, none⟩) 2 2, .int .i64 0, .int .i64 1]) rfl rfl rfl ?_
  repeat' (first | apply HL.fold | apply HA.fold | apply HL.nil | apply HX.n_then | apply HC.seq | apply HC.region | refine HL.pa ?_ | refine HL.ga rfl ?_ | refine HL.na rfl ?_ | refine HL.nu rfl rfl ?_ | apply HC.block | apply HC.skip | apply HC.exit | apply HC.ret | apply HX.e_block | refine HX.e_other rfl ?_ | apply HX.e_then | apply HX.e_again | apply HX.n_block | apply HX.r_then | apply HX.r_block | apply HX.r_again | refine HC.cond_yes rfl ?_ | refine HC.cond_no rfl ?_ | refine HL.one (H1.ldb rfl memA rfl rfl ?_) | refine HC.cond rfl (fun hc => ?_) (fun hc => ?_) | refine HC.cond_b rfl (fun hc => ?_) (fun hc => ?_))
  refine HL.one (H1.lit (cs := [.int .i64 0, .int .i64 5, .slice (some ⟨bx2, 0, none⟩) 2 2, .int .i64 0, .int .i64 1] ++ [.int .i64 3, .int .i64 6, .slice (some ⟨by2, 0, none⟩) 2 2, .int .i64 0, .int .i64 1]) rfl rfl rfl rfl rfl rfl (fun bz2 => ?_))
  repeat' (first | apply HL.fold | apply HA.fold | apply HL.nil | apply HX.n_then | apply HC.seq | apply HC.region | refine HL.pa ?_ | refine HL.ga rfl ?_ | refine HL.na rfl ?_ | refine HL.nu rfl rfl ?_ | apply HC.block | apply HC.skip | apply HC.exit | apply HC.ret | apply HX.e_block | refine HX.e_other rfl ?_ | apply HX.e_then | apply HX.e_again | apply HX.n_block | apply HX.r_then | apply HX.r_block | apply HX.r_again | refine HC.cond_yes rfl ?_ | refine HC.cond_no rfl ?_ | refine HL.one (H1.ldb rfl memA rfl rfl ?_) | refine HC.cond rfl (fun hc => ?_) (fun hc => ?_) | refine HC.cond_b rfl (fun hc => ?_) (fun hc => ?_))
  refine HL.one (H1.callz1 (An := fun z : Option Addr × Nat => A.grow 3 1 z.1 z.2 5 (ints [5, 1, 2, -1, 4])) (vs := [.slice (some ⟨bh, 0, none⟩) 5 5, .slice (some ⟨bl, 0, none⟩) 2 2, .slice a1 2 c1, .int .i64 1]) rfl rfl (fun w' hM => by
    have := after_fn (.slice (some ⟨bh, 0, none⟩) 5 5) (.slice (some ⟨bl, 0, none⟩) 2 2) (.slice a1 2 c1) sH sL sOne 1 (by decide) (by decide) (by decide) w' (blk_rd (l := sH) (hM.blk memD)) (blk_rd (l := sL) (hM.blk memD)) (hM.ts (l := sOne) (zs := z1) memD hz1)
    rw [sAfter1] at this
    exact this) ?_)
  rintro ⟨aAp, cAp⟩ -
  dsimp only
  repeat' (first | apply HL.fold | apply HA.fold | apply HL.nil | apply HX.n_then | apply HC.seq | apply HC.region | refine HL.pa ?_ | refine HL.ga rfl ?_ | refine HL.na rfl ?_ | refine HL.nu rfl rfl ?_ | apply HC.block | apply HC.skip | apply HC.exit | apply HC.ret | apply HX.e_block | refine HX.e_other rfl ?_ | apply HX.e_then | apply HX.e_again | apply HX.n_block | apply HX.r_then | apply HX.r_block | apply HX.r_again | refine HC.cond_yes rfl ?_ | refine HC.cond_no rfl ?_ | refine HL.one (H1.ldb rfl memA rfl rfl ?_) | refine HC.cond rfl (fun hc => ?_) (fun hc => ?_) | refine HC.cond_b rfl (fun hc => ?_) (fun hc => ?_))
  refine HL.one (H1.lit (cs := ints [5, 1, 2, -1, 4]) rfl rfl rfl rfl rfl rfl (fun bAp => ?_))
  repeat' (first | apply HL.fold | apply HA.fold | apply HL.nil | apply HX.n_then | apply HC.seq | apply HC.region | refine HL.pa ?_ | refine HL.ga rfl ?_ | refine HL.na rfl ?_ | refine HL.nu rfl rfl ?_ | apply HC.block | apply HC.skip | apply HC.exit | apply HC.ret | apply HX.e_block | refine HX.e_other rfl ?_ | apply HX.e_then | apply HX.e_again | apply HX.n_block | apply HX.r_then | apply HX.r_block | apply HX.r_again | refine HC.cond_yes rfl ?_ | refine HC.cond_no rfl ?_ | refine HL.one (H1.ldb rfl memA rfl rfl ?_) | refine HC.cond rfl (fun hc => ?_) (fun hc => ?_) | refine HC.cond_b rfl (fun hc => ?_) (fun hc => ?_))
  refine HL.one (H1.callx (vs := [.slice aAp 5 cAp, .slice (some ⟨bAp, 0, none⟩) 5 5]) rfl rfl (fun w' hM => same_fn _ _ [5, 1, 2, -1, 4] [5, 1, 2, -1, 4] (by decide) (by decide) w' (hM.gr (e := 3) (n := 5) memD) (blk_rd (hM.blk memD))) ?_)
  rw [decide_eq_true rfl]
  repeat' (first | apply HL.fold | apply HA.fold | apply HL.nil | apply HX.n_then | apply HC.seq | apply HC.region | refine HL.pa ?_ | refine HL.ga rfl ?_ | refine HL.na rfl ?_ | refine HL.nu rfl rfl ?_ | apply HC.block | apply HC.skip | apply HC.exit | apply HC.ret | apply HX.e_block | refine HX.e_other rfl ?_ | apply HX.e_then | apply HX.e_again | apply HX.n_block | apply HX.r_then | apply HX.r_block | apply HX.r_again | refine HC.cond_yes rfl ?_ | refine HC.cond_no rfl ?_ | refine HL.one (H1.ldb rfl memA rfl rfl ?_) | refine HC.cond rfl (fun hc => ?_) (fun hc => ?_) | refine HC.cond_b rfl (fun hc => ?_) (fun hc => ?_))
  refine HL.one (H1.callz1 (An := fun z : Option Addr × Nat => A.grow 3 1 z.1 z.2 5 (ints [5, 1, 2, 6, 4])) (vs := [.slice (some ⟨bh, 0, none⟩) 5 5, .slice (some ⟨bl, 0, none⟩) 2 2, .slice a1 2 c1, .int .i64 2]) rfl rfl (fun w' hM => by
    have := after_fn (.slice (some ⟨bh, 0, none⟩) 5 5) (.slice (some ⟨bl, 0, none⟩) 2 2) (.slice a1 2 c1) sH sL sOne 2 (by decide) (by decide) (by decide) w' (blk_rd (l := sH) (hM.blk memD)) (blk_rd (l := sL) (hM.blk memD)) (hM.ts (l := sOne) (zs := z1) memD hz1)
    rw [sAfter2] at this
    exact this) ?_)
  rintro ⟨aAq, cAq⟩ -
  dsimp only
  repeat' (first | apply HL.fold | apply HA.fold | apply HL.nil | apply HX.n_then | apply HC.seq | apply HC.region | refine HL.pa ?_ | refine HL.ga rfl ?_ | refine HL.na rfl ?_ | refine HL.nu rfl rfl ?_ | apply HC.block | apply HC.skip | apply HC.exit | apply HC.ret | apply HX.e_block | refine HX.e_other rfl ?_ | apply HX.e_then | apply HX.e_again | apply HX.n_block | apply HX.r_then | apply HX.r_block | apply HX.r_again | refine HC.cond_yes rfl ?_ | refine HC.cond_no rfl ?_ | refine HL.one (H1.ldb rfl memA rfl rfl ?_) | refine HC.cond rfl (fun hc => ?_) (fun hc => ?_) | refine HC.cond_b rfl (fun hc => ?_) (fun hc => ?_))
  refine HL.one (H1.lit (cs := ints [5, 1, 2, 6, 4]) rfl rfl rfl rfl rfl rfl (fun bAq => ?_))
  repeat' (first | apply HL.fold | apply HA.fold | apply HL.nil | apply HX.n_then | apply HC.seq | apply HC.region | refine HL.pa ?_ | refine HL.ga rfl ?_ | refine HL.na rfl ?_ | refine HL.nu rfl rfl ?_ | apply HC.block | apply HC.skip | apply HC.exit | apply HC.ret | apply HX.e_block | refine HX.e_other rfl ?_ | apply HX.e_then | apply HX.e_again | apply HX.n_block | apply HX.r_then | apply HX.r_block | apply HX.r_again | refine HC.cond_yes rfl ?_ | refine HC.cond_no rfl ?_ | refine HL.one (H1.ldb rfl memA rfl rfl ?_) | refine HC.cond rfl (fun hc => ?_) (fun hc => ?_) | refine HC.cond_b rfl (fun hc => ?_) (fun hc => ?_))
  refine HL.one (H1.callx (vs := [.slice aAq 5 cAq, .slice (some ⟨bAq, 0, none⟩) 5 5]) rfl rfl (fun w' hM => same_fn _ _ [5, 1, 2, 6, 4] [5, 1, 2, 6, 4] (by decide) (by decide) w' (hM.gr (e := 3) (n := 5) memD) (blk_rd (hM.blk memD))) ?_)
  rw [decide_eq_true rfl]
  repeat' (first | apply HL.fold | apply HA.fold | apply HL.nil | apply HX.n_then | apply HC.seq | apply HC.region | refine HL.pa ?_ | refine HL.ga rfl ?_ | refine HL.na rfl ?_ | refine HL.nu rfl rfl ?_ | apply HC.block | apply HC.skip | apply HC.exit | apply HC.ret | apply HX.e_block | refine HX.e_other rfl ?_ | apply HX.e_then | apply HX.e_again | apply HX.n_block | apply HX.r_then | apply HX.r_block | apply HX.r_again | refine HC.cond_yes rfl ?_ | refine HC.cond_no rfl ?_ | refine HL.one (H1.ldb rfl memA rfl rfl ?_) | refine HC.cond rfl (fun hc => ?_) (fun hc => ?_) | refine HC.cond_b rfl (fun hc => ?_) (fun hc => ?_))
  refine HL.one (H1.callx (vs := [.slice a1 sOne.length c1, .slice (some ⟨bz1, 0, none⟩) 2 2]) rfl rfl (fun w' hM => sameList_fn _ _ sOne sOne (by decide) (by decide) (by decide) (by decide) w' (hM.ts (l := sOne) (zs := z1) memD hz1) (two_rd (t0 := ⟨0, 5, [1, 2], 0, 1⟩) (t1 := ⟨3, 6, [1, 2], 1, 2⟩) (hM.blk memD) (blk_rd (l := [1, 2]) (hM.blk memD)) (blk_rd (l := [1, 2]) (hM.blk memD)))) ?_)
  rw [decide_eq_true rfl]
  repeat' (first | apply HL.fold | apply HA.fold | apply HL.nil | apply HX.n_then | apply HC.seq | apply HC.region | refine HL.pa ?_ | refine HL.ga rfl ?_ | refine HL.na rfl ?_ | refine HL.nu rfl rfl ?_ | apply HC.block | apply HC.skip | apply HC.exit | apply HC.ret | apply HX.e_block | refine HX.e_other rfl ?_ | apply HX.e_then | apply HX.e_again | apply HX.n_block | apply HX.r_then | apply HX.r_block | apply HX.r_again | refine HC.cond_yes rfl ?_ | refine HC.cond_no rfl ?_ | refine HL.one (H1.ldb rfl memA rfl rfl ?_) | refine HC.cond rfl (fun hc => ?_) (fun hc => ?_) | refine HC.cond_b rfl (fun hc => ?_) (fun hc => ?_))
  refine HL.one (H1.callx (vs := [.slice a2 sTwo.length c2, .slice (some ⟨bz2, 0, none⟩) 2 2]) rfl rfl (fun w' hM => sameList_fn _ _ sTwo sTwo (by decide) (by decide) (by decide) (by decide) w' (hM.ts (l := sTwo) (zs := z2) memD hz2) (two_rd (t0 := ⟨0, 5, [1, 2], 0, 1⟩) (t1 := ⟨3, 6, [1, 4], 0, 1⟩) (hM.blk memD) (blk_rd (l := [1, 2]) (hM.blk memD)) (blk_rd (l := [1, 4]) (hM.blk memD)))) ?_)
  rw [decide_eq_true rfl]
  repeat' (first | apply HL.fold | apply HA.fold | apply HL.nil | apply HX.n_then | apply HC.seq | apply HC.region | refine HL.pa ?_ | refine HL.ga rfl ?_ | refine HL.na rfl ?_ | refine HL.nu rfl rfl ?_ | apply HC.block | apply HC.skip | apply HC.exit | apply HC.ret | apply HX.e_block | refine HX.e_other rfl ?_ | apply HX.e_then | apply HX.e_again | apply HX.n_block | apply HX.r_then | apply HX.r_block | apply HX.r_again | refine HC.cond_yes rfl ?_ | refine HC.cond_no rfl ?_ | refine HL.one (H1.ldb rfl memA rfl rfl ?_) | refine HC.cond rfl (fun hc => ?_) (fun hc => ?_) | refine HC.cond_b rfl (fun hc => ?_) (fun hc => ?_))
  refine HL.one (H1.callx (vs := [.slice (some ⟨bh, 0, none⟩) 5 5, .slice (some ⟨bl, 0, none⟩) 2 2, .int .i64 1, .int .i64 2, .int .i64 9, .slice a1 2 c1]) rfl rfl (fun w' hM => valid_fn _ _ _ sH sL 1 2 9 sOne (by decide) (by decide) (by decide) (by decide) w' (blk_rd (l := sH) (hM.blk memD)) (blk_rd (l := sL) (hM.blk memD)) (hM.ts (l := sOne) (zs := z1) memD hz1)) ?_)
  rw [sValid1]
  repeat' (first | apply HL.fold | apply HA.fold | apply HL.nil | apply HX.n_then | apply HC.seq | apply HC.region | refine HL.pa ?_ | refine HL.ga rfl ?_ | refine HL.na rfl ?_ | refine HL.nu rfl rfl ?_ | apply HC.block | apply HC.skip | apply HC.exit | apply HC.ret | apply HX.e_block | refine HX.e_other rfl ?_ | apply HX.e_then | apply HX.e_again | apply HX.n_block | apply HX.r_then | apply HX.r_block | apply HX.r_again | refine HC.cond_yes rfl ?_ | refine HC.cond_no rfl ?_ | refine HL.one (H1.ldb rfl memA rfl rfl ?_) | refine HC.cond rfl (fun hc => ?_) (fun hc => ?_) | refine HC.cond_b rfl (fun hc => ?_) (fun hc => ?_))
  refine HL.one (H1.callx (vs := [.slice (some ⟨bh, 0, none⟩) 5 5, .slice (some ⟨bl, 0, none⟩) 2 2, .int .i64 1, .int .i64 2, .int .i64 9, .slice a2 2 c2]) rfl rfl (fun w' hM => valid_fn _ _ _ sH sL 1 2 9 sTwo (by decide) (by decide) (by decide) (by decide) w' (blk_rd (l := sH) (hM.blk memD)) (blk_rd (l := sL) (hM.blk memD)) (hM.ts (l := sTwo) (zs := z2) memD hz2)) ?_)
  rw [sValid2]
  repeat' (first | apply HL.fold | apply HA.fold | apply HL.nil | apply HX.n_then | apply HC.seq | apply HC.region | refine HL.pa ?_ | refine HL.ga rfl ?_ | refine HL.na rfl ?_ | refine HL.nu rfl rfl ?_ | apply HC.block | apply HC.skip | apply HC.exit | apply HC.ret | apply HX.e_block | refine HX.e_other rfl ?_ | apply HX.e_then | apply HX.e_again | apply HX.n_block | apply HX.r_then | apply HX.r_block | apply HX.r_again | refine HC.cond_yes rfl ?_ | refine HC.cond_no rfl ?_ | refine HL.one (H1.ldb rfl memA rfl rfl ?_) | refine HC.cond rfl (fun hc => ?_) (fun hc => ?_) | refine HC.cond_b rfl (fun hc => ?_) (fun hc => ?_))
  refine HL.one (H1.callx (vs := [.slice (some ⟨bh, 0, none⟩) 5 5, .slice none 0 0, .int .i64 1, .int .i64 2, .int .i64 9, .slice none 0 0]) rfl rfl (fun w' hM => valid_fn _ _ _ sH [] 1 2 9 [] (by decide) (by decide) (by decide) (by decide) w' (blk_rd (l := sH) (hM.blk memD)) rd_none rdt_none) ?_)
  rw [sValid0]
  repeat' (first | apply HL.fold | apply HA.fold | apply HL.nil | apply HX.n_then | apply HC.seq | apply HC.region | refine HL.pa ?_ | refine HL.ga rfl ?_ | refine HL.na rfl ?_ | refine HL.nu rfl rfl ?_ | apply HC.block | apply HC.skip | apply HC.exit | apply HC.ret | apply HX.e_block | refine HX.e_other rfl ?_ | apply HX.e_then | apply HX.e_again | apply HX.n_block | apply HX.r_then | apply HX.r_block | apply HX.r_again | refine HC.cond_yes rfl ?_ | refine HC.cond_no rfl ?_ | refine HL.one (H1.ldb rfl memA rfl rfl ?_) | refine HC.cond rfl (fun hc => ?_) (fun hc => ?_) | refine HC.cond_b rfl (fun hc => ?_) (fun hc => ?_))
  exact HX.ret1 rfl rfl fun w' hM => ⟨rfl, hM.ext⟩
end Go.Sx

