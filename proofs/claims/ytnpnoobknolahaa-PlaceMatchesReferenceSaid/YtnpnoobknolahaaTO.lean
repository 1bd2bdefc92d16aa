/- Chapter 18: the reference's Exposed. -/
import Derived.Test.YtnpnoobknolahaaTN
namespace Go.Sx
open Go Go.Proofs Go.RowKit
theorem cells_one (d : Di) : ∀ u ∈ d.cells, u.oneCell' = true := by
  intro u hu
  unfold Di.cells at hu
  simp only [List.mem_cons, List.not_mem_nil, or_false] at hu
  rcases hu with rfl | rfl | rfl | rfl | rfl <;> rfl
def Di.dec (d : Di) (q : Nat) : Di := ⟨d.b.dec q, d.liars⟩
structure DOk (d : Di) : Prop where
  b : ∀ q, 0 ≤ d.b.at q ∧ d.b.at q ≤ 3
  l : 0 ≤ d.liars ∧ d.liars ≤ 4
theorem DOk.dec {d : Di} (h : DOk d) {q : Nat} (hq : q < 4) (h0 : 0 < d.b.at q) : DOk (d.dec q) := by
  refine ⟨fun p => ?_, h.l⟩
  have key : ∀ p, p < 4 → 0 ≤ (d.b.dec q).at p ∧ (d.b.dec q).at p ≤ 3 := fun p hp => by
    rw [dec_at d.b hq hp]
    have h1 := h.b p
    by_cases e : p = q
    · subst e; rw [if_pos rfl]; omega
    · rw [if_neg e]; exact h1
  show 0 ≤ (d.b.dec q).at p ∧ (d.b.dec q).at p ≤ 3
  match p with
  | 0 => exact key 0 (by decide)
  | 1 => exact key 1 (by decide)
  | 2 => exact key 2 (by decide)
  | _ + 3 => exact key 3 (by decide)
theorem at_big (s : St) (q : Nat) : s.at (q + 3) = s.l := rfl
attribute [local irreducible] WC WL WX POp Then Again Fn NX W1 WA WO QL RP RA Yld LoopAt HC HL HX HN H1 HA HO HQ HB HP A.blk A.grow A.rd A.obj A.mp AgainH CutH
attribute [local irreducible] A.mq A.mit A.dfrs A.loop mapsA A.land A.pure chk best A.all
set_option maxHeartbeats 4000000 in
theorem rexposed_fn (v : Value) (S : List St) (hS : S.length ≤ 9) : ∀ (f : Nat) (u : Value) (T : List Nat) (d : Di) (w : World), T.length ≤ f → T.length ≤ 9 → (∀ j ∈ T, j < S.length) → DOk d → RdS w v S → Rd w u (ints (natI T)) →
    Fn Try.prog 41 #[v, .agg d.cells.toArray, u] w fun x w' => x = .bool (hitB (gS S) T d.left d.m) ∧ Ext w w' := by
  intro f
  induction f with
  | zero =>
    intro u T d w hf _ _ hd hR hT
    obtain rfl : T = [] := List.eq_nil_of_length_eq_zero (by omega)
    obtain ⟨aT, cT, rfl, hcT⟩ := hT.isInts
    rw [natI_len] at *
    refine enterH (l := [_, _, _]) rfl Try.ntmps41 rfl ?_
    repeat' (first | apply HL.fold | apply HA.fold | apply HL.nil | apply HX.n_then | apply HC.seq | apply HC.region | refine HL.pa ?_ | refine HL.ga rfl ?_ | refine HL.na rfl ?_ | refine HL.nu rfl rfl ?_ | apply HC.block | apply HC.skip | apply HC.exit | apply HC.ret | apply HX.e_block | refine HX.e_other rfl ?_ | apply HX.e_then | apply HX.e_again | apply HX.n_block | apply HX.r_then | apply HX.r_block | apply HX.r_again | refine HC.cond_yes rfl ?_ | refine HC.cond_no rfl ?_ | refine HL.one (H1.ldb rfl memA rfl rfl ?_) | refine HC.cond rfl (fun hc => ?_) (fun hc => ?_) | refine HC.cond_b rfl (fun hc => ?_) (fun hc => ?_))
    refine HL.one (H1.boxAgg (cs := d.cells) rfl rfl (fun b4 => ?_))
    repeat' (first | apply HL.fold | apply HA.fold | apply HL.nil | apply HX.n_then | apply HC.seq | apply HC.region | refine HL.pa ?_ | refine HL.ga rfl ?_ | refine HL.na rfl ?_ | refine HL.nu rfl rfl ?_ | apply HC.block | apply HC.skip | apply HC.exit | apply HC.ret | apply HX.e_block | refine HX.e_other rfl ?_ | apply HX.e_then | apply HX.e_again | apply HX.n_block | apply HX.r_then | apply HX.r_block | apply HX.r_again | refine HC.cond_yes rfl ?_ | refine HC.cond_no rfl ?_ | refine HL.one (H1.ldb rfl memA rfl rfl ?_) | refine HC.cond rfl (fun hc => ?_) (fun hc => ?_) | refine HC.cond_b rfl (fun hc => ?_) (fun hc => ?_))
    exact HX.ret1 rfl rfl fun w' hM => ⟨by rw [hitB_iff.2 hit_nil], hM.ext⟩
  | succ f ih =>
    intro u T d w hf hT9 hTS hd hR hT
    obtain ⟨aS, cS, rfl, hcS⟩ := hR.shape
    obtain ⟨aT, cT, rfl, hcT⟩ := hT.isInts
    rw [natI_len] at *
    refine enterH (l := [_, _, _]) rfl Try.ntmps41 rfl ?_
    repeat' (first | apply HL.fold | apply HA.fold | apply HL.nil | apply HX.n_then | apply HC.seq | apply HC.region | refine HL.pa ?_ | refine HL.ga rfl ?_ | refine HL.na rfl ?_ | refine HL.nu rfl rfl ?_ | apply HC.block | apply HC.skip | apply HC.exit | apply HC.ret | apply HX.e_block | refine HX.e_other rfl ?_ | apply HX.e_then | apply HX.e_again | apply HX.n_block | apply HX.r_then | apply HX.r_block | apply HX.r_again | refine HC.cond_yes rfl ?_ | refine HC.cond_no rfl ?_ | refine HL.one (H1.ldb rfl memA rfl rfl ?_) | refine HC.cond rfl (fun hc => ?_) (fun hc => ?_) | refine HC.cond_b rfl (fun hc => ?_) (fun hc => ?_))
    refine HL.one (H1.boxAgg (cs := d.cells) rfl rfl (fun b4 => ?_))
    by_cases h0 : T.length = 0
    · obtain rfl : T = [] := List.eq_nil_of_length_eq_zero h0
      repeat' (first | apply HL.fold | apply HA.fold | apply HL.nil | apply HX.n_then | apply HC.seq | apply HC.region | refine HL.pa ?_ | refine HL.ga rfl ?_ | refine HL.na rfl ?_ | refine HL.nu rfl rfl ?_ | apply HC.block | apply HC.skip | apply HC.exit | apply HC.ret | apply HX.e_block | refine HX.e_other rfl ?_ | apply HX.e_then | apply HX.e_again | apply HX.n_block | apply HX.r_then | apply HX.r_block | apply HX.r_again | refine HC.cond_yes rfl ?_ | refine HC.cond_no rfl ?_ | refine HL.one (H1.ldb rfl memA rfl rfl ?_) | refine HC.cond rfl (fun hc => ?_) (fun hc => ?_) | refine HC.cond_b rfl (fun hc => ?_) (fun hc => ?_))
      exact HX.ret1 rfl rfl fun w' hM => ⟨by rw [hitB_iff.2 hit_nil], hM.ext⟩
    obtain ⟨i, T', rfl⟩ := List.exists_cons_of_ne_nil (fun e => h0 (by rw [e]; rfl) : T ≠ [])
    generalize hn : (i :: T').length = n at *
    have hn1 : n = T'.length + 1 := hn.symm
    have h0' : ¬ ((n : Int) = 0) := by omega
    have hi := hTS i (List.Mem.head _)
    have hTS' : ∀ j ∈ T', j < S.length := fun j hj => hTS j (List.Mem.tail _ hj)
    obtain ⟨b, off, rfl, hbl, hcl⟩ := hR.at (by intro e; rw [e] at hi; exact absurd hi (Nat.not_lt_zero _))
    obtain ⟨bl, ol, c', e1, -, -, hclT⟩ := hT.at (by
      intro e
      have := congrArg List.length e
      rw [ints_len, natI_len, hn] at this
      exact h0 this)
    rw [ints_len, natI_len, hn] at e1
    cases e1
    have hx0 := hclT 0 (zv (i : Int)) rfl
    obtain ⟨hl0, hl4⟩ := hd.l
    repeat' (first | apply HL.fold | apply HA.fold | apply HL.nil | apply HX.n_then | apply HC.seq | apply HC.region | refine HL.pa ?_ | refine HL.ga rfl ?_ | refine HL.na rfl ?_ | refine HL.nu rfl rfl ?_ | apply HC.block | apply HC.skip | apply HC.exit | apply HC.ret | apply HX.e_block | refine HX.e_other rfl ?_ | apply HX.e_then | apply HX.e_again | apply HX.n_block | apply HX.r_then | apply HX.r_block | apply HX.r_again | refine HC.cond_yes rfl ?_ | refine HC.cond_no rfl ?_ | refine HL.one (H1.ldb rfl memA rfl rfl ?_) | refine HC.cond rfl (fun hc => ?_) (fun hc => ?_) | refine HC.cond_b rfl (fun hc => ?_) (fun hc => ?_))
    refine HL.one (H1.ld0 rfl hx0 rfl ?_)
    repeat' (first | apply HL.fold | apply HA.fold | apply HL.nil | apply HX.n_then | apply HC.seq | apply HC.region | refine HL.pa ?_ | refine HL.ga rfl ?_ | refine HL.na rfl ?_ | refine HL.nu rfl rfl ?_ | apply HC.block | apply HC.skip | apply HC.exit | apply HC.ret | apply HX.e_block | refine HX.e_other rfl ?_ | apply HX.e_then | apply HX.e_again | apply HX.n_block | apply HX.r_then | apply HX.r_block | apply HX.r_again | refine HC.cond_yes rfl ?_ | refine HC.cond_no rfl ?_ | refine HL.one (H1.ldb rfl memA rfl rfl ?_) | refine HC.cond rfl (fun hc => ?_) (fun hc => ?_) | refine HC.cond_b rfl (fun hc => ?_) (fun hc => ?_))
    refine HL.one (H1.ldAggw (vs := sc (stAt S i)) rfl rfl (fun w hM j v hj => cell_ext hM.ext (hcl i hi j v hj)) rfl ?_)
    repeat' (first | apply HL.fold | apply HA.fold | apply HL.nil | apply HX.n_then | apply HC.seq | apply HC.region | refine HL.pa ?_ | refine HL.ga rfl ?_ | refine HL.na rfl ?_ | refine HL.nu rfl rfl ?_ | apply HC.block | apply HC.skip | apply HC.exit | apply HC.ret | apply HX.e_block | refine HX.e_other rfl ?_ | apply HX.e_then | apply HX.e_again | apply HX.n_block | apply HX.r_then | apply HX.r_block | apply HX.r_again | refine HC.cond_yes rfl ?_ | refine HC.cond_no rfl ?_ | refine HL.one (H1.ldb rfl memA rfl rfl ?_) | refine HC.cond rfl (fun hc => ?_) (fun hc => ?_) | refine HC.cond_b rfl (fun hc => ?_) (fun hc => ?_))
    refine HL.one (H1.alloc (cs := [zv 0, zv 0, zv 0, zv 0]) rfl rfl (fun b7 => ?_))
    repeat' (first | apply HL.fold | apply HA.fold | apply HL.nil | apply HX.n_then | apply HC.seq | apply HC.region | refine HL.pa ?_ | refine HL.ga rfl ?_ | refine HL.na rfl ?_ | refine HL.nu rfl rfl ?_ | apply HC.block | apply HC.skip | apply HC.exit | apply HC.ret | apply HX.e_block | refine HX.e_other rfl ?_ | apply HX.e_then | apply HX.e_again | apply HX.n_block | apply HX.r_then | apply HX.r_block | apply HX.r_again | refine HC.cond_yes rfl ?_ | refine HC.cond_no rfl ?_ | refine HL.one (H1.ldb rfl memA rfl rfl ?_) | refine HC.cond rfl (fun hc => ?_) (fun hc => ?_) | refine HC.cond_b rfl (fun hc => ?_) (fun hc => ?_))
    refine HL.one (H1.stAgg (cs := [zv 0, zv 0, zv 0, zv 0]) (vs := sc (stAt S i)) rfl rfl rfl (sc_one _) rplA rfl ?_)
    repeat' (first | apply HL.fold | apply HA.fold | apply HL.nil | apply HX.n_then | apply HC.seq | apply HC.region | refine HL.pa ?_ | refine HL.ga rfl ?_ | refine HL.na rfl ?_ | refine HL.nu rfl rfl ?_ | apply HC.block | apply HC.skip | apply HC.exit | apply HC.ret | apply HX.e_block | refine HX.e_other rfl ?_ | apply HX.e_then | apply HX.e_again | apply HX.n_block | apply HX.r_then | apply HX.r_block | apply HX.r_again | refine HC.cond_yes rfl ?_ | refine HC.cond_no rfl ?_ | refine HL.one (H1.ldb rfl memA rfl rfl ?_))
    refine HC.cut (α := Unit) (fun _ => [(0, .slice (some ⟨b, off, none⟩) S.length cS), (2, .slice (some ⟨bl, ol, none⟩) n cT), (4, .pointer (some ⟨b4, 0, none⟩)), (7, .pointer (some ⟨b7, 0, none⟩))])
      (fun _ => [A.blk b7 (sc (stAt S i)) 54, A.blk b4 d.cells 24]) (fun _ => ¬ (0 < d.m ∧ Hit (gS S) T' d.left (d.m - 1))) ?_ ?_
    · by_cases hl : 0 < d.liars
      rotate_left
      · repeat' (first | apply HL.fold | apply HA.fold | apply HL.nil | apply HX.n_then | apply HC.seq | apply HC.region | refine HL.pa ?_ | refine HL.ga rfl ?_ | refine HL.na rfl ?_ | refine HL.nu rfl rfl ?_ | apply HC.block | apply HC.skip | apply HC.exit | apply HC.ret | apply HX.e_block | refine HX.e_other rfl ?_ | apply HX.e_then | apply HX.e_again | apply HX.n_block | apply HX.r_then | apply HX.r_block | apply HX.r_again | refine HC.cond_yes rfl ?_ | refine HC.cond_no rfl ?_ | refine HL.one (H1.ldb rfl memA rfl rfl ?_) | refine HC.cond rfl (fun hc => ?_) (fun hc => ?_) | refine HC.cond_b rfl (fun hc => ?_) (fun hc => ?_))
        exact HX.cut () (fun h => hl (by have := h.1; unfold Di.m at this; omega)) esA (by repeat (first | exact Hs.nil _ | (refine Hs.cons pickA ?_)))
      repeat' (first | apply HL.fold | apply HA.fold | apply HL.nil | apply HX.n_then | apply HC.seq | apply HC.region | refine HL.pa ?_ | refine HL.ga rfl ?_ | refine HL.na rfl ?_ | refine HL.nu rfl rfl ?_ | apply HC.block | apply HC.skip | apply HC.exit | apply HC.ret | apply HX.e_block | refine HX.e_other rfl ?_ | apply HX.e_then | apply HX.e_again | apply HX.n_block | apply HX.r_then | apply HX.r_block | apply HX.r_again | refine HC.cond_yes rfl ?_ | refine HC.cond_no rfl ?_ | refine HL.one (H1.ldb rfl memA rfl rfl ?_) | refine HC.cond rfl (fun hc => ?_) (fun hc => ?_) | refine HC.cond_b rfl (fun hc => ?_) (fun hc => ?_))
      refine HL.one (H1.ldAgg (vs := d.cells) rfl memA rfl (fun i v hv => by rw [Nat.zero_add]; exact hv) rfl ?_)
      repeat' (first | apply HL.fold | apply HA.fold | apply HL.nil | apply HX.n_then | apply HC.seq | apply HC.region | refine HL.pa ?_ | refine HL.ga rfl ?_ | refine HL.na rfl ?_ | refine HL.nu rfl rfl ?_ | apply HC.block | apply HC.skip | apply HC.exit | apply HC.ret | apply HX.e_block | refine HX.e_other rfl ?_ | apply HX.e_then | apply HX.e_again | apply HX.n_block | apply HX.r_then | apply HX.r_block | apply HX.r_again | refine HC.cond_yes rfl ?_ | refine HC.cond_no rfl ?_ | refine HL.one (H1.ldb rfl memA rfl rfl ?_) | refine HC.cond rfl (fun hc => ?_) (fun hc => ?_) | refine HC.cond_b rfl (fun hc => ?_) (fun hc => ?_))
      refine HL.one (H1.alloc (cs := [zv 0, zv 0, zv 0, zv 0, zv 0]) rfl rfl (fun b8 => ?_))
      repeat' (first | apply HL.fold | apply HA.fold | apply HL.nil | apply HX.n_then | apply HC.seq | apply HC.region | refine HL.pa ?_ | refine HL.ga rfl ?_ | refine HL.na rfl ?_ | refine HL.nu rfl rfl ?_ | apply HC.block | apply HC.skip | apply HC.exit | apply HC.ret | apply HX.e_block | refine HX.e_other rfl ?_ | apply HX.e_then | apply HX.e_again | apply HX.n_block | apply HX.r_then | apply HX.r_block | apply HX.r_again | refine HC.cond_yes rfl ?_ | refine HC.cond_no rfl ?_ | refine HL.one (H1.ldb rfl memA rfl rfl ?_) | refine HC.cond rfl (fun hc => ?_) (fun hc => ?_) | refine HC.cond_b rfl (fun hc => ?_) (fun hc => ?_))
      refine HL.one (H1.stAgg (cs := [zv 0, zv 0, zv 0, zv 0, zv 0]) (vs := d.cells) rfl rfl rfl (cells_one d) rplA rfl ?_)
      repeat' (first | apply HL.fold | apply HA.fold | apply HL.nil | apply HX.n_then | apply HC.seq | apply HC.region | refine HL.pa ?_ | refine HL.ga rfl ?_ | refine HL.na rfl ?_ | refine HL.nu rfl rfl ?_ | apply HC.block | apply HC.skip | apply HC.exit | apply HC.ret | apply HX.e_block | refine HX.e_other rfl ?_ | apply HX.e_then | apply HX.e_again | apply HX.n_block | apply HX.r_then | apply HX.r_block | apply HX.r_again | refine HC.cond_yes rfl ?_ | refine HC.cond_no rfl ?_ | refine HL.one (H1.ldb rfl memA rfl rfl ?_) | refine HC.cond rfl (fun hc => ?_) (fun hc => ?_) | refine HC.cond_b rfl (fun hc => ?_) (fun hc => ?_))
      refine HL.one (H1.st rfl rfl (by intro _ h; cases h) (by intro _ h; cases h) rplA (by show _ < 5; decide) ?_)
      repeat' (first | apply HL.fold | apply HA.fold | apply HL.nil | apply HX.n_then | apply HC.seq | apply HC.region | refine HL.pa ?_ | refine HL.ga rfl ?_ | refine HL.na rfl ?_ | refine HL.nu rfl rfl ?_ | apply HC.block | apply HC.skip | apply HC.exit | apply HC.ret | apply HX.e_block | refine HX.e_other rfl ?_ | apply HX.e_then | apply HX.e_again | apply HX.n_block | apply HX.r_then | apply HX.r_block | apply HX.r_again | refine HC.cond_yes rfl ?_ | refine HC.cond_no rfl ?_ | refine HL.one (H1.ldb rfl memA rfl rfl ?_) | refine HC.cond rfl (fun hc => ?_) (fun hc => ?_) | refine HC.cond_b rfl (fun hc => ?_) (fun hc => ?_))
      have em : Di.m ⟨d.b, d.liars - 1⟩ = d.m - 1 := by unfold Di.m; show (d.liars - 1).toNat = d.liars.toNat - 1; omega
      refine HC.anyC (cellsA b8 (Di.cells ⟨d.b, d.liars - 1⟩) ++ []) rfl ?_
      refine HB.pa 0 rfl ?_
      refine HB.ldA (vs := Di.cells ⟨d.b, d.liars - 1⟩) 1 rfl rfl rfl (fun i v hv => cellsL (cellsA_mem hv)) ?_
      refine HB.pa 2 rfl ?_
      refine HB.pa (v := .slice (fromA (some ⟨bl, ol, none⟩) cT 1) (n - 1) (cT - 1)) 3 rfl ?_ (POp.cut_from (m := 1) rfl rfl (by omega) (by omega))
      refine HB.all (by exact Keep.blkA memA Keep.nil) [4] (by kernel_rfl) rfl ⟨⟨_, rfl, ?_⟩, trivial⟩
      refine HP.one ?_
      refine H1.callx (u := .bool (hitB (gS S) T' d.left (d.m - 1))) (vs := [.slice (some ⟨b, off, none⟩) S.length cS, .agg (Di.cells ⟨d.b, d.liars - 1⟩).toArray, .slice (fromA (some ⟨bl, ol, none⟩) cT 1) (n - 1) (cT - 1)]) rfl rfl (fun w' hM => by
        have h1 : Rd w' (.slice (fromA (some ⟨bl, ol, none⟩) cT 1) (n - 1) (cT - 1)) (ints (natI T')) := (hM.rd0 hT).from (m := 1) (by rw [ints_len, natI_len, hn]; omega)
        have h2 := ih (.slice (fromA (some ⟨bl, ol, none⟩) cT 1) (n - 1) (cT - 1)) T' ⟨d.b, d.liars - 1⟩ w' (by omega) (by omega) hTS' ⟨hd.b, by show 0 ≤ d.liars - 1 ∧ d.liars - 1 ≤ 4; omega⟩ (hR.ext hM.ext) h1
        rw [em] at h2
        exact h2) ?_
      apply HB.fold
      refine HB.done (by exact Keep.blkA memA Keep.nil) (by kernel_rfl) ?_
      skip
      cases hb : hitB (gS S) T' d.left (d.m - 1) with
      | true =>
        repeat' (first | apply HL.fold | apply HA.fold | apply HL.nil | apply HX.n_then | apply HC.seq | apply HC.region | refine HL.pa ?_ | refine HL.ga rfl ?_ | refine HL.na rfl ?_ | refine HL.nu rfl rfl ?_ | apply HC.block | apply HC.skip | apply HC.exit | apply HC.ret | apply HX.e_block | refine HX.e_other rfl ?_ | apply HX.e_then | apply HX.e_again | apply HX.n_block | apply HX.r_then | apply HX.r_block | apply HX.r_again | refine HC.cond_yes rfl ?_ | refine HC.cond_no rfl ?_ | refine HL.one (H1.ldb rfl memA rfl rfl ?_) | refine HC.cond rfl (fun hc => ?_) (fun hc => ?_) | refine HC.cond_b rfl (fun hc => ?_) (fun hc => ?_))
        refine HX.ret1 rfl rfl fun w' hM => ⟨?_, hM.ext⟩
        rw [hitB_iff.2 (hit_head.2 (.inl ⟨by unfold Di.m; omega, hitB_iff.1 hb⟩))]
      | false =>
        repeat' (first | apply HL.fold | apply HA.fold | apply HL.nil | apply HX.n_then | apply HC.seq | apply HC.region | refine HL.pa ?_ | refine HL.ga rfl ?_ | refine HL.na rfl ?_ | refine HL.nu rfl rfl ?_ | apply HC.block | apply HC.skip | apply HC.exit | apply HC.ret | apply HX.e_block | refine HX.e_other rfl ?_ | apply HX.e_then | apply HX.e_again | apply HX.n_block | apply HX.r_then | apply HX.r_block | apply HX.r_again | refine HC.cond_yes rfl ?_ | refine HC.cond_no rfl ?_ | refine HL.one (H1.ldb rfl memA rfl rfl ?_) | refine HC.cond rfl (fun hc => ?_) (fun hc => ?_) | refine HC.cond_b rfl (fun hc => ?_) (fun hc => ?_))
        exact HX.cut () (fun h => hitB_no.1 hb h.2) esA (by repeat (first | exact Hs.nil _ | (refine Hs.cons pickA ?_)))
    · rintro - hno
      repeat' (first | apply HL.fold | apply HA.fold | apply HL.nil | apply HX.n_then | apply HC.seq | apply HC.region | refine HL.pa ?_ | refine HL.ga rfl ?_ | refine HL.na rfl ?_ | refine HL.nu rfl rfl ?_ | apply HC.block | apply HC.skip | apply HC.exit | apply HC.ret | apply HX.e_block | refine HX.e_other rfl ?_ | apply HX.e_then | apply HX.e_again | apply HX.n_block | apply HX.r_then | apply HX.r_block | apply HX.r_again | refine HC.cond_yes rfl ?_ | refine HC.cond_no rfl ?_ | refine HL.one (H1.ldb rfl memA rfl rfl ?_) | refine HC.cond rfl (fun hc => ?_) (fun hc => ?_) | refine HC.cond_b rfl (fun hc => ?_) (fun hc => ?_))
      refine HC.loop (α := Nat) (fun k => [(0, .slice (some ⟨b, off, none⟩) S.length cS), (2, .slice (some ⟨bl, ol, none⟩) n cT), (4, .pointer (some ⟨b4, 0, none⟩)), (7, .pointer (some ⟨b7, 0, none⟩)), (9, zv (k : Int))])
        (fun _ => [A.blk b7 (sc (stAt S i)) 54, A.blk b4 d.cells 24]) (fun k => k ≤ 4 ∧ ∀ q, q < k → 0 < d.left q → ¬ Hit (gS S) (othersL (gS S) (i :: T') i q) (decL d.left q) d.m) (fun k => 4 - k) 0 ⟨Nat.zero_le _, fun q hq => absurd hq (Nat.not_lt_zero _)⟩ esA (by repeat (first | exact Hs.nil _ | (refine Hs.cons pickA ?_))) ?_
      rintro k ⟨hk, hq⟩
      by_cases hk4 : k < 4
      rotate_left
      · obtain rfl : k = 4 := by omega
        repeat' (first | apply HL.fold | apply HA.fold | apply HL.nil | apply HX.n_then | apply HC.seq | apply HC.region | refine HL.pa ?_ | refine HL.ga rfl ?_ | refine HL.na rfl ?_ | refine HL.nu rfl rfl ?_ | apply HC.block | apply HC.skip | apply HC.exit | apply HC.ret | apply HX.e_block | refine HX.e_other rfl ?_ | apply HX.e_then | apply HX.e_again | apply HX.n_block | apply HX.r_then | apply HX.r_block | apply HX.r_again | refine HC.cond_yes rfl ?_ | refine HC.cond_no rfl ?_ | refine HL.one (H1.ldb rfl memA rfl rfl ?_) | refine HC.cond rfl (fun hc => ?_) (fun hc => ?_) | refine HC.cond_b rfl (fun hc => ?_) (fun hc => ?_))
        refine HX.ret1 rfl rfl fun w' hM => ⟨?_, hM.ext⟩
        rw [hitB_no.2 fun hh => ?_]
        rcases hit_head.1 hh with h1 | ⟨q, hq4, h0, h1⟩
        · exact hno h1
        · exact hq q hq4 h0 h1
      have hdk := hd.b k
      repeat' (first | apply HL.fold | apply HA.fold | apply HL.nil | apply HX.n_then | apply HC.seq | apply HC.region | refine HL.pa ?_ | refine HL.ga rfl ?_ | refine HL.na rfl ?_ | refine HL.nu rfl rfl ?_ | apply HC.block | apply HC.skip | apply HC.exit | apply HC.ret | apply HX.e_block | refine HX.e_other rfl ?_ | apply HX.e_then | apply HX.e_again | apply HX.n_block | apply HX.r_then | apply HX.r_block | apply HX.r_again | refine HC.cond_yes rfl ?_ | refine HC.cond_no rfl ?_ | refine HL.one (H1.ldb rfl memA rfl rfl ?_) | refine HC.cond rfl (fun hc => ?_) (fun hc => ?_) | refine HC.cond_b rfl (fun hc => ?_) (fun hc => ?_))
      refine HL.one (H1.ldAgg (vs := d.cells) rfl memA rfl (fun i v hv => by rw [Nat.zero_add]; exact hv) rfl ?_)
      repeat' (first | apply HL.fold | apply HA.fold | apply HL.nil | apply HX.n_then | apply HC.seq | apply HC.region | refine HL.pa ?_ | refine HL.ga rfl ?_ | refine HL.na rfl ?_ | refine HL.nu rfl rfl ?_ | apply HC.block | apply HC.skip | apply HC.exit | apply HC.ret | apply HX.e_block | refine HX.e_other rfl ?_ | apply HX.e_then | apply HX.e_again | apply HX.n_block | apply HX.r_then | apply HX.r_block | apply HX.r_again | refine HC.cond_yes rfl ?_ | refine HC.cond_no rfl ?_ | refine HL.one (H1.ldb rfl memA rfl rfl ?_) | refine HC.cond rfl (fun hc => ?_) (fun hc => ?_) | refine HC.cond_b rfl (fun hc => ?_) (fun hc => ?_))
      refine HL.one (H1.alloc (cs := [zv 0, zv 0, zv 0, zv 0, zv 0]) rfl rfl (fun b10 => ?_))
      repeat' (first | apply HL.fold | apply HA.fold | apply HL.nil | apply HX.n_then | apply HC.seq | apply HC.region | refine HL.pa ?_ | refine HL.ga rfl ?_ | refine HL.na rfl ?_ | refine HL.nu rfl rfl ?_ | apply HC.block | apply HC.skip | apply HC.exit | apply HC.ret | apply HX.e_block | refine HX.e_other rfl ?_ | apply HX.e_then | apply HX.e_again | apply HX.n_block | apply HX.r_then | apply HX.r_block | apply HX.r_again | refine HC.cond_yes rfl ?_ | refine HC.cond_no rfl ?_ | refine HL.one (H1.ldb rfl memA rfl rfl ?_) | refine HC.cond rfl (fun hc => ?_) (fun hc => ?_) | refine HC.cond_b rfl (fun hc => ?_) (fun hc => ?_))
      refine HL.one (H1.stAgg (cs := [zv 0, zv 0, zv 0, zv 0, zv 0]) (vs := d.cells) rfl rfl rfl (cells_one d) rplA rfl ?_)
      repeat' (first | apply HL.fold | apply HA.fold | apply HL.nil | apply HX.n_then | apply HC.seq | apply HC.region | refine HL.pa ?_ | refine HL.ga rfl ?_ | refine HL.na rfl ?_ | refine HL.nu rfl rfl ?_ | apply HC.skip | apply HC.exit | apply HC.ret | apply HX.e_block | refine HX.e_other rfl ?_ | apply HX.e_then | apply HX.e_again | apply HX.n_block | apply HX.r_then | apply HX.r_block | apply HX.r_again | refine HC.cond_yes rfl ?_ | refine HC.cond_no rfl ?_ | refine HL.one (H1.ldb rfl memA rfl rfl ?_) | refine HC.cond rfl (fun hc => ?_) (fun hc => ?_) | refine HC.cond_b rfl (fun hc => ?_) (fun hc => ?_))
      refine HC.cut (α := Unit) (fun _ => [(0, .slice (some ⟨b, off, none⟩) S.length cS), (2, .slice (some ⟨bl, ol, none⟩) n cT), (4, .pointer (some ⟨b4, 0, none⟩)), (7, .pointer (some ⟨b7, 0, none⟩)), (9, zv (k : Int)), (10, .pointer (some ⟨b10, 0, none⟩)), (11, zv (d.b.at k))])
        (fun _ => [A.blk b10 (d.dec k).cells 24, A.blk b7 (sc (stAt S i)) 54, A.blk b4 d.cells 24]) (fun _ => True) ?_ ?_
      · rcases (show k = 0 ∨ k = 1 ∨ k = 2 ∨ k = 3 by omega) with rfl | rfl | rfl | rfl
        all_goals
          simp only [St.at] at hdk
          repeat' (first | apply HL.fold | apply HA.fold | apply HL.nil | apply HX.n_then | apply HC.seq | apply HC.region | refine HL.pa ?_ | refine HL.ga rfl ?_ | refine HL.na rfl ?_ | refine HL.nu rfl rfl ?_ | apply HC.block | apply HC.skip | apply HC.exit | apply HC.ret | apply HX.e_block | refine HX.e_other rfl ?_ | apply HX.e_then | apply HX.e_again | apply HX.n_block | apply HX.r_then | apply HX.r_block | apply HX.r_again | refine HC.cond_yes rfl ?_ | refine HC.cond_no rfl ?_ | refine HL.one (H1.ldb rfl memA rfl rfl ?_) | refine HC.cond rfl (fun hc => ?_) (fun hc => ?_) | refine HC.cond_b rfl (fun hc => ?_) (fun hc => ?_))
          refine HL.one (H1.st rfl rfl (by intro _ h; cases h) (by intro _ h; cases h) rplA (by show _ < 5; decide) ?_)
          repeat' (first | apply HL.fold | apply HA.fold | apply HL.nil | apply HX.n_then | apply HC.seq | apply HC.region | refine HL.pa ?_ | refine HL.ga rfl ?_ | refine HL.na rfl ?_ | refine HL.nu rfl rfl ?_ | apply HC.block | apply HC.skip | apply HC.exit | apply HC.ret | apply HX.e_block | refine HX.e_other rfl ?_ | apply HX.e_then | apply HX.e_again | apply HX.n_block | apply HX.r_then | apply HX.r_block | apply HX.r_again | refine HC.cond_yes rfl ?_ | refine HC.cond_no rfl ?_ | refine HL.one (H1.ldb rfl memA rfl rfl ?_) | refine HC.cond rfl (fun hc => ?_) (fun hc => ?_) | refine HC.cond_b rfl (fun hc => ?_) (fun hc => ?_))
          exact HX.cut () trivial esA (by repeat (first | exact Hs.nil _ | (refine Hs.cons pickA ?_)))
      · rintro - -
        have hOl : (othersL (gS S) (i :: T') i k).length ≤ T'.length := others_len
        have hOS : ∀ j ∈ othersL (gS S) (i :: T') i k, j < S.length := fun j hj => hTS j (others_mem hj)
        by_cases h0k : 0 < d.b.at k
        · have hdk2 := hd.dec hk4 h0k
          repeat' (first | apply HL.fold | apply HA.fold | apply HL.nil | apply HX.n_then | apply HC.seq | apply HC.region | refine HL.pa ?_ | refine HL.ga rfl ?_ | refine HL.na rfl ?_ | refine HL.nu rfl rfl ?_ | apply HC.block | apply HC.skip | apply HC.exit | apply HC.ret | apply HX.e_block | refine HX.e_other rfl ?_ | apply HX.e_then | apply HX.e_again | apply HX.n_block | apply HX.r_then | apply HX.r_block | apply HX.r_again | refine HC.cond_yes rfl ?_ | refine HC.cond_no rfl ?_ | refine HL.one (H1.ldb rfl memA rfl rfl ?_) | refine HC.cond rfl (fun hc => ?_) (fun hc => ?_) | refine HC.cond_b rfl (fun hc => ?_) (fun hc => ?_))
          refine HC.anyC (cellsA b10 (d.dec k).cells ++ (cellsA b7 (sc (stAt S i)) ++ [])) rfl ?_
          refine HB.pa 0 rfl ?_
          refine HB.pa 1 rfl ?_
          refine HB.pa 2 rfl ?_
          first | refine HB.ga 3 rfl rfl ?_ | refine HB.na 3 rfl rfl ?_ | refine HB.nu 3 rfl rfl ?_
          refine HB.ldAg (vs := (d.dec k).cells) 4 rfl rfl rfl rfl (fun i v hv => cellsL (cellsA_mem hv)) ?_
          first | refine HB.ga 5 rfl rfl ?_ | refine HB.na 5 rfl rfl ?_ | refine HB.nu 5 rfl rfl ?_
          first | refine HB.ga 6 rfl rfl ?_ | refine HB.na 6 rfl rfl ?_ | refine HB.nu 6 rfl rfl ?_
          first | refine HB.ga 7 rfl rfl ?_ | refine HB.na 7 rfl rfl ?_ | refine HB.nu 7 rfl rfl ?_
          refine HB.ldAg (vs := sc (stAt S i)) 8 rfl rfl rfl rfl (fun i v hv => cellsR (cellsL (cellsA_mem hv))) ?_
          refine HB.all (by exact Keep.blkA memA (Keep.blkA memA Keep.nil)) [9] (by kernel_rfl) rfl ⟨⟨_, rfl, ?_⟩, trivial⟩
          refine HP.one_a rfl ?_
          refine H1.callz1 (An := fun z : Option Addr × Nat => A.grow 3 1 z.1 z.2 (othersL (gS S) (i :: T') i k).length (ints (natI (othersL (gS S) (i :: T') i k)))) (vs := [.slice (some ⟨b, off, none⟩) S.length cS, .slice (some ⟨bl, ol, none⟩) n cT, zv (k : Int), .agg (sc (stAt S i)).toArray]) rfl rfl (fun w' hM => others_fn _ S _ (i :: T') i k hk4 hS (by omega) hTS w' (hR.ext hM.ext) (hM.rd0 hT)) ?_
          rintro ⟨aO, cO⟩ -
          dsimp only
          apply HB.fold
          refine HB.all (by exact Keep.blkA memA (Keep.blkA memA Keep.nil)) [10] (by kernel_rfl) rfl ⟨⟨_, rfl, ?_⟩, trivial⟩
          refine HP.one_a rfl ?_
          refine H1.callx (vs := [.slice (some ⟨b, off, none⟩) S.length cS, .agg (d.dec k).cells.toArray, .slice aO (othersL (gS S) (i :: T') i k).length cO]) rfl rfl (fun w' hM => ih (.slice aO (othersL (gS S) (i :: T') i k).length cO) (othersL (gS S) (i :: T') i k) (d.dec k) w' (by omega) (by omega) hOS hdk2 (hR.ext hM.ext) (hM.gr memA)) ?_
          apply HB.fold
          refine HB.pa 11 rfl ?_
          refine HB.done (by exact Keep.blkA memA (Keep.blkA memA Keep.nil)) (by kernel_rfl) ?_
          skip
          have hdec := hit_dec (g := gS S) (T := othersL (gS S) (i :: T') i k) (s := d.b) (m := d.m) hk4
          cases hb : hitB (gS S) (othersL (gS S) (i :: T') i k) (d.dec k).left (d.dec k).m with
          | true =>
            repeat' (first | apply HL.fold | apply HA.fold | apply HL.nil | apply HX.n_then | apply HC.seq | apply HC.region | refine HL.pa ?_ | refine HL.ga rfl ?_ | refine HL.na rfl ?_ | refine HL.nu rfl rfl ?_ | apply HC.block | apply HC.skip | apply HC.exit | apply HC.ret | apply HX.e_block | refine HX.e_other rfl ?_ | apply HX.e_then | apply HX.e_again | apply HX.n_block | apply HX.r_then | apply HX.r_block | apply HX.r_again | refine HC.cond_yes rfl ?_ | refine HC.cond_no rfl ?_ | refine HL.one (H1.ldb rfl memA rfl rfl ?_) | refine HC.cond rfl (fun hc => ?_) (fun hc => ?_) | refine HC.cond_b rfl (fun hc => ?_) (fun hc => ?_))
            refine HX.ret1 rfl rfl fun w' hM => ⟨?_, hM.ext⟩
            exact congrArg Value.bool (hitB_iff.2 (hit_head.2 (.inr ⟨k, hk4, (by show 0 < (d.b.at k).toNat; omega), hdec.1 (hitB_iff.1 hb)⟩))).symm
          | false =>
            repeat' (first | apply HL.fold | apply HA.fold | apply HL.nil | apply HX.n_then | apply HC.seq | apply HC.region | refine HL.pa ?_ | refine HL.ga rfl ?_ | refine HL.na rfl ?_ | refine HL.nu rfl rfl ?_ | apply HC.block | apply HC.skip | apply HC.exit | apply HC.ret | apply HX.e_block | refine HX.e_other rfl ?_ | apply HX.e_then | apply HX.e_again | apply HX.n_block | apply HX.r_then | apply HX.r_block | apply HX.r_again | refine HC.cond_yes rfl ?_ | refine HC.cond_no rfl ?_ | refine HL.one (H1.ldb rfl memA rfl rfl ?_) | refine HC.cond rfl (fun hc => ?_) (fun hc => ?_) | refine HC.cond_b rfl (fun hc => ?_) (fun hc => ?_))
            refine HX.again (k + 1) ⟨by omega, fun q hq2 h1 => ?_⟩ (by omega) esA (by repeat (first | exact Hs.nil _ | (refine Hs.cons pickA ?_)))
            by_cases e : q = k
            · subst e
              exact fun h => hitB_no.1 hb (hdec.2 h)
            · exact hq q (by omega) h1
        · have h0k' : ¬ d.b.at k > 0 := h0k
          repeat' (first | apply HL.fold | apply HA.fold | apply HL.nil | apply HX.n_then | apply HC.seq | apply HC.region | refine HL.pa ?_ | refine HL.ga rfl ?_ | refine HL.na rfl ?_ | refine HL.nu rfl rfl ?_ | apply HC.block | apply HC.skip | apply HC.exit | apply HC.ret | apply HX.e_block | refine HX.e_other rfl ?_ | apply HX.e_then | apply HX.e_again | apply HX.n_block | apply HX.r_then | apply HX.r_block | apply HX.r_again | refine HC.cond_yes rfl ?_ | refine HC.cond_no rfl ?_ | refine HL.one (H1.ldb rfl memA rfl rfl ?_) | refine HC.cond rfl (fun hc => ?_) (fun hc => ?_) | refine HC.cond_b rfl (fun hc => ?_) (fun hc => ?_))
          refine HC.any rfl ?_
          refine HA.pa 0 rfl ?_
          refine HA.pa 1 rfl ?_
          refine HA.pa 2 rfl ?_
          first | refine HA.ga 3 rfl rfl ?_ | refine HA.na 3 rfl rfl ?_ | refine HA.nu 3 rfl rfl ?_
          first | refine HA.ga 4 rfl rfl ?_ | refine HA.na 4 rfl rfl ?_ | refine HA.nu 4 rfl rfl ?_
          first | refine HA.ga 5 rfl rfl ?_ | refine HA.na 5 rfl rfl ?_ | refine HA.nu 5 rfl rfl ?_
          first | refine HA.ga 6 rfl rfl ?_ | refine HA.na 6 rfl rfl ?_ | refine HA.nu 6 rfl rfl ?_
          first | refine HA.ga 7 rfl rfl ?_ | refine HA.na 7 rfl rfl ?_ | refine HA.nu 7 rfl rfl ?_
          first | refine HA.ga 8 rfl rfl ?_ | refine HA.na 8 rfl rfl ?_ | refine HA.nu 8 rfl rfl ?_
          refine HA.all [9] (by kernel_rfl) rfl ⟨⟨_, rfl, ?_⟩, trivial⟩
          refine HO.drop_a rfl ?_
          refine HA.all [10] (by kernel_rfl) rfl ⟨⟨_, rfl, ?_⟩, trivial⟩
          refine HO.drop_a rfl ?_
          refine HA.pa 11 rfl ?_
          refine HA.done (by kernel_rfl) ?_
          skip
          repeat' (first | apply HL.fold | apply HA.fold | apply HL.nil | apply HX.n_then | apply HC.seq | apply HC.region | refine HL.pa ?_ | refine HL.ga rfl ?_ | refine HL.na rfl ?_ | refine HL.nu rfl rfl ?_ | apply HC.block | apply HC.skip | apply HC.exit | apply HC.ret | apply HX.e_block | refine HX.e_other rfl ?_ | apply HX.e_then | apply HX.e_again | apply HX.n_block | apply HX.r_then | apply HX.r_block | apply HX.r_again | refine HC.cond_yes rfl ?_ | refine HC.cond_no rfl ?_ | refine HL.one (H1.ldb rfl memA rfl rfl ?_) | refine HC.cond rfl (fun hc => ?_) (fun hc => ?_) | refine HC.cond_b rfl (fun hc => ?_) (fun hc => ?_))
          refine HX.again (k + 1) ⟨by omega, fun q hq2 h1 => ?_⟩ (by omega) esA (by repeat (first | exact Hs.nil _ | (refine Hs.cons pickA ?_)))
          by_cases e : q = k
          · subst e
            unfold Di.left at h1
            omega
          · exact hq q (by omega) h1
end Go.Sx

