/- Chapter 17: the reference's all, Join and Fragment. -/
import Derived.Test.YtfjkdciblblalaaDoorSP
namespace Go.Sx
open Go Go.Proofs
theorem Mm.down {w0 w1 w' : World} {H : List Atom} (hx : Ext w0 w1) (h : Mm w1 H w') : Mm w0 H w' := ⟨hx.trans h.ext, h.all, h.nd, fun b hb => ⟨Nat.le_trans hx.size (h.rng b hb).1, (h.rng b hb).2⟩⟩
theorem tnums_zero (th : List Bool) (K : Nat) : tnums th 0 K = [] := by simp [tnums]
theorem outs_step (frs : List ByteArray) (th : List Bool) (K i : Nat) : strs ((List.range i).map (cOut frs th K)) ++ [.string (cOut frs th K i)] = strs ((List.range (i + 1)).map (cOut frs th K)) := by
  unfold strs
  rw [List.range_succ, List.map_append, List.map_append]; rfl
theorem nums_add {th : List Bool} {i K : Nat} (h : tf th i = true) (h2 : (tnums th i K).length < K) : (tnums th i K).map iv ++ [iv i] = (tnums th (i + 1) K).map iv := by
  rw [tnums_add h h2, List.map_append]; rfl
theorem nums_addL {th : List Bool} {i K : Nat} (h : tf th i = true) (h2 : (tnums th i K).length < K) : (tnums th i K).length + 1 = (tnums th (i + 1) K).length := by
  rw [tnums_add h h2, List.length_append]; rfl
attribute [local irreducible] WC WL WX POp Then Again Fn NX W1 WA WO QL RP RA Yld LoopAt HC HL HX HN H1 HA HO HQ HB HP A.blk A.grow A.rd A.obj A.mp AgainH CutH
attribute [local irreducible] atR cOut cM tnums
set_option maxHeartbeats 2000000 in
theorem all_fn (vf vt : Value) (frs : List ByteArray) (th : List Bool) (k : Int) (hl : frs.length ≤ 100) (hlt : th.length ≤ 100) (w : World) (hF : Rd w vf (strs frs)) (hT : Rd w vt (bools th)) :
    Fn Tryd.prog 26 #[vf, vt, .int .i64 k] w fun v w' => ∃ z : Bool × Option Addr × Nat, (z.1 = true ↔ CompOK frs th k) ∧ v = .tuple #[.slice z.2.1 (if z.1 = true then frs.length else 0) z.2.2, .bool z.1] ∧
      Mm w [A.grow 9 1 z.2.1 z.2.2 (if z.1 = true then frs.length else 0) (if z.1 = true then strs (allOut frs th k.toNat) else [])] w' := by
  have hlf : (strs frs).length = frs.length := by simp [strs]
  have hlt' : (bools th).length = th.length := by simp [bools]
  obtain ⟨af, cf, rfl⟩ := hF.len
  obtain ⟨at_, ct, rfl⟩ := hT.len
  rw [hlf] at hF ⊢
  rw [hlt'] at hT ⊢
  have hno : ∀ {w' : World} {v : Value}, Ext w w' → v = .tuple #[.slice none 0 0, .bool false] → ¬ CompOK frs th k → ∃ z : Bool × Option Addr × Nat, (z.1 = true ↔ CompOK frs th k) ∧ v = .tuple #[.slice z.2.1 (if z.1 = true then frs.length else 0) z.2.2, .bool z.1] ∧
      Mm w [A.grow 9 1 z.2.1 z.2.2 (if z.1 = true then frs.length else 0) (if z.1 = true then strs (allOut frs th k.toNat) else [])] w' :=
    fun hx hv hc => ⟨(false, none, 0), ⟨fun h => (by cases h), fun h => absurd h hc⟩, hv, (Mm.nil hx).grow0 _ _⟩
  refine enterH (l := [_, _, _]) rfl Tryd.ntmps26 rfl ?_
  repeat' (first | apply HL.fold | apply HA.fold | apply HL.nil | apply HX.n_then | apply HC.seq | apply HC.region | refine HL.pa ?_ | refine HL.ga rfl ?_ | refine HL.na rfl ?_ | refine HL.nu rfl rfl ?_ | apply HC.block | apply HC.skip | apply HC.exit | apply HC.ret | apply HX.e_block | refine HX.e_other rfl ?_ | apply HX.e_then | apply HX.e_again | apply HX.n_block | apply HX.r_then | apply HX.r_block | apply HX.r_again | refine HC.cond_yes rfl ?_ | refine HC.cond_no rfl ?_ | refine HL.one (H1.ldb rfl memA rfl rfl ?_) | refine HC.cond rfl (fun hc => ?_) (fun hc => ?_) | refine HC.cond_b rfl (fun hc => ?_) (fun hc => ?_))
  refine HL.one (H1.call0 (vs := [iv frs.length, .int .i64 1, .int .i64 9]) rfl rfl (fun w' _ => within_fn _ _ _ w') ?_)
  by_cases h1 : (1 : Int) ≤ frs.length ∧ (frs.length : Int) ≤ 9
  rotate_left
  · rw [decide_eq_false h1]
    repeat' (first | apply HL.fold | apply HA.fold | apply HL.nil | apply HX.n_then | apply HC.seq | apply HC.region | refine HL.pa ?_ | refine HL.ga rfl ?_ | refine HL.na rfl ?_ | refine HL.nu rfl rfl ?_ | apply HC.block | apply HC.skip | apply HC.exit | apply HC.ret | apply HX.e_block | refine HX.e_other rfl ?_ | apply HX.e_then | apply HX.e_again | apply HX.n_block | apply HX.r_then | apply HX.r_block | apply HX.r_again | refine HC.cond_yes rfl ?_ | refine HC.cond_no rfl ?_ | refine HL.one (H1.ldb rfl memA rfl rfl ?_) | refine HC.cond rfl (fun hc => ?_) (fun hc => ?_) | refine HC.cond_b rfl (fun hc => ?_) (fun hc => ?_))
    exact HX.ret2 rfl rfl rfl fun w' hM => hno hM.ext rfl fun hc => h1 ⟨by have := hc.1.1; have := hc.1.2.1; omega, by have := hc.1.2.2; omega⟩
  rw [decide_eq_true h1]
  by_cases h2 : th.length = frs.length
  rotate_left
  · have h2' : ¬ (th.length : Int) = (frs.length : Int) := by omega
    repeat' (first | apply HL.fold | apply HA.fold | apply HL.nil | apply HX.n_then | apply HC.seq | apply HC.region | refine HL.pa ?_ | refine HL.ga rfl ?_ | refine HL.na rfl ?_ | refine HL.nu rfl rfl ?_ | apply HC.block | apply HC.skip | apply HC.exit | apply HC.ret | apply HX.e_block | refine HX.e_other rfl ?_ | apply HX.e_then | apply HX.e_again | apply HX.n_block | apply HX.r_then | apply HX.r_block | apply HX.r_again | refine HC.cond_yes rfl ?_ | refine HC.cond_no rfl ?_ | refine HL.one (H1.ldb rfl memA rfl rfl ?_) | refine HC.cond rfl (fun hc => ?_) (fun hc => ?_) | refine HC.cond_b rfl (fun hc => ?_) (fun hc => ?_))
    exact HX.ret2 rfl rfl rfl fun w' hM => hno hM.ext rfl fun hc => h2 hc.2.1
  have h2' : (th.length : Int) = (frs.length : Int) := by omega
  repeat' (first | apply HL.fold | apply HA.fold | apply HL.nil | apply HX.n_then | apply HC.seq | apply HC.region | refine HL.pa ?_ | refine HL.ga rfl ?_ | refine HL.na rfl ?_ | refine HL.nu rfl rfl ?_ | apply HC.block | apply HC.skip | apply HC.exit | apply HC.ret | apply HX.e_block | refine HX.e_other rfl ?_ | apply HX.e_then | apply HX.e_again | apply HX.n_block | apply HX.r_then | apply HX.r_block | apply HX.r_again | refine HC.cond_yes rfl ?_ | refine HC.cond_no rfl ?_ | refine HL.one (H1.ldb rfl memA rfl rfl ?_) | refine HC.cond rfl (fun hc => ?_) (fun hc => ?_) | refine HC.cond_b rfl (fun hc => ?_) (fun hc => ?_))
  refine HL.one (H1.call0 (vs := [.int .i64 k, .int .i64 1, iv frs.length]) rfl rfl (fun w' _ => within_fn _ _ _ w') ?_)
  by_cases h3 : 1 ≤ k ∧ k ≤ (frs.length : Int)
  rotate_left
  · rw [decide_eq_false h3]
    repeat' (first | apply HL.fold | apply HA.fold | apply HL.nil | apply HX.n_then | apply HC.seq | apply HC.region | refine HL.pa ?_ | refine HL.ga rfl ?_ | refine HL.na rfl ?_ | refine HL.nu rfl rfl ?_ | apply HC.block | apply HC.skip | apply HC.exit | apply HC.ret | apply HX.e_block | refine HX.e_other rfl ?_ | apply HX.e_then | apply HX.e_again | apply HX.n_block | apply HX.r_then | apply HX.r_block | apply HX.r_again | refine HC.cond_yes rfl ?_ | refine HC.cond_no rfl ?_ | refine HL.one (H1.ldb rfl memA rfl rfl ?_) | refine HC.cond rfl (fun hc => ?_) (fun hc => ?_) | refine HC.cond_b rfl (fun hc => ?_) (fun hc => ?_))
    exact HX.ret2 rfl rfl rfl fun w' hM => hno hM.ext rfl fun hc => h3 ⟨hc.1.1, hc.1.2.1⟩
  rw [decide_eq_true h3]
  obtain ⟨K, rfl⟩ : ∃ K : Nat, k = (K : Int) := ⟨k.toNat, by omega⟩
  simp only [Int.toNat_natCast] at hno ⊢
  obtain ⟨bf, off, c2, e1, -, -, -⟩ := hF.at (by intro e; rw [e] at hlf; simp at hlf; omega)
  obtain rfl := (Value.slice.inj e1).1
  obtain ⟨bt, offt, c3, e2, -, -, -⟩ := hT.at (by intro e; rw [e] at hlt'; simp at hlt'; omega)
  obtain rfl := (Value.slice.inj e2).1
  rw [h2] at hT ⊢
  generalize hn : frs.length = n at *
  have hisC : isC (K : Int) n := ⟨h3.1, h3.2, h1.2⟩
  repeat' (first | apply HL.fold | apply HA.fold | apply HL.nil | apply HX.n_then | apply HC.seq | apply HC.region | refine HL.pa ?_ | refine HL.ga rfl ?_ | refine HL.na rfl ?_ | refine HL.nu rfl rfl ?_ | apply HC.block | apply HC.skip | apply HC.exit | apply HC.ret | apply HX.e_block | refine HX.e_other rfl ?_ | apply HX.e_then | apply HX.e_again | apply HX.n_block | apply HX.r_then | apply HX.r_block | apply HX.r_again | refine HC.cond_yes rfl ?_ | refine HC.cond_no rfl ?_ | refine HL.one (H1.ldb rfl memA rfl rfl ?_) | refine HC.cond rfl (fun hc => ?_) (fun hc => ?_) | refine HC.cond_b rfl (fun hc => ?_) (fun hc => ?_))
  refine HC.grow0 3 1 ?_
  refine HC.loop (α := Nat × Option Addr × Nat) (fun z => [(0, .slice (some ⟨bf, off, none⟩) n cf), (1, .slice (some ⟨bt, offt, none⟩) n ct), (2, iv K), (8, iv n), (9, .slice z.2.1 (tnums th z.1 K).length z.2.2), (10, iv z.1)])
    (fun z => [A.grow 3 1 z.2.1 z.2.2 (tnums th z.1 K).length ((tnums th z.1 K).map iv)]) (fun z => z.1 ≤ n) (fun z => n - z.1) (0, none, 0) (Nat.zero_le _) ⟨rfl, rfl, rfl, rfl, by rw [tnums_zero]; rfl, rfl, trivial⟩ (by rw [tnums_zero]; exact Hs.cons Pick.here (Hs.nil _)) ?_
  rintro ⟨i, a, c⟩ hi
  dsimp only at hi ⊢
  have hlen1 := tnums_len th i K
  have hlen2 := tnums_len2 th i K
  by_cases hlti : i < n
  · have hcell := hT.cell (bools_get (th := th) (i := i) (by omega))
    cases hb : tf th i with
    | false =>
      rw [hb] at hcell
      have hsk := tnums_skip (k := K) hb
      repeat' (first | apply HL.fold | apply HA.fold | apply HL.nil | apply HX.n_then | apply HC.seq | apply HC.region | refine HL.pa ?_ | refine HL.ga rfl ?_ | refine HL.na rfl ?_ | refine HL.nu rfl rfl ?_ | apply HC.block | apply HC.skip | apply HC.exit | apply HC.ret | apply HX.e_block | refine HX.e_other rfl ?_ | apply HX.e_then | apply HX.e_again | apply HX.n_block | apply HX.r_then | apply HX.r_block | apply HX.r_again | refine HC.cond_yes rfl ?_ | refine HC.cond_no rfl ?_ | refine HL.one (H1.ldb rfl memA rfl rfl ?_) | refine HC.cond rfl (fun hc => ?_) (fun hc => ?_) | refine HC.cond_b rfl (fun hc => ?_) (fun hc => ?_))
      refine HL.one (H1.ld0 rfl hcell rfl ?_)
      rw [← hsk]
      repeat' (first | apply HL.fold | apply HA.fold | apply HL.nil | apply HX.n_then | apply HC.seq | apply HC.region | refine HL.pa ?_ | refine HL.ga rfl ?_ | refine HL.na rfl ?_ | refine HL.nu rfl rfl ?_ | apply HC.block | apply HC.skip | apply HC.exit | apply HC.ret | apply HX.e_block | refine HX.e_other rfl ?_ | apply HX.e_then | apply HX.e_again | apply HX.n_block | apply HX.r_then | apply HX.r_block | apply HX.r_again | refine HC.cond_yes rfl ?_ | refine HC.cond_no rfl ?_ | refine HL.one (H1.ldb rfl memA rfl rfl ?_) | refine HC.cond rfl (fun hc => ?_) (fun hc => ?_) | refine HC.cond_b rfl (fun hc => ?_) (fun hc => ?_))
      exact HX.again (i + 1, a, c) (by show i + 1 ≤ n; omega) (by show n - (i + 1) < n - i; omega) esA (by repeat (first | exact Hs.nil _ | (refine Hs.cons pickA ?_)))
    | true =>
      rw [hb] at hcell
      by_cases hroom : (tnums th i K).length < K
      · have hadd := nums_add hb hroom
        have haddL := nums_addL hb hroom
        repeat' (first | apply HL.fold | apply HA.fold | apply HL.nil | apply HX.n_then | apply HC.seq | apply HC.region | refine HL.pa ?_ | refine HL.ga rfl ?_ | refine HL.na rfl ?_ | refine HL.nu rfl rfl ?_ | apply HC.block | apply HC.skip | apply HC.exit | apply HC.ret | apply HX.e_block | refine HX.e_other rfl ?_ | apply HX.e_then | apply HX.e_again | apply HX.n_block | apply HX.r_then | apply HX.r_block | apply HX.r_again | refine HC.cond_yes rfl ?_ | refine HC.cond_no rfl ?_ | refine HL.one (H1.ldb rfl memA rfl rfl ?_) | refine HC.cond rfl (fun hc => ?_) (fun hc => ?_) | refine HC.cond_b rfl (fun hc => ?_) (fun hc => ?_))
        refine HL.one (H1.ld0 rfl hcell rfl ?_)
        repeat' (first | apply HL.fold | apply HA.fold | apply HL.nil | apply HX.n_then | apply HC.seq | apply HC.region | refine HL.pa ?_ | refine HL.ga rfl ?_ | refine HL.na rfl ?_ | refine HL.nu rfl rfl ?_ | apply HC.block | apply HC.skip | apply HC.exit | apply HC.ret | apply HX.e_block | refine HX.e_other rfl ?_ | apply HX.e_then | apply HX.e_again | apply HX.n_block | apply HX.r_then | apply HX.r_block | apply HX.r_again | refine HC.cond_yes rfl ?_ | refine HC.cond_no rfl ?_ | refine HL.one (H1.ldb rfl memA rfl rfl ?_) | refine HC.cond rfl (fun hc => ?_) (fun hc => ?_) | refine HC.cond_b rfl (fun hc => ?_) (fun hc => ?_))
        refine HL.one (H1.lit (cs := [iv i]) rfl rfl rfl rfl rfl rfl (fun b2 => ?_))
        repeat' (first | apply HL.fold | apply HA.fold | apply HL.nil | apply HX.n_then | apply HC.seq | apply HC.region | refine HL.pa ?_ | refine HL.ga rfl ?_ | refine HL.na rfl ?_ | refine HL.nu rfl rfl ?_ | apply HC.block | apply HC.skip | apply HC.exit | apply HC.ret | apply HX.e_block | refine HX.e_other rfl ?_ | apply HX.e_then | apply HX.e_again | apply HX.n_block | apply HX.r_then | apply HX.r_block | apply HX.r_again | refine HC.cond_yes rfl ?_ | refine HC.cond_no rfl ?_ | refine HL.one (H1.ldb rfl memA rfl rfl ?_) | refine HC.cond rfl (fun hc => ?_) (fun hc => ?_) | refine HC.cond_b rfl (fun hc => ?_) (fun hc => ?_))
        refine HL.one (H1.app1 (u := iv i) rfl rfl (fun _ _ => by first | ((repeat (first | with_reducible exact Rpl.here | with_reducible apply Rpl.there)); done) | (repeat (first | exact Rpl.here | apply Rpl.there))) memA rfl rfl (by omega) rfl rfl (fun a' c' => ?_))
        rw [hadd, haddL]
        repeat' (first | apply HL.fold | apply HA.fold | apply HL.nil | apply HX.n_then | apply HC.seq | apply HC.region | refine HL.pa ?_ | refine HL.ga rfl ?_ | refine HL.na rfl ?_ | refine HL.nu rfl rfl ?_ | apply HC.block | apply HC.skip | apply HC.exit | apply HC.ret | apply HX.e_block | refine HX.e_other rfl ?_ | apply HX.e_then | apply HX.e_again | apply HX.n_block | apply HX.r_then | apply HX.r_block | apply HX.r_again | refine HC.cond_yes rfl ?_ | refine HC.cond_no rfl ?_ | refine HL.one (H1.ldb rfl memA rfl rfl ?_) | refine HC.cond rfl (fun hc => ?_) (fun hc => ?_) | refine HC.cond_b rfl (fun hc => ?_) (fun hc => ?_))
        exact HX.again (i + 1, some ⟨a', 0, none⟩, c') (by show i + 1 ≤ n; omega) (by show n - (i + 1) < n - i; omega) esA (by repeat (first | exact Hs.nil _ | (refine Hs.cons pickA ?_)))
      · have hfu := tnums_full (i := i) hroom
        repeat' (first | apply HL.fold | apply HA.fold | apply HL.nil | apply HX.n_then | apply HC.seq | apply HC.region | refine HL.pa ?_ | refine HL.ga rfl ?_ | refine HL.na rfl ?_ | refine HL.nu rfl rfl ?_ | apply HC.block | apply HC.skip | apply HC.exit | apply HC.ret | apply HX.e_block | refine HX.e_other rfl ?_ | apply HX.e_then | apply HX.e_again | apply HX.n_block | apply HX.r_then | apply HX.r_block | apply HX.r_again | refine HC.cond_yes rfl ?_ | refine HC.cond_no rfl ?_ | refine HL.one (H1.ldb rfl memA rfl rfl ?_) | refine HC.cond rfl (fun hc => ?_) (fun hc => ?_) | refine HC.cond_b rfl (fun hc => ?_) (fun hc => ?_))
        refine HL.one (H1.ld0 rfl hcell rfl ?_)
        rw [← hfu]
        rw [← hfu] at hroom hlen1
        repeat' (first | apply HL.fold | apply HA.fold | apply HL.nil | apply HX.n_then | apply HC.seq | apply HC.region | refine HL.pa ?_ | refine HL.ga rfl ?_ | refine HL.na rfl ?_ | refine HL.nu rfl rfl ?_ | apply HC.block | apply HC.skip | apply HC.exit | apply HC.ret | apply HX.e_block | refine HX.e_other rfl ?_ | apply HX.e_then | apply HX.e_again | apply HX.n_block | apply HX.r_then | apply HX.r_block | apply HX.r_again | refine HC.cond_yes rfl ?_ | refine HC.cond_no rfl ?_ | refine HL.one (H1.ldb rfl memA rfl rfl ?_) | refine HC.cond rfl (fun hc => ?_) (fun hc => ?_) | refine HC.cond_b rfl (fun hc => ?_) (fun hc => ?_))
        exact HX.again (i + 1, a, c) (by show i + 1 ≤ n; omega) (by show n - (i + 1) < n - i; omega) esA (by repeat (first | exact Hs.nil _ | (refine Hs.cons pickA ?_)))
  obtain rfl : n = i := by omega
  have hcN : tnums th n K = cN th K := by unfold cN; rw [h2]
  rw [hcN] at hlen1 hlen2 ⊢
  by_cases h4 : (cN th K).length < K
  · repeat' (first | apply HL.fold | apply HA.fold | apply HL.nil | apply HX.n_then | apply HC.seq | apply HC.region | refine HL.pa ?_ | refine HL.ga rfl ?_ | refine HL.na rfl ?_ | refine HL.nu rfl rfl ?_ | apply HC.block | apply HC.skip | apply HC.exit | apply HC.ret | apply HX.e_block | refine HX.e_other rfl ?_ | apply HX.e_then | apply HX.e_again | apply HX.n_block | apply HX.r_then | apply HX.r_block | apply HX.r_again | refine HC.cond_yes rfl ?_ | refine HC.cond_no rfl ?_ | refine HL.one (H1.ldb rfl memA rfl rfl ?_) | refine HC.cond rfl (fun hc => ?_) (fun hc => ?_) | refine HC.cond_b rfl (fun hc => ?_) (fun hc => ?_))
    exact HX.ret2 rfl rfl rfl fun w' hM => hno hM.ext rfl fun hc => by have := hc.2.2.1; rw [Int.toNat_natCast] at this; omega
  have h4' : (cN th K).length = K := by omega
  have hmemN : ∀ h ∈ cN th K, h < n ∧ tf th h = true := fun h hh => by have := tnums_mem (hcN ▸ hh); exact ⟨by omega, this.2⟩
  rw [h4']
  repeat' (first | apply HL.fold | apply HA.fold | apply HL.nil | apply HX.n_then | apply HC.seq | apply HC.region | refine HL.pa ?_ | refine HL.ga rfl ?_ | refine HL.na rfl ?_ | refine HL.nu rfl rfl ?_ | apply HC.block | apply HC.skip | apply HC.exit | apply HC.ret | apply HX.e_block | refine HX.e_other rfl ?_ | apply HX.e_then | apply HX.e_again | apply HX.n_block | apply HX.r_then | apply HX.r_block | apply HX.r_again | refine HC.cond_yes rfl ?_ | refine HC.cond_no rfl ?_ | refine HL.one (H1.ldb rfl memA rfl rfl ?_) | refine HC.cond rfl (fun hc => ?_) (fun hc => ?_) | refine HC.cond_b rfl (fun hc => ?_) (fun hc => ?_))
  refine HL.rebase fun w1 hM1 => ?_
  have hE1 := hM1.ext
  have hN : Rd w1 (.slice a K c) ((cN th K).map iv) := by
    have h5 := hM1.gr (a := a) (c := c) (n := K) (xs := (cN th K).map iv) (e := 3) memD
    exact h5
  clear hM1
  have hsl : ((cN th K).map iv).length = K := by rw [List.length_map, h4']
  obtain ⟨bn, offn, c4, e3, -, -, -⟩ := hN.at (by intro e; rw [e] at hsl; simp at hsl; omega)
  obtain rfl := (Value.slice.inj e3).1
  have hnm := nu_mem (nums := cN th K) (k := 0) (by omega)
  have hn0 := hmemN _ hnm
  have k0 := hN.cell (nums_iget (nums := cN th K) (k := 0) (by omega))
  have f0 := (hF.ext hE1).cell (strs_get (l := frs) (i := nu (cN th K) 0) (by omega))
  have hMd : (fr frs (nu (cN th K) 0)).size = cM frs th K := by unfold cM; rfl
  generalize hgn : nu (cN th K) 0 = n0 at *
  repeat' (first | apply HL.fold | apply HA.fold | apply HL.nil | apply HX.n_then | apply HC.seq | apply HC.region | refine HL.pa ?_ | refine HL.ga rfl ?_ | refine HL.na rfl ?_ | refine HL.nu rfl rfl ?_ | apply HC.block | apply HC.skip | apply HC.exit | apply HC.ret | apply HX.e_block | refine HX.e_other rfl ?_ | apply HX.e_then | apply HX.e_again | apply HX.n_block | apply HX.r_then | apply HX.r_block | apply HX.r_again | refine HC.cond_yes rfl ?_ | refine HC.cond_no rfl ?_ | refine HL.one (H1.ldb rfl memA rfl rfl ?_) | refine HC.cond rfl (fun hc => ?_) (fun hc => ?_) | refine HC.cond_b rfl (fun hc => ?_) (fun hc => ?_))
  refine HL.one (H1.ld0 rfl k0 rfl ?_)
  repeat' (first | apply HL.fold | apply HA.fold | apply HL.nil | apply HX.n_then | apply HC.seq | apply HC.region | refine HL.pa ?_ | refine HL.ga rfl ?_ | refine HL.na rfl ?_ | refine HL.nu rfl rfl ?_ | apply HC.block | apply HC.skip | apply HC.exit | apply HC.ret | apply HX.e_block | refine HX.e_other rfl ?_ | apply HX.e_then | apply HX.e_again | apply HX.n_block | apply HX.r_then | apply HX.r_block | apply HX.r_again | refine HC.cond_yes rfl ?_ | refine HC.cond_no rfl ?_ | refine HL.one (H1.ldb rfl memA rfl rfl ?_) | refine HC.cond rfl (fun hc => ?_) (fun hc => ?_) | refine HC.cond_b rfl (fun hc => ?_) (fun hc => ?_))
  refine HL.one (H1.ld0 rfl f0 rfl ?_)
  repeat' (first | apply HL.fold | apply HA.fold | apply HL.nil | apply HX.n_then | apply HC.seq | apply HC.region | refine HL.pa ?_ | refine HL.ga rfl ?_ | refine HL.na rfl ?_ | refine HL.nu rfl rfl ?_ | apply HC.block | apply HC.skip | apply HC.exit | apply HC.ret | apply HX.e_block | refine HX.e_other rfl ?_ | apply HX.e_then | apply HX.e_again | apply HX.n_block | apply HX.r_then | apply HX.r_block | apply HX.r_again | refine HC.cond_yes rfl ?_ | refine HC.cond_no rfl ?_ | refine HL.one (H1.ldb rfl memA rfl rfl ?_) | refine HC.cond rfl (fun hc => ?_) (fun hc => ?_) | refine HC.cond_b rfl (fun hc => ?_) (fun hc => ?_))
  rw [hMd]
  have hF1 := hF.ext hE1
  have hT1 := hT.ext hE1
  have hno1 : ∀ {w' : World} {v : Value}, Ext w1 w' → v = .tuple #[.slice none 0 0, .bool false] → ¬ CompOK frs th (K : Int) → _ := fun {w'} {v} hx => hno (w' := w') (v := v) (hE1.trans hx)
  refine HC.loop (α := Nat) (fun i => [(0, .slice (some ⟨bf, off, none⟩) n cf), (1, .slice (some ⟨bt, offt, none⟩) n ct), (2, iv K), (8, iv n), (9, .slice (some ⟨bn, offn, none⟩) K c), (11, iv (cM frs th K)), (12, iv i)])
    (fun _ => []) (fun i => i ≤ n ∧ ∀ q, q < i → tf th q = true → (fr frs q).size = cM frs th K) (fun i => n - i) 0 ⟨Nat.zero_le _, fun q hq => absurd hq (Nat.not_lt_zero q)⟩ esA (by repeat (first | exact Hs.nil _ | (refine Hs.cons pickA ?_))) ?_
  rintro i ⟨hi, hI⟩
  by_cases hlti : i < n
  · have hcell := hT1.cell (bools_get (th := th) (i := i) (by omega))
    have hfc := hF1.cell (strs_get (l := frs) (i := i) (by omega))
    cases hb : tf th i with
    | false =>
      rw [hb] at hcell
      repeat' (first | apply HL.fold | apply HA.fold | apply HL.nil | apply HX.n_then | apply HC.seq | apply HC.region | refine HL.pa ?_ | refine HL.ga rfl ?_ | refine HL.na rfl ?_ | refine HL.nu rfl rfl ?_ | apply HC.block | apply HC.skip | apply HC.exit | apply HC.ret | apply HX.e_block | refine HX.e_other rfl ?_ | apply HX.e_then | apply HX.e_again | apply HX.n_block | apply HX.r_then | apply HX.r_block | apply HX.r_again | refine HC.cond_yes rfl ?_ | refine HC.cond_no rfl ?_ | refine HL.one (H1.ldb rfl memA rfl rfl ?_) | refine HC.cond rfl (fun hc => ?_) (fun hc => ?_) | refine HC.cond_b rfl (fun hc => ?_) (fun hc => ?_))
      refine HL.one (H1.ld0 rfl hcell rfl ?_)
      repeat' (first | apply HL.fold | apply HA.fold | apply HL.nil | apply HX.n_then | apply HC.seq | apply HC.region | refine HL.pa ?_ | refine HL.ga rfl ?_ | refine HL.na rfl ?_ | refine HL.nu rfl rfl ?_ | apply HC.block | apply HC.skip | apply HC.exit | apply HC.ret | apply HX.e_block | refine HX.e_other rfl ?_ | apply HX.e_then | apply HX.e_again | apply HX.n_block | apply HX.r_then | apply HX.r_block | apply HX.r_again | refine HC.cond_yes rfl ?_ | refine HC.cond_no rfl ?_ | refine HL.one (H1.ldb rfl memA rfl rfl ?_) | refine HC.cond rfl (fun hc => ?_) (fun hc => ?_) | refine HC.cond_b rfl (fun hc => ?_) (fun hc => ?_))
      exact HX.again (i + 1) ⟨by omega, fun q hq ht => by
        by_cases e : q = i
        · subst e; rw [hb] at ht; cases ht
        · exact hI q (by omega) ht⟩ (by omega) esA (by repeat (first | exact Hs.nil _ | (refine Hs.cons pickA ?_)))
    | true =>
      rw [hb] at hcell
      by_cases hsz : (fr frs i).size = cM frs th K
      · have hsz' : ((fr frs i).size : Int) = (cM frs th K : Int) := by omega
        repeat' (first | apply HL.fold | apply HA.fold | apply HL.nil | apply HX.n_then | apply HC.seq | apply HC.region | refine HL.pa ?_ | refine HL.ga rfl ?_ | refine HL.na rfl ?_ | refine HL.nu rfl rfl ?_ | apply HC.block | apply HC.skip | apply HC.exit | apply HC.ret | apply HX.e_block | refine HX.e_other rfl ?_ | apply HX.e_then | apply HX.e_again | apply HX.n_block | apply HX.r_then | apply HX.r_block | apply HX.r_again | refine HC.cond_yes rfl ?_ | refine HC.cond_no rfl ?_ | refine HL.one (H1.ldb rfl memA rfl rfl ?_) | refine HC.cond rfl (fun hc => ?_) (fun hc => ?_) | refine HC.cond_b rfl (fun hc => ?_) (fun hc => ?_))
        refine HL.one (H1.ld0 rfl hcell rfl ?_)
        repeat' (first | apply HL.fold | apply HA.fold | apply HL.nil | apply HX.n_then | apply HC.seq | apply HC.region | refine HL.pa ?_ | refine HL.ga rfl ?_ | refine HL.na rfl ?_ | refine HL.nu rfl rfl ?_ | apply HC.block | apply HC.skip | apply HC.exit | apply HC.ret | apply HX.e_block | refine HX.e_other rfl ?_ | apply HX.e_then | apply HX.e_again | apply HX.n_block | apply HX.r_then | apply HX.r_block | apply HX.r_again | refine HC.cond_yes rfl ?_ | refine HC.cond_no rfl ?_ | refine HL.one (H1.ldb rfl memA rfl rfl ?_) | refine HC.cond rfl (fun hc => ?_) (fun hc => ?_) | refine HC.cond_b rfl (fun hc => ?_) (fun hc => ?_))
        refine HL.one (H1.ld0 rfl hfc rfl ?_)
        repeat' (first | apply HL.fold | apply HA.fold | apply HL.nil | apply HX.n_then | apply HC.seq | apply HC.region | refine HL.pa ?_ | refine HL.ga rfl ?_ | refine HL.na rfl ?_ | refine HL.nu rfl rfl ?_ | apply HC.block | apply HC.skip | apply HC.exit | apply HC.ret | apply HX.e_block | refine HX.e_other rfl ?_ | apply HX.e_then | apply HX.e_again | apply HX.n_block | apply HX.r_then | apply HX.r_block | apply HX.r_again | refine HC.cond_yes rfl ?_ | refine HC.cond_no rfl ?_ | refine HL.one (H1.ldb rfl memA rfl rfl ?_) | refine HC.cond rfl (fun hc => ?_) (fun hc => ?_) | refine HC.cond_b rfl (fun hc => ?_) (fun hc => ?_))
        exact HX.again (i + 1) ⟨by omega, fun q hq ht => by
          by_cases e : q = i
          · subst e; exact hsz
          · exact hI q (by omega) ht⟩ (by omega) esA (by repeat (first | exact Hs.nil _ | (refine Hs.cons pickA ?_)))
      · have hsz' : ¬ ((fr frs i).size : Int) = (cM frs th K : Int) := by omega
        repeat' (first | apply HL.fold | apply HA.fold | apply HL.nil | apply HX.n_then | apply HC.seq | apply HC.region | refine HL.pa ?_ | refine HL.ga rfl ?_ | refine HL.na rfl ?_ | refine HL.nu rfl rfl ?_ | apply HC.block | apply HC.skip | apply HC.exit | apply HC.ret | apply HX.e_block | refine HX.e_other rfl ?_ | apply HX.e_then | apply HX.e_again | apply HX.n_block | apply HX.r_then | apply HX.r_block | apply HX.r_again | refine HC.cond_yes rfl ?_ | refine HC.cond_no rfl ?_ | refine HL.one (H1.ldb rfl memA rfl rfl ?_) | refine HC.cond rfl (fun hc => ?_) (fun hc => ?_) | refine HC.cond_b rfl (fun hc => ?_) (fun hc => ?_))
        refine HL.one (H1.ld0 rfl hcell rfl ?_)
        repeat' (first | apply HL.fold | apply HA.fold | apply HL.nil | apply HX.n_then | apply HC.seq | apply HC.region | refine HL.pa ?_ | refine HL.ga rfl ?_ | refine HL.na rfl ?_ | refine HL.nu rfl rfl ?_ | apply HC.block | apply HC.skip | apply HC.exit | apply HC.ret | apply HX.e_block | refine HX.e_other rfl ?_ | apply HX.e_then | apply HX.e_again | apply HX.n_block | apply HX.r_then | apply HX.r_block | apply HX.r_again | refine HC.cond_yes rfl ?_ | refine HC.cond_no rfl ?_ | refine HL.one (H1.ldb rfl memA rfl rfl ?_) | refine HC.cond rfl (fun hc => ?_) (fun hc => ?_) | refine HC.cond_b rfl (fun hc => ?_) (fun hc => ?_))
        refine HL.one (H1.ld0 rfl hfc rfl ?_)
        repeat' (first | apply HL.fold | apply HA.fold | apply HL.nil | apply HX.n_then | apply HC.seq | apply HC.region | refine HL.pa ?_ | refine HL.ga rfl ?_ | refine HL.na rfl ?_ | refine HL.nu rfl rfl ?_ | apply HC.block | apply HC.skip | apply HC.exit | apply HC.ret | apply HX.e_block | refine HX.e_other rfl ?_ | apply HX.e_then | apply HX.e_again | apply HX.n_block | apply HX.r_then | apply HX.r_block | apply HX.r_again | refine HC.cond_yes rfl ?_ | refine HC.cond_no rfl ?_ | refine HL.one (H1.ldb rfl memA rfl rfl ?_) | refine HC.cond rfl (fun hc => ?_) (fun hc => ?_) | refine HC.cond_b rfl (fun hc => ?_) (fun hc => ?_))
        exact HX.ret2 rfl rfl rfl fun w' hM => hno1 hM.ext rfl fun hc => hsz (by have := (hc.2.2.2.1 i (by omega) hb).1; rwa [Int.toNat_natCast] at this)
  obtain rfl : n = i := by omega
  by_cases h5 : cM frs th K ≤ 4096
  rotate_left
  · repeat' (first | apply HL.fold | apply HA.fold | apply HL.nil | apply HX.n_then | apply HC.seq | apply HC.region | refine HL.pa ?_ | refine HL.ga rfl ?_ | refine HL.na rfl ?_ | refine HL.nu rfl rfl ?_ | apply HC.block | apply HC.skip | apply HC.exit | apply HC.ret | apply HX.e_block | refine HX.e_other rfl ?_ | apply HX.e_then | apply HX.e_again | apply HX.n_block | apply HX.r_then | apply HX.r_block | apply HX.r_again | refine HC.cond_yes rfl ?_ | refine HC.cond_no rfl ?_ | refine HL.one (H1.ldb rfl memA rfl rfl ?_) | refine HC.cond rfl (fun hc => ?_) (fun hc => ?_) | refine HC.cond_b rfl (fun hc => ?_) (fun hc => ?_))
    exact HX.ret2 rfl rfl rfl fun w' hM => hno1 hM.ext rfl fun hc => h5 (by have := (hc.2.2.2.1 n0 (by omega) hn0.2).2; rwa [Int.toNat_natCast] at this)
  repeat' (first | apply HL.fold | apply HA.fold | apply HL.nil | apply HX.n_then | apply HC.seq | apply HC.region | refine HL.pa ?_ | refine HL.ga rfl ?_ | refine HL.na rfl ?_ | refine HL.nu rfl rfl ?_ | apply HC.block | apply HC.skip | apply HC.exit | apply HC.ret | apply HX.e_block | refine HX.e_other rfl ?_ | apply HX.e_then | apply HX.e_again | apply HX.n_block | apply HX.r_then | apply HX.r_block | apply HX.r_again | refine HC.cond_yes rfl ?_ | refine HC.cond_no rfl ?_ | refine HL.one (H1.ldb rfl memA rfl rfl ?_) | refine HC.cond rfl (fun hc => ?_) (fun hc => ?_) | refine HC.cond_b rfl (fun hc => ?_) (fun hc => ?_))
  refine HC.grow0 9 1 ?_
  refine HC.loop (α := Nat × Option Addr × Nat) (fun z => [(0, .slice (some ⟨bf, off, none⟩) n cf), (1, .slice (some ⟨bt, offt, none⟩) n ct), (2, iv K), (8, iv n), (9, .slice (some ⟨bn, offn, none⟩) K c), (13, .slice z.2.1 z.1 z.2.2), (14, iv z.1)])
    (fun z => [A.grow 9 1 z.2.1 z.2.2 z.1 (strs ((List.range z.1).map (cOut frs th K)))]) (fun z => z.1 ≤ n ∧ ∀ q, q < z.1 → tf th q = true → cOut frs th K q = fr frs q) (fun z => n - z.1) (0, none, 0) ⟨Nat.zero_le _, fun q hq => absurd hq (Nat.not_lt_zero q)⟩ esA (by repeat (first | exact Hs.nil _ | (refine Hs.cons pickA ?_))) ?_
  rintro ⟨i, ao, co⟩ ⟨hi, hJ⟩
  dsimp only at hi hJ ⊢
  by_cases hlti : i < n
  · have hcell := hT1.cell (bools_get (th := th) (i := i) (by omega))
    have hfc := hF1.cell (strs_get (l := frs) (i := i) (by omega))
    repeat' (first | apply HL.fold | apply HA.fold | apply HL.nil | apply HX.n_then | apply HC.seq | apply HC.region | refine HL.pa ?_ | refine HL.ga rfl ?_ | refine HL.na rfl ?_ | refine HL.nu rfl rfl ?_ | apply HC.block | apply HC.skip | apply HC.exit | apply HC.ret | apply HX.e_block | refine HX.e_other rfl ?_ | apply HX.e_then | apply HX.e_again | apply HX.n_block | apply HX.r_then | apply HX.r_block | apply HX.r_again | refine HC.cond_yes rfl ?_ | refine HC.cond_no rfl ?_ | refine HL.one (H1.ldb rfl memA rfl rfl ?_) | refine HC.cond rfl (fun hc => ?_) (fun hc => ?_) | refine HC.cond_b rfl (fun hc => ?_) (fun hc => ?_))
    refine HL.one (H1.callx (vs := [.slice (some ⟨bf, off, none⟩) n cf, .slice (some ⟨bn, offn, none⟩) K c, iv i]) rfl rfl (fun w' hM => by
      have h6 := at_fn _ _ frs (cN th K) i (cM frs th K) (by omega) (by omega) (by omega) (by omega) (by omega) (fun h hh => ⟨by have := hmemN h hh; omega, hI h (hmemN h hh).1 (hmemN h hh).2⟩) w' (hF1.ext hM.ext) (hN.ext hM.ext)
      rw [atR_out (by omega) (by omega)] at h6
      exact h6) ?_)
    repeat' (first | apply HL.fold | apply HA.fold | apply HL.nil | apply HX.n_then | apply HC.seq | apply HC.region | refine HL.pa ?_ | refine HL.ga rfl ?_ | refine HL.na rfl ?_ | refine HL.nu rfl rfl ?_ | apply HC.block | apply HC.skip | apply HC.exit | apply HC.ret | apply HX.e_block | refine HX.e_other rfl ?_ | apply HX.e_then | apply HX.e_again | apply HX.n_block | apply HX.r_then | apply HX.r_block | apply HX.r_again | refine HC.cond_yes rfl ?_ | refine HC.cond_no rfl ?_ | refine HL.one (H1.ldb rfl memA rfl rfl ?_) | refine HC.cond rfl (fun hc => ?_) (fun hc => ?_) | refine HC.cond_b rfl (fun hc => ?_) (fun hc => ?_))
    cases hb : tf th i with
    | false =>
      rw [hb] at hcell
      refine HL.one (H1.ld0 rfl hcell rfl ?_)
      repeat' (first | apply HL.fold | apply HA.fold | apply HL.nil | apply HX.n_then | apply HC.seq | apply HC.region | refine HL.pa ?_ | refine HL.ga rfl ?_ | refine HL.na rfl ?_ | refine HL.nu rfl rfl ?_ | apply HC.block | apply HC.skip | apply HC.exit | apply HC.ret | apply HX.e_block | refine HX.e_other rfl ?_ | apply HX.e_then | apply HX.e_again | apply HX.n_block | apply HX.r_then | apply HX.r_block | apply HX.r_again | refine HC.cond_yes rfl ?_ | refine HC.cond_no rfl ?_ | refine HL.one (H1.ldb rfl memA rfl rfl ?_) | refine HC.cond rfl (fun hc => ?_) (fun hc => ?_) | refine HC.cond_b rfl (fun hc => ?_) (fun hc => ?_))
      refine HL.one (H1.lit (cs := [.string (cOut frs th K i)]) rfl rfl rfl rfl rfl rfl (fun b2 => ?_))
      repeat' (first | apply HL.fold | apply HA.fold | apply HL.nil | apply HX.n_then | apply HC.seq | apply HC.region | refine HL.pa ?_ | refine HL.ga rfl ?_ | refine HL.na rfl ?_ | refine HL.nu rfl rfl ?_ | apply HC.block | apply HC.skip | apply HC.exit | apply HC.ret | apply HX.e_block | refine HX.e_other rfl ?_ | apply HX.e_then | apply HX.e_again | apply HX.n_block | apply HX.r_then | apply HX.r_block | apply HX.r_again | refine HC.cond_yes rfl ?_ | refine HC.cond_no rfl ?_ | refine HL.one (H1.ldb rfl memA rfl rfl ?_) | refine HC.cond rfl (fun hc => ?_) (fun hc => ?_) | refine HC.cond_b rfl (fun hc => ?_) (fun hc => ?_))
      refine HL.one (H1.app1 (u := .string (cOut frs th K i)) rfl rfl (fun _ _ => by first | ((repeat (first | with_reducible exact Rpl.here | with_reducible apply Rpl.there)); done) | (repeat (first | exact Rpl.here | apply Rpl.there))) memA rfl rfl (by omega) rfl rfl (fun a' c' => ?_))
      rw [outs_step]
      repeat' (first | apply HL.fold | apply HA.fold | apply HL.nil | apply HX.n_then | apply HC.seq | apply HC.region | refine HL.pa ?_ | refine HL.ga rfl ?_ | refine HL.na rfl ?_ | refine HL.nu rfl rfl ?_ | apply HC.block | apply HC.skip | apply HC.exit | apply HC.ret | apply HX.e_block | refine HX.e_other rfl ?_ | apply HX.e_then | apply HX.e_again | apply HX.n_block | apply HX.r_then | apply HX.r_block | apply HX.r_again | refine HC.cond_yes rfl ?_ | refine HC.cond_no rfl ?_ | refine HL.one (H1.ldb rfl memA rfl rfl ?_) | refine HC.cond rfl (fun hc => ?_) (fun hc => ?_) | refine HC.cond_b rfl (fun hc => ?_) (fun hc => ?_))
      exact HX.again (i + 1, some ⟨a', 0, none⟩, c') ⟨by show i + 1 ≤ n; omega, fun q hq ht => by
        by_cases e : q = i
        · subst e; rw [hb] at ht; cases ht
        · exact hJ q (by have : q < i + 1 := hq; omega) ht⟩ (by show n - (i + 1) < n - i; omega) esA (by repeat (first | exact Hs.nil _ | (refine Hs.cons pickA ?_)))
    | true =>
      rw [hb] at hcell
      by_cases hsz : cOut frs th K i = fr frs i
      · rw [← hsz] at hfc
        refine HL.one (H1.ld0 rfl hcell rfl ?_)
        repeat' (first | apply HL.fold | apply HA.fold | apply HL.nil | apply HX.n_then | apply HC.seq | apply HC.region | refine HL.pa ?_ | refine HL.ga rfl ?_ | refine HL.na rfl ?_ | refine HL.nu rfl rfl ?_ | apply HC.block | apply HC.skip | apply HC.exit | apply HC.ret | apply HX.e_block | refine HX.e_other rfl ?_ | apply HX.e_then | apply HX.e_again | apply HX.n_block | apply HX.r_then | apply HX.r_block | apply HX.r_again | refine HC.cond_yes rfl ?_ | refine HC.cond_no rfl ?_ | refine HL.one (H1.ldb rfl memA rfl rfl ?_) | refine HC.cond rfl (fun hc => ?_) (fun hc => ?_) | refine HC.cond_b rfl (fun hc => ?_) (fun hc => ?_))
        refine HL.one (H1.ld0 rfl hfc rfl ?_)
        repeat' (first | apply HL.fold | apply HA.fold | apply HL.nil | apply HX.n_then | apply HC.seq | apply HC.region | refine HL.pa ?_ | refine HL.ga rfl ?_ | refine HL.na rfl ?_ | refine HL.nu rfl rfl ?_ | apply HC.block | apply HC.skip | apply HC.exit | apply HC.ret | apply HX.e_block | refine HX.e_other rfl ?_ | apply HX.e_then | apply HX.e_again | apply HX.n_block | apply HX.r_then | apply HX.r_block | apply HX.r_again | refine HC.cond_yes rfl ?_ | refine HC.cond_no rfl ?_ | refine HL.one (H1.ldb rfl memA rfl rfl ?_) | refine HC.cond rfl (fun hc => ?_) (fun hc => ?_) | refine HC.cond_b rfl (fun hc => ?_) (fun hc => ?_))
        refine HL.one (H1.lit (cs := [.string (cOut frs th K i)]) rfl rfl rfl rfl rfl rfl (fun b2 => ?_))
        repeat' (first | apply HL.fold | apply HA.fold | apply HL.nil | apply HX.n_then | apply HC.seq | apply HC.region | refine HL.pa ?_ | refine HL.ga rfl ?_ | refine HL.na rfl ?_ | refine HL.nu rfl rfl ?_ | apply HC.block | apply HC.skip | apply HC.exit | apply HC.ret | apply HX.e_block | refine HX.e_other rfl ?_ | apply HX.e_then | apply HX.e_again | apply HX.n_block | apply HX.r_then | apply HX.r_block | apply HX.r_again | refine HC.cond_yes rfl ?_ | refine HC.cond_no rfl ?_ | refine HL.one (H1.ldb rfl memA rfl rfl ?_) | refine HC.cond rfl (fun hc => ?_) (fun hc => ?_) | refine HC.cond_b rfl (fun hc => ?_) (fun hc => ?_))
        refine HL.one (H1.app1 (u := .string (cOut frs th K i)) rfl rfl (fun _ _ => by first | ((repeat (first | with_reducible exact Rpl.here | with_reducible apply Rpl.there)); done) | (repeat (first | exact Rpl.here | apply Rpl.there))) memA rfl rfl (by omega) rfl rfl (fun a' c' => ?_))
        rw [outs_step]
        repeat' (first | apply HL.fold | apply HA.fold | apply HL.nil | apply HX.n_then | apply HC.seq | apply HC.region | refine HL.pa ?_ | refine HL.ga rfl ?_ | refine HL.na rfl ?_ | refine HL.nu rfl rfl ?_ | apply HC.block | apply HC.skip | apply HC.exit | apply HC.ret | apply HX.e_block | refine HX.e_other rfl ?_ | apply HX.e_then | apply HX.e_again | apply HX.n_block | apply HX.r_then | apply HX.r_block | apply HX.r_again | refine HC.cond_yes rfl ?_ | refine HC.cond_no rfl ?_ | refine HL.one (H1.ldb rfl memA rfl rfl ?_) | refine HC.cond rfl (fun hc => ?_) (fun hc => ?_) | refine HC.cond_b rfl (fun hc => ?_) (fun hc => ?_))
        exact HX.again (i + 1, some ⟨a', 0, none⟩, c') ⟨by show i + 1 ≤ n; omega, fun q hq ht => by
          by_cases e : q = i
          · subst e; exact hsz
          · exact hJ q (by have : q < i + 1 := hq; omega) ht⟩ (by show n - (i + 1) < n - i; omega) esA (by repeat (first | exact Hs.nil _ | (refine Hs.cons pickA ?_)))
      · refine HL.one (H1.ld0 rfl hcell rfl ?_)
        repeat' (first | apply HL.fold | apply HA.fold | apply HL.nil | apply HX.n_then | apply HC.seq | apply HC.region | refine HL.pa ?_ | refine HL.ga rfl ?_ | refine HL.na rfl ?_ | refine HL.nu rfl rfl ?_ | apply HC.block | apply HC.skip | apply HC.exit | apply HC.ret | apply HX.e_block | refine HX.e_other rfl ?_ | apply HX.e_then | apply HX.e_again | apply HX.n_block | apply HX.r_then | apply HX.r_block | apply HX.r_again | refine HC.cond_yes rfl ?_ | refine HC.cond_no rfl ?_ | refine HL.one (H1.ldb rfl memA rfl rfl ?_) | refine HC.cond rfl (fun hc => ?_) (fun hc => ?_) | refine HC.cond_b rfl (fun hc => ?_) (fun hc => ?_))
        refine HL.one (H1.ld0 rfl hfc rfl ?_)
        repeat' (first | apply HL.fold | apply HA.fold | apply HL.nil | apply HX.n_then | apply HC.seq | apply HC.region | refine HL.pa ?_ | refine HL.ga rfl ?_ | refine HL.na rfl ?_ | refine HL.nu rfl rfl ?_ | apply HC.block | apply HC.skip | apply HC.exit | apply HC.ret | apply HX.e_block | refine HX.e_other rfl ?_ | apply HX.e_then | apply HX.e_again | apply HX.n_block | apply HX.r_then | apply HX.r_block | apply HX.r_again | refine HC.cond_yes rfl ?_ | refine HC.cond_no rfl ?_ | refine HL.one (H1.ldb rfl memA rfl rfl ?_) | refine HC.cond rfl (fun hc => ?_) (fun hc => ?_) | refine HC.cond_b rfl (fun hc => ?_) (fun hc => ?_))
        exact HX.ret2 rfl rfl rfl fun w' hM => hno1 hM.ext rfl fun hc => hsz (by have := hc.2.2.2.2 i (by omega) hb; rwa [Int.toNat_natCast] at this)
  obtain rfl : n = i := by omega
  have hyes : CompOK frs th (K : Int) := ⟨by rw [hn]; exact hisC, by omega, by rw [Int.toNat_natCast]; exact h4', fun i hi ht => by rw [Int.toNat_natCast]; exact ⟨hI i (by omega) ht, h5⟩, fun i hi ht => by rw [Int.toNat_natCast]; exact hJ i (by omega) ht⟩
  have hao : allOut frs th K = (List.range n).map (cOut frs th K) := by unfold allOut; rw [hn]
  rw [← hao]
  repeat' (first | apply HL.fold | apply HA.fold | apply HL.nil | apply HX.n_then | apply HC.seq | apply HC.region | refine HL.pa ?_ | refine HL.ga rfl ?_ | refine HL.na rfl ?_ | refine HL.nu rfl rfl ?_ | apply HC.block | apply HC.skip | apply HC.exit | apply HC.ret | apply HX.e_block | refine HX.e_other rfl ?_ | apply HX.e_then | apply HX.e_again | apply HX.n_block | apply HX.r_then | apply HX.r_block | apply HX.r_again | refine HC.cond_yes rfl ?_ | refine HC.cond_no rfl ?_ | refine HL.one (H1.ldb rfl memA rfl rfl ?_) | refine HC.cond rfl (fun hc => ?_) (fun hc => ?_) | refine HC.cond_b rfl (fun hc => ?_) (fun hc => ?_))
  refine HX.ret2 rfl rfl rfl fun w' hM => ⟨(true, ao, co), ⟨fun _ => hyes, fun _ => rfl⟩, rfl, ?_⟩
  exact hM.down hE1
end Go.Sx

