/- Chapter 18: isExposed. -/
import Derived.Test.YtfjkdciblblalaaGreatDoorT6
namespace Go.Sx
open Go Go.Proofs Go.RowKit
def lf (s : St) : Nat → Nat := fun q => (s.at q).toNat
def St.dec (s : St) : Nat → St
  | 0 => { s with p := s.p - 1 }
  | 1 => { s with r := s.r - 1 }
  | 2 => { s with v := s.v - 1 }
  | _ => { s with l := s.l - 1 }
theorem sc_dec (s : St) {q : Nat} (h : q < 4) : (sc s).set q (zv (s.at q - 1)) = sc (s.dec q) := by
  rcases (show q = 0 ∨ q = 1 ∨ q = 2 ∨ q = 3 by omega) with rfl | rfl | rfl | rfl <;> rfl
theorem dec_at (s : St) {q p : Nat} (h : q < 4) (hp : p < 4) : (s.dec q).at p = if p = q then s.at p - 1 else s.at p := by
  rcases (show q = 0 ∨ q = 1 ∨ q = 2 ∨ q = 3 by omega) with rfl | rfl | rfl | rfl <;> rcases (show p = 0 ∨ p = 1 ∨ p = 2 ∨ p = 3 by omega) with rfl | rfl | rfl | rfl <;> rfl
theorem hit_congr {g : Nat → Nat → Int} {T : List Nat} {left left' : Nat → Nat} {m : Nat} (h : ∀ q, q < 4 → left q = left' q) : Hit g T left m ↔ Hit g T left' m :=
  ⟨fun k => k.mono (fun q hq => Nat.le_of_eq (h q hq)) (Nat.le_refl _), fun k => k.mono (fun q hq => Nat.le_of_eq (h q hq).symm) (Nat.le_refl _)⟩
theorem hit_dec {g : Nat → Nat → Int} {T : List Nat} {s : St} {q m : Nat} (hq : q < 4) : Hit g T (lf (s.dec q)) m ↔ Hit g T (decL (lf s) q) m := hit_congr fun p hp => by
  unfold lf decL
  rw [dec_at s hq hp]
  by_cases e : p = q
  · rw [if_pos e, if_pos e]; show (s.at p - 1).toNat = (s.at p).toNat - 1; omega
  · rw [if_neg e, if_neg e]
def lsum (s : St) : Nat := lf s 0 + lf s 1 + lf s 2 + lf s 3
theorem lsum_dec {s : St} {q : Nat} (hq : q < 4) (h : 0 < s.at q) : lsum (s.dec q) < lsum s := by
  have h0 := dec_at s hq (p := 0) (by decide)
  have h1 := dec_at s hq (p := 1) (by decide)
  have h2 := dec_at s hq (p := 2) (by decide)
  have h3 := dec_at s hq (p := 3) (by decide)
  unfold lsum lf
  rw [h0, h1, h2, h3]
  rcases (show q = 0 ∨ q = 1 ∨ q = 2 ∨ q = 3 by omega) with rfl | rfl | rfl | rfl <;> simp <;> omega
theorem others_mem {g : Nat → Nat → Int} {T : List Nat} {i q j : Nat} (h : j ∈ othersL g T i q) : j ∈ T := (List.mem_filter.1 h).1
theorem others_cut {S : List St} {T : List Nat} {i q : Nat} (hT : ∀ j ∈ T, j < S.length) : (T.filter fun j => decide (j ∉ grp S q S.length (gS S i q))) = othersL (gS S) T i q := by
  unfold othersL
  refine List.filter_congr fun j hj => ?_
  rw [Bool.eq_iff_iff, decide_eq_true_eq, decide_eq_true_eq]
  unfold grp
  rw [List.mem_filter, List.mem_range, decide_eq_true_eq]
  constructor
  · intro h e; exact h ⟨hT j hj, e⟩
  · intro h ⟨_, e⟩; exact h e
theorem born_inj : ∀ {es : List MapEntry}, (es.map (·.born)).Nodup → ∀ {e e' : MapEntry}, e ∈ es → e' ∈ es → e.born = e'.born → e = e'
  | [], _, _, _, he, _, _ => absurd he (by simp)
  | x :: es, h, e, e', he, he', hb => by
    rw [List.map_cons, List.nodup_cons] at h
    rcases List.mem_cons.1 he with h1 | h1 <;> rcases List.mem_cons.1 he' with h2 | h2
    · rw [h1, h2]
    · exact absurd (List.mem_map.2 ⟨e', h2, by rw [← hb, h1]⟩) h.1
    · exact absurd (List.mem_map.2 ⟨e, h1, by rw [hb, h2]⟩) h.1
    · exact born_inj h.2 h1 h2 hb
attribute [local irreducible] WC WL WX POp Then Again Fn NX W1 WA WO QL RP RA Yld LoopAt HC HL HX HN H1 HA HO HQ HB HP A.blk A.grow A.rd A.obj A.mp AgainH CutH
attribute [local irreducible] A.mq A.mit A.dfrs A.loop mapsA A.land
set_option maxHeartbeats 1000000 in
theorem isExposed_fn (S : List St) (hS : S.length ≤ 9) (bx : Nat) : ∀ (s : Nat) (left : St) (T : List Nat) (m : Nat) (w : World), lsum left ≤ s → (∀ q, q < 4 → 0 ≤ left.at q ∧ left.at q ≤ 3) → T.Pairwise (· < ·) → (∀ i ∈ T, i < S.length) → m ≤ 1000 → LandAt w bx S →
    Fn Tryz.prog 46 #[.pointer (some ⟨bx, 0, none⟩), uv (maskOf T), .agg (sc left).toArray, zv (m : Int)] w fun v w' => v = .bool (hitB (gS S) T (lf left) m) ∧ Ext w w' := by
  intro s
  induction s with
  | zero => ?_
  | succ s ih => ?_
  all_goals
    intro left T m w hs hl hT hTS hm hL
    have h9 : ∀ i ∈ T, i < 9 := fun i hi => Nat.lt_of_lt_of_le (hTS i hi) hS
    have hmask : maskOf T < 512 := mask_lt (n := 9) h9
    have hbl := bl_mask hT h9
    refine enterH (l := [_, _, _, _]) rfl (Tryz.ntmps46) rfl ?_
    repeat' (first | apply HL.fold | apply HA.fold | apply HL.nil | apply HX.n_then | apply HC.seq | apply HC.region | refine HL.pa ?_ | refine HL.ga rfl ?_ | refine HL.na rfl ?_ | refine HL.nu rfl rfl ?_ | apply HC.block | apply HC.skip | apply HC.exit | apply HC.ret | apply HX.e_block | refine HX.e_other rfl ?_ | apply HX.e_then | apply HX.e_again | apply HX.n_block | apply HX.r_then | apply HX.r_block | apply HX.r_again | refine HC.cond_yes rfl ?_ | refine HC.cond_no rfl ?_ | refine HL.one (H1.ldb rfl memA rfl rfl ?_) | refine HC.cond rfl (fun hc => ?_) (fun hc => ?_) | refine HC.cond_b rfl (fun hc => ?_) (fun hc => ?_))
    refine HL.one (H1.boxAgg (cs := sc left) rfl rfl (fun b6 => ?_))
    repeat' (first | apply HL.fold | apply HA.fold | apply HL.nil | apply HX.n_then | apply HC.seq | apply HC.region | refine HL.pa ?_ | refine HL.ga rfl ?_ | refine HL.na rfl ?_ | refine HL.nu rfl rfl ?_ | apply HC.block | apply HC.skip | apply HC.exit | apply HC.ret | apply HX.e_block | refine HX.e_other rfl ?_ | apply HX.e_then | apply HX.e_again | apply HX.n_block | apply HX.r_then | apply HX.r_block | apply HX.r_again | refine HC.cond_yes rfl ?_ | refine HC.cond_no rfl ?_ | refine HL.one (H1.ldb rfl memA rfl rfl ?_) | refine HC.cond rfl (fun hc => ?_) (fun hc => ?_) | refine HC.cond_b rfl (fun hc => ?_) (fun hc => ?_))
    refine HL.one (H1.callx (vs := [uv (maskOf T)]) rfl rfl (fun w' _ => size_fn _ hmask w') ?_)
    rw [hbl]
    by_cases hfew : T.length ≤ m
    · have hfew' : (T.length : Int) ≤ (m : Int) := by omega
      repeat' (first | apply HL.fold | apply HA.fold | apply HL.nil | apply HX.n_then | apply HC.seq | apply HC.region | refine HL.pa ?_ | refine HL.ga rfl ?_ | refine HL.na rfl ?_ | refine HL.nu rfl rfl ?_ | apply HC.block | apply HC.skip | apply HC.exit | apply HC.ret | apply HX.e_block | refine HX.e_other rfl ?_ | apply HX.e_then | apply HX.e_again | apply HX.n_block | apply HX.r_then | apply HX.r_block | apply HX.r_again | refine HC.cond_yes rfl ?_ | refine HC.cond_no rfl ?_ | refine HL.one (H1.ldb rfl memA rfl rfl ?_) | refine HC.cond rfl (fun hc => ?_) (fun hc => ?_) | refine HC.cond_b rfl (fun hc => ?_) (fun hc => ?_))
      exact HX.ret1 rfl rfl fun w' hM => ⟨by rw [hitB_iff.2 (Hit.few hfew)], hM.ext⟩
    have hfew' : ¬ (T.length : Int) ≤ (m : Int) := by omega
    repeat' (first | apply HL.fold | apply HA.fold | apply HL.nil | apply HX.n_then | apply HC.seq | apply HC.region | refine HL.pa ?_ | refine HL.ga rfl ?_ | refine HL.na rfl ?_ | refine HL.nu rfl rfl ?_ | apply HC.block | apply HC.skip | apply HC.exit | apply HC.ret | apply HX.e_block | refine HX.e_other rfl ?_ | apply HX.e_then | apply HX.e_again | apply HX.n_block | apply HX.r_then | apply HX.r_block | apply HX.r_again | refine HC.cond_yes rfl ?_ | refine HC.cond_no rfl ?_ | refine HL.one (H1.ldb rfl memA rfl rfl ?_) | refine HC.cond rfl (fun hc => ?_) (fun hc => ?_) | refine HC.cond_b rfl (fun hc => ?_) (fun hc => ?_))
    refine HC.loop (α := Nat) (fun k => [(0, .pointer (some ⟨bx, 0, none⟩)), (1, uv (maskOf T)), (3, zv (m : Int)), (6, .pointer (some ⟨b6, 0, none⟩)), (17, zv (k : Int))]) (fun _ => [A.blk b6 (sc left) 22])
      (fun k => k ≤ 4 ∧ ∀ q, q < k → 0 < lf left q → ∀ i ∈ T, ¬ Hit (gS S) (othersL (gS S) T i q) (decL (lf left) q) m) (fun k => 4 - k) 0 ⟨Nat.zero_le _, fun q hq => absurd hq (Nat.not_lt_zero _)⟩ esA (by repeat (first | exact Hs.nil _ | (refine Hs.cons pickA ?_))) ?_
    rintro k ⟨hk, hno⟩
    by_cases hk4 : k < 4
    rotate_left
    · obtain rfl : k = 4 := by omega
      repeat' (first | apply HL.fold | apply HA.fold | apply HL.nil | apply HX.n_then | apply HC.seq | apply HC.region | refine HL.pa ?_ | refine HL.ga rfl ?_ | refine HL.na rfl ?_ | refine HL.nu rfl rfl ?_ | apply HC.block | apply HC.skip | apply HC.exit | apply HC.ret | apply HX.e_block | refine HX.e_other rfl ?_ | apply HX.e_then | apply HX.e_again | apply HX.n_block | apply HX.r_then | apply HX.r_block | apply HX.r_again | refine HC.cond_yes rfl ?_ | refine HC.cond_no rfl ?_ | refine HL.one (H1.ldb rfl memA rfl rfl ?_) | refine HC.cond rfl (fun hc => ?_) (fun hc => ?_) | refine HC.cond_b rfl (fun hc => ?_) (fun hc => ?_))
      refine HX.ret1 rfl rfl fun w' hM => ⟨?_, hM.ext⟩
      rw [hitB_no.2 fun hh => ?_]
      rcases Hit.step hh with h1 | ⟨q, hq, h0, i, hi, h1⟩
      · exact hfew h1
      · exact hno q hq h0 i hi h1
    have hlk := hl k hk4
    repeat' (first | apply HL.fold | apply HA.fold | apply HL.nil | apply HX.n_then | apply HC.seq | apply HC.region | refine HL.pa ?_ | refine HL.ga rfl ?_ | refine HL.na rfl ?_ | refine HL.nu rfl rfl ?_ | apply HC.block | apply HC.skip | apply HC.exit | apply HC.ret | apply HX.e_block | refine HX.e_other rfl ?_ | apply HX.e_then | apply HX.e_again | apply HX.n_block | apply HX.r_then | apply HX.r_block | apply HX.r_again | refine HC.cond_yes rfl ?_ | refine HC.cond_no rfl ?_ | refine HL.one (H1.ldb rfl memA rfl rfl ?_) | refine HC.cond rfl (fun hc => ?_) (fun hc => ?_) | refine HC.cond_b rfl (fun hc => ?_) (fun hc => ?_))
    refine HL.one (H1.ldb rfl memA (sc_at left hk4) rfl ?_)
    by_cases h0 : left.at k = 0
    · repeat' (first | apply HL.fold | apply HA.fold | apply HL.nil | apply HX.n_then | apply HC.seq | apply HC.region | refine HL.pa ?_ | refine HL.ga rfl ?_ | refine HL.na rfl ?_ | refine HL.nu rfl rfl ?_ | apply HC.block | apply HC.skip | apply HC.exit | apply HC.ret | apply HX.e_block | refine HX.e_other rfl ?_ | apply HX.e_then | apply HX.e_again | apply HX.n_block | apply HX.r_then | apply HX.r_block | apply HX.r_again | refine HC.cond_yes rfl ?_ | refine HC.cond_no rfl ?_ | refine HL.one (H1.ldb rfl memA rfl rfl ?_) | refine HC.cond rfl (fun hc => ?_) (fun hc => ?_) | refine HC.cond_b rfl (fun hc => ?_) (fun hc => ?_))
      refine HX.again (k + 1) ⟨by omega, fun q hq hp => ?_⟩ (by omega) esA (by repeat (first | exact Hs.nil _ | (refine Hs.cons pickA ?_)))
      by_cases e : q = k
      · subst e; unfold lf at hp; omega
      · exact hno q (by omega) hp
    repeat' (first | apply HL.fold | apply HA.fold | apply HL.nil | apply HX.n_then | apply HC.seq | apply HC.region | refine HL.pa ?_ | refine HL.ga rfl ?_ | refine HL.na rfl ?_ | refine HL.nu rfl rfl ?_ | apply HC.block | apply HC.skip | apply HC.exit | apply HC.ret | apply HX.e_block | refine HX.e_other rfl ?_ | apply HX.e_then | apply HX.e_again | apply HX.n_block | apply HX.r_then | apply HX.r_block | apply HX.r_again | refine HC.cond_yes rfl ?_ | refine HC.cond_no rfl ?_ | refine HL.one (H1.ldb rfl memA rfl rfl ?_) | refine HC.cond rfl (fun hc => ?_) (fun hc => ?_) | refine HC.cond_b rfl (fun hc => ?_) (fun hc => ?_))
    refine HL.one (H1.ldAgg (vs := sc left) rfl memA rfl (fun i v hv => by rw [Nat.zero_add]; exact hv) rfl ?_)
    repeat' (first | apply HL.fold | apply HA.fold | apply HL.nil | apply HX.n_then | apply HC.seq | apply HC.region | refine HL.pa ?_ | refine HL.ga rfl ?_ | refine HL.na rfl ?_ | refine HL.nu rfl rfl ?_ | apply HC.block | apply HC.skip | apply HC.exit | apply HC.ret | apply HX.e_block | refine HX.e_other rfl ?_ | apply HX.e_then | apply HX.e_again | apply HX.n_block | apply HX.r_then | apply HX.r_block | apply HX.r_again | refine HC.cond_yes rfl ?_ | refine HC.cond_no rfl ?_ | refine HL.one (H1.ldb rfl memA rfl rfl ?_) | refine HC.cond rfl (fun hc => ?_) (fun hc => ?_) | refine HC.cond_b rfl (fun hc => ?_) (fun hc => ?_))
    refine HL.one (H1.alloc (cs := [zv 0, zv 0, zv 0, zv 0]) rfl rfl (fun b10 => ?_))
    repeat' (first | apply HL.fold | apply HA.fold | apply HL.nil | apply HX.n_then | apply HC.seq | apply HC.region | refine HL.pa ?_ | refine HL.ga rfl ?_ | refine HL.na rfl ?_ | refine HL.nu rfl rfl ?_ | apply HC.block | apply HC.skip | apply HC.exit | apply HC.ret | apply HX.e_block | refine HX.e_other rfl ?_ | apply HX.e_then | apply HX.e_again | apply HX.n_block | apply HX.r_then | apply HX.r_block | apply HX.r_again | refine HC.cond_yes rfl ?_ | refine HC.cond_no rfl ?_ | refine HL.one (H1.ldb rfl memA rfl rfl ?_) | refine HC.cond rfl (fun hc => ?_) (fun hc => ?_) | refine HC.cond_b rfl (fun hc => ?_) (fun hc => ?_))
    refine HL.one (H1.stAgg (cs := [zv 0, zv 0, zv 0, zv 0]) (vs := sc left) rfl rfl rfl (sc_one _) rplA rfl ?_)
    repeat' (first | apply HL.fold | apply HA.fold | apply HL.nil | apply HX.n_then | apply HC.seq | apply HC.region | refine HL.pa ?_ | refine HL.ga rfl ?_ | refine HL.na rfl ?_ | refine HL.nu rfl rfl ?_ | apply HC.block | apply HC.skip | apply HC.exit | apply HC.ret | apply HX.e_block | refine HX.e_other rfl ?_ | apply HX.e_then | apply HX.e_again | apply HX.n_block | apply HX.r_then | apply HX.r_block | apply HX.r_again | refine HC.cond_yes rfl ?_ | refine HC.cond_no rfl ?_ | refine HL.one (H1.ldb rfl memA rfl rfl ?_) | refine HC.cond rfl (fun hc => ?_) (fun hc => ?_) | refine HC.cond_b rfl (fun hc => ?_) (fun hc => ?_))
    refine HL.one (H1.ldb rfl (.head _) (sc_at left hk4) rfl ?_)
    repeat' (first | apply HL.fold | apply HA.fold | apply HL.nil | apply HX.n_then | apply HC.seq | apply HC.region | refine HL.pa ?_ | refine HL.ga rfl ?_ | refine HL.na rfl ?_ | refine HL.nu rfl rfl ?_ | apply HC.block | apply HC.skip | apply HC.exit | apply HC.ret | apply HX.e_block | refine HX.e_other rfl ?_ | apply HX.e_then | apply HX.e_again | apply HX.n_block | apply HX.r_then | apply HX.r_block | apply HX.r_again | refine HC.cond_yes rfl ?_ | refine HC.cond_no rfl ?_ | refine HL.one (H1.ldb rfl memA rfl rfl ?_) | refine HC.cond rfl (fun hc => ?_) (fun hc => ?_) | refine HC.cond_b rfl (fun hc => ?_) (fun hc => ?_))
    refine HL.one (H1.st rfl rfl (by intro _ h; cases h) (by intro _ h; cases h) Rpl.here (show k < 4 from hk4) ?_)
    rw [sc_dec left hk4]
    obtain ⟨b, es, clk, l, hc1, hc2, hmq, hgl⟩ := hL k hk4
    repeat' (first | apply HL.fold | apply HA.fold | apply HL.nil | apply HX.n_then | apply HC.seq | apply HC.region | refine HL.pa ?_ | refine HL.ga rfl ?_ | refine HL.na rfl ?_ | refine HL.nu rfl rfl ?_ | apply HC.block | apply HC.skip | apply HC.exit | apply HC.ret | apply HX.e_block | refine HX.e_other rfl ?_ | apply HX.e_then | apply HX.e_again | apply HX.n_block | apply HX.r_then | apply HX.r_block | apply HX.r_again | refine HC.cond_yes rfl ?_ | refine HC.cond_no rfl ?_ | refine HL.one (H1.ldb rfl memA rfl rfl ?_) | refine HC.cond rfl (fun hc => ?_) (fun hc => ?_) | refine HC.cond_b rfl (fun hc => ?_) (fun hc => ?_))
    refine HL.pa ?_ (POp.nilCheck rfl)
    repeat' (first | apply HL.fold | apply HA.fold | apply HL.nil | apply HX.n_then | apply HC.seq | apply HC.region | refine HL.pa ?_ | refine HL.ga rfl ?_ | refine HL.na rfl ?_ | refine HL.nu rfl rfl ?_ | apply HC.block | apply HC.skip | apply HC.exit | apply HC.ret | apply HX.e_block | refine HX.e_other rfl ?_ | apply HX.e_then | apply HX.e_again | apply HX.n_block | apply HX.r_then | apply HX.r_block | apply HX.r_again | refine HC.cond_yes rfl ?_ | refine HC.cond_no rfl ?_ | refine HL.one (H1.ldb rfl memA rfl rfl ?_) | refine HC.cond rfl (fun hc => ?_) (fun hc => ?_) | refine HC.cond_b rfl (fun hc => ?_) (fun hc => ?_))
    refine HL.one (H1.ld0 rfl hc1 rfl ?_)
    repeat' (first | apply HL.fold | apply HA.fold | apply HL.nil | apply HX.n_then | apply HC.seq | apply HC.region | refine HL.pa ?_ | refine HL.ga rfl ?_ | refine HL.na rfl ?_ | refine HL.nu rfl rfl ?_ | apply HC.block | apply HC.skip | apply HC.exit | apply HC.ret | apply HX.e_block | refine HX.e_other rfl ?_ | apply HX.e_then | apply HX.e_again | apply HX.n_block | apply HX.r_then | apply HX.r_block | apply HX.r_again | refine HC.cond_yes rfl ?_ | refine HC.cond_no rfl ?_ | refine HL.one (H1.ldb rfl memA rfl rfl ?_) | refine HC.cond rfl (fun hc => ?_) (fun hc => ?_) | refine HC.cond_b rfl (fun hc => ?_) (fun hc => ?_))
    have hbw : ∀ (H : List Atom) (w' : World), Mm w H w' → w'.heap[b]? = some (.map es clk) := fun H w' hM => (hM.ext.block b (Array.getElem?_eq_some_iff.1 hc2).1).trans hc2
    refine HL.one (H1.mqrange rfl (hbw _) rfl (fun it => ?_))
    repeat' (first | apply HL.fold | apply HA.fold | apply HL.nil | apply HX.n_then | apply HC.seq | apply HC.region | refine HL.pa ?_ | refine HL.ga rfl ?_ | refine HL.na rfl ?_ | refine HL.nu rfl rfl ?_ | apply HC.block | apply HC.skip | apply HC.exit | apply HC.ret | apply HX.e_block | refine HX.e_other rfl ?_ | apply HX.e_then | apply HX.e_again | apply HX.n_block | apply HX.r_then | apply HX.r_block | apply HX.r_again | refine HC.cond_yes rfl ?_ | refine HC.cond_no rfl ?_ | refine HL.one (H1.ldb rfl memA rfl rfl ?_) | refine HC.cond rfl (fun hc => ?_) (fun hc => ?_) | refine HC.cond_b rfl (fun hc => ?_) (fun hc => ?_))
    refine HC.loop (α := Array Nat) (fun _ => [(0, .pointer (some ⟨bx, 0, none⟩)), (1, uv (maskOf T)), (3, zv (m : Int)), (6, .pointer (some ⟨b6, 0, none⟩)), (10, .pointer (some ⟨b10, 0, none⟩)), (17, zv (k : Int)), (36, .pointer (some ⟨it, 0, none⟩))])
      (fun seen => [A.mit it b clk seen, A.blk b10 (sc (left.dec k)) 22, A.blk b6 (sc left) 22]) (fun seen => ∀ e ∈ es.toList, e.born ∈ seen → ∀ i ∈ T, e.key = .int .i64 (gS S i k) → ¬ Hit (gS S) (othersL (gS S) T i k) (decL (lf left) k) m) (fun seen => mleft es seen) #[] (fun e _ hs => absurd hs (by simp)) esA (by repeat (first | exact Hs.nil _ | (refine Hs.cons pickA ?_))) ?_
    intro seen hseen
    repeat' (first | apply HL.fold | apply HA.fold | apply HL.nil | apply HX.n_then | apply HC.seq | apply HC.region | refine HL.pa ?_ | refine HL.ga rfl ?_ | refine HL.na rfl ?_ | refine HL.nu rfl rfl ?_ | apply HC.block | apply HC.skip | apply HC.exit | apply HC.ret | apply HX.e_block | refine HX.e_other rfl ?_ | apply HX.e_then | apply HX.e_again | apply HX.n_block | apply HX.r_then | apply HX.r_block | apply HX.r_again | refine HC.cond_yes rfl ?_ | refine HC.cond_no rfl ?_ | refine HL.one (H1.ldb rfl memA rfl rfl ?_) | refine HC.cond rfl (fun hc => ?_) (fun hc => ?_) | refine HC.cond_b rfl (fun hc => ?_) (fun hc => ?_))
    refine HL.one (H1.mqnext (H' := fun s => [A.mit it b clk s, A.blk b10 (sc (left.dec k)) 22, A.blk b6 (sc left) 22]) rfl (hbw _) hmq.born (fun s => Rpl.here) rfl (fun hall => ?_) (fun e he hne => ?_))
    · repeat' (first | apply HL.fold | apply HA.fold | apply HL.nil | apply HX.n_then | apply HC.seq | apply HC.region | refine HL.pa ?_ | refine HL.ga rfl ?_ | refine HL.na rfl ?_ | refine HL.nu rfl rfl ?_ | apply HC.block | apply HC.skip | apply HC.exit | apply HC.ret | apply HX.e_block | refine HX.e_other rfl ?_ | apply HX.e_then | apply HX.e_again | apply HX.n_block | apply HX.r_then | apply HX.r_block | apply HX.r_again | refine HC.cond_yes rfl ?_ | refine HC.cond_no rfl ?_ | refine HL.one (H1.ldb rfl memA rfl rfl ?_) | refine HC.cond rfl (fun hc => ?_) (fun hc => ?_) | refine HC.cond_b rfl (fun hc => ?_) (fun hc => ?_))
      refine HX.again (k + 1) ⟨by omega, fun q hq hp i hi => ?_⟩ (by omega) esA (by repeat (first | exact Hs.nil _ | (refine Hs.cons pickA ?_)))
      by_cases e : q = k
      · subst e
        obtain ⟨p, hp1, hp2⟩ := hgl.all i (hTS i hi)
        obtain ⟨e, he, he1, -⟩ := hmq.of hp1
        exact hseen e he (hall e he) i hi (by rw [he1, hp2])
      · exact hno q (by omega) hp i hi
    obtain ⟨p, hp, hkey, hval⟩ := hmq.ent he
    have hval2 := hgl.mem p hp
    have hgm : maskOf (grp S k S.length p.1) < 512 := grp_mask hS
    rw [hkey, hval, hval2]
    repeat' (first | apply HL.fold | apply HA.fold | apply HL.nil | apply HX.n_then | apply HC.seq | apply HC.region | refine HL.pa ?_ | refine HL.ga rfl ?_ | refine HL.na rfl ?_ | refine HL.nu rfl rfl ?_ | apply HC.block | apply HC.skip | apply HC.exit | apply HC.ret | apply HX.e_block | refine HX.e_other rfl ?_ | apply HX.e_then | apply HX.e_again | apply HX.n_block | apply HX.r_then | apply HX.r_block | apply HX.r_again | refine HC.cond_yes rfl ?_ | refine HC.cond_no rfl ?_ | refine HL.one (H1.ldb rfl memA rfl rfl ?_) | refine HC.cond rfl (fun hc => ?_) (fun hc => ?_) | refine HC.cond_b rfl (fun hc => ?_) (fun hc => ?_))
    refine HL.one (H1.mqentry (e := e) rfl (hbw _) he hmq.nd (.head _) rfl ?_)
    rw [hkey, hval, hval2]
    repeat' (first | apply HL.fold | apply HA.fold | apply HL.nil | apply HX.n_then | apply HC.seq | apply HC.region | refine HL.pa ?_ | refine HL.ga rfl ?_ | refine HL.na rfl ?_ | refine HL.nu rfl rfl ?_ | apply HC.block | apply HC.skip | apply HC.exit | apply HC.ret | apply HX.e_block | refine HX.e_other rfl ?_ | apply HX.e_then | apply HX.e_again | apply HX.n_block | apply HX.r_then | apply HX.r_block | apply HX.r_again | refine HC.cond_yes rfl ?_ | refine HC.cond_no rfl ?_ | refine HL.one (H1.ldb rfl memA rfl rfl ?_) | refine HC.cond rfl (fun hc => ?_) (fun hc => ?_) | refine HC.cond_b rfl (fun hc => ?_) (fun hc => ?_))
    refine HL.pa ?_ (POp.and64 rfl rfl rfl rfl (by omega) (by omega))
    by_cases hmt : (0 : Int) < ((maskOf T &&& maskOf (grp S k S.length p.1) : Nat) : Int)
    rotate_left
    · have hno2 : ∀ i ∈ T, i ∉ grp S k S.length p.1 := fun i hi h1 => hmt (by have := mask_meet.2 ⟨i, hi, h1⟩; omega)
      repeat' (first | apply HL.fold | apply HA.fold | apply HL.nil | apply HX.n_then | apply HC.seq | apply HC.region | refine HL.pa ?_ | refine HL.ga rfl ?_ | refine HL.na rfl ?_ | refine HL.nu rfl rfl ?_ | apply HC.block | apply HC.skip | apply HC.exit | apply HC.ret | apply HX.e_block | refine HX.e_other rfl ?_ | apply HX.e_then | apply HX.e_again | apply HX.n_block | apply HX.r_then | apply HX.r_block | apply HX.r_again | refine HC.cond_yes rfl ?_ | refine HC.cond_no rfl ?_ | refine HL.one (H1.ldb rfl memA rfl rfl ?_) | refine HC.cond rfl (fun hc => ?_) (fun hc => ?_) | refine HC.cond_b rfl (fun hc => ?_) (fun hc => ?_))
      refine HX.again (seen.push e.born) (fun e' he' hs' i hi hk' => ?_) (mleft_lt he hne) esA (by repeat (first | exact Hs.nil _ | (refine Hs.cons pickA ?_)))
      rcases Array.mem_push.1 hs' with h1 | h1
      · exact hseen e' he' h1 i hi hk'
      · exfalso
        have e1 : e' = e := born_inj hmq.nd he' he h1
        subst e1
        rw [hkey] at hk'
        injection hk' with _ hk'
        exact hno2 i hi (List.mem_filter.2 ⟨List.mem_range.2 (hTS i hi), decide_eq_true hk'.symm⟩)
    obtain ⟨i0, hi0, hg0⟩ := mask_meet.1 (show 0 < maskOf T &&& maskOf (grp S k S.length p.1) by omega)
    have hgi : p.1 = gS S i0 k := (of_decide_eq_true (List.mem_filter.1 hg0).2).symm
    have hcut : (maskOf T).bitwise (fun a b => a && !b) (maskOf (grp S k S.length p.1)) = maskOf (othersL (gS S) T i0 k) := by rw [mask_cut, hgi, others_cut hTS]
    repeat' (first | apply HL.fold | apply HA.fold | apply HL.nil | apply HX.n_then | apply HC.seq | apply HC.region | refine HL.pa ?_ | refine HL.ga rfl ?_ | refine HL.na rfl ?_ | refine HL.nu rfl rfl ?_ | apply HC.block | apply HC.skip | apply HC.exit | apply HC.ret | apply HX.e_block | refine HX.e_other rfl ?_ | apply HX.e_then | apply HX.e_again | apply HX.n_block | apply HX.r_then | apply HX.r_block | apply HX.r_again | refine HC.cond_yes rfl ?_ | refine HC.cond_no rfl ?_ | refine HL.one (H1.ldb rfl memA rfl rfl ?_) | refine HC.cond rfl (fun hc => ?_) (fun hc => ?_) | refine HC.cond_b rfl (fun hc => ?_) (fun hc => ?_))
    refine HL.pa (v := uv (maskOf (othersL (gS S) T i0 k))) ?_ (by rw [← hcut]; exact POp.cut64 rfl rfl rfl rfl (by omega) (by omega))
    repeat' (first | apply HL.fold | apply HA.fold | apply HL.nil | apply HX.n_then | apply HC.seq | apply HC.region | refine HL.pa ?_ | refine HL.ga rfl ?_ | refine HL.na rfl ?_ | refine HL.nu rfl rfl ?_ | apply HC.block | apply HC.skip | apply HC.exit | apply HC.ret | apply HX.e_block | refine HX.e_other rfl ?_ | apply HX.e_then | apply HX.e_again | apply HX.n_block | apply HX.r_then | apply HX.r_block | apply HX.r_again | refine HC.cond_yes rfl ?_ | refine HC.cond_no rfl ?_ | refine HL.one (H1.ldb rfl memA rfl rfl ?_) | refine HC.cond rfl (fun hc => ?_) (fun hc => ?_) | refine HC.cond_b rfl (fun hc => ?_) (fun hc => ?_))
    refine HL.one (H1.ldAgg (vs := sc (left.dec k)) rfl memA rfl (fun i v hv => by rw [Nat.zero_add]; exact hv) rfl ?_)
    repeat' (first | apply HL.fold | apply HA.fold | apply HL.nil | apply HX.n_then | apply HC.seq | apply HC.region | refine HL.pa ?_ | refine HL.ga rfl ?_ | refine HL.na rfl ?_ | refine HL.nu rfl rfl ?_ | apply HC.block | apply HC.skip | apply HC.exit | apply HC.ret | apply HX.e_block | refine HX.e_other rfl ?_ | apply HX.e_then | apply HX.e_again | apply HX.n_block | apply HX.r_then | apply HX.r_block | apply HX.r_again | refine HC.cond_yes rfl ?_ | refine HC.cond_no rfl ?_ | refine HL.one (H1.ldb rfl memA rfl rfl ?_) | refine HC.cond rfl (fun hc => ?_) (fun hc => ?_) | refine HC.cond_b rfl (fun hc => ?_) (fun hc => ?_))
    have hpos : 0 < left.at k := by omega
    have hlt := lsum_dec hk4 hpos
  · exfalso; omega
  refine HL.one (H1.callx (vs := [.pointer (some ⟨bx, 0, none⟩), uv (maskOf (othersL (gS S) T i0 k)), .agg (sc (left.dec k)).toArray, zv (m : Int)]) rfl rfl (fun w' hM => ih (left.dec k) (othersL (gS S) T i0 k) m w' (by omega) (fun q hq => by
    rw [dec_at left hk4 hq]
    have := hl q hq
    by_cases e : q = k
    · subst e; rw [if_pos rfl]; omega
    · rw [if_neg e]; exact this) (hT.filter _) (fun i hi => hTS i (others_mem hi)) hm (hL.ext hM.ext)) ?_)
  have hdec := hit_dec (g := gS S) (T := othersL (gS S) T i0 k) (s := left) (m := m) hk4
  cases hb : hitB (gS S) (othersL (gS S) T i0 k) (lf (left.dec k)) m with
  | true =>
    repeat' (first | apply HL.fold | apply HA.fold | apply HL.nil | apply HX.n_then | apply HC.seq | apply HC.region | refine HL.pa ?_ | refine HL.ga rfl ?_ | refine HL.na rfl ?_ | refine HL.nu rfl rfl ?_ | apply HC.block | apply HC.skip | apply HC.exit | apply HC.ret | apply HX.e_block | refine HX.e_other rfl ?_ | apply HX.e_then | apply HX.e_again | apply HX.n_block | apply HX.r_then | apply HX.r_block | apply HX.r_again | refine HC.cond_yes rfl ?_ | refine HC.cond_no rfl ?_ | refine HL.one (H1.ldb rfl memA rfl rfl ?_) | refine HC.cond rfl (fun hc => ?_) (fun hc => ?_) | refine HC.cond_b rfl (fun hc => ?_) (fun hc => ?_))
    refine HX.ret1 rfl rfl fun w' hM => ⟨?_, hM.ext⟩
    rw [hitB_iff.2 (Hit.cons hk4 (show 0 < lf left k by unfold lf; omega) (hdec.1 (hitB_iff.1 hb)))]
  | false =>
    repeat' (first | apply HL.fold | apply HA.fold | apply HL.nil | apply HX.n_then | apply HC.seq | apply HC.region | refine HL.pa ?_ | refine HL.ga rfl ?_ | refine HL.na rfl ?_ | refine HL.nu rfl rfl ?_ | apply HC.block | apply HC.skip | apply HC.exit | apply HC.ret | apply HX.e_block | refine HX.e_other rfl ?_ | apply HX.e_then | apply HX.e_again | apply HX.n_block | apply HX.r_then | apply HX.r_block | apply HX.r_again | refine HC.cond_yes rfl ?_ | refine HC.cond_no rfl ?_ | refine HL.one (H1.ldb rfl memA rfl rfl ?_) | refine HC.cond rfl (fun hc => ?_) (fun hc => ?_) | refine HC.cond_b rfl (fun hc => ?_) (fun hc => ?_))
    refine HX.again (seen.push e.born) (fun e' he' hs' i hi hk' => ?_) (mleft_lt he hne) esA (by repeat (first | exact Hs.nil _ | (refine Hs.cons pickA ?_)))
    rcases Array.mem_push.1 hs' with h1 | h1
    · exact hseen e' he' h1 i hi hk'
    · have e1 : e' = e := born_inj hmq.nd he' he h1
      subst e1
      rw [hkey] at hk'
      injection hk' with _ hk'
      have e2 : othersL (gS S) T i k = othersL (gS S) T i0 k := by unfold othersL; rw [← hk', hgi]
      rw [e2]
      exact fun hh => hitB_no.1 hb (hdec.2 hh)
end Go.Sx

