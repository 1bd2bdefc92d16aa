/- Chapter 18: struckBy. -/
import Derived.Test.YtnpnoobknolahaaTH
namespace Go.Sx
open Go Go.Proofs Go.RowKit
def bitI (m p : Nat) : Int := if m.testBit p then 1 else 0
theorem bitI_in (m p : Nat) : 0 ≤ bitI m p ∧ bitI m p ≤ 1 := by unfold bitI; split <;> omega
theorem bitI_eq (m p : Nat) : ((m >>> p : Nat) : Int) % 2 = bitI m p := by
  unfold bitI
  rw [Nat.testBit_eq_decide_div_mod_eq, Nat.shiftRight_eq_div_pow]
  generalize m / 2 ^ p = z
  by_cases h : z % 2 = 1
  · rw [decide_eq_true h, if_pos rfl]; omega
  · rw [decide_eq_false h, if_neg (by decide)]; omega
/-- Custodian i belongs to none of the groups that four sets of groups name. -/
def free4 (S : List St) (a b c e i : Nat) : Bool := decide (bitI a (stAt S i).p.toNat + bitI b (stAt S i).r.toNat + bitI c (stAt S i).v.toNat + bitI e (stAt S i).l.toNat = 0)
/-- Four sets of groups, within a bound, that leave few enough of T. -/
structure Wit (S : List St) (d : Di) (T : List Nat) (a b c e : Nat) : Prop where
  a6 : a < 64
  b6 : b < 64
  c6 : c < 64
  e6 : e < 64
  la : ((somL (a : Int) 6).length : Int) ≤ d.b.p
  lb : ((somL (b : Int) 6).length : Int) ≤ d.b.r
  lc : ((somL (c : Int) 6).length : Int) ≤ d.b.v
  le : ((somL (e : Int) 6).length : Int) ≤ d.b.l
  few : ((T.filter (free4 S a b c e)).length : Int) ≤ d.liars
theorem som_mask {L : List Nat} (hL : ∀ x ∈ L, x < 6) (ha : L.Pairwise (· < ·)) : somL ((maskOf L : Nat) : Int) 6 = L := by
  have h1 : maskOf L < 2 ^ 6 := mask_lt hL
  have e1 : pkI ((maskOf L : Nat) : Int) (2 ^ 6) = ((maskOf L : Nat) : Int) := by
    unfold pkI
    rw [if_neg (by omega), Int.emod_eq_of_lt (by omega) (by omega)]
  unfold somL
  rw [e1, Int.toNat_natCast]
  refine asc_ext ((List.pairwise_lt_range).filter _) ha fun x => ?_
  rw [List.mem_filter, List.mem_range, mask_bit, decide_eq_true_eq]
  exact ⟨fun h => h.2, fun h => ⟨hL x h, h⟩⟩
def grpL (G : List Int) : List Nat := (List.range 6).filter fun x => decide ((x : Int) ∈ G)
theorem grpL_len (G : List Int) : (grpL G).length ≤ G.length := by
  have h : (natI (grpL G)).length ≤ G.length := by
    have key : ∀ {l L : List Int}, l.Nodup → (∀ x ∈ l, x ∈ L) → l.length ≤ L.length := by
      intro l
      induction l with
      | nil => intro L _ _; exact Nat.zero_le _
      | cons x l ih =>
        intro L h hs
        rw [List.nodup_cons] at h
        have h1 := ih (L := L.erase x) h.2 fun y hy => (List.mem_erase_of_ne fun e => h.1 (by rw [← e]; exact hy)).2 (hs y (List.Mem.tail _ hy))
        have hx := hs x (List.Mem.head _)
        rw [List.length_erase_of_mem hx] at h1
        have := List.length_pos_of_mem hx
        rw [List.length_cons]; omega
    refine key (natI_nodup ((List.pairwise_lt_range).filter _)) fun x hx => ?_
    obtain ⟨i, hi, rfl⟩ := List.mem_map.1 hx
    exact of_decide_eq_true (List.mem_filter.1 hi).2
  rwa [natI_len] at h
theorem grpL_bit {G : List Int} {x : Int} (h0 : 0 ≤ x) (h5 : x ≤ 5) : bitI (maskOf (grpL G)) x.toNat = if x ∈ G then 1 else 0 := by
  unfold bitI
  rw [mask_bit]
  have e : x.toNat ∈ grpL G ↔ x ∈ G := by
    unfold grpL
    rw [List.mem_filter, List.mem_range, decide_eq_true_eq, Int.toNat_of_nonneg h0]
    exact ⟨fun h => h.2, fun h => ⟨by omega, h⟩⟩
  by_cases h : x ∈ G
  · rw [if_pos (decide_eq_true (e.2 h)), if_pos h]
  · rw [if_neg (by rw [decide_eq_true_eq]; exact fun h2 => h (e.1 h2)), if_neg h]
theorem wit_of {S : List St} {d : Di} {T : List Nat} (hv : pvalid S d = true) (hT : ∀ i ∈ T, i < S.length) (h : Hit (gS S) T d.left d.m) : ∃ a b c e, Wit S d T a b c e := by
  have hpv := pvalid_ok hv
  obtain ⟨G, h1, h2⟩ := h
  have hb : ∀ q, q < 4 → (((grpL (G q)).length : Nat) : Int) ≤ d.b.at q := fun q hq => by
    have := h1 q hq
    have h3 := grpL_len (G q)
    have h4 := hpv.bound q
    unfold Di.left at this
    omega
  have h6 : ∀ q, ∀ x ∈ grpL (G q), x < 6 := fun q x hx => List.mem_range.1 (List.mem_filter.1 hx).1
  have hasc : ∀ q, (grpL (G q)).Pairwise (· < ·) := fun q => (List.pairwise_lt_range).filter _
  have hlt : ∀ q, maskOf (grpL (G q)) < 64 := fun q => mask_lt (n := 6) (h6 q)
  refine ⟨maskOf (grpL (G 0)), maskOf (grpL (G 1)), maskOf (grpL (G 2)), maskOf (grpL (G 3)), hlt 0, hlt 1, hlt 2, hlt 3, ?_, ?_, ?_, ?_, ?_⟩
  · rw [som_mask (h6 0) (hasc 0)]; exact hb 0 (by decide)
  · rw [som_mask (h6 1) (hasc 1)]; exact hb 1 (by decide)
  · rw [som_mask (h6 2) (hasc 2)]; exact hb 2 (by decide)
  · rw [som_mask (h6 3) (hasc 3)]; exact hb 3 (by decide)
  · have e : (T.filter (free4 S (maskOf (grpL (G 0))) (maskOf (grpL (G 1))) (maskOf (grpL (G 2))) (maskOf (grpL (G 3))))) = T.filter (freeB (gS S) G) := List.filter_congr fun i hi => by
      have hs := hpv.site i (hT i hi)
      have b0 := grpL_bit (G := G 0) (hs 0).1 (hs 0).2
      have b1 := grpL_bit (G := G 1) (hs 1).1 (hs 1).2
      have b2 := grpL_bit (G := G 2) (hs 2).1 (hs 2).2
      have b3 := grpL_bit (G := G 3) (hs 3).1 (hs 3).2
      rw [Bool.eq_iff_iff, freeB_iff]
      unfold free4
      rw [decide_eq_true_eq]
      show bitI (maskOf (grpL (G 0))) (gS S i 0).toNat + bitI (maskOf (grpL (G 1))) (gS S i 1).toNat + bitI (maskOf (grpL (G 2))) (gS S i 2).toNat + bitI (maskOf (grpL (G 3))) (gS S i 3).toNat = 0 ↔ _
      rw [b0, b1, b2, b3]
      constructor
      · intro h q hq hm
        rcases (show q = 0 ∨ q = 1 ∨ q = 2 ∨ q = 3 by omega) with rfl | rfl | rfl | rfl <;> rw [if_pos hm] at h <;> (repeat' split at h) <;> omega
      · intro h
        rw [if_neg (h 0 (by decide)), if_neg (h 1 (by decide)), if_neg (h 2 (by decide)), if_neg (h 3 (by decide))]; rfl
    rw [e]
    have h3 := hpv.l0
    unfold Di.m at h2
    omega
theorem free_step {l : List Nat} {i : Nat} (p : Nat → Bool) (h : i < l.length) : ((l.take (i + 1)).filter p).length = ((l.take i).filter p).length + (if p l[i] = true then 1 else 0) := by
  rw [List.take_succ_eq_append_getElem h, List.filter_append, List.length_append]
  congr 1
  cases hp : p l[i] <;> simp [hp]
attribute [local irreducible] WC WL WX POp Then Again Fn NX W1 WA WO QL RP RA Yld LoopAt HC HL HX HN H1 HA HO HQ HB HP A.blk A.grow A.rd A.obj A.mp AgainH CutH
attribute [local irreducible] A.mq A.mit A.dfrs A.loop mapsA A.land A.pure chk best
set_option maxHeartbeats 4000000 in
theorem struckBy_fn (v : Value) (S : List St) (d : Di) (u : Value) (T : List Nat) (hS : S.length ≤ 9) (hTl : T.length ≤ 9) (hTS : ∀ i ∈ T, i < S.length) (hv : pvalid S d = true) {A0 B0 C0 D0 : Nat} (hW : Wit S d T A0 B0 C0 D0) (w : World) (hR : RdS w v S) (hT : Rd w u (ints (natI T))) :
    Fn Try.prog 23 #[v, .agg d.cells.toArray, u] w fun x w' => x = .bool true ∧ Ext w w' := by
  have hpv := pvalid_ok hv
  obtain ⟨hA, hB, hC, hD, hlA, hlB, hlC, hlD, hfew⟩ := hW
  obtain ⟨aS, cS, rfl, hcS⟩ := hR.shape
  obtain ⟨aT, cT, rfl, hcT⟩ := hT.isInts
  rw [natI_len] at *
  refine enterH (l := [_, _, _]) rfl Try.ntmps23 rfl ?_
  repeat' (first | apply HL.fold | apply HA.fold | apply HL.nil | apply HX.n_then | apply HC.seq | apply HC.region | refine HL.pa ?_ | refine HL.ga rfl ?_ | refine HL.na rfl ?_ | refine HL.nu rfl rfl ?_ | apply HC.block | apply HC.skip | apply HC.exit | apply HC.ret | apply HX.e_block | refine HX.e_other rfl ?_ | apply HX.e_then | apply HX.e_again | apply HX.n_block | apply HX.r_then | apply HX.r_block | apply HX.r_again | refine HC.cond_yes rfl ?_ | refine HC.cond_no rfl ?_ | refine HL.one (H1.ldb rfl memA rfl rfl ?_) | refine HC.cond rfl (fun hc => ?_) (fun hc => ?_) | refine HC.cond_b rfl (fun hc => ?_) (fun hc => ?_))
  refine HL.one (H1.boxAgg (cs := d.cells) rfl rfl (fun b4 => ?_))
  repeat' (first | apply HL.fold | apply HA.fold | apply HL.nil | apply HX.n_then | apply HC.seq | apply HC.region | refine HL.pa ?_ | refine HL.ga rfl ?_ | refine HL.na rfl ?_ | refine HL.nu rfl rfl ?_ | apply HC.block | apply HC.skip | apply HC.exit | apply HC.ret | apply HX.e_block | refine HX.e_other rfl ?_ | apply HX.e_then | apply HX.e_again | apply HX.n_block | apply HX.r_then | apply HX.r_block | apply HX.r_again | refine HC.cond_yes rfl ?_ | refine HC.cond_no rfl ?_ | refine HL.one (H1.ldb rfl memA rfl rfl ?_) | refine HC.cond rfl (fun hc => ?_) (fun hc => ?_) | refine HC.cond_b rfl (fun hc => ?_) (fun hc => ?_))
  refine HC.loop (α := Nat) (fun a => [(0, .slice aS S.length cS), (2, .slice aT T.length cT), (4, .pointer (some ⟨b4, 0, none⟩)), (7, zv (a : Int))]) (fun _ => [A.blk b4 d.cells 24]) (fun a => a ≤ A0) (fun a => 64 - a) 0 (Nat.zero_le _) esA (by repeat (first | exact Hs.nil _ | (refine Hs.cons pickA ?_))) ?_
  intro a ha
  have ha64 : (a : Int) < 64 := by omega
  repeat' (first | apply HL.fold | apply HA.fold | apply HL.nil | apply HX.n_then | apply HC.seq | apply HC.region | refine HL.pa ?_ | refine HL.ga rfl ?_ | refine HL.na rfl ?_ | refine HL.nu rfl rfl ?_ | apply HC.block | apply HC.skip | apply HC.exit | apply HC.ret | apply HX.e_block | refine HX.e_other rfl ?_ | apply HX.e_then | apply HX.e_again | apply HX.n_block | apply HX.r_then | apply HX.r_block | apply HX.r_again | refine HC.cond_yes rfl ?_ | refine HC.cond_no rfl ?_ | refine HL.one (H1.ldb rfl memA rfl rfl ?_) | refine HC.cond rfl (fun hc => ?_) (fun hc => ?_) | refine HC.cond_b rfl (fun hc => ?_) (fun hc => ?_))
  refine HL.one (H1.callz1 (vs := [zv (a : Int), zv (6 : Nat)]) rfl rfl (fun w' _ => some_fn (a : Int) 6 ⟨by omega, by omega⟩ (by decide) w') ?_)
  rintro ⟨a8, c8⟩ -
  dsimp only
  repeat' (first | apply HL.fold | apply HA.fold | apply HL.nil | apply HX.n_then | apply HC.seq | apply HC.region | refine HL.pa ?_ | refine HL.ga rfl ?_ | refine HL.na rfl ?_ | refine HL.nu rfl rfl ?_ | apply HC.block | apply HC.skip | apply HC.exit | apply HC.ret | apply HX.e_block | refine HX.e_other rfl ?_ | apply HX.e_then | apply HX.e_again | apply HX.n_block | apply HX.r_then | apply HX.r_block | apply HX.r_again | refine HC.cond_yes rfl ?_ | refine HC.cond_no rfl ?_ | refine HL.one (H1.ldb rfl memA rfl rfl ?_) | refine HC.cond rfl (fun hc => ?_) (fun hc => ?_) | refine HC.cond_b rfl (fun hc => ?_) (fun hc => ?_))
  refine HC.loop (α := Nat) (fun b => [(0, .slice aS S.length cS), (2, .slice aT T.length cT), (4, .pointer (some ⟨b4, 0, none⟩)), (7, zv (a : Int)), (8, .slice a8 (somL (a : Int) 6).length c8), (9, zv (b : Int))]) (fun _ => [A.blk b4 d.cells 24]) (fun b => b ≤ 64 ∧ (a = A0 → b ≤ B0)) (fun b => 64 - b) 0 ⟨Nat.zero_le _, fun _ => Nat.zero_le _⟩ esA (by repeat (first | exact Hs.nil _ | (refine Hs.cons pickA ?_))) ?_
  rintro b ⟨hb, hbB⟩
  by_cases hgo : (b : Int) < 64 ∧ ((somL (a : Int) 6).length : Int) ≤ d.b.p
  rotate_left
  · have hne : a ≠ A0 := fun e => by
      subst e
      have := hbB rfl
      exact hgo ⟨by omega, hlA⟩
    by_cases h64 : (b : Int) < 64
    · have hno : ¬ ((somL (a : Int) 6).length : Int) ≤ d.b.p := fun h => hgo ⟨h64, h⟩
      repeat' (first | apply HL.fold | apply HA.fold | apply HL.nil | apply HX.n_then | apply HC.seq | apply HC.region | refine HL.pa ?_ | refine HL.ga rfl ?_ | refine HL.na rfl ?_ | refine HL.nu rfl rfl ?_ | apply HC.block | apply HC.skip | apply HC.exit | apply HC.ret | apply HX.e_block | refine HX.e_other rfl ?_ | apply HX.e_then | apply HX.e_again | apply HX.n_block | apply HX.r_then | apply HX.r_block | apply HX.r_again | refine HC.cond_yes rfl ?_ | refine HC.cond_no rfl ?_ | refine HL.one (H1.ldb rfl memA rfl rfl ?_) | refine HC.cond rfl (fun hc => ?_) (fun hc => ?_) | refine HC.cond_b rfl (fun hc => ?_) (fun hc => ?_))
      exact HX.again (a + 1) (by omega) (by omega) esA (by repeat (first | exact Hs.nil _ | (refine Hs.cons pickA ?_)))
    · repeat' (first | apply HL.fold | apply HA.fold | apply HL.nil | apply HX.n_then | apply HC.seq | apply HC.region | refine HL.pa ?_ | refine HL.ga rfl ?_ | refine HL.na rfl ?_ | refine HL.nu rfl rfl ?_ | apply HC.block | apply HC.skip | apply HC.exit | apply HC.ret | apply HX.e_block | refine HX.e_other rfl ?_ | apply HX.e_then | apply HX.e_again | apply HX.n_block | apply HX.r_then | apply HX.r_block | apply HX.r_again | refine HC.cond_yes rfl ?_ | refine HC.cond_no rfl ?_ | refine HL.one (H1.ldb rfl memA rfl rfl ?_) | refine HC.cond rfl (fun hc => ?_) (fun hc => ?_) | refine HC.cond_b rfl (fun hc => ?_) (fun hc => ?_))
      exact HX.again (a + 1) (by omega) (by omega) esA (by repeat (first | exact Hs.nil _ | (refine Hs.cons pickA ?_)))
  obtain ⟨hb64, hla⟩ := hgo
  repeat' (first | apply HL.fold | apply HA.fold | apply HL.nil | apply HX.n_then | apply HC.seq | apply HC.region | refine HL.pa ?_ | refine HL.ga rfl ?_ | refine HL.na rfl ?_ | refine HL.nu rfl rfl ?_ | apply HC.block | apply HC.skip | apply HC.exit | apply HC.ret | apply HX.e_block | refine HX.e_other rfl ?_ | apply HX.e_then | apply HX.e_again | apply HX.n_block | apply HX.r_then | apply HX.r_block | apply HX.r_again | refine HC.cond_yes rfl ?_ | refine HC.cond_no rfl ?_ | refine HL.one (H1.ldb rfl memA rfl rfl ?_) | refine HC.cond rfl (fun hc => ?_) (fun hc => ?_) | refine HC.cond_b rfl (fun hc => ?_) (fun hc => ?_))
  refine HL.one (H1.callz1 (vs := [zv (b : Int), zv (6 : Nat)]) rfl rfl (fun w' _ => some_fn (b : Int) 6 ⟨by omega, by omega⟩ (by decide) w') ?_)
  rintro ⟨a10, c10⟩ -
  dsimp only
  repeat' (first | apply HL.fold | apply HA.fold | apply HL.nil | apply HX.n_then | apply HC.seq | apply HC.region | refine HL.pa ?_ | refine HL.ga rfl ?_ | refine HL.na rfl ?_ | refine HL.nu rfl rfl ?_ | apply HC.block | apply HC.skip | apply HC.exit | apply HC.ret | apply HX.e_block | refine HX.e_other rfl ?_ | apply HX.e_then | apply HX.e_again | apply HX.n_block | apply HX.r_then | apply HX.r_block | apply HX.r_again | refine HC.cond_yes rfl ?_ | refine HC.cond_no rfl ?_ | refine HL.one (H1.ldb rfl memA rfl rfl ?_) | refine HC.cond rfl (fun hc => ?_) (fun hc => ?_) | refine HC.cond_b rfl (fun hc => ?_) (fun hc => ?_))
  refine HC.loop (α := Nat) (fun c => [(0, .slice aS S.length cS), (2, .slice aT T.length cT), (4, .pointer (some ⟨b4, 0, none⟩)), (7, zv (a : Int)), (8, .slice a8 (somL (a : Int) 6).length c8), (9, zv (b : Int)), (10, .slice a10 (somL (b : Int) 6).length c10), (11, zv (c : Int))]) (fun _ => [A.blk b4 d.cells 24]) (fun c => c ≤ 64 ∧ (a = A0 → b = B0 → c ≤ C0)) (fun c => 64 - c) 0 ⟨Nat.zero_le _, fun _ _ => Nat.zero_le _⟩ esA (by repeat (first | exact Hs.nil _ | (refine Hs.cons pickA ?_))) ?_
  rintro c ⟨hc, hcC⟩
  by_cases hgo : (c : Int) < 64 ∧ ((somL (b : Int) 6).length : Int) ≤ d.b.r
  rotate_left
  · have hne : a = A0 → b ≠ B0 := fun e e2 => by
      subst e; subst e2
      have := hcC rfl rfl
      exact hgo ⟨by omega, hlB⟩
    by_cases h64 : (c : Int) < 64
    · have hno : ¬ ((somL (b : Int) 6).length : Int) ≤ d.b.r := fun h => hgo ⟨h64, h⟩
      repeat' (first | apply HL.fold | apply HA.fold | apply HL.nil | apply HX.n_then | apply HC.seq | apply HC.region | refine HL.pa ?_ | refine HL.ga rfl ?_ | refine HL.na rfl ?_ | refine HL.nu rfl rfl ?_ | apply HC.block | apply HC.skip | apply HC.exit | apply HC.ret | apply HX.e_block | refine HX.e_other rfl ?_ | apply HX.e_then | apply HX.e_again | apply HX.n_block | apply HX.r_then | apply HX.r_block | apply HX.r_again | refine HC.cond_yes rfl ?_ | refine HC.cond_no rfl ?_ | refine HL.one (H1.ldb rfl memA rfl rfl ?_) | refine HC.cond rfl (fun hc => ?_) (fun hc => ?_) | refine HC.cond_b rfl (fun hc => ?_) (fun hc => ?_))
      exact HX.again (b + 1) ⟨by omega, fun e => by have h1 := hbB e; have h2 := hne e; omega⟩ (by omega) esA (by repeat (first | exact Hs.nil _ | (refine Hs.cons pickA ?_)))
    · repeat' (first | apply HL.fold | apply HA.fold | apply HL.nil | apply HX.n_then | apply HC.seq | apply HC.region | refine HL.pa ?_ | refine HL.ga rfl ?_ | refine HL.na rfl ?_ | refine HL.nu rfl rfl ?_ | apply HC.block | apply HC.skip | apply HC.exit | apply HC.ret | apply HX.e_block | refine HX.e_other rfl ?_ | apply HX.e_then | apply HX.e_again | apply HX.n_block | apply HX.r_then | apply HX.r_block | apply HX.r_again | refine HC.cond_yes rfl ?_ | refine HC.cond_no rfl ?_ | refine HL.one (H1.ldb rfl memA rfl rfl ?_) | refine HC.cond rfl (fun hc => ?_) (fun hc => ?_) | refine HC.cond_b rfl (fun hc => ?_) (fun hc => ?_))
      exact HX.again (b + 1) ⟨by omega, fun e => by have h1 := hbB e; have h2 := hne e; omega⟩ (by omega) esA (by repeat (first | exact Hs.nil _ | (refine Hs.cons pickA ?_)))
  obtain ⟨hc64, hlb⟩ := hgo
  repeat' (first | apply HL.fold | apply HA.fold | apply HL.nil | apply HX.n_then | apply HC.seq | apply HC.region | refine HL.pa ?_ | refine HL.ga rfl ?_ | refine HL.na rfl ?_ | refine HL.nu rfl rfl ?_ | apply HC.block | apply HC.skip | apply HC.exit | apply HC.ret | apply HX.e_block | refine HX.e_other rfl ?_ | apply HX.e_then | apply HX.e_again | apply HX.n_block | apply HX.r_then | apply HX.r_block | apply HX.r_again | refine HC.cond_yes rfl ?_ | refine HC.cond_no rfl ?_ | refine HL.one (H1.ldb rfl memA rfl rfl ?_) | refine HC.cond rfl (fun hc => ?_) (fun hc => ?_) | refine HC.cond_b rfl (fun hc => ?_) (fun hc => ?_))
  refine HL.one (H1.callz1 (vs := [zv (c : Int), zv (6 : Nat)]) rfl rfl (fun w' _ => some_fn (c : Int) 6 ⟨by omega, by omega⟩ (by decide) w') ?_)
  rintro ⟨a12, c12⟩ -
  dsimp only
  repeat' (first | apply HL.fold | apply HA.fold | apply HL.nil | apply HX.n_then | apply HC.seq | apply HC.region | refine HL.pa ?_ | refine HL.ga rfl ?_ | refine HL.na rfl ?_ | refine HL.nu rfl rfl ?_ | apply HC.block | apply HC.skip | apply HC.exit | apply HC.ret | apply HX.e_block | refine HX.e_other rfl ?_ | apply HX.e_then | apply HX.e_again | apply HX.n_block | apply HX.r_then | apply HX.r_block | apply HX.r_again | refine HC.cond_yes rfl ?_ | refine HC.cond_no rfl ?_ | refine HL.one (H1.ldb rfl memA rfl rfl ?_) | refine HC.cond rfl (fun hc => ?_) (fun hc => ?_) | refine HC.cond_b rfl (fun hc => ?_) (fun hc => ?_))
  refine HC.loop (α := Nat) (fun e => [(0, .slice aS S.length cS), (2, .slice aT T.length cT), (4, .pointer (some ⟨b4, 0, none⟩)), (7, zv (a : Int)), (8, .slice a8 (somL (a : Int) 6).length c8), (9, zv (b : Int)), (10, .slice a10 (somL (b : Int) 6).length c10), (11, zv (c : Int)), (12, .slice a12 (somL (c : Int) 6).length c12), (13, zv (e : Int))]) (fun _ => [A.blk b4 d.cells 24]) (fun e => e ≤ 64 ∧ (a = A0 → b = B0 → c = C0 → e ≤ D0)) (fun e => 64 - e) 0 ⟨Nat.zero_le _, fun _ _ _ => Nat.zero_le _⟩ esA (by repeat (first | exact Hs.nil _ | (refine Hs.cons pickA ?_))) ?_
  rintro e ⟨he, heD⟩
  by_cases hgo : (e : Int) < 64 ∧ ((somL (c : Int) 6).length : Int) ≤ d.b.v
  rotate_left
  · have hne : a = A0 → b = B0 → c ≠ C0 := fun e1 e2 e3 => by
      subst e1; subst e2; subst e3
      have := heD rfl rfl rfl
      exact hgo ⟨by omega, hlC⟩
    by_cases h64 : (e : Int) < 64
    · have hno : ¬ ((somL (c : Int) 6).length : Int) ≤ d.b.v := fun h => hgo ⟨h64, h⟩
      repeat' (first | apply HL.fold | apply HA.fold | apply HL.nil | apply HX.n_then | apply HC.seq | apply HC.region | refine HL.pa ?_ | refine HL.ga rfl ?_ | refine HL.na rfl ?_ | refine HL.nu rfl rfl ?_ | apply HC.block | apply HC.skip | apply HC.exit | apply HC.ret | apply HX.e_block | refine HX.e_other rfl ?_ | apply HX.e_then | apply HX.e_again | apply HX.n_block | apply HX.r_then | apply HX.r_block | apply HX.r_again | refine HC.cond_yes rfl ?_ | refine HC.cond_no rfl ?_ | refine HL.one (H1.ldb rfl memA rfl rfl ?_) | refine HC.cond rfl (fun hc => ?_) (fun hc => ?_) | refine HC.cond_b rfl (fun hc => ?_) (fun hc => ?_))
      exact HX.again (c + 1) ⟨by omega, fun e1 e2 => by have h1 := hcC e1 e2; have h2 := hne e1 e2; omega⟩ (by omega) esA (by repeat (first | exact Hs.nil _ | (refine Hs.cons pickA ?_)))
    · repeat' (first | apply HL.fold | apply HA.fold | apply HL.nil | apply HX.n_then | apply HC.seq | apply HC.region | refine HL.pa ?_ | refine HL.ga rfl ?_ | refine HL.na rfl ?_ | refine HL.nu rfl rfl ?_ | apply HC.block | apply HC.skip | apply HC.exit | apply HC.ret | apply HX.e_block | refine HX.e_other rfl ?_ | apply HX.e_then | apply HX.e_again | apply HX.n_block | apply HX.r_then | apply HX.r_block | apply HX.r_again | refine HC.cond_yes rfl ?_ | refine HC.cond_no rfl ?_ | refine HL.one (H1.ldb rfl memA rfl rfl ?_) | refine HC.cond rfl (fun hc => ?_) (fun hc => ?_) | refine HC.cond_b rfl (fun hc => ?_) (fun hc => ?_))
      exact HX.again (c + 1) ⟨by omega, fun e1 e2 => by have h1 := hcC e1 e2; have h2 := hne e1 e2; omega⟩ (by omega) esA (by repeat (first | exact Hs.nil _ | (refine Hs.cons pickA ?_)))
  obtain ⟨he64, hlc⟩ := hgo
  repeat' (first | apply HL.fold | apply HA.fold | apply HL.nil | apply HX.n_then | apply HC.seq | apply HC.region | refine HL.pa ?_ | refine HL.ga rfl ?_ | refine HL.na rfl ?_ | refine HL.nu rfl rfl ?_ | apply HC.block | apply HC.skip | apply HC.exit | apply HC.ret | apply HX.e_block | refine HX.e_other rfl ?_ | apply HX.e_then | apply HX.e_again | apply HX.n_block | apply HX.r_then | apply HX.r_block | apply HX.r_again | refine HC.cond_yes rfl ?_ | refine HC.cond_no rfl ?_ | refine HL.one (H1.ldb rfl memA rfl rfl ?_) | refine HC.cond rfl (fun hc => ?_) (fun hc => ?_) | refine HC.cond_b rfl (fun hc => ?_) (fun hc => ?_))
  refine HL.one (H1.callz1 (vs := [zv (e : Int), zv (6 : Nat)]) rfl rfl (fun w' _ => some_fn (e : Int) 6 ⟨by omega, by omega⟩ (by decide) w') ?_)
  rintro ⟨a14, c14⟩ -
  dsimp only
  by_cases hle : d.b.l < ((somL (e : Int) 6).length : Int)
  · have hne : a = A0 → b = B0 → c = C0 → e ≠ D0 := fun e1 e2 e3 e4 => by subst e4; omega
    repeat' (first | apply HL.fold | apply HA.fold | apply HL.nil | apply HX.n_then | apply HC.seq | apply HC.region | refine HL.pa ?_ | refine HL.ga rfl ?_ | refine HL.na rfl ?_ | refine HL.nu rfl rfl ?_ | apply HC.block | apply HC.skip | apply HC.exit | apply HC.ret | apply HX.e_block | refine HX.e_other rfl ?_ | apply HX.e_then | apply HX.e_again | apply HX.n_block | apply HX.r_then | apply HX.r_block | apply HX.r_again | refine HC.cond_yes rfl ?_ | refine HC.cond_no rfl ?_ | refine HL.one (H1.ldb rfl memA rfl rfl ?_) | refine HC.cond rfl (fun hc => ?_) (fun hc => ?_) | refine HC.cond_b rfl (fun hc => ?_) (fun hc => ?_))
    exact HX.again (e + 1) ⟨by omega, fun e1 e2 e3 => by have h1 := heD e1 e2 e3; have h2 := hne e1 e2 e3; omega⟩ (by omega) esA (by repeat (first | exact Hs.nil _ | (refine Hs.cons pickA ?_)))
  repeat' (first | apply HL.fold | apply HA.fold | apply HL.nil | apply HX.n_then | apply HC.seq | apply HC.region | refine HL.pa ?_ | refine HL.ga rfl ?_ | refine HL.na rfl ?_ | refine HL.nu rfl rfl ?_ | apply HC.block | apply HC.skip | apply HC.exit | apply HC.ret | apply HX.e_block | refine HX.e_other rfl ?_ | apply HX.e_then | apply HX.e_again | apply HX.n_block | apply HX.r_then | apply HX.r_block | apply HX.r_again | refine HC.cond_yes rfl ?_ | refine HC.cond_no rfl ?_ | refine HL.one (H1.ldb rfl memA rfl rfl ?_) | refine HC.cond rfl (fun hc => ?_) (fun hc => ?_) | refine HC.cond_b rfl (fun hc => ?_) (fun hc => ?_))
  refine HC.loop (α := Nat) (fun i => [(0, .slice aS S.length cS), (2, .slice aT T.length cT), (4, .pointer (some ⟨b4, 0, none⟩)), (7, zv (a : Int)), (8, .slice a8 (somL (a : Int) 6).length c8), (9, zv (b : Int)), (10, .slice a10 (somL (b : Int) 6).length c10), (11, zv (c : Int)), (12, .slice a12 (somL (c : Int) 6).length c12), (13, zv (e : Int)), (15, zv (((T.take i).filter (free4 S a b c e)).length : Int)), (16, zv (i : Int))]) (fun _ => [A.blk b4 d.cells 24]) (fun i => i ≤ T.length) (fun i => T.length - i) 0 (Nat.zero_le _) esA (by repeat (first | exact Hs.nil _ | (refine Hs.cons pickA ?_))) ?_
  intro i hi
  by_cases hit : i < T.length
  rotate_left
  · obtain rfl : i = T.length := by omega
    rw [List.take_length]
    by_cases hok : ((T.filter (free4 S a b c e)).length : Int) ≤ d.liars
    · repeat' (first | apply HL.fold | apply HA.fold | apply HL.nil | apply HX.n_then | apply HC.seq | apply HC.region | refine HL.pa ?_ | refine HL.ga rfl ?_ | refine HL.na rfl ?_ | refine HL.nu rfl rfl ?_ | apply HC.block | apply HC.skip | apply HC.exit | apply HC.ret | apply HX.e_block | refine HX.e_other rfl ?_ | apply HX.e_then | apply HX.e_again | apply HX.n_block | apply HX.r_then | apply HX.r_block | apply HX.r_again | refine HC.cond_yes rfl ?_ | refine HC.cond_no rfl ?_ | refine HL.one (H1.ldb rfl memA rfl rfl ?_) | refine HC.cond rfl (fun hc => ?_) (fun hc => ?_) | refine HC.cond_b rfl (fun hc => ?_) (fun hc => ?_))
      exact HX.ret1 rfl rfl fun w' hM => ⟨rfl, hM.ext⟩
    have hne : a = A0 → b = B0 → c = C0 → e ≠ D0 := fun e1 e2 e3 e4 => by subst e1; subst e2; subst e3; subst e4; exact hok hfew
    repeat' (first | apply HL.fold | apply HA.fold | apply HL.nil | apply HX.n_then | apply HC.seq | apply HC.region | refine HL.pa ?_ | refine HL.ga rfl ?_ | refine HL.na rfl ?_ | refine HL.nu rfl rfl ?_ | apply HC.block | apply HC.skip | apply HC.exit | apply HC.ret | apply HX.e_block | refine HX.e_other rfl ?_ | apply HX.e_then | apply HX.e_again | apply HX.n_block | apply HX.r_then | apply HX.r_block | apply HX.r_again | refine HC.cond_yes rfl ?_ | refine HC.cond_no rfl ?_ | refine HL.one (H1.ldb rfl memA rfl rfl ?_) | refine HC.cond rfl (fun hc => ?_) (fun hc => ?_) | refine HC.cond_b rfl (fun hc => ?_) (fun hc => ?_))
    exact HX.again (e + 1) ⟨by omega, fun e1 e2 e3 => by have h1 := heD e1 e2 e3; have h2 := hne e1 e2 e3; omega⟩ (by omega) esA (by repeat (first | exact Hs.nil _ | (refine Hs.cons pickA ?_)))
  have hti := hTS _ (List.getElem_mem hit)
  have hstep := free_step (free4 S a b c e) hit
  have hcnt : ((T.take i).filter (free4 S a b c e)).length ≤ 9 := by
    have := List.length_filter_le (free4 S a b c e) (T.take i)
    rw [List.length_take] at this
    omega
  have hsite := hpv.site _ hti
  have hp : 0 ≤ (stAt S T[i]).p ∧ (stAt S T[i]).p ≤ 5 := hsite 0
  have hr : 0 ≤ (stAt S T[i]).r ∧ (stAt S T[i]).r ≤ 5 := hsite 1
  have hvv : 0 ≤ (stAt S T[i]).v ∧ (stAt S T[i]).v ≤ 5 := hsite 2
  have hl : 0 ≤ (stAt S T[i]).l ∧ (stAt S T[i]).l ≤ 5 := hsite 3
  obtain ⟨bT, offT, rfl, -⟩ := hT.iat (by intro e; have := congrArg List.length e; rw [natI_len] at this; have h2 : T.length = 0 := this; omega)
  obtain ⟨bS, offS, rfl, hbS, hcl⟩ := hR.at (by intro e; rw [e] at hti; exact absurd hti (Nat.not_lt_zero _))
  have hsite2 := hcl T[i] hti
  unfold free4 at hstep
  have hf : free4 S a b c e = fun i => decide (bitI a (stAt S i).p.toNat + bitI b (stAt S i).r.toNat + bitI c (stAt S i).v.toNat + bitI e (stAt S i).l.toNat = 0) := rfl
  rw [← hf] at hstep
  generalize hcn : ((T.take i).filter (free4 S a b c e)).length = n at *
  generalize hss : stAt S T[i] = s at *
  obtain ⟨sp, sr, sv, sl⟩ := s
  dsimp only at hp hr hvv hl
  obtain ⟨p, rfl⟩ : ∃ n : Nat, sp = (n : Int) := ⟨sp.toNat, by omega⟩
  obtain ⟨r, rfl⟩ : ∃ n : Nat, sr = (n : Int) := ⟨sr.toNat, by omega⟩
  obtain ⟨q, rfl⟩ : ∃ n : Nat, sv = (n : Int) := ⟨sv.toNat, by omega⟩
  obtain ⟨l, rfl⟩ : ∃ n : Nat, sl = (n : Int) := ⟨sl.toNat, by omega⟩
  simp only [Int.toNat_natCast] at hstep
  have g0 := bitI_in a p
  have g1 := bitI_in b r
  have g2 := bitI_in c q
  have g3 := bitI_in e l
  repeat' (first | apply HL.fold | apply HA.fold | apply HL.nil | apply HX.n_then | apply HC.seq | apply HC.region | refine HL.pa ?_ | refine HL.ga rfl ?_ | refine HL.na rfl ?_ | refine HL.nu rfl rfl ?_ | apply HC.block | apply HC.skip | apply HC.exit | apply HC.ret | apply HX.e_block | refine HX.e_other rfl ?_ | apply HX.e_then | apply HX.e_again | apply HX.n_block | apply HX.r_then | apply HX.r_block | apply HX.r_again | refine HC.cond_yes rfl ?_ | refine HC.cond_no rfl ?_ | refine HL.one (H1.ldb rfl memA rfl rfl ?_) | refine HC.cond rfl (fun hc => ?_) (fun hc => ?_) | refine HC.cond_b rfl (fun hc => ?_) (fun hc => ?_))
  refine HL.one (H1.ld0 rfl (hT.cell (natI_get hit)) rfl ?_)
  repeat' (first | apply HL.fold | apply HA.fold | apply HL.nil | apply HX.n_then | apply HC.seq | apply HC.region | refine HL.pa ?_ | refine HL.ga rfl ?_ | refine HL.na rfl ?_ | refine HL.nu rfl rfl ?_ | apply HC.block | apply HC.skip | apply HC.exit | apply HC.ret | apply HX.e_block | refine HX.e_other rfl ?_ | apply HX.e_then | apply HX.e_again | apply HX.n_block | apply HX.r_then | apply HX.r_block | apply HX.r_again | refine HC.cond_yes rfl ?_ | refine HC.cond_no rfl ?_ | refine HL.one (H1.ldb rfl memA rfl rfl ?_) | refine HC.cond rfl (fun hc => ?_) (fun hc => ?_) | refine HC.cond_b rfl (fun hc => ?_) (fun hc => ?_))
  refine HL.one (H1.ldAggw (vs := sc ⟨p, r, q, l⟩) rfl rfl (fun w hM j v hj => cell_ext hM.ext (hsite2 j v hj)) rfl ?_)
  repeat' (first | apply HL.fold | apply HA.fold | apply HL.nil | apply HX.n_then | apply HC.seq | apply HC.region | refine HL.pa ?_ | refine HL.ga rfl ?_ | refine HL.na rfl ?_ | refine HL.nu rfl rfl ?_ | apply HC.block | apply HC.skip | apply HC.exit | apply HC.ret | apply HX.e_block | refine HX.e_other rfl ?_ | apply HX.e_then | apply HX.e_again | apply HX.n_block | apply HX.r_then | apply HX.r_block | apply HX.r_again | refine HC.cond_yes rfl ?_ | refine HC.cond_no rfl ?_ | refine HL.one (H1.ldb rfl memA rfl rfl ?_) | refine HC.cond rfl (fun hc => ?_) (fun hc => ?_) | refine HC.cond_b rfl (fun hc => ?_) (fun hc => ?_))
  refine HL.one (H1.alloc (cs := [zv 0, zv 0, zv 0, zv 0]) rfl rfl (fun b17 => ?_))
  repeat' (first | apply HL.fold | apply HA.fold | apply HL.nil | apply HX.n_then | apply HC.seq | apply HC.region | refine HL.pa ?_ | refine HL.ga rfl ?_ | refine HL.na rfl ?_ | refine HL.nu rfl rfl ?_ | apply HC.block | apply HC.skip | apply HC.exit | apply HC.ret | apply HX.e_block | refine HX.e_other rfl ?_ | apply HX.e_then | apply HX.e_again | apply HX.n_block | apply HX.r_then | apply HX.r_block | apply HX.r_again | refine HC.cond_yes rfl ?_ | refine HC.cond_no rfl ?_ | refine HL.one (H1.ldb rfl memA rfl rfl ?_) | refine HC.cond rfl (fun hc => ?_) (fun hc => ?_) | refine HC.cond_b rfl (fun hc => ?_) (fun hc => ?_))
  refine HL.one (H1.stAgg (cs := [zv 0, zv 0, zv 0, zv 0]) (vs := sc ⟨p, r, q, l⟩) rfl rfl rfl (sc_one _) rplA rfl ?_)
  by_cases hz : bitI a p + bitI b r + bitI c q + bitI e l = 0
  · rw [if_pos (decide_eq_true hz)] at hstep
    repeat' (first | apply HL.fold | apply HA.fold | apply HL.nil | apply HX.n_then | apply HC.seq | apply HC.region | refine HL.pa ?_ | refine HL.ga rfl ?_ | refine HL.na rfl ?_ | refine HL.nu rfl rfl ?_ | apply HC.block | apply HC.skip | apply HC.exit | apply HC.ret | apply HX.e_block | refine HX.e_other rfl ?_ | apply HX.e_then | apply HX.e_again | apply HX.n_block | apply HX.r_then | apply HX.r_block | apply HX.r_again | refine HC.cond_yes rfl ?_ | refine HC.cond_no rfl ?_ | refine HL.one (H1.ldb rfl memA rfl rfl ?_) | refine HC.cond rfl (fun hc => ?_) (fun hc => ?_) | refine HC.cond_b rfl (fun hc => ?_) (fun hc => ?_))
    refine HC.quietS [(some 81, [7], []), (some 82, [17], []), (some 83, [82], [1]), (some 84, [81, 83], [0, 2]), (some 85, [84], [3]), (some 86, [9], []), (some 87, [17], []), (some 88, [87], [6]), (some 89, [86, 88], [5, 7]), (some 90, [89], [8]), (some 91, [85, 90], [4, 9]), (some 92, [11], []), (some 93, [17], []), (some 94, [93], [12]), (some 95, [92, 94], [11, 13]), (some 96, [95], [14]), (some 97, [91, 96], [10, 15]), (some 98, [13], []), (some 99, [17], []), (some 100, [99], [18]), (some 101, [98, 100], [17, 19]), (some 102, [101], [20]), (some 103, [97, 102], [16, 21]), (some 104, [103], [22])] (by kernel_rfl) (by kernel_rfl) (by kernel_rfl) ?_
    repeat' (first | refine HQ.pa ?_ | refine HQ.ga rfl ?_ | refine HQ.na rfl ?_ | refine HQ.nu rfl ?_ | refine HQ.ldb rfl memA rfl rfl ?_)
    refine HQ.pa (v := zv (bitI a p)) ?_ (by rw [← bitI_eq a p]; exact POp.rem rfl rfl (Int.natCast_nonneg _) (by decide))
    repeat' (first | refine HQ.pa ?_ | refine HQ.ga rfl ?_ | refine HQ.na rfl ?_ | refine HQ.nu rfl ?_ | refine HQ.ldb rfl memA rfl rfl ?_)
    refine HQ.pa (v := zv (bitI b r)) ?_ (by rw [← bitI_eq b r]; exact POp.rem rfl rfl (Int.natCast_nonneg _) (by decide))
    repeat' (first | refine HQ.pa ?_ | refine HQ.ga rfl ?_ | refine HQ.na rfl ?_ | refine HQ.nu rfl ?_ | refine HQ.ldb rfl memA rfl rfl ?_)
    refine HQ.pa (v := zv (bitI c q)) ?_ (by rw [← bitI_eq c q]; exact POp.rem rfl rfl (Int.natCast_nonneg _) (by decide))
    repeat' (first | refine HQ.pa ?_ | refine HQ.ga rfl ?_ | refine HQ.na rfl ?_ | refine HQ.nu rfl ?_ | refine HQ.ldb rfl memA rfl rfl ?_)
    refine HQ.pa (v := zv (bitI e l)) ?_ (by rw [← bitI_eq e l]; exact POp.rem rfl rfl (Int.natCast_nonneg _) (by decide))
    repeat' (first | refine HQ.pa ?_ | refine HQ.ga rfl ?_ | refine HQ.na rfl ?_ | refine HQ.nu rfl ?_ | refine HQ.ldb rfl memA rfl rfl ?_)
    refine HQ.nil ?_
    repeat' (first | apply HL.fold | apply HA.fold | apply HL.nil | apply HX.n_then | apply HC.seq | apply HC.region | refine HL.pa ?_ | refine HL.ga rfl ?_ | refine HL.na rfl ?_ | refine HL.nu rfl rfl ?_ | apply HC.block | apply HC.skip | apply HC.exit | apply HC.ret | apply HX.e_block | refine HX.e_other rfl ?_ | apply HX.e_then | apply HX.e_again | apply HX.n_block | apply HX.r_then | apply HX.r_block | apply HX.r_again | refine HC.cond_yes rfl ?_ | refine HC.cond_no rfl ?_ | refine HL.one (H1.ldb rfl memA rfl rfl ?_) | refine HC.cond rfl (fun hc => ?_) (fun hc => ?_) | refine HC.cond_b rfl (fun hc => ?_) (fun hc => ?_))
    exact HX.again (i + 1) (by omega) (by omega) (by rw [hstep]; repeat (first | exact trivial | refine ⟨rfl, ?_⟩)) (by repeat (first | exact Hs.nil _ | (refine Hs.cons pickA ?_)))
  · rw [if_neg (by rw [decide_eq_true_eq]; exact hz), Nat.add_zero] at hstep
    repeat' (first | apply HL.fold | apply HA.fold | apply HL.nil | apply HX.n_then | apply HC.seq | apply HC.region | refine HL.pa ?_ | refine HL.ga rfl ?_ | refine HL.na rfl ?_ | refine HL.nu rfl rfl ?_ | apply HC.block | apply HC.skip | apply HC.exit | apply HC.ret | apply HX.e_block | refine HX.e_other rfl ?_ | apply HX.e_then | apply HX.e_again | apply HX.n_block | apply HX.r_then | apply HX.r_block | apply HX.r_again | refine HC.cond_yes rfl ?_ | refine HC.cond_no rfl ?_ | refine HL.one (H1.ldb rfl memA rfl rfl ?_) | refine HC.cond rfl (fun hc => ?_) (fun hc => ?_) | refine HC.cond_b rfl (fun hc => ?_) (fun hc => ?_))
    refine HC.quietS [(some 81, [7], []), (some 82, [17], []), (some 83, [82], [1]), (some 84, [81, 83], [0, 2]), (some 85, [84], [3]), (some 86, [9], []), (some 87, [17], []), (some 88, [87], [6]), (some 89, [86, 88], [5, 7]), (some 90, [89], [8]), (some 91, [85, 90], [4, 9]), (some 92, [11], []), (some 93, [17], []), (some 94, [93], [12]), (some 95, [92, 94], [11, 13]), (some 96, [95], [14]), (some 97, [91, 96], [10, 15]), (some 98, [13], []), (some 99, [17], []), (some 100, [99], [18]), (some 101, [98, 100], [17, 19]), (some 102, [101], [20]), (some 103, [97, 102], [16, 21]), (some 104, [103], [22])] (by kernel_rfl) (by kernel_rfl) (by kernel_rfl) ?_
    repeat' (first | refine HQ.pa ?_ | refine HQ.ga rfl ?_ | refine HQ.na rfl ?_ | refine HQ.nu rfl ?_ | refine HQ.ldb rfl memA rfl rfl ?_)
    refine HQ.pa (v := zv (bitI a p)) ?_ (by rw [← bitI_eq a p]; exact POp.rem rfl rfl (Int.natCast_nonneg _) (by decide))
    repeat' (first | refine HQ.pa ?_ | refine HQ.ga rfl ?_ | refine HQ.na rfl ?_ | refine HQ.nu rfl ?_ | refine HQ.ldb rfl memA rfl rfl ?_)
    refine HQ.pa (v := zv (bitI b r)) ?_ (by rw [← bitI_eq b r]; exact POp.rem rfl rfl (Int.natCast_nonneg _) (by decide))
    repeat' (first | refine HQ.pa ?_ | refine HQ.ga rfl ?_ | refine HQ.na rfl ?_ | refine HQ.nu rfl ?_ | refine HQ.ldb rfl memA rfl rfl ?_)
    refine HQ.pa (v := zv (bitI c q)) ?_ (by rw [← bitI_eq c q]; exact POp.rem rfl rfl (Int.natCast_nonneg _) (by decide))
    repeat' (first | refine HQ.pa ?_ | refine HQ.ga rfl ?_ | refine HQ.na rfl ?_ | refine HQ.nu rfl ?_ | refine HQ.ldb rfl memA rfl rfl ?_)
    refine HQ.pa (v := zv (bitI e l)) ?_ (by rw [← bitI_eq e l]; exact POp.rem rfl rfl (Int.natCast_nonneg _) (by decide))
    repeat' (first | refine HQ.pa ?_ | refine HQ.ga rfl ?_ | refine HQ.na rfl ?_ | refine HQ.nu rfl ?_ | refine HQ.ldb rfl memA rfl rfl ?_)
    refine HQ.nil ?_
    repeat' (first | apply HL.fold | apply HA.fold | apply HL.nil | apply HX.n_then | apply HC.seq | apply HC.region | refine HL.pa ?_ | refine HL.ga rfl ?_ | refine HL.na rfl ?_ | refine HL.nu rfl rfl ?_ | apply HC.block | apply HC.skip | apply HC.exit | apply HC.ret | apply HX.e_block | refine HX.e_other rfl ?_ | apply HX.e_then | apply HX.e_again | apply HX.n_block | apply HX.r_then | apply HX.r_block | apply HX.r_again | refine HC.cond_yes rfl ?_ | refine HC.cond_no rfl ?_ | refine HL.one (H1.ldb rfl memA rfl rfl ?_) | refine HC.cond rfl (fun hc => ?_) (fun hc => ?_) | refine HC.cond_b rfl (fun hc => ?_) (fun hc => ?_))
    exact HX.again (i + 1) (by omega) (by omega) (by rw [hstep]; repeat (first | exact trivial | refine ⟨rfl, ?_⟩)) (by repeat (first | exact Hs.nil _ | (refine Hs.cons pickA ?_)))
end Go.Sx

