/- Chapter 18: the law PlaceMatchesReference. -/
import Derived.Test.YtnpnoobknolahaaTQ
namespace Go.Sx
open Go Go.Proofs Go.RowKit
/-- A slice of slices of numbers, that is only read. -/
def RdG (w : World) (v : Value) (GG : List (List Int)) (hV : Nat → Value) : Prop :=
  ∃ (a : Option Addr) (c : Nat), v = .slice a GG.length c ∧ GG.length ≤ c ∧ (GG = [] ∨ ∃ b off, a = some ⟨b, off, none⟩ ∧ ∀ i, i < GG.length → w.cell? ⟨b, off + i, none⟩ = some (hV i)) ∧ ∀ i (hi : i < GG.length), Rd w (hV i) (ints GG[i])
def cutV (v : Value) : Value := match v with
  | .slice a n c => .slice a (min n 8) c
  | v => v
/-- The lists of groups that the law passes on. -/
def lvV (hV : Nat → Value) (i q : Nat) : Value := if q < i then cutV (hV q) else .slice none 0 0
def lvG (GG : List (List Int)) (q : Nat) : List Int := (GG.getD q []).take 8
theorem lv_rd {w : World} {v : Value} {GG : List (List Int)} {hV : Nat → Value} (h : RdG w v GG hV) {N : Nat} (hN : N = min GG.length 4) {q : Nat} (hq : q < 4) : Rd w (lvV hV N q) (ints (lvG GG q)) := by
  unfold lvV lvG
  obtain ⟨a, c, -, -, -, h4⟩ := h
  by_cases hlt : q < GG.length
  · rw [if_pos (by omega), show GG.getD q [] = GG[q] by simp [hlt]]
    have h1 := h4 q hlt
    obtain ⟨a', c', e, hc⟩ := h1.isInts
    rw [e] at h1 ⊢
    have h2 := h1.ipre (k := min GG[q].length 8) (by omega)
    have e2 : GG[q].take (min GG[q].length 8) = GG[q].take 8 := by
      by_cases h8 : GG[q].length ≤ 8
      · rw [List.take_of_length_le (by omega), List.take_of_length_le h8]
      · rw [show min GG[q].length 8 = 8 by omega]
    rw [e2] at h2
    exact h2
  · rw [if_neg (by omega), show GG.getD q [] = [] by simp [Nat.le_of_not_lt hlt]]
    exact ⟨none, 0, rfl, Nat.le_refl _, .inl rfl⟩
theorem RdS.take {w : World} {a : Option Addr} {c k : Nat} {S : List St} (h : RdS w (.slice a S.length c) S) (hk : k ≤ S.length) : RdS w (.slice a k c) (S.take k) := by
  obtain ⟨a', c', e, h2, h3⟩ := h
  rw [List.length_map] at e h2
  cases e
  have e1 : ((S.take k).map sc).length = k := by rw [List.length_map, List.length_take]; omega
  refine ⟨a, c, by rw [e1], by omega, ?_⟩
  rcases h3 with h3 | ⟨b, off, h4, h5, h6⟩
  · left
    have : S = [] := List.map_eq_nil_iff.1 h3
    subst this; simp
  · refine .inr ⟨b, off, h4, h5, fun i row j u hi hu => h6 i row j u ?_ hu⟩
    rw [List.map_take, List.getElem?_take] at hi
    by_cases hik : i < k
    · rwa [if_pos hik] at hi
    · rw [if_neg hik] at hi; cases hi
theorem POp.pre_g {P : Program} {N : Nat} {ds : List Deferred} {E : Env} {t ty : TypeId} {x hi : Operand} {k' : IntKind} {n : Int} {e : TypeId} {a : Option Addr} {l c : Nat} {z : Value} {sz bb : Nat} [h : UTy P t (.slice e)] [hi' : ITy P e z sz bb]
    (hx : Env.ev E x = some (.slice a l c)) (hh : Env.ev E hi = some (.int k' n)) (h1 : 0 ≤ n) (h2 : n ≤ c) :
    POp P N ds E (.slice t x none (some hi) none) ty (.slice a n.toNat c) := by
  cases a with
  | none => exact POp.pre_hn hx hh h1 h2
  | some ad => exact POp.pre_hs hx hh h1 h2
theorem nbb (B : Bool) : (!(B == B)) = false := by cases B <;> rfl
theorem bbb (B : Bool) : (B == B) = true := by cases B <;> rfl
theorem POp.eqb_same {P : Program} {N : Nat} {ds : List Deferred} {E : Env} {t t' ty : TypeId} {x y : Operand} {B : Bool} [UTy P t .bool] (hx : Env.ev E x = some (.bool B)) (hy : Env.ev E y = some (.bool B)) : POp P N ds E (.binOp .eql t x y t') ty (.bool true) := by
  rw [← bbb B]; exact POp.beql hx hy
theorem chk_le (S : List St) (d : Di) (H : List Int) (k : Int) : (chk S d H k).1.length ≤ H.length := by
  by_cases hg : goodP S d H k
  · cases hl : lostP S d (hold H) (H.length - k.toNat + 1) with
    | none => rw [chk_none hg hl]; exact Nat.zero_le _
    | some T =>
      rw [chk_some hg hl]
      have := (mem_combs.1 (List.mem_of_find?_eq_some hl)).1.length_le
      rwa [hold_len] at this
  · rw [chk_bad hg]; exact Nat.zero_le _
theorem bestFrom_le (S : List St) (d : Di) (k : Int) : ∀ (f n : Nat), (bestL (bestFrom S d k f n)).length ≤ S.length
  | 0, _ => Nat.zero_le _
  | f + 1, n => by
    show (bestL (match bestP S d k n with | some T => some T | none => bestFrom S d k f (n + 1))).length ≤ _
    cases hb : bestP S d k n with
    | none => exact bestFrom_le S d k f (n + 1)
    | some T =>
      have := (mem_combs.1 (List.mem_of_find?_eq_some hb)).1.length_le
      rwa [List.length_range] at this
theorem best_le (S : List St) (d : Di) (k : Int) : (bestL (best S d k)).length ≤ S.length := by
  unfold best
  split
  · exact bestFrom_le _ _ _ _ _
  · exact Nat.zero_le _
attribute [local irreducible] WC WL WX POp Then Again Fn NX W1 WA WO QL RP RA Yld LoopAt HC HL HX HN H1 HA HO HQ HB HP A.blk A.grow A.rd A.obj A.mp AgainH CutH
attribute [local irreducible] A.mq A.mit A.dfrs A.loop mapsA A.land A.pure chk best A.all
set_option maxHeartbeats 8000000 in
theorem placeMatches_fn (v : Value) (S0 : List St) (d : Di) (u : Value) (H0 : List Int) (k : Int) (vC : Value) (X : List St) (y : Di) (set kc : Int) (vG : Value) (GG : List (List Int)) (hV : Nat → Value)
    (hS0 : S0.length ≤ 9223372036854775807) (hH0 : H0.length ≤ 9223372036854775807) (hX : X.length ≤ 9223372036854775807) (hxb : ∀ s ∈ X, s.i64) (hyb : y.b.i64 ∧ i64R y.liars) (hset : i64R set) (hk : i64R kc) (hGG : ∀ i (hi : i < GG.length), GG[i].length ≤ 9223372036854775807) (w : World) (hT0 : RdS w v S0) (hR0 : Rd w u (ints H0)) (hTX : RdS w vC X) (hG : RdG w vG GG hV) :
    Fn Try.prog 3 #[v, .agg d.cells.toArray, u, zv k, .agg (caseC vC y set kc).toArray, vG] w fun u w' => u = .bool true ∧ Ext w w' := by
  obtain ⟨a0, c0, rfl, hc0⟩ := hT0.shape
  obtain ⟨aH, cH, rfl, hcH⟩ := hR0.isInts
  obtain ⟨aG, cG, rfl, hcG, hcells, hrows⟩ := hG
  have hG : RdG w (.slice aG GG.length cG) GG hV := ⟨aG, cG, rfl, hcG, hcells, hrows⟩
  have h7 := madeN_7 X
  have hoL := ownL_len X set
  have hS7 : (S0.take (min S0.length 7)).length = min S0.length 7 := by rw [List.length_take]; omega
  have hH8 : (H0.take (min H0.length 8)).length = min H0.length 8 := by rw [List.length_take]; omega
  have hT : RdS w (.slice a0 (S0.take (min S0.length 7)).length c0) (S0.take (min S0.length 7)) := by rw [hS7]; exact hT0.take (by omega)
  have hR : Rd w (.slice aH (H0.take (min H0.length 8)).length cH) (ints (H0.take (min H0.length 8))) := by rw [hH8]; exact hR0.ipre (by omega)
  have e7 : (min (S0.length : Int) 7).toNat = (S0.take (min S0.length 7)).length := by rw [hS7]; omega
  have e8 : (min (H0.length : Int) 8).toNat = (H0.take (min H0.length 8)).length := by rw [hH8]; omega
  have hS77 : (S0.take (min S0.length 7)).length ≤ 7 := by omega
  have hH88 : (H0.take (min H0.length 8)).length ≤ 8 := by omega
  generalize S0.take (min S0.length 7) = S at *
  generalize H0.take (min H0.length 8) = H at *
  obtain ⟨N, hN⟩ : ∃ N, N = min GG.length 4 := ⟨_, rfl⟩
  refine enterH (l := [_, _, _, _, _, _]) rfl Try.ntmps3 rfl ?_
  repeat' (first | apply HL.fold | apply HA.fold | apply HL.nil | apply HX.n_then | apply HC.seq | apply HC.region | refine HL.pa ?_ | refine HL.ga rfl ?_ | refine HL.na rfl ?_ | refine HL.nu rfl rfl ?_ | apply HC.block | apply HC.skip | apply HC.exit | apply HC.ret | apply HX.e_block | refine HX.e_other rfl ?_ | apply HX.e_then | apply HX.e_again | apply HX.n_block | apply HX.r_then | apply HX.r_block | apply HX.r_again | refine HC.cond_yes rfl ?_ | refine HC.cond_no rfl ?_ | refine HL.one (H1.ldb rfl memA rfl rfl ?_) | refine HC.cond rfl (fun hc => ?_) (fun hc => ?_) | refine HC.cond_b rfl (fun hc => ?_) (fun hc => ?_))
  refine HL.one (H1.boxAgg (cs := d.cells) rfl rfl (fun b7 => ?_))
  repeat' (first | apply HL.fold | apply HA.fold | apply HL.nil | apply HX.n_then | apply HC.seq | apply HC.region | refine HL.pa ?_ | refine HL.ga rfl ?_ | refine HL.na rfl ?_ | refine HL.nu rfl rfl ?_ | apply HC.block | apply HC.skip | apply HC.exit | apply HC.ret | apply HX.e_block | refine HX.e_other rfl ?_ | apply HX.e_then | apply HX.e_again | apply HX.n_block | apply HX.r_then | apply HX.r_block | apply HX.r_again | refine HC.cond_yes rfl ?_ | refine HC.cond_no rfl ?_ | refine HL.one (H1.ldb rfl memA rfl rfl ?_) | refine HC.cond rfl (fun hc => ?_) (fun hc => ?_) | refine HC.cond_b rfl (fun hc => ?_) (fun hc => ?_))
  refine HL.one (H1.boxAgg (cs := caseC vC y set kc) rfl rfl (fun b10 => ?_))
  repeat' (first | apply HL.fold | apply HA.fold | apply HL.nil | apply HX.n_then | apply HC.seq | apply HC.region | refine HL.pa ?_ | refine HL.ga rfl ?_ | refine HL.na rfl ?_ | refine HL.nu rfl rfl ?_ | apply HC.block | apply HC.skip | apply HC.exit | apply HC.ret | apply HX.e_block | refine HX.e_other rfl ?_ | apply HX.e_then | apply HX.e_again | apply HX.n_block | apply HX.r_then | apply HX.r_block | apply HX.r_again | refine HC.cond_yes rfl ?_ | refine HC.cond_no rfl ?_ | refine HL.one (H1.ldb rfl memA rfl rfl ?_) | refine HC.cond rfl (fun hc => ?_) (fun hc => ?_) | refine HC.cond_b rfl (fun hc => ?_) (fun hc => ?_))
  refine HL.one (H1.callx (vs := []) rfl rfl (fun w' _ => ksane_fn w') ?_)
  repeat' (first | apply HL.fold | apply HA.fold | apply HL.nil | apply HX.n_then | apply HC.seq | apply HC.region | refine HL.pa ?_ | refine HL.ga rfl ?_ | refine HL.na rfl ?_ | refine HL.nu rfl rfl ?_ | apply HC.block | apply HC.skip | apply HC.exit | apply HC.ret | apply HX.e_block | refine HX.e_other rfl ?_ | apply HX.e_then | apply HX.e_again | apply HX.n_block | apply HX.r_then | apply HX.r_block | apply HX.r_again | refine HC.cond_yes rfl ?_ | refine HC.cond_no rfl ?_ | refine HL.one (H1.ldb rfl memA rfl rfl ?_) | refine HC.cond rfl (fun hc => ?_) (fun hc => ?_) | refine HC.cond_b rfl (fun hc => ?_) (fun hc => ?_))
  refine HL.pa ?_ (POp.pre_g rfl rfl (by omega) (by omega))
  rw [e7]
  repeat' (first | apply HL.fold | apply HA.fold | apply HL.nil | apply HX.n_then | apply HC.seq | apply HC.region | refine HL.pa ?_ | refine HL.ga rfl ?_ | refine HL.na rfl ?_ | refine HL.nu rfl rfl ?_ | apply HC.block | apply HC.skip | apply HC.exit | apply HC.ret | apply HX.e_block | refine HX.e_other rfl ?_ | apply HX.e_then | apply HX.e_again | apply HX.n_block | apply HX.r_then | apply HX.r_block | apply HX.r_again | refine HC.cond_yes rfl ?_ | refine HC.cond_no rfl ?_ | refine HL.one (H1.ldb rfl memA rfl rfl ?_) | refine HC.cond rfl (fun hc => ?_) (fun hc => ?_) | refine HC.cond_b rfl (fun hc => ?_) (fun hc => ?_))
  refine HL.pa ?_ (POp.pre_g rfl rfl (by omega) (by omega))
  rw [e8]
  repeat' (first | apply HL.fold | apply HA.fold | apply HL.nil | apply HX.n_then | apply HC.seq | apply HC.region | refine HL.pa ?_ | refine HL.ga rfl ?_ | refine HL.na rfl ?_ | refine HL.nu rfl rfl ?_ | apply HC.block | apply HC.skip | apply HC.exit | apply HC.ret | apply HX.e_block | refine HX.e_other rfl ?_ | apply HX.e_then | apply HX.e_again | apply HX.n_block | apply HX.r_then | apply HX.r_block | apply HX.r_again | refine HC.cond_yes rfl ?_ | refine HC.cond_no rfl ?_ | refine HL.one (H1.ldb rfl memA rfl rfl ?_) | refine HC.cond rfl (fun hc => ?_) (fun hc => ?_) | refine HC.cond_b rfl (fun hc => ?_) (fun hc => ?_))
  refine HL.one (H1.alloc (cs := [.slice none 0 0, .slice none 0 0, .slice none 0 0, .slice none 0 0]) rfl rfl (fun b14 => ?_))
  repeat' (first | apply HL.fold | apply HA.fold | apply HL.nil | apply HX.n_then | apply HC.seq | apply HC.region | refine HL.pa ?_ | refine HL.ga rfl ?_ | refine HL.na rfl ?_ | refine HL.nu rfl rfl ?_ | apply HC.skip | apply HC.exit | apply HC.ret | apply HX.e_block | refine HX.e_other rfl ?_ | apply HX.e_then | apply HX.e_again | apply HX.n_block | apply HX.r_then | apply HX.r_block | apply HX.r_again | refine HC.cond_yes rfl ?_ | refine HC.cond_no rfl ?_ | refine HL.one (H1.ldb rfl memA rfl rfl ?_) | refine HC.cond rfl (fun hc => ?_) (fun hc => ?_) | refine HC.cond_b rfl (fun hc => ?_) (fun hc => ?_))
  refine HC.cut (α := Unit) (fun _ => [(0, .slice a0 S.length c0), (2, .slice aH H.length cH), (3, zv k), (7, .pointer (some ⟨b7, 0, none⟩)), (10, .pointer (some ⟨b10, 0, none⟩)), (13, .bool true), (14, .pointer (some ⟨b14, 0, none⟩))])
    (fun _ => [A.blk b14 (row 4 (lvV hV N)) 32, A.blk b10 (caseC vC y set kc) 29, A.blk b7 d.cells 24]) (fun _ => True) ?_ ?_
  · repeat' (first | apply HL.fold | apply HA.fold | apply HL.nil | apply HX.n_then | apply HC.seq | apply HC.region | refine HL.pa ?_ | refine HL.ga rfl ?_ | refine HL.na rfl ?_ | refine HL.nu rfl rfl ?_ | apply HC.block | apply HC.skip | apply HC.exit | apply HC.ret | apply HX.e_block | refine HX.e_other rfl ?_ | apply HX.e_then | apply HX.e_again | apply HX.n_block | apply HX.r_then | apply HX.r_block | apply HX.r_again | refine HC.cond_yes rfl ?_ | refine HC.cond_no rfl ?_ | refine HL.one (H1.ldb rfl memA rfl rfl ?_) | refine HC.cond rfl (fun hc => ?_) (fun hc => ?_) | refine HC.cond_b rfl (fun hc => ?_) (fun hc => ?_))
    refine HC.loop (α := Nat) (fun i => [(0, .slice a0 S.length c0), (2, .slice aH H.length cH), (3, zv k), (5, .slice aG GG.length cG), (7, .pointer (some ⟨b7, 0, none⟩)), (10, .pointer (some ⟨b10, 0, none⟩)), (13, .bool true), (14, .pointer (some ⟨b14, 0, none⟩)), (15, zv (i : Int))])
      (fun i => [A.blk b14 (row 4 (lvV hV i)) 32, A.blk b10 (caseC vC y set kc) 29, A.blk b7 d.cells 24]) (fun i => i ≤ N) (fun i => N - i) 0 (Nat.zero_le _) esA (by repeat (first | exact Hs.nil _ | (refine Hs.cons pickA ?_))) ?_
    intro i hi
    by_cases hlt : i < N
    rotate_left
    · obtain rfl : i = N := by omega
      by_cases hl : i < GG.length
      · have h4 : ¬ (i : Int) < 4 := by omega
        repeat' (first | apply HL.fold | apply HA.fold | apply HL.nil | apply HX.n_then | apply HC.seq | apply HC.region | refine HL.pa ?_ | refine HL.ga rfl ?_ | refine HL.na rfl ?_ | refine HL.nu rfl rfl ?_ | apply HC.block | apply HC.skip | apply HC.exit | apply HC.ret | apply HX.e_block | refine HX.e_other rfl ?_ | apply HX.e_then | apply HX.e_again | apply HX.n_block | apply HX.r_then | apply HX.r_block | apply HX.r_again | refine HC.cond_yes rfl ?_ | refine HC.cond_no rfl ?_ | refine HL.one (H1.ldb rfl memA rfl rfl ?_) | refine HC.cond rfl (fun hc => ?_) (fun hc => ?_) | refine HC.cond_b rfl (fun hc => ?_) (fun hc => ?_))
        exact HX.cut () trivial esA (by repeat (first | exact Hs.nil _ | (refine Hs.cons pickA ?_)))
      · repeat' (first | apply HL.fold | apply HA.fold | apply HL.nil | apply HX.n_then | apply HC.seq | apply HC.region | refine HL.pa ?_ | refine HL.ga rfl ?_ | refine HL.na rfl ?_ | refine HL.nu rfl rfl ?_ | apply HC.block | apply HC.skip | apply HC.exit | apply HC.ret | apply HX.e_block | refine HX.e_other rfl ?_ | apply HX.e_then | apply HX.e_again | apply HX.n_block | apply HX.r_then | apply HX.r_block | apply HX.r_again | refine HC.cond_yes rfl ?_ | refine HC.cond_no rfl ?_ | refine HL.one (H1.ldb rfl memA rfl rfl ?_) | refine HC.cond rfl (fun hc => ?_) (fun hc => ?_) | refine HC.cond_b rfl (fun hc => ?_) (fun hc => ?_))
        exact HX.cut () trivial esA (by repeat (first | exact Hs.nil _ | (refine Hs.cons pickA ?_)))
    have hlG : i < GG.length := by omega
    have hi4 : i < 4 := by omega
    rcases hcells with h0 | ⟨bG, oG, rfl, hcl⟩
    · rw [h0] at hlG; exact absurd hlG (Nat.not_lt_zero _)
    have hxi := hcl i hlG
    have hgl := hGG i hlG
    obtain ⟨ai, ci, ei, hci⟩ := (hrows i hlG).isInts
    rw [ei] at hxi
    repeat' (first | apply HL.fold | apply HA.fold | apply HL.nil | apply HX.n_then | apply HC.seq | apply HC.region | refine HL.pa ?_ | refine HL.ga rfl ?_ | refine HL.na rfl ?_ | refine HL.nu rfl rfl ?_ | apply HC.block | apply HC.skip | apply HC.exit | apply HC.ret | apply HX.e_block | refine HX.e_other rfl ?_ | apply HX.e_then | apply HX.e_again | apply HX.n_block | apply HX.r_then | apply HX.r_block | apply HX.r_again | refine HC.cond_yes rfl ?_ | refine HC.cond_no rfl ?_ | refine HL.one (H1.ldb rfl memA rfl rfl ?_) | refine HC.cond rfl (fun hc => ?_) (fun hc => ?_) | refine HC.cond_b rfl (fun hc => ?_) (fun hc => ?_))
    refine HC.anyC ([(⟨bG, oG + i, none⟩, .slice ai GG[i].length ci)]) rfl ?_
    refine HB.pa 0 rfl ?_
    refine HB.pa 1 rfl ?_
    refine HB.pa 2 rfl ?_
    refine HB.pa 3 rfl ?_
    refine HB.ld 4 rfl rfl memD ?_
    refine HB.pa 5 rfl ?_
    refine HB.pa 6 rfl ?_
    refine HB.pa 7 rfl ?_
    refine HB.ld 8 rfl rfl memD ?_
    refine HB.pa 9 rfl ?_
    refine HB.pa 10 rfl ?_
    refine HB.pa (v := .slice ai (min GG[i].length 8) ci) 11 rfl ?_ (by
        rw [← (show (min (GG[i].length : Int) 8).toNat = min GG[i].length 8 by omega)]; exact POp.pre_g rfl rfl (by omega) (by omega))
    refine HB.pa 12 rfl ?_
    refine HB.all (by exact Keep.base hxi Keep.nil) [13] (by kernel_rfl) rfl ⟨⟨_, rfl, ?_⟩, trivial⟩
    refine HP.one ?_
    refine H1.st rfl rfl (by intro _ h; cases h) (by intro _ h; cases h) rplA (by rw [row_len]; omega) ?_
    apply HB.fold
    refine HB.done (by exact Keep.base hxi Keep.nil) (by kernel_rfl) ?_
    rw [row_set, row_congr (f := fun j => if j = i then .slice ai (min GG[i].length 8) ci else lvV hV i j) (g := lvV hV (i + 1)) fun q hq => ?_]
    · repeat' (first | apply HL.fold | apply HA.fold | apply HL.nil | apply HX.n_then | apply HC.seq | apply HC.region | refine HL.pa ?_ | refine HL.ga rfl ?_ | refine HL.na rfl ?_ | refine HL.nu rfl rfl ?_ | apply HC.block | apply HC.skip | apply HC.exit | apply HC.ret | apply HX.e_block | refine HX.e_other rfl ?_ | apply HX.e_then | apply HX.e_again | apply HX.n_block | apply HX.r_then | apply HX.r_block | apply HX.r_again | refine HC.cond_yes rfl ?_ | refine HC.cond_no rfl ?_ | refine HL.one (H1.ldb rfl memA rfl rfl ?_) | refine HC.cond rfl (fun hc => ?_) (fun hc => ?_) | refine HC.cond_b rfl (fun hc => ?_) (fun hc => ?_))
      exact HX.again (i + 1) (by omega) (by omega) esA (by repeat (first | exact Hs.nil _ | (refine Hs.cons pickA ?_)))
    · unfold lvV
      by_cases e : q = i
      · subst e
        rw [if_pos rfl, if_pos (by omega), ei]; rfl
      · rw [if_neg e]
        by_cases e2 : q < i
        · rw [if_pos e2, if_pos (by omega)]
        · rw [if_neg e2, if_neg (by omega)]
  rintro - -
  repeat' (first | apply HL.fold | apply HA.fold | apply HL.nil | apply HX.n_then | apply HC.seq | apply HC.region | refine HL.pa ?_ | refine HL.ga rfl ?_ | refine HL.na rfl ?_ | refine HL.nu rfl rfl ?_ | apply HC.block | apply HC.skip | apply HC.exit | apply HC.ret | apply HX.e_block | refine HX.e_other rfl ?_ | apply HX.e_then | apply HX.e_again | apply HX.n_block | apply HX.r_then | apply HX.r_block | apply HX.r_again | refine HC.cond_yes rfl ?_ | refine HC.cond_no rfl ?_ | refine HL.one (H1.ldb rfl memA rfl rfl ?_) | refine HC.cond rfl (fun hc => ?_) (fun hc => ?_) | refine HC.cond_b rfl (fun hc => ?_) (fun hc => ?_))
  refine HL.one (H1.ldAgg (vs := caseC vC y set kc) rfl memA rfl (fun i v hv => by rw [Nat.zero_add]; exact hv) rfl ?_)
  repeat' (first | apply HL.fold | apply HA.fold | apply HL.nil | apply HX.n_then | apply HC.seq | apply HC.region | refine HL.pa ?_ | refine HL.ga rfl ?_ | refine HL.na rfl ?_ | refine HL.nu rfl rfl ?_ | apply HC.block | apply HC.skip | apply HC.exit | apply HC.ret | apply HX.e_block | refine HX.e_other rfl ?_ | apply HX.e_then | apply HX.e_again | apply HX.n_block | apply HX.r_then | apply HX.r_block | apply HX.r_again | refine HC.cond_yes rfl ?_ | refine HC.cond_no rfl ?_ | refine HL.one (H1.ldb rfl memA rfl rfl ?_) | refine HC.cond rfl (fun hc => ?_) (fun hc => ?_) | refine HC.cond_b rfl (fun hc => ?_) (fun hc => ?_))
  refine HL.one (H1.callz (vs := [.agg (caseC vC y set kc).toArray]) rfl rfl (fun w' hM => kmade_fn vC X y set kc hX hxb hyb hset hk w' (hTX.ext hM.ext)) ?_)
  rintro ⟨⟨aS, cS⟩, ⟨aL, cL⟩⟩ ⟨bL, hbL⟩
  dsimp only [List.cons_append, List.nil_append] at hbL ⊢
  subst hbL
  repeat' (first | apply HL.fold | apply HA.fold | apply HL.nil | apply HX.n_then | apply HC.seq | apply HC.region | refine HL.pa ?_ | refine HL.ga rfl ?_ | refine HL.na rfl ?_ | refine HL.nu rfl rfl ?_ | apply HC.block | apply HC.skip | apply HC.exit | apply HC.ret | apply HX.e_block | refine HX.e_other rfl ?_ | apply HX.e_then | apply HX.e_again | apply HX.n_block | apply HX.r_then | apply HX.r_block | apply HX.r_again | refine HC.cond_yes rfl ?_ | refine HC.cond_no rfl ?_ | refine HL.one (H1.ldb rfl memA rfl rfl ?_) | refine HC.cond rfl (fun hc => ?_) (fun hc => ?_) | refine HC.cond_b rfl (fun hc => ?_) (fun hc => ?_))
  refine HL.one (H1.alloc (cs := [zv 0, zv 0, zv 0, zv 0, zv 0]) rfl rfl (fun b17 => ?_))
  repeat' (first | apply HL.fold | apply HA.fold | apply HL.nil | apply HX.n_then | apply HC.seq | apply HC.region | refine HL.pa ?_ | refine HL.ga rfl ?_ | refine HL.na rfl ?_ | refine HL.nu rfl rfl ?_ | apply HC.block | apply HC.skip | apply HC.exit | apply HC.ret | apply HX.e_block | refine HX.e_other rfl ?_ | apply HX.e_then | apply HX.e_again | apply HX.n_block | apply HX.r_then | apply HX.r_block | apply HX.r_again | refine HC.cond_yes rfl ?_ | refine HC.cond_no rfl ?_ | refine HL.one (H1.ldb rfl memA rfl rfl ?_) | refine HC.cond rfl (fun hc => ?_) (fun hc => ?_) | refine HC.cond_b rfl (fun hc => ?_) (fun hc => ?_))
  refine HL.one (H1.stAgg (cs := [zv 0, zv 0, zv 0, zv 0, zv 0]) (vs := (madeD y).cells) rfl rfl rfl (cells_one _) rplA rfl ?_)
  have hoLn : (natI (ownL X set)).length ≤ 7 := by rw [natI_len]; omega
  have hL1 := chk_le S d H k
  have hL2 := chk_le (madeS X) (madeD y) (natI (ownL X set)) (caseK X set kc)
  have hL3 := best_le S d k
  have hL4 := best_le (madeS X) (madeD y) (caseK X set kc)
  have hMl : (madeS X).length ≤ 7 := by rw [madeS_len]; omega
  have hown : ∀ (w' : World) (HH : List Atom), Mm w HH w' → A.grow 54 4 aS cS (madeS X).length ((madeS X).flatMap sc) ∈ HH → RdS w' (.slice aS (madeS X).length cS) (madeS X) := fun w' HH hM hm => RdS.own (a := aS) (c := cS) hM hm
  generalize madeS X = SM at *
  generalize madeD y = DM at *
  generalize caseK X set kc = KM at *
  repeat' (first | apply HL.fold | apply HA.fold | apply HL.nil | apply HX.n_then | apply HC.seq | apply HC.region | refine HL.pa ?_ | refine HL.ga rfl ?_ | refine HL.na rfl ?_ | refine HL.nu rfl rfl ?_ | apply HC.block | apply HC.skip | apply HC.exit | apply HC.ret | apply HX.e_block | refine HX.e_other rfl ?_ | apply HX.e_then | apply HX.e_again | apply HX.n_block | apply HX.r_then | apply HX.r_block | apply HX.r_again | refine HC.cond_yes rfl ?_ | refine HC.cond_no rfl ?_ | refine HL.one (H1.ldb rfl memA rfl rfl ?_) | refine HC.cond rfl (fun hc => ?_) (fun hc => ?_) | refine HC.cond_b rfl (fun hc => ?_) (fun hc => ?_))
  refine HL.one (H1.ldAgg (vs := d.cells) rfl memA rfl (fun i v hv => by rw [Nat.zero_add]; exact hv) rfl ?_)
  repeat' (first | apply HL.fold | apply HA.fold | apply HL.nil | apply HX.n_then | apply HC.seq | apply HC.region | refine HL.pa ?_ | refine HL.ga rfl ?_ | refine HL.na rfl ?_ | refine HL.nu rfl rfl ?_ | apply HC.block | apply HC.skip | apply HC.exit | apply HC.ret | apply HX.e_block | refine HX.e_other rfl ?_ | apply HX.e_then | apply HX.e_again | apply HX.n_block | apply HX.r_then | apply HX.r_block | apply HX.r_again | refine HC.cond_yes rfl ?_ | refine HC.cond_no rfl ?_ | refine HL.one (H1.ldb rfl memA rfl rfl ?_) | refine HC.cond rfl (fun hc => ?_) (fun hc => ?_) | refine HC.cond_b rfl (fun hc => ?_) (fun hc => ?_))
  refine HL.one (H1.callz1 (An := fun z : Option Addr × Nat => A.grow 3 1 z.1 z.2 (chk S d H k).1.length (ints (natI (chk S d H k).1))) (vs := [.slice a0 S.length c0, .agg d.cells.toArray, .slice aH H.length cH, zv k]) rfl rfl (fun w' hM => check_fn _ S d _ H k (by omega) (by omega) w' (hT.ext hM.ext) (hM.rd0 hR)) ?_)
  rintro ⟨a1, c1⟩ -
  dsimp only
  repeat' (first | apply HL.fold | apply HA.fold | apply HL.nil | apply HX.n_then | apply HC.seq | apply HC.region | refine HL.pa ?_ | refine HL.ga rfl ?_ | refine HL.na rfl ?_ | refine HL.nu rfl rfl ?_ | apply HC.block | apply HC.skip | apply HC.exit | apply HC.ret | apply HX.e_block | refine HX.e_other rfl ?_ | apply HX.e_then | apply HX.e_again | apply HX.n_block | apply HX.r_then | apply HX.r_block | apply HX.r_again | refine HC.cond_yes rfl ?_ | refine HC.cond_no rfl ?_ | refine HL.one (H1.ldb rfl memA rfl rfl ?_) | refine HC.cond rfl (fun hc => ?_) (fun hc => ?_) | refine HC.cond_b rfl (fun hc => ?_) (fun hc => ?_))
  refine HL.one (H1.ldAgg (vs := d.cells) rfl memA rfl (fun i v hv => by rw [Nat.zero_add]; exact hv) rfl ?_)
  repeat' (first | apply HL.fold | apply HA.fold | apply HL.nil | apply HX.n_then | apply HC.seq | apply HC.region | refine HL.pa ?_ | refine HL.ga rfl ?_ | refine HL.na rfl ?_ | refine HL.nu rfl rfl ?_ | apply HC.block | apply HC.skip | apply HC.exit | apply HC.ret | apply HX.e_block | refine HX.e_other rfl ?_ | apply HX.e_then | apply HX.e_again | apply HX.n_block | apply HX.r_then | apply HX.r_block | apply HX.r_again | refine HC.cond_yes rfl ?_ | refine HC.cond_no rfl ?_ | refine HL.one (H1.ldb rfl memA rfl rfl ?_) | refine HC.cond rfl (fun hc => ?_) (fun hc => ?_) | refine HC.cond_b rfl (fun hc => ?_) (fun hc => ?_))
  refine HL.one (H1.callz1 (An := fun z : Option Addr × Nat => A.grow 3 1 z.1 z.2 (chk S d H k).1.length (ints (natI (chk S d H k).1))) (vs := [.slice a0 S.length c0, .agg d.cells.toArray, .slice aH H.length cH, zv k]) rfl rfl (fun w' hM => rcheck_fn _ S d _ H k (by omega) (by omega) w' (hT.ext hM.ext) (hM.rd0 hR)) ?_)
  rintro ⟨a2, c2⟩ -
  dsimp only
  repeat' (first | apply HL.fold | apply HA.fold | apply HL.nil | apply HX.n_then | apply HC.seq | apply HC.region | refine HL.pa ?_ | refine HL.ga rfl ?_ | refine HL.na rfl ?_ | refine HL.nu rfl rfl ?_ | apply HC.block | apply HC.skip | apply HC.exit | apply HC.ret | apply HX.e_block | refine HX.e_other rfl ?_ | apply HX.e_then | apply HX.e_again | apply HX.n_block | apply HX.r_then | apply HX.r_block | apply HX.r_again | refine HC.cond_yes rfl ?_ | refine HC.cond_no rfl ?_ | refine HL.one (H1.ldb rfl memA rfl rfl ?_) | refine HC.cond rfl (fun hc => ?_) (fun hc => ?_) | refine HC.cond_b rfl (fun hc => ?_) (fun hc => ?_))
  refine HL.one (H1.ldAgg (vs := DM.cells) rfl memA rfl (fun i v hv => by rw [Nat.zero_add]; exact hv) rfl ?_)
  repeat' (first | apply HL.fold | apply HA.fold | apply HL.nil | apply HX.n_then | apply HC.seq | apply HC.region | refine HL.pa ?_ | refine HL.ga rfl ?_ | refine HL.na rfl ?_ | refine HL.nu rfl rfl ?_ | apply HC.block | apply HC.skip | apply HC.exit | apply HC.ret | apply HX.e_block | refine HX.e_other rfl ?_ | apply HX.e_then | apply HX.e_again | apply HX.n_block | apply HX.r_then | apply HX.r_block | apply HX.r_again | refine HC.cond_yes rfl ?_ | refine HC.cond_no rfl ?_ | refine HL.one (H1.ldb rfl memA rfl rfl ?_) | refine HC.cond rfl (fun hc => ?_) (fun hc => ?_) | refine HC.cond_b rfl (fun hc => ?_) (fun hc => ?_))
  refine HL.one (H1.callz1 (An := fun z : Option Addr × Nat => A.grow 3 1 z.1 z.2 (chk SM DM (natI (ownL X set)) KM).1.length (ints (natI (chk SM DM (natI (ownL X set)) KM).1))) (vs := [.slice aS SM.length cS, .agg DM.cells.toArray, .slice (some ⟨bL, 0, none⟩) (ownL X set).length cL, zv KM]) rfl rfl (fun w' hM => check_fn _ SM DM _ (natI (ownL X set)) KM (by omega) (by omega) w' (hown w' _ hM memA) (by have h1 := hM.gr (a := some ⟨bL, 0, none⟩) (c := cL) (n := (ownL X set).length) (xs := ints (natI (ownL X set))) memA; exact h1)) ?_)
  rintro ⟨a3, c3⟩ -
  dsimp only
  repeat' (first | apply HL.fold | apply HA.fold | apply HL.nil | apply HX.n_then | apply HC.seq | apply HC.region | refine HL.pa ?_ | refine HL.ga rfl ?_ | refine HL.na rfl ?_ | refine HL.nu rfl rfl ?_ | apply HC.block | apply HC.skip | apply HC.exit | apply HC.ret | apply HX.e_block | refine HX.e_other rfl ?_ | apply HX.e_then | apply HX.e_again | apply HX.n_block | apply HX.r_then | apply HX.r_block | apply HX.r_again | refine HC.cond_yes rfl ?_ | refine HC.cond_no rfl ?_ | refine HL.one (H1.ldb rfl memA rfl rfl ?_) | refine HC.cond rfl (fun hc => ?_) (fun hc => ?_) | refine HC.cond_b rfl (fun hc => ?_) (fun hc => ?_))
  refine HL.one (H1.ldAgg (vs := DM.cells) rfl memA rfl (fun i v hv => by rw [Nat.zero_add]; exact hv) rfl ?_)
  repeat' (first | apply HL.fold | apply HA.fold | apply HL.nil | apply HX.n_then | apply HC.seq | apply HC.region | refine HL.pa ?_ | refine HL.ga rfl ?_ | refine HL.na rfl ?_ | refine HL.nu rfl rfl ?_ | apply HC.block | apply HC.skip | apply HC.exit | apply HC.ret | apply HX.e_block | refine HX.e_other rfl ?_ | apply HX.e_then | apply HX.e_again | apply HX.n_block | apply HX.r_then | apply HX.r_block | apply HX.r_again | refine HC.cond_yes rfl ?_ | refine HC.cond_no rfl ?_ | refine HL.one (H1.ldb rfl memA rfl rfl ?_) | refine HC.cond rfl (fun hc => ?_) (fun hc => ?_) | refine HC.cond_b rfl (fun hc => ?_) (fun hc => ?_))
  refine HL.one (H1.callz1 (An := fun z : Option Addr × Nat => A.grow 3 1 z.1 z.2 (chk SM DM (natI (ownL X set)) KM).1.length (ints (natI (chk SM DM (natI (ownL X set)) KM).1))) (vs := [.slice aS SM.length cS, .agg DM.cells.toArray, .slice (some ⟨bL, 0, none⟩) (ownL X set).length cL, zv KM]) rfl rfl (fun w' hM => rcheck_fn _ SM DM _ (natI (ownL X set)) KM (by omega) (by omega) w' (hown w' _ hM memA) (by have h1 := hM.gr (a := some ⟨bL, 0, none⟩) (c := cL) (n := (ownL X set).length) (xs := ints (natI (ownL X set))) memA; exact h1)) ?_)
  rintro ⟨a4, c4⟩ -
  dsimp only
  repeat' (first | apply HL.fold | apply HA.fold | apply HL.nil | apply HX.n_then | apply HC.seq | apply HC.region | refine HL.pa ?_ | refine HL.ga rfl ?_ | refine HL.na rfl ?_ | refine HL.nu rfl rfl ?_ | apply HC.block | apply HC.skip | apply HC.exit | apply HC.ret | apply HX.e_block | refine HX.e_other rfl ?_ | apply HX.e_then | apply HX.e_again | apply HX.n_block | apply HX.r_then | apply HX.r_block | apply HX.r_again | refine HC.cond_yes rfl ?_ | refine HC.cond_no rfl ?_ | refine HL.one (H1.ldb rfl memA rfl rfl ?_) | refine HC.cond rfl (fun hc => ?_) (fun hc => ?_) | refine HC.cond_b rfl (fun hc => ?_) (fun hc => ?_))
  rw [nbb]
  repeat' (first | apply HL.fold | apply HA.fold | apply HL.nil | apply HX.n_then | apply HC.seq | apply HC.region | refine HL.pa ?_ | refine HL.ga rfl ?_ | refine HL.na rfl ?_ | refine HL.nu rfl rfl ?_ | apply HC.block | apply HC.skip | apply HC.exit | apply HC.ret | apply HX.e_block | refine HX.e_other rfl ?_ | apply HX.e_then | apply HX.e_again | apply HX.n_block | apply HX.r_then | apply HX.r_block | apply HX.r_again | refine HC.cond_yes rfl ?_ | refine HC.cond_no rfl ?_ | refine HL.one (H1.ldb rfl memA rfl rfl ?_) | refine HC.cond rfl (fun hc => ?_) (fun hc => ?_) | refine HC.cond_b rfl (fun hc => ?_) (fun hc => ?_))
  refine HL.one (H1.callx (u := .bool true) (vs := [.slice a1 (chk S d H k).1.length c1, .slice a2 (chk S d H k).1.length c2]) rfl rfl (fun w' hM => by
    have h1 := ksame_fn (.slice a1 (chk S d H k).1.length c1) (.slice a2 (chk S d H k).1.length c2) (natI (chk S d H k).1) (natI (chk S d H k).1) (by rw [natI_len]; omega) (by rw [natI_len]; omega) w' (hM.gr memA) (hM.gr memA)
    rw [decide_eq_true rfl] at h1
    exact h1) ?_)
  repeat' (first | apply HL.fold | apply HA.fold | apply HL.nil | apply HX.n_then | apply HC.seq | apply HC.region | refine HL.pa ?_ | refine HL.ga rfl ?_ | refine HL.na rfl ?_ | refine HL.nu rfl rfl ?_ | apply HC.block | apply HC.skip | apply HC.exit | apply HC.ret | apply HX.e_block | refine HX.e_other rfl ?_ | apply HX.e_then | apply HX.e_again | apply HX.n_block | apply HX.r_then | apply HX.r_block | apply HX.r_again | refine HC.cond_yes rfl ?_ | refine HC.cond_no rfl ?_ | refine HL.one (H1.ldb rfl memA rfl rfl ?_) | refine HC.cond rfl (fun hc => ?_) (fun hc => ?_) | refine HC.cond_b rfl (fun hc => ?_) (fun hc => ?_))
  rw [nbb]
  repeat' (first | apply HL.fold | apply HA.fold | apply HL.nil | apply HX.n_then | apply HC.seq | apply HC.region | refine HL.pa ?_ | refine HL.ga rfl ?_ | refine HL.na rfl ?_ | refine HL.nu rfl rfl ?_ | apply HC.block | apply HC.skip | apply HC.exit | apply HC.ret | apply HX.e_block | refine HX.e_other rfl ?_ | apply HX.e_then | apply HX.e_again | apply HX.n_block | apply HX.r_then | apply HX.r_block | apply HX.r_again | refine HC.cond_yes rfl ?_ | refine HC.cond_no rfl ?_ | refine HL.one (H1.ldb rfl memA rfl rfl ?_) | refine HC.cond rfl (fun hc => ?_) (fun hc => ?_) | refine HC.cond_b rfl (fun hc => ?_) (fun hc => ?_))
  refine HL.one (H1.callx (u := .bool true) (vs := [.slice a3 (chk SM DM (natI (ownL X set)) KM).1.length c3, .slice a4 (chk SM DM (natI (ownL X set)) KM).1.length c4]) rfl rfl (fun w' hM => by
    have h1 := ksame_fn (.slice a3 (chk SM DM (natI (ownL X set)) KM).1.length c3) (.slice a4 (chk SM DM (natI (ownL X set)) KM).1.length c4) (natI (chk SM DM (natI (ownL X set)) KM).1) (natI (chk SM DM (natI (ownL X set)) KM).1) (by rw [natI_len]; omega) (by rw [natI_len]; omega) w' (hM.gr memA) (hM.gr memA)
    rw [decide_eq_true rfl] at h1
    exact h1) ?_)
  repeat' (first | apply HL.fold | apply HA.fold | apply HL.nil | apply HX.n_then | apply HC.seq | apply HC.region | refine HL.pa ?_ | refine HL.ga rfl ?_ | refine HL.na rfl ?_ | refine HL.nu rfl rfl ?_ | apply HC.block | apply HC.skip | apply HC.exit | apply HC.ret | apply HX.e_block | refine HX.e_other rfl ?_ | apply HX.e_then | apply HX.e_again | apply HX.n_block | apply HX.r_then | apply HX.r_block | apply HX.r_again | refine HC.cond_yes rfl ?_ | refine HC.cond_no rfl ?_ | refine HL.one (H1.ldb rfl memA rfl rfl ?_) | refine HC.cond rfl (fun hc => ?_) (fun hc => ?_) | refine HC.cond_b rfl (fun hc => ?_) (fun hc => ?_))
  refine HL.one (H1.ldAgg (vs := d.cells) rfl memA rfl (fun i v hv => by rw [Nat.zero_add]; exact hv) rfl ?_)
  repeat' (first | apply HL.fold | apply HA.fold | apply HL.nil | apply HX.n_then | apply HC.seq | apply HC.region | refine HL.pa ?_ | refine HL.ga rfl ?_ | refine HL.na rfl ?_ | refine HL.nu rfl rfl ?_ | apply HC.block | apply HC.skip | apply HC.exit | apply HC.ret | apply HX.e_block | refine HX.e_other rfl ?_ | apply HX.e_then | apply HX.e_again | apply HX.n_block | apply HX.r_then | apply HX.r_block | apply HX.r_again | refine HC.cond_yes rfl ?_ | refine HC.cond_no rfl ?_ | refine HL.one (H1.ldb rfl memA rfl rfl ?_) | refine HC.cond rfl (fun hc => ?_) (fun hc => ?_) | refine HC.cond_b rfl (fun hc => ?_) (fun hc => ?_))
  refine HL.one (H1.callz1 (An := fun z : Option Addr × Nat => A.grow 3 1 z.1 z.2 (bestL (best S d k)).length (ints (natI (bestL (best S d k))))) (vs := [.slice a0 S.length c0, .agg d.cells.toArray, zv k]) rfl rfl (fun w' hM => best_fn _ S d k (by omega) w' (hT.ext hM.ext)) ?_)
  rintro ⟨a5, c5⟩ -
  dsimp only
  repeat' (first | apply HL.fold | apply HA.fold | apply HL.nil | apply HX.n_then | apply HC.seq | apply HC.region | refine HL.pa ?_ | refine HL.ga rfl ?_ | refine HL.na rfl ?_ | refine HL.nu rfl rfl ?_ | apply HC.block | apply HC.skip | apply HC.exit | apply HC.ret | apply HX.e_block | refine HX.e_other rfl ?_ | apply HX.e_then | apply HX.e_again | apply HX.n_block | apply HX.r_then | apply HX.r_block | apply HX.r_again | refine HC.cond_yes rfl ?_ | refine HC.cond_no rfl ?_ | refine HL.one (H1.ldb rfl memA rfl rfl ?_) | refine HC.cond rfl (fun hc => ?_) (fun hc => ?_) | refine HC.cond_b rfl (fun hc => ?_) (fun hc => ?_))
  refine HL.one (H1.ldAgg (vs := d.cells) rfl memA rfl (fun i v hv => by rw [Nat.zero_add]; exact hv) rfl ?_)
  repeat' (first | apply HL.fold | apply HA.fold | apply HL.nil | apply HX.n_then | apply HC.seq | apply HC.region | refine HL.pa ?_ | refine HL.ga rfl ?_ | refine HL.na rfl ?_ | refine HL.nu rfl rfl ?_ | apply HC.block | apply HC.skip | apply HC.exit | apply HC.ret | apply HX.e_block | refine HX.e_other rfl ?_ | apply HX.e_then | apply HX.e_again | apply HX.n_block | apply HX.r_then | apply HX.r_block | apply HX.r_again | refine HC.cond_yes rfl ?_ | refine HC.cond_no rfl ?_ | refine HL.one (H1.ldb rfl memA rfl rfl ?_) | refine HC.cond rfl (fun hc => ?_) (fun hc => ?_) | refine HC.cond_b rfl (fun hc => ?_) (fun hc => ?_))
  refine HL.one (H1.callz1 (An := fun z : Option Addr × Nat => A.grow 3 1 z.1 z.2 (bestL (best S d k)).length (ints (natI (bestL (best S d k))))) (vs := [.slice a0 S.length c0, .agg d.cells.toArray, zv k]) rfl rfl (fun w' hM => rbest_fn _ S d k (by omega) w' (hT.ext hM.ext)) ?_)
  rintro ⟨a6, c6⟩ -
  dsimp only
  repeat' (first | apply HL.fold | apply HA.fold | apply HL.nil | apply HX.n_then | apply HC.seq | apply HC.region | refine HL.pa ?_ | refine HL.ga rfl ?_ | refine HL.na rfl ?_ | refine HL.nu rfl rfl ?_ | apply HC.block | apply HC.skip | apply HC.exit | apply HC.ret | apply HX.e_block | refine HX.e_other rfl ?_ | apply HX.e_then | apply HX.e_again | apply HX.n_block | apply HX.r_then | apply HX.r_block | apply HX.r_again | refine HC.cond_yes rfl ?_ | refine HC.cond_no rfl ?_ | refine HL.one (H1.ldb rfl memA rfl rfl ?_) | refine HC.cond rfl (fun hc => ?_) (fun hc => ?_) | refine HC.cond_b rfl (fun hc => ?_) (fun hc => ?_))
  refine HL.one (H1.ldAgg (vs := DM.cells) rfl memA rfl (fun i v hv => by rw [Nat.zero_add]; exact hv) rfl ?_)
  repeat' (first | apply HL.fold | apply HA.fold | apply HL.nil | apply HX.n_then | apply HC.seq | apply HC.region | refine HL.pa ?_ | refine HL.ga rfl ?_ | refine HL.na rfl ?_ | refine HL.nu rfl rfl ?_ | apply HC.block | apply HC.skip | apply HC.exit | apply HC.ret | apply HX.e_block | refine HX.e_other rfl ?_ | apply HX.e_then | apply HX.e_again | apply HX.n_block | apply HX.r_then | apply HX.r_block | apply HX.r_again | refine HC.cond_yes rfl ?_ | refine HC.cond_no rfl ?_ | refine HL.one (H1.ldb rfl memA rfl rfl ?_) | refine HC.cond rfl (fun hc => ?_) (fun hc => ?_) | refine HC.cond_b rfl (fun hc => ?_) (fun hc => ?_))
  refine HL.one (H1.callz1 (An := fun z : Option Addr × Nat => A.grow 3 1 z.1 z.2 (bestL (best SM DM KM)).length (ints (natI (bestL (best SM DM KM))))) (vs := [.slice aS SM.length cS, .agg DM.cells.toArray, zv KM]) rfl rfl (fun w' hM => best_fn _ SM DM KM (by omega) w' (hown w' _ hM memA)) ?_)
  rintro ⟨a7, c7⟩ -
  dsimp only
  repeat' (first | apply HL.fold | apply HA.fold | apply HL.nil | apply HX.n_then | apply HC.seq | apply HC.region | refine HL.pa ?_ | refine HL.ga rfl ?_ | refine HL.na rfl ?_ | refine HL.nu rfl rfl ?_ | apply HC.block | apply HC.skip | apply HC.exit | apply HC.ret | apply HX.e_block | refine HX.e_other rfl ?_ | apply HX.e_then | apply HX.e_again | apply HX.n_block | apply HX.r_then | apply HX.r_block | apply HX.r_again | refine HC.cond_yes rfl ?_ | refine HC.cond_no rfl ?_ | refine HL.one (H1.ldb rfl memA rfl rfl ?_) | refine HC.cond rfl (fun hc => ?_) (fun hc => ?_) | refine HC.cond_b rfl (fun hc => ?_) (fun hc => ?_))
  refine HL.one (H1.ldAgg (vs := DM.cells) rfl memA rfl (fun i v hv => by rw [Nat.zero_add]; exact hv) rfl ?_)
  repeat' (first | apply HL.fold | apply HA.fold | apply HL.nil | apply HX.n_then | apply HC.seq | apply HC.region | refine HL.pa ?_ | refine HL.ga rfl ?_ | refine HL.na rfl ?_ | refine HL.nu rfl rfl ?_ | apply HC.block | apply HC.skip | apply HC.exit | apply HC.ret | apply HX.e_block | refine HX.e_other rfl ?_ | apply HX.e_then | apply HX.e_again | apply HX.n_block | apply HX.r_then | apply HX.r_block | apply HX.r_again | refine HC.cond_yes rfl ?_ | refine HC.cond_no rfl ?_ | refine HL.one (H1.ldb rfl memA rfl rfl ?_) | refine HC.cond rfl (fun hc => ?_) (fun hc => ?_) | refine HC.cond_b rfl (fun hc => ?_) (fun hc => ?_))
  refine HL.one (H1.callz1 (An := fun z : Option Addr × Nat => A.grow 3 1 z.1 z.2 (bestL (best SM DM KM)).length (ints (natI (bestL (best SM DM KM))))) (vs := [.slice aS SM.length cS, .agg DM.cells.toArray, zv KM]) rfl rfl (fun w' hM => rbest_fn _ SM DM KM (by omega) w' (hown w' _ hM memA)) ?_)
  rintro ⟨a8, c8⟩ -
  dsimp only
  repeat' (first | apply HL.fold | apply HA.fold | apply HL.nil | apply HX.n_then | apply HC.seq | apply HC.region | refine HL.pa ?_ | refine HL.ga rfl ?_ | refine HL.na rfl ?_ | refine HL.nu rfl rfl ?_ | apply HC.block | apply HC.skip | apply HC.exit | apply HC.ret | apply HX.e_block | refine HX.e_other rfl ?_ | apply HX.e_then | apply HX.e_again | apply HX.n_block | apply HX.r_then | apply HX.r_block | apply HX.r_again | refine HC.cond_yes rfl ?_ | refine HC.cond_no rfl ?_ | refine HL.one (H1.ldb rfl memA rfl rfl ?_) | refine HC.cond rfl (fun hc => ?_) (fun hc => ?_) | refine HC.cond_b rfl (fun hc => ?_) (fun hc => ?_))
  refine HL.one (H1.callx (u := .bool true) (vs := [.slice a5 (bestL (best S d k)).length c5, .slice a6 (bestL (best S d k)).length c6]) rfl rfl (fun w' hM => by
    have h1 := ksame_fn (.slice a5 (bestL (best S d k)).length c5) (.slice a6 (bestL (best S d k)).length c6) (natI (bestL (best S d k))) (natI (bestL (best S d k))) (by rw [natI_len]; omega) (by rw [natI_len]; omega) w' (hM.gr memA) (hM.gr memA)
    rw [decide_eq_true rfl] at h1
    exact h1) ?_)
  repeat' (first | apply HL.fold | apply HA.fold | apply HL.nil | apply HX.n_then | apply HC.seq | apply HC.region | refine HL.pa ?_ | refine HL.ga rfl ?_ | refine HL.na rfl ?_ | refine HL.nu rfl rfl ?_ | apply HC.block | apply HC.skip | apply HC.exit | apply HC.ret | apply HX.e_block | refine HX.e_other rfl ?_ | apply HX.e_then | apply HX.e_again | apply HX.n_block | apply HX.r_then | apply HX.r_block | apply HX.r_again | refine HC.cond_yes rfl ?_ | refine HC.cond_no rfl ?_ | refine HL.one (H1.ldb rfl memA rfl rfl ?_) | refine HC.cond rfl (fun hc => ?_) (fun hc => ?_) | refine HC.cond_b rfl (fun hc => ?_) (fun hc => ?_))
  refine HL.one (H1.callx (u := .bool true) (vs := [.slice a7 (bestL (best SM DM KM)).length c7, .slice a8 (bestL (best SM DM KM)).length c8]) rfl rfl (fun w' hM => by
    have h1 := ksame_fn (.slice a7 (bestL (best SM DM KM)).length c7) (.slice a8 (bestL (best SM DM KM)).length c8) (natI (bestL (best SM DM KM))) (natI (bestL (best SM DM KM))) (by rw [natI_len]; omega) (by rw [natI_len]; omega) w' (hM.gr memA) (hM.gr memA)
    rw [decide_eq_true rfl] at h1
    exact h1) ?_)
  repeat' (first | apply HL.fold | apply HA.fold | apply HL.nil | apply HX.n_then | apply HC.seq | apply HC.region | refine HL.pa ?_ | refine HL.ga rfl ?_ | refine HL.na rfl ?_ | refine HL.nu rfl rfl ?_ | apply HC.block | apply HC.skip | apply HC.exit | apply HC.ret | apply HX.e_block | refine HX.e_other rfl ?_ | apply HX.e_then | apply HX.e_again | apply HX.n_block | apply HX.r_then | apply HX.r_block | apply HX.r_again | refine HC.cond_yes rfl ?_ | refine HC.cond_no rfl ?_ | refine HL.one (H1.ldb rfl memA rfl rfl ?_) | refine HC.cond rfl (fun hc => ?_) (fun hc => ?_) | refine HC.cond_b rfl (fun hc => ?_) (fun hc => ?_))
  refine HC.sub [(0, .slice a0 S.length c0), (7, .pointer (some ⟨b7, 0, none⟩)), (13, .bool true), (14, .pointer (some ⟨b14, 0, none⟩)), (16, .slice aS SM.length cS)] [A.grow 54 4 aS cS SM.length (SM.flatMap sc), A.blk b14 (row 4 (lvV hV N)) 32, A.blk b7 d.cells 24] ?_ esA (by repeat (first | exact Hs.nil _ | (refine Hs.cons pickA ?_)))
  have hrd : ∀ q, q < 4 → Rd w (lvV hV N q) (ints (lvG GG q)) := fun q hq => lv_rd hG hN hq
  have hGl : ∀ q, q < 4 → (lvG GG q).length ≤ 1000000 := fun q _ => by unfold lvG; rw [List.length_take]; omega
  have hsl := struckL_len S (lvG GG) S.length
  refine HC.anyC (cellsA b7 d.cells ++ (cellsA b14 (row 4 (lvV hV N)) ++ [])) rfl ?_
  refine HB.pa 0 rfl ?_
  refine HB.pa 1 rfl ?_
  first | refine HB.ga 2 rfl rfl ?_ | refine HB.na 2 rfl rfl ?_ | refine HB.nu 2 rfl rfl ?_
  refine HB.ldAg (vs := d.cells) 3 rfl rfl rfl rfl (fun i v hv => cellsL (cellsA_mem hv)) ?_
  first | refine HB.ga 5 rfl rfl ?_ | refine HB.na 5 rfl rfl ?_ | refine HB.nu 5 rfl rfl ?_
  refine HB.ldAg (vs := d.cells) 6 rfl rfl rfl rfl (fun i v hv => cellsL (cellsA_mem hv)) ?_
  refine HB.all (by exact Keep.blkA memA (Keep.blkA memA Keep.nil)) [4] (by kernel_rfl) rfl ⟨⟨_, rfl, ?_⟩, trivial⟩
  refine HP.one_a rfl ?_
  refine H1.callx (vs := [.slice a0 S.length c0, .agg d.cells.toArray]) rfl rfl (fun w' hM => pvalid_fn _ S d (by omega) w' (hT.ext hM.ext)) ?_
  apply HB.fold
  refine HB.all (by exact Keep.blkA memA (Keep.blkA memA Keep.nil)) [7] (by kernel_rfl) rfl ⟨⟨_, rfl, ?_⟩, trivial⟩
  refine HP.one_a rfl ?_
  refine H1.callx (vs := [.slice a0 S.length c0, .agg d.cells.toArray]) rfl rfl (fun w' hM => rvalid18_fn _ S d (by omega) w' (hT.ext hM.ext)) ?_
  apply HB.fold
  refine HB.ga (v := .bool true) 8 rfl rfl ?_ (hp := POp.eqb_same rfl rfl)
  refine HB.pa 9 rfl ?_
  refine HB.pa 10 rfl ?_
  first | refine HB.ga 11 rfl rfl ?_ | refine HB.na 11 rfl rfl ?_ | refine HB.nu 11 rfl rfl ?_
  refine HB.ldAg (vs := d.cells) 12 rfl rfl rfl rfl (fun i v hv => cellsL (cellsA_mem hv)) ?_
  first | refine HB.ga 14 rfl rfl ?_ | refine HB.na 14 rfl rfl ?_ | refine HB.nu 14 rfl rfl ?_
  refine HB.ldAg (vs := d.cells) 15 rfl rfl rfl rfl (fun i v hv => cellsL (cellsA_mem hv)) ?_
  refine HB.all (by exact Keep.blkA memA (Keep.blkA memA Keep.nil)) [13] (by kernel_rfl) rfl ⟨⟨_, rfl, ?_⟩, trivial⟩
  refine HP.one_a rfl ?_
  refine H1.callx (vs := [.slice aS SM.length cS, .agg d.cells.toArray]) rfl rfl (fun w' hM => pvalid_fn _ SM d (by omega) w' (hown w' _ hM memA)) ?_
  apply HB.fold
  refine HB.all (by exact Keep.blkA memA (Keep.blkA memA Keep.nil)) [16] (by kernel_rfl) rfl ⟨⟨_, rfl, ?_⟩, trivial⟩
  refine HP.one_a rfl ?_
  refine H1.callx (vs := [.slice aS SM.length cS, .agg d.cells.toArray]) rfl rfl (fun w' hM => rvalid18_fn _ SM d (by omega) w' (hown w' _ hM memA)) ?_
  apply HB.fold
  refine HB.ga (v := .bool true) 17 rfl rfl ?_ (hp := POp.eqb_same rfl rfl)
  refine HB.pa 18 rfl ?_
  refine HB.pa 19 rfl ?_
  first | refine HB.ga 20 rfl rfl ?_ | refine HB.na 20 rfl rfl ?_ | refine HB.nu 20 rfl rfl ?_
  first | refine HB.ga 21 rfl rfl ?_ | refine HB.na 21 rfl rfl ?_ | refine HB.nu 21 rfl rfl ?_
  refine HB.ldg 22 rfl rfl rfl (cellsR (cellsL (cellsA_mem (i := 0) (v := lvV hV N 0) rfl))) ?_
  first | refine HB.ga 23 rfl rfl ?_ | refine HB.na 23 rfl rfl ?_ | refine HB.nu 23 rfl rfl ?_
  refine HB.ldg 24 rfl rfl rfl (cellsR (cellsL (cellsA_mem (i := 1) (v := lvV hV N 1) rfl))) ?_
  first | refine HB.ga 25 rfl rfl ?_ | refine HB.na 25 rfl rfl ?_ | refine HB.nu 25 rfl rfl ?_
  refine HB.ldg 26 rfl rfl rfl (cellsR (cellsL (cellsA_mem (i := 2) (v := lvV hV N 2) rfl))) ?_
  first | refine HB.ga 27 rfl rfl ?_ | refine HB.na 27 rfl rfl ?_ | refine HB.nu 27 rfl rfl ?_
  refine HB.ldg 28 rfl rfl rfl (cellsR (cellsL (cellsA_mem (i := 3) (v := lvV hV N 3) rfl))) ?_
  first | refine HB.ga 30 rfl rfl ?_ | refine HB.na 30 rfl rfl ?_ | refine HB.nu 30 rfl rfl ?_
  first | refine HB.ga 31 rfl rfl ?_ | refine HB.na 31 rfl rfl ?_ | refine HB.nu 31 rfl rfl ?_
  refine HB.ldg 32 rfl rfl rfl (cellsR (cellsL (cellsA_mem (i := 0) (v := lvV hV N 0) rfl))) ?_
  first | refine HB.ga 33 rfl rfl ?_ | refine HB.na 33 rfl rfl ?_ | refine HB.nu 33 rfl rfl ?_
  refine HB.ldg 34 rfl rfl rfl (cellsR (cellsL (cellsA_mem (i := 1) (v := lvV hV N 1) rfl))) ?_
  first | refine HB.ga 35 rfl rfl ?_ | refine HB.na 35 rfl rfl ?_ | refine HB.nu 35 rfl rfl ?_
  refine HB.ldg 36 rfl rfl rfl (cellsR (cellsL (cellsA_mem (i := 2) (v := lvV hV N 2) rfl))) ?_
  first | refine HB.ga 37 rfl rfl ?_ | refine HB.na 37 rfl rfl ?_ | refine HB.nu 37 rfl rfl ?_
  refine HB.ldg 38 rfl rfl rfl (cellsR (cellsL (cellsA_mem (i := 3) (v := lvV hV N 3) rfl))) ?_
  refine HB.all (by exact Keep.blkA memA (Keep.blkA memA Keep.nil)) [29] (by kernel_rfl) rfl ⟨⟨_, rfl, ?_⟩, trivial⟩
  refine HP.one_a rfl ?_
  refine H1.callz1 (An := fun z : Option Addr × Nat => A.grow 3 1 z.1 z.2 (struckL S (lvG GG) S.length).length (ints (natI (struckL S (lvG GG) S.length)))) (vs := [.slice a0 S.length c0, lvV hV N 0, lvV hV N 1, lvV hV N 2, lvV hV N 3]) rfl rfl (fun w' hM => struck_fn _ S (lvV hV N) (lvG GG) (by omega) hGl w' (hT.ext hM.ext) fun q hq => hM.rd0 (hrd q hq)) ?_
  rintro ⟨a1, c1⟩ -
  dsimp only
  apply HB.fold
  refine HB.all (by exact Keep.blkA memA (Keep.blkA memA Keep.nil)) [39] (by kernel_rfl) rfl ⟨⟨_, rfl, ?_⟩, trivial⟩
  refine HP.one_a rfl ?_
  refine H1.callz1 (An := fun z : Option Addr × Nat => A.grow 3 1 z.1 z.2 (struckL S (lvG GG) S.length).length (ints (natI (struckL S (lvG GG) S.length)))) (vs := [.slice a0 S.length c0, lvV hV N 0, lvV hV N 1, lvV hV N 2, lvV hV N 3]) rfl rfl (fun w' hM => rstruck18_fn _ S (lvV hV N) (lvG GG) (by omega) hGl w' (hT.ext hM.ext) fun q hq => hM.rd0 (hrd q hq)) ?_
  rintro ⟨a2, c2⟩ -
  dsimp only
  apply HB.fold
  refine HB.all (by exact Keep.blkA memA (Keep.blkA memA Keep.nil)) [40] (by kernel_rfl) rfl ⟨⟨_, rfl, ?_⟩, trivial⟩
  refine HP.one_a rfl ?_
  refine H1.callx (u := .bool true) (vs := [.slice a1 (struckL S (lvG GG) S.length).length c1, .slice a2 (struckL S (lvG GG) S.length).length c2]) rfl rfl (fun w' hM => by
      have h1 := ksame_fn (.slice a1 (struckL S (lvG GG) S.length).length c1) (.slice a2 (struckL S (lvG GG) S.length).length c2) (natI (struckL S (lvG GG) S.length)) (natI (struckL S (lvG GG) S.length)) (by rw [natI_len]; omega) (by rw [natI_len]; omega) w' (hM.gr memA) (hM.gr memA)
      rw [decide_eq_true rfl] at h1
      exact h1) ?_
  apply HB.fold
  refine HB.pa 41 rfl ?_
  refine HB.pa 42 rfl ?_
  refine HB.done (by exact Keep.blkA memA (Keep.blkA memA Keep.nil)) (by kernel_rfl) ?_
  repeat' (first | apply HL.fold | apply HA.fold | apply HL.nil | apply HX.n_then | apply HC.seq | apply HC.region | refine HL.pa ?_ | refine HL.ga rfl ?_ | refine HL.na rfl ?_ | refine HL.nu rfl rfl ?_ | apply HC.block | apply HC.skip | apply HC.exit | apply HC.ret | apply HX.e_block | refine HX.e_other rfl ?_ | apply HX.e_then | apply HX.e_again | apply HX.n_block | apply HX.r_then | apply HX.r_block | apply HX.r_again | refine HC.cond_yes rfl ?_ | refine HC.cond_no rfl ?_ | refine HL.one (H1.ldb rfl memA rfl rfl ?_) | refine HC.cond rfl (fun hc => ?_) (fun hc => ?_) | refine HC.cond_b rfl (fun hc => ?_) (fun hc => ?_))
  exact HX.ret1 rfl rfl fun w' hM => ⟨rfl, hM.ext⟩
end Go.Sx

