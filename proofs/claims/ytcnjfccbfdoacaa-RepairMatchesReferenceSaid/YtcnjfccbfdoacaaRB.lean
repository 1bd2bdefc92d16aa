/- unique over a list of int (a map that holds its elements). -/
import Derived.Test.YtcnjfccbfdoacaaR9
namespace Go.Sx
open Go Go.Proofs
def ms (l : List Int) : List (Int × Value) := l.foldl (fun m x => mset m x (.agg #[])) []
theorem mset_len (m : List (Int × Value)) (x : Int) (v : Value) : (mset m x v).length = if x ∈ m.map Prod.fst then m.length else m.length + 1 := by
  induction m with
  | nil => simp [mset]
  | cons p m ih =>
    obtain ⟨y, u⟩ := p
    unfold mset
    by_cases h : x = y
    · simp [h]
    · rw [if_neg h, List.length_cons, ih]
      by_cases h2 : x ∈ m.map Prod.fst
      · rw [if_pos h2, if_pos (by simp [h2])]; rfl
      · rw [if_neg h2, if_neg (by rw [List.map_cons, List.mem_cons]; rintro (h3 | h3); exact h h3; exact h2 h3)]; rfl
theorem mset_mem (m : List (Int × Value)) (x y : Int) (v : Value) : y ∈ (mset m x v).map Prod.fst ↔ y = x ∨ y ∈ m.map Prod.fst := by
  induction m with
  | nil => simp [mset]
  | cons p m ih =>
    obtain ⟨z, u⟩ := p
    unfold mset
    by_cases h : x = z
    · subst h; simp
    · rw [if_neg h, List.map_cons, List.mem_cons, ih, List.map_cons, List.mem_cons]
      constructor
      · rintro (h1 | h1 | h1)
        · exact .inr (.inl h1)
        · exact .inl h1
        · exact .inr (.inr h1)
      · rintro (h1 | h1 | h1)
        · exact .inr (.inl h1)
        · exact .inl h1
        · exact .inr (.inr h1)
theorem ms_snoc (l : List Int) (x : Int) : ms (l ++ [x]) = mset (ms l) x (.agg #[]) := by unfold ms; rw [List.foldl_append]; rfl
theorem ms_spec (k : Nat) : ∀ l : List Int, l.length = k → (∀ y, y ∈ (ms l).map Prod.fst ↔ y ∈ l) ∧ (ms l).length ≤ l.length ∧ ((ms l).length = l.length ↔ l.Nodup) := by
  induction k with
  | zero =>
    intro l h
    have := List.eq_nil_of_length_eq_zero h
    subst this
    simp [ms]
  | succ k ih =>
    intro l h
    have hne : l ≠ [] := by intro e; rw [e] at h; simp at h
    obtain ⟨m, x, rfl⟩ : ∃ m x, l = m ++ [x] := ⟨l.dropLast, l.getLast hne, (List.dropLast_concat_getLast hne).symm⟩
    have hm : m.length = k := by simpa using h
    obtain ⟨h1, h2, h3⟩ := ih m hm
    rw [ms_snoc]
    refine ⟨fun y => ?_, ?_, ?_⟩
    · rw [mset_mem, h1, List.mem_append, List.mem_singleton]; exact Or.comm
    · rw [mset_len, List.length_append]
      split <;> simp <;> omega
    · rw [mset_len, List.length_append, List.length_singleton, List.nodup_append]
      by_cases hx : x ∈ m
      · rw [if_pos ((h1 x).2 hx)]
        constructor
        · intro e; omega
        · rintro ⟨-, -, h4⟩; exact absurd rfl (h4 x hx x (by simp))
      · rw [if_neg fun e => hx ((h1 x).1 e)]
        constructor
        · intro e
          refine ⟨h3.1 (by omega), by simp, fun a ha b hb e => ?_⟩
          rw [List.mem_singleton] at hb
          subst hb; subst e; exact hx ha
        · rintro ⟨h4, -, -⟩
          have := h3.2 h4; omega
theorem ms_nodup (l : List Int) : decide (((ms l).length : Int) = (l.length : Int)) = decide l.Nodup := by
  have := (ms_spec l.length l rfl).2.2
  by_cases h : l.Nodup
  · rw [decide_eq_true h, decide_eq_true (by have := this.2 h; omega)]
  · rw [decide_eq_false h, decide_eq_false fun e => h (this.1 (by omega))]
attribute [local irreducible] WC WL WX POp Then Again Fn NX W1 WA WO QL RP RA Yld LoopAt HC HL HX HN H1 HA HO HQ A.blk A.grow A.rd A.obj AgainH CutH
theorem unique_fn (v : Value) (l : List Int) (hl : l.length ≤ 1000000) (w : World) (hR : Rd w v (ints l)) :
    Fn Try.prog 44 #[v] w fun x w' => x = .bool (decide l.Nodup) ∧ Ext w w' := by
  obtain ⟨a, c, rfl, hc⟩ := hR.isInts
  refine enterH (l := [_]) rfl Try.ntmps44 rfl ?_
  repeat' (first | apply HL.fold | apply HA.fold | apply HL.nil | apply HX.n_then | apply HC.seq | apply HC.region | refine HL.pa ?_ | refine HL.ga rfl ?_ | refine HL.na rfl ?_ | refine HL.nu rfl rfl ?_ | apply HC.block | apply HC.skip | apply HC.exit | apply HC.ret | apply HX.e_block | refine HX.e_other rfl ?_ | apply HX.e_then | apply HX.e_again | apply HX.n_block | apply HX.r_then | apply HX.r_block | apply HX.r_again | refine HC.cond_yes rfl ?_ | refine HC.cond_no rfl ?_ | refine HL.one (H1.ldb rfl memA rfl rfl ?_) | refine HC.cond rfl (fun hc => ?_) (fun hc => ?_) | refine HC.cond_b rfl (fun hc => ?_) (fun hc => ?_))
  refine HL.one (H1.mkmap .i64 rfl (fun b => ?_))
  repeat' (first | apply HL.fold | apply HA.fold | apply HL.nil | apply HX.n_then | apply HC.seq | apply HC.region | refine HL.pa ?_ | refine HL.ga rfl ?_ | refine HL.na rfl ?_ | refine HL.nu rfl rfl ?_ | apply HC.block | apply HC.skip | apply HC.exit | apply HC.ret | apply HX.e_block | refine HX.e_other rfl ?_ | apply HX.e_then | apply HX.e_again | apply HX.n_block | apply HX.r_then | apply HX.r_block | apply HX.r_again | refine HC.cond_yes rfl ?_ | refine HC.cond_no rfl ?_ | refine HL.one (H1.ldb rfl memA rfl rfl ?_) | refine HC.cond rfl (fun hc => ?_) (fun hc => ?_) | refine HC.cond_b rfl (fun hc => ?_) (fun hc => ?_))
  refine HC.loop (α := Nat) (fun i => [(0, .slice a l.length c), (3, .map (some b)), (7, .slice a l.length c), (8, .int .i64 l.length), (9, .int .i64 (i : Int))]) (fun i => [A.mp b .i64 (ms (l.take i))]) (fun i => i ≤ l.length) (fun i => l.length - i) 0 (Nat.zero_le _) esA (by repeat (first | exact Hs.nil _ | (refine Hs.cons pickA ?_))) ?_
  intro i hi
  by_cases hlt : i < l.length
  · obtain ⟨b2, off, rfl, -⟩ := hR.iat (by intro e; rw [e] at hlt; simp at hlt)
    repeat' (first | apply HL.fold | apply HA.fold | apply HL.nil | apply HX.n_then | apply HC.seq | apply HC.region | refine HL.pa ?_ | refine HL.ga rfl ?_ | refine HL.na rfl ?_ | refine HL.nu rfl rfl ?_ | apply HC.block | apply HC.skip | apply HC.exit | apply HC.ret | apply HX.e_block | refine HX.e_other rfl ?_ | apply HX.e_then | apply HX.e_again | apply HX.n_block | apply HX.r_then | apply HX.r_block | apply HX.r_again | refine HC.cond_yes rfl ?_ | refine HC.cond_no rfl ?_ | refine HL.one (H1.ldb rfl memA rfl rfl ?_) | refine HC.cond rfl (fun hc => ?_) (fun hc => ?_) | refine HC.cond_b rfl (fun hc => ?_) (fun hc => ?_))
    refine HL.one (H1.ld0 rfl (hR.cell (ints_get hlt)) rfl ?_)
    repeat' (first | apply HL.fold | apply HA.fold | apply HL.nil | apply HX.n_then | apply HC.seq | apply HC.region | refine HL.pa ?_ | refine HL.ga rfl ?_ | refine HL.na rfl ?_ | refine HL.nu rfl rfl ?_ | apply HC.block | apply HC.skip | apply HC.exit | apply HC.ret | apply HX.e_block | refine HX.e_other rfl ?_ | apply HX.e_then | apply HX.e_again | apply HX.n_block | apply HX.r_then | apply HX.r_block | apply HX.r_again | refine HC.cond_yes rfl ?_ | refine HC.cond_no rfl ?_ | refine HL.one (H1.ldb rfl memA rfl rfl ?_) | refine HC.cond rfl (fun hc => ?_) (fun hc => ?_) | refine HC.cond_b rfl (fun hc => ?_) (fun hc => ?_))
    refine HL.build (parts := []) rfl rfl rfl ?_
    refine HL.one ?_
    refine H1.mapset (l := ms (l.take i)) (b := b) (q := .i64) rfl rfl rfl Rpl.here ?_
    repeat' (first | apply HL.fold | apply HA.fold | apply HL.nil | apply HX.n_then | apply HC.seq | apply HC.region | refine HL.pa ?_ | refine HL.ga rfl ?_ | refine HL.na rfl ?_ | refine HL.nu rfl rfl ?_ | apply HC.block | apply HC.skip | apply HC.exit | apply HC.ret | apply HX.e_block | refine HX.e_other rfl ?_ | apply HX.e_then | apply HX.e_again | apply HX.n_block | apply HX.r_then | apply HX.r_block | apply HX.r_again | refine HC.cond_yes rfl ?_ | refine HC.cond_no rfl ?_ | refine HL.one (H1.ldb rfl memA rfl rfl ?_) | refine HC.cond rfl (fun hc => ?_) (fun hc => ?_) | refine HC.cond_b rfl (fun hc => ?_) (fun hc => ?_))
    refine HX.again (i + 1) (by omega) (by omega) esA (Hs.cons (Pick.eq ?_) (Hs.nil _))
    rw [take_at hlt, ms_snoc]
  · obtain rfl : i = l.length := by omega
    rw [List.take_length]
    repeat' (first | apply HL.fold | apply HA.fold | apply HL.nil | apply HX.n_then | apply HC.seq | apply HC.region | refine HL.pa ?_ | refine HL.ga rfl ?_ | refine HL.na rfl ?_ | refine HL.nu rfl rfl ?_ | apply HC.block | apply HC.skip | apply HC.exit | apply HC.ret | apply HX.e_block | refine HX.e_other rfl ?_ | apply HX.e_then | apply HX.e_again | apply HX.n_block | apply HX.r_then | apply HX.r_block | apply HX.r_again | refine HC.cond_yes rfl ?_ | refine HC.cond_no rfl ?_ | refine HL.one (H1.ldb rfl memA rfl rfl ?_) | refine HC.cond rfl (fun hc => ?_) (fun hc => ?_) | refine HC.cond_b rfl (fun hc => ?_) (fun hc => ?_))
    refine HL.one (H1.maplen rfl memA rfl ?_)
    repeat' (first | apply HL.fold | apply HA.fold | apply HL.nil | apply HX.n_then | apply HC.seq | apply HC.region | refine HL.pa ?_ | refine HL.ga rfl ?_ | refine HL.na rfl ?_ | refine HL.nu rfl rfl ?_ | apply HC.block | apply HC.skip | apply HC.exit | apply HC.ret | apply HX.e_block | refine HX.e_other rfl ?_ | apply HX.e_then | apply HX.e_again | apply HX.n_block | apply HX.r_then | apply HX.r_block | apply HX.r_again | refine HC.cond_yes rfl ?_ | refine HC.cond_no rfl ?_ | refine HL.one (H1.ldb rfl memA rfl rfl ?_) | refine HC.cond rfl (fun hc => ?_) (fun hc => ?_) | refine HC.cond_b rfl (fun hc => ?_) (fun hc => ?_))
    exact HX.ret1 rfl rfl fun w' hM => ⟨by rw [ms_nodup], hM.ext⟩
end Go.Sx

