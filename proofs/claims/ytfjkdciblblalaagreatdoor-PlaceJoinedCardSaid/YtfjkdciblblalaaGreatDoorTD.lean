/- Chapter 18: small functions of the laws and of the reference. -/
import Derived.Test.YtfjkdciblblalaaGreatDoorTA
import Derived.Test.YtfjkdciblblalaaGreatDoorHj
namespace Go.Sx
open Go Go.Proofs Go.RowKit
def i64R (x : Int) : Prop := -9223372036854775808 ≤ x ∧ x ≤ 9223372036854775807
def pkI (c n : Int) : Int := if c < 0 then (-(c + 1)) % n else c % n
theorem pkI_lt (c : Int) {n : Int} (hn : 0 < n) : 0 ≤ pkI c n ∧ pkI c n < n := by
  unfold pkI
  split
  · exact ⟨Int.emod_nonneg _ (by omega), Int.emod_lt_of_pos _ hn⟩
  · exact ⟨Int.emod_nonneg _ (by omega), Int.emod_lt_of_pos _ hn⟩
theorem knot_take {l : List Int} {x : Int} {i : Nat} (h : i < l.length) (h1 : x ∉ l.take i) (h2 : ¬ at' l i = x) : x ∉ l.take (i + 1) := by
  rw [take_at h, List.mem_append, List.mem_singleton]
  rintro (h3 | h3)
  · exact h1 h3
  · exact h2 h3.symm
theorem ktake_succ {l m : List Int} {i : Nat} (h1 : i < l.length) (h2 : i < m.length) (h : l.take i = m.take i) (he : at' l i = at' m i) : l.take (i + 1) = m.take (i + 1) := by
  rw [take_at h1, take_at h2, h, he]
/-- Those of n numbers that the bits of an integer say. -/
def somL (x : Int) (n : Nat) : List Nat := (List.range n).filter (pkI x (2 ^ n)).toNat.testBit
theorem somL_lt {x : Int} {n i : Nat} (h : i ∈ somL x n) : i < n := List.mem_range.1 (List.mem_filter.1 h).1
theorem somL_asc (x : Int) (n : Nat) : (somL x n).Pairwise (· < ·) := (List.pairwise_lt_range).filter _
theorem somL_len (x : Int) (n : Nat) : (somL x n).length ≤ n := by
  have := List.length_filter_le (pkI x (2 ^ n)).toNat.testBit (List.range n)
  rwa [List.length_range] at this
theorem bits_step (m i : Nat) : ((List.range (i + 1)).filter m.testBit) = ((List.range i).filter m.testBit) ++ (if m.testBit i = true then [i] else []) := by
  rw [List.range_succ, List.filter_append]
  congr 1
  cases h : m.testBit i <;> simp [h]
theorem bit_i64 (m i : Nat) : (decide (((m >>> i : Nat) : Int) % 2 = 1)) = m.testBit i := by
  rw [Nat.testBit_eq_decide_div_mod_eq, Nat.shiftRight_eq_div_pow]
  exact decide_eq_decide.2 (by omega)
/-- Cells of structs, one behind the other. -/
theorem flat_get (S : List St) : ∀ (i j : Nat) (u : Value), i < S.length → (sc (stAt S i))[j]? = some u → (S.flatMap sc)[i * 4 + j]? = some u := by
  induction S with
  | nil => intro i j u h _; exact absurd h (Nat.not_lt_zero _)
  | cons s S ih =>
    intro i j u hi hu
    have hl : (sc s).length = 4 := rfl
    have hj : j < 4 := by
      have := (List.getElem?_eq_some_iff.1 hu).1
      exact this
    rw [List.flatMap_cons]
    cases i with
    | zero =>
      rw [Nat.zero_mul, Nat.zero_add, List.getElem?_append_left (by rw [hl]; exact hj)]
      exact hu
    | succ i =>
      rw [List.getElem?_append_right (by rw [hl]; omega), hl, show (i + 1) * 4 + j - 4 = i * 4 + j by omega]
      exact ih i j u (by simpa using hi) (by simpa [stAt] using hu)
theorem flat_len (S : List St) : (S.flatMap sc).length = S.length * 4 := by
  induction S with
  | nil => rfl
  | cons s S ih => rw [List.flatMap_cons, List.length_append, ih, List.length_cons]; show 4 + _ = _; omega
theorem RdS.of {w : World} {S : List St} {b c : Nat} (hb : b < w.heap.size) (hc : S.length ≤ c) (h : ∀ k u, (S.flatMap sc)[k]? = some u → w.cell? ⟨b, k, none⟩ = some u) : RdS w (.slice (some ⟨b, 0, none⟩) S.length c) S := by
  refine ⟨_, _, by rw [List.length_map], by rw [List.length_map]; exact hc, .inr ⟨b, 0, rfl, hb, fun i row j u hi hu => ?_⟩⟩
  rw [Nat.zero_add]
  rw [List.getElem?_map] at hi
  cases hs : S[i]? with
  | none => rw [hs] at hi; cases hi
  | some s =>
    rw [hs] at hi
    simp only [Option.map_some, Option.some.injEq] at hi
    subst hi
    obtain ⟨h1, h2⟩ := List.getElem?_eq_some_iff.1 hs
    exact h _ u (flat_get S i j u h1 (by rw [show stAt S i = s by unfold stAt; simp [h1, h2]]; exact hu))
theorem RdS.own {w0 w : World} {H : List Atom} {S : List St} {a : Option Addr} {c : Nat} {e : TypeId} (hM : Mm w0 H w) (hm : A.grow e 4 a c S.length (S.flatMap sc) ∈ H) : RdS w (.slice a S.length c) S := by
  have hown := hM.own hm
  rcases hown.2 with ⟨hv, h0⟩ | ⟨g, cap, cur, hv, -, hg, hnc, -⟩
  · have : S = [] := List.eq_nil_of_length_eq_zero h0
    subst this
    exact ⟨_, _, rfl, Nat.zero_le _, .inl rfl⟩
  · cases hv
    exact RdS.of (Array.getElem?_eq_some_iff.1 hg).1 hnc fun _ _ hu => ownsRow_cell hown hu
theorem RdS.blk {w0 w : World} {H : List Atom} {S : List St} {b : Nat} {e : TypeId} (hM : Mm w0 H w) (hm : A.blk b (S.flatMap sc) e ∈ H) : RdS w (.slice (some ⟨b, 0, none⟩) S.length S.length) S :=
  RdS.of (hM.blk hm).lt (Nat.le_refl _) fun _ _ hu => (hM.blk hm).cell hu
def ex4 : List St := [⟨0, 0, 0, 0⟩, ⟨0, 1, 1, 1⟩, ⟨1, 2, 2, 2⟩, ⟨2, 3, 3, 3⟩]
attribute [local irreducible] WC WL WX POp Then Again Fn NX W1 WA WO QL RP RA Yld LoopAt HC HL HX HN H1 HA HO HQ HB HP A.blk A.grow A.rd A.obj A.mp AgainH CutH
attribute [local irreducible] A.mq A.mit A.dfrs A.loop mapsA A.land A.pure chk
theorem kpick_fn (c n : Int) (h1 : -9223372036854775808 ≤ c) (h2 : c ≤ 9223372036854775807) (hn : 0 < n) (w : World) : Fn Tryz.prog 37 #[.int .i64 c, .int .i64 n] w fun v w' => v = .int .i64 (pkI c n) ∧ w = w' := by
  refine enter (l := [_, _]) rfl Tryz.ntmps37 rfl ?_
  by_cases h : c < 0
  · repeat' (first | apply WL.fold | apply WA.fold | apply WL.nil | apply WX.n_then | apply WC.seq | apply WC.region | refine WL.pa ?_ | refine WL.ga rfl ?_ | refine WL.na rfl ?_ | refine WL.nu rfl rfl ?_ | apply WC.block | apply WC.skip | apply WC.exit | apply WC.ret | apply WX.e_block | refine WX.e_other rfl ?_ | apply WX.e_then | apply WX.e_again | apply WX.n_block | apply WX.r_then | apply WX.r_block | apply WX.r_again | refine WC.cond_yes rfl ?_ | refine WC.cond_no rfl ?_ | refine WC.cond rfl (fun hc => ?_) (fun hc => ?_) | refine WC.cond_b rfl (fun hc => ?_) (fun hc => ?_))
    exact WX.ret1 rfl rfl ⟨by rw [pkI, if_pos h], rfl⟩
  · repeat' (first | apply WL.fold | apply WA.fold | apply WL.nil | apply WX.n_then | apply WC.seq | apply WC.region | refine WL.pa ?_ | refine WL.ga rfl ?_ | refine WL.na rfl ?_ | refine WL.nu rfl rfl ?_ | apply WC.block | apply WC.skip | apply WC.exit | apply WC.ret | apply WX.e_block | refine WX.e_other rfl ?_ | apply WX.e_then | apply WX.e_again | apply WX.n_block | apply WX.r_then | apply WX.r_block | apply WX.r_again | refine WC.cond_yes rfl ?_ | refine WC.cond_no rfl ?_ | refine WC.cond rfl (fun hc => ?_) (fun hc => ?_) | refine WC.cond_b rfl (fun hc => ?_) (fun hc => ?_))
    exact WX.ret1 rfl rfl ⟨by rw [pkI, if_neg h], rfl⟩
theorem kpick2_fn (c n : Int) (h1 : -9223372036854775808 ≤ c) (h2 : c ≤ 9223372036854775807) (hn : 0 < n) (w : World) : Fn Tryz.prog 81 #[.int .i64 c, .int .i64 n] w fun v w' => v = .int .i64 (pkI c n) ∧ w = w' := by
  refine enter (l := [_, _]) rfl Tryz.ntmps81 rfl ?_
  by_cases h : c < 0
  · repeat' (first | apply WL.fold | apply WA.fold | apply WL.nil | apply WX.n_then | apply WC.seq | apply WC.region | refine WL.pa ?_ | refine WL.ga rfl ?_ | refine WL.na rfl ?_ | refine WL.nu rfl rfl ?_ | apply WC.block | apply WC.skip | apply WC.exit | apply WC.ret | apply WX.e_block | refine WX.e_other rfl ?_ | apply WX.e_then | apply WX.e_again | apply WX.n_block | apply WX.r_then | apply WX.r_block | apply WX.r_again | refine WC.cond_yes rfl ?_ | refine WC.cond_no rfl ?_ | refine WC.cond rfl (fun hc => ?_) (fun hc => ?_) | refine WC.cond_b rfl (fun hc => ?_) (fun hc => ?_))
    exact WX.ret1 rfl rfl ⟨by rw [pkI, if_pos h], rfl⟩
  · repeat' (first | apply WL.fold | apply WA.fold | apply WL.nil | apply WX.n_then | apply WC.seq | apply WC.region | refine WL.pa ?_ | refine WL.ga rfl ?_ | refine WL.na rfl ?_ | refine WL.nu rfl rfl ?_ | apply WC.block | apply WC.skip | apply WC.exit | apply WC.ret | apply WX.e_block | refine WX.e_other rfl ?_ | apply WX.e_then | apply WX.e_again | apply WX.n_block | apply WX.r_then | apply WX.r_block | apply WX.r_again | refine WC.cond_yes rfl ?_ | refine WC.cond_no rfl ?_ | refine WC.cond rfl (fun hc => ?_) (fun hc => ?_) | refine WC.cond_b rfl (fun hc => ?_) (fun hc => ?_))
    exact WX.ret1 rfl rfl ⟨by rw [pkI, if_neg h], rfl⟩
theorem khas_fn (v : Value) (l : List Int) (x : Int) (hl : l.length ≤ 1000000) (w : World) (hR : Rd w v (ints l)) :
    Fn Tryz.prog 18 #[v, zv x] w fun u w' => u = .bool (decide (x ∈ l)) ∧ w = w' := by
  suffices h : Fn Tryz.prog 18 #[v, zv x] w fun u w' => u = .bool (decide (x ∈ l)) ∧ w' = w from h.mono fun _ _ ⟨h1, h2⟩ => ⟨h1, h2.symm⟩
  obtain ⟨a, c, rfl, hc⟩ := hR.isInts
  refine enter (l := [_, _]) rfl Tryz.ntmps18 rfl ?_
  repeat' (first | apply WL.fold | apply WA.fold | apply WL.nil | apply WX.n_then | apply WC.seq | apply WC.region | refine WL.pa ?_ | refine WL.ga rfl ?_ | refine WL.na rfl ?_ | refine WL.nu rfl rfl ?_ | apply WC.block | apply WC.skip | apply WC.exit | apply WC.ret | apply WX.e_block | refine WX.e_other rfl ?_ | apply WX.e_then | apply WX.e_again | apply WX.n_block | apply WX.r_then | apply WX.r_block | apply WX.r_again | refine WC.cond_yes rfl ?_ | refine WC.cond_no rfl ?_ | refine WC.cond rfl (fun hc => ?_) (fun hc => ?_) | refine WC.cond_b rfl (fun hc => ?_) (fun hc => ?_))
  refine WC.loop (α := Nat) (fun i => [(0, .slice a l.length c), (1, .int .i64 x), (5, .int .i64 (i : Int))]) (fun i w' => i ≤ l.length ∧ x ∉ l.take i ∧ w' = w) (fun i => l.length - i) 0 ⟨rfl, rfl, rfl, trivial⟩ ⟨by omega, by simp, rfl⟩ ?_
  rintro i w' ⟨hi, hno, rfl⟩
  by_cases hlt : i < l.length
  · obtain ⟨b, off, rfl, -⟩ := hR.iat (by intro e; rw [e] at hlt; simp at hlt)
    by_cases he : at' l i = x
    · repeat' (first | apply WL.fold | apply WA.fold | apply WL.nil | apply WX.n_then | apply WC.seq | apply WC.region | refine WL.pa ?_ | refine WL.ga rfl ?_ | refine WL.na rfl ?_ | refine WL.nu rfl rfl ?_ | apply WC.block | apply WC.skip | apply WC.exit | apply WC.ret | apply WX.e_block | refine WX.e_other rfl ?_ | apply WX.e_then | apply WX.e_again | apply WX.n_block | apply WX.r_then | apply WX.r_block | apply WX.r_again | refine WC.cond_yes rfl ?_ | refine WC.cond_no rfl ?_ | refine WC.cond rfl (fun hc => ?_) (fun hc => ?_) | refine WC.cond_b rfl (fun hc => ?_) (fun hc => ?_))
      refine WL.load rfl (hR.cell (ints_get hlt)) rfl ?_
      repeat' (first | apply WL.fold | apply WA.fold | apply WL.nil | apply WX.n_then | apply WC.seq | apply WC.region | refine WL.pa ?_ | refine WL.ga rfl ?_ | refine WL.na rfl ?_ | refine WL.nu rfl rfl ?_ | apply WC.block | apply WC.skip | apply WC.exit | apply WC.ret | apply WX.e_block | refine WX.e_other rfl ?_ | apply WX.e_then | apply WX.e_again | apply WX.n_block | apply WX.r_then | apply WX.r_block | apply WX.r_again | refine WC.cond_yes rfl ?_ | refine WC.cond_no rfl ?_ | refine WC.cond rfl (fun hc => ?_) (fun hc => ?_) | refine WC.cond_b rfl (fun hc => ?_) (fun hc => ?_))
      exact WX.ret1 rfl rfl ⟨by rw [decide_eq_true (he ▸ at_mem hlt)], rfl⟩
    · repeat' (first | apply WL.fold | apply WA.fold | apply WL.nil | apply WX.n_then | apply WC.seq | apply WC.region | refine WL.pa ?_ | refine WL.ga rfl ?_ | refine WL.na rfl ?_ | refine WL.nu rfl rfl ?_ | apply WC.block | apply WC.skip | apply WC.exit | apply WC.ret | apply WX.e_block | refine WX.e_other rfl ?_ | apply WX.e_then | apply WX.e_again | apply WX.n_block | apply WX.r_then | apply WX.r_block | apply WX.r_again | refine WC.cond_yes rfl ?_ | refine WC.cond_no rfl ?_ | refine WC.cond rfl (fun hc => ?_) (fun hc => ?_) | refine WC.cond_b rfl (fun hc => ?_) (fun hc => ?_))
      refine WL.load rfl (hR.cell (ints_get hlt)) rfl ?_
      repeat' (first | apply WL.fold | apply WA.fold | apply WL.nil | apply WX.n_then | apply WC.seq | apply WC.region | refine WL.pa ?_ | refine WL.ga rfl ?_ | refine WL.na rfl ?_ | refine WL.nu rfl rfl ?_ | apply WC.block | apply WC.skip | apply WC.exit | apply WC.ret | apply WX.e_block | refine WX.e_other rfl ?_ | apply WX.e_then | apply WX.e_again | apply WX.n_block | apply WX.r_then | apply WX.r_block | apply WX.r_again | refine WC.cond_yes rfl ?_ | refine WC.cond_no rfl ?_ | refine WC.cond rfl (fun hc => ?_) (fun hc => ?_) | refine WC.cond_b rfl (fun hc => ?_) (fun hc => ?_))
      exact WX.again (i + 1) ⟨by omega, knot_take hlt hno he, rfl⟩ (by omega) ⟨rfl, rfl, rfl, trivial⟩
  · obtain rfl : i = l.length := by omega
    rw [List.take_length] at hno
    repeat' (first | apply WL.fold | apply WA.fold | apply WL.nil | apply WX.n_then | apply WC.seq | apply WC.region | refine WL.pa ?_ | refine WL.ga rfl ?_ | refine WL.na rfl ?_ | refine WL.nu rfl rfl ?_ | apply WC.block | apply WC.skip | apply WC.exit | apply WC.ret | apply WX.e_block | refine WX.e_other rfl ?_ | apply WX.e_then | apply WX.e_again | apply WX.n_block | apply WX.r_then | apply WX.r_block | apply WX.r_again | refine WC.cond_yes rfl ?_ | refine WC.cond_no rfl ?_ | refine WC.cond rfl (fun hc => ?_) (fun hc => ?_) | refine WC.cond_b rfl (fun hc => ?_) (fun hc => ?_))
    exact WX.ret1 rfl rfl ⟨by rw [decide_eq_false hno], rfl⟩
theorem ksame_fn (v u : Value) (l m : List Int) (hl : l.length ≤ 1000000) (_ : m.length ≤ 1000000) (w : World) (hR : Rd w v (ints l)) (hS : Rd w u (ints m)) :
    Fn Tryz.prog 34 #[v, u] w fun x w' => x = .bool (decide (l = m)) ∧ Ext w w' := by
  obtain ⟨a, c, rfl, hc⟩ := hR.isInts
  obtain ⟨a', c', rfl, hc'⟩ := hS.isInts
  refine enterH (l := [_, _]) rfl Tryz.ntmps34 rfl ?_
  by_cases hlen : l.length = m.length
  · have hlen' : (l.length : Int) = m.length := by omega
    repeat' (first | apply HL.fold | apply HA.fold | apply HL.nil | apply HX.n_then | apply HC.seq | apply HC.region | refine HL.pa ?_ | refine HL.ga rfl ?_ | refine HL.na rfl ?_ | refine HL.nu rfl rfl ?_ | apply HC.block | apply HC.skip | apply HC.exit | apply HC.ret | apply HX.e_block | refine HX.e_other rfl ?_ | apply HX.e_then | apply HX.e_again | apply HX.n_block | apply HX.r_then | apply HX.r_block | apply HX.r_again | refine HC.cond_yes rfl ?_ | refine HC.cond_no rfl ?_ | refine HL.one (H1.ldb rfl memA rfl rfl ?_) | refine HC.cond rfl (fun hc => ?_) (fun hc => ?_) | refine HC.cond_b rfl (fun hc => ?_) (fun hc => ?_))
    refine HC.loop (α := Nat) (fun i => [(0, .slice a l.length c), (1, .slice a' m.length c'), (5, .int .i64 (i : Int))]) (fun _ => []) (fun i => i ≤ l.length ∧ l.take i = m.take i) (fun i => l.length - i) 0 ⟨by omega, by simp⟩ esA (by repeat (first | exact Hs.nil _ | (refine Hs.cons pickA ?_))) ?_
    rintro i ⟨hi, hti⟩
    by_cases hlt : i < l.length
    · have hlt' : i < m.length := by omega
      obtain ⟨b, off, rfl, -⟩ := hR.iat (by intro e; rw [e] at hlt; simp at hlt)
      obtain ⟨b', off', rfl, -⟩ := hS.iat (by intro e; rw [e] at hlt'; simp at hlt')
      by_cases he : at' l i = at' m i
      · repeat' (first | apply HL.fold | apply HA.fold | apply HL.nil | apply HX.n_then | apply HC.seq | apply HC.region | refine HL.pa ?_ | refine HL.ga rfl ?_ | refine HL.na rfl ?_ | refine HL.nu rfl rfl ?_ | apply HC.block | apply HC.skip | apply HC.exit | apply HC.ret | apply HX.e_block | refine HX.e_other rfl ?_ | apply HX.e_then | apply HX.e_again | apply HX.n_block | apply HX.r_then | apply HX.r_block | apply HX.r_again | refine HC.cond_yes rfl ?_ | refine HC.cond_no rfl ?_ | refine HL.one (H1.ldb rfl memA rfl rfl ?_) | refine HC.cond rfl (fun hc => ?_) (fun hc => ?_) | refine HC.cond_b rfl (fun hc => ?_) (fun hc => ?_))
        refine HC.quietS [(some 17, [0], []), (some 18, [5], []), (some 19, [17, 18], [0, 1]), (some 20, [19], [2]), (some 21, [1], []), (some 22, [5], []), (some 23, [21, 22], [4, 5]), (some 24, [23], [6]), (some 25, [20, 24], [3, 7])] (by kernel_rfl) (by kernel_rfl) (by kernel_rfl) ?_
        repeat' (first | refine HQ.pa ?_ | refine HQ.ga rfl ?_ | refine HQ.na rfl ?_ | refine HQ.nu rfl ?_ | refine HQ.ldb rfl memA rfl rfl ?_)
        refine HQ.ld rfl (fun _ hM => (hM.rd0 hR).cell (ints_get hlt)) rfl ?_
        repeat' (first | refine HQ.pa ?_ | refine HQ.ga rfl ?_ | refine HQ.na rfl ?_ | refine HQ.nu rfl ?_ | refine HQ.ldb rfl memA rfl rfl ?_)
        refine HQ.ld rfl (fun _ hM => (hM.rd0 hS).cell (ints_get hlt')) rfl ?_
        repeat' (first | refine HQ.pa ?_ | refine HQ.ga rfl ?_ | refine HQ.na rfl ?_ | refine HQ.nu rfl ?_ | refine HQ.ldb rfl memA rfl rfl ?_)
        refine HQ.nil ?_
        repeat' (first | apply HL.fold | apply HA.fold | apply HL.nil | apply HX.n_then | apply HC.seq | apply HC.region | refine HL.pa ?_ | refine HL.ga rfl ?_ | refine HL.na rfl ?_ | refine HL.nu rfl rfl ?_ | apply HC.block | apply HC.skip | apply HC.exit | apply HC.ret | apply HX.e_block | refine HX.e_other rfl ?_ | apply HX.e_then | apply HX.e_again | apply HX.n_block | apply HX.r_then | apply HX.r_block | apply HX.r_again | refine HC.cond_yes rfl ?_ | refine HC.cond_no rfl ?_ | refine HL.one (H1.ldb rfl memA rfl rfl ?_) | refine HC.cond rfl (fun hc => ?_) (fun hc => ?_) | refine HC.cond_b rfl (fun hc => ?_) (fun hc => ?_))
        exact HX.again (i + 1) ⟨by omega, ktake_succ hlt hlt' hti he⟩ (by omega) esA (by repeat (first | exact Hs.nil _ | (refine Hs.cons pickA ?_)))
      · repeat' (first | apply HL.fold | apply HA.fold | apply HL.nil | apply HX.n_then | apply HC.seq | apply HC.region | refine HL.pa ?_ | refine HL.ga rfl ?_ | refine HL.na rfl ?_ | refine HL.nu rfl rfl ?_ | apply HC.block | apply HC.skip | apply HC.exit | apply HC.ret | apply HX.e_block | refine HX.e_other rfl ?_ | apply HX.e_then | apply HX.e_again | apply HX.n_block | apply HX.r_then | apply HX.r_block | apply HX.r_again | refine HC.cond_yes rfl ?_ | refine HC.cond_no rfl ?_ | refine HL.one (H1.ldb rfl memA rfl rfl ?_) | refine HC.cond rfl (fun hc => ?_) (fun hc => ?_) | refine HC.cond_b rfl (fun hc => ?_) (fun hc => ?_))
        refine HC.quietS [(some 17, [0], []), (some 18, [5], []), (some 19, [17, 18], [0, 1]), (some 20, [19], [2]), (some 21, [1], []), (some 22, [5], []), (some 23, [21, 22], [4, 5]), (some 24, [23], [6]), (some 25, [20, 24], [3, 7])] (by kernel_rfl) (by kernel_rfl) (by kernel_rfl) ?_
        repeat' (first | refine HQ.pa ?_ | refine HQ.ga rfl ?_ | refine HQ.na rfl ?_ | refine HQ.nu rfl ?_ | refine HQ.ldb rfl memA rfl rfl ?_)
        refine HQ.ld rfl (fun _ hM => (hM.rd0 hR).cell (ints_get hlt)) rfl ?_
        repeat' (first | refine HQ.pa ?_ | refine HQ.ga rfl ?_ | refine HQ.na rfl ?_ | refine HQ.nu rfl ?_ | refine HQ.ldb rfl memA rfl rfl ?_)
        refine HQ.ld rfl (fun _ hM => (hM.rd0 hS).cell (ints_get hlt')) rfl ?_
        repeat' (first | refine HQ.pa ?_ | refine HQ.ga rfl ?_ | refine HQ.na rfl ?_ | refine HQ.nu rfl ?_ | refine HQ.ldb rfl memA rfl rfl ?_)
        refine HQ.nil ?_
        repeat' (first | apply HL.fold | apply HA.fold | apply HL.nil | apply HX.n_then | apply HC.seq | apply HC.region | refine HL.pa ?_ | refine HL.ga rfl ?_ | refine HL.na rfl ?_ | refine HL.nu rfl rfl ?_ | apply HC.block | apply HC.skip | apply HC.exit | apply HC.ret | apply HX.e_block | refine HX.e_other rfl ?_ | apply HX.e_then | apply HX.e_again | apply HX.n_block | apply HX.r_then | apply HX.r_block | apply HX.r_again | refine HC.cond_yes rfl ?_ | refine HC.cond_no rfl ?_ | refine HL.one (H1.ldb rfl memA rfl rfl ?_) | refine HC.cond rfl (fun hc => ?_) (fun hc => ?_) | refine HC.cond_b rfl (fun hc => ?_) (fun hc => ?_))
        exact HX.ret1 rfl rfl fun w' hM => ⟨by rw [decide_eq_false fun e => he (by rw [e])], hM.ext⟩
    · obtain rfl : i = l.length := by omega
      rw [List.take_length, hlen, List.take_length] at hti
      repeat' (first | apply HL.fold | apply HA.fold | apply HL.nil | apply HX.n_then | apply HC.seq | apply HC.region | refine HL.pa ?_ | refine HL.ga rfl ?_ | refine HL.na rfl ?_ | refine HL.nu rfl rfl ?_ | apply HC.block | apply HC.skip | apply HC.exit | apply HC.ret | apply HX.e_block | refine HX.e_other rfl ?_ | apply HX.e_then | apply HX.e_again | apply HX.n_block | apply HX.r_then | apply HX.r_block | apply HX.r_again | refine HC.cond_yes rfl ?_ | refine HC.cond_no rfl ?_ | refine HL.one (H1.ldb rfl memA rfl rfl ?_) | refine HC.cond rfl (fun hc => ?_) (fun hc => ?_) | refine HC.cond_b rfl (fun hc => ?_) (fun hc => ?_))
      exact HX.ret1 rfl rfl fun w' hM => ⟨by rw [decide_eq_true hti], hM.ext⟩
  · have hlen' : ¬ (l.length : Int) = m.length := by omega
    repeat' (first | apply HL.fold | apply HA.fold | apply HL.nil | apply HX.n_then | apply HC.seq | apply HC.region | refine HL.pa ?_ | refine HL.ga rfl ?_ | refine HL.na rfl ?_ | refine HL.nu rfl rfl ?_ | apply HC.block | apply HC.skip | apply HC.exit | apply HC.ret | apply HX.e_block | refine HX.e_other rfl ?_ | apply HX.e_then | apply HX.e_again | apply HX.n_block | apply HX.r_then | apply HX.r_block | apply HX.r_again | refine HC.cond_yes rfl ?_ | refine HC.cond_no rfl ?_ | refine HL.one (H1.ldb rfl memA rfl rfl ?_) | refine HC.cond rfl (fun hc => ?_) (fun hc => ?_) | refine HC.cond_b rfl (fun hc => ?_) (fun hc => ?_))
    exact HX.ret1 rfl rfl fun w' hM => ⟨by rw [decide_eq_false fun e => hlen (by rw [e])], hM.ext⟩
theorem first_fn (a : Option Addr) (c : Nat) (l : List Int) (n : Int) (hn : 0 ≤ n) (hl : l.length ≤ 1000000) (w : World) (hR : Rd w (.slice a l.length c) (ints l)) :
    Fn Tryz.prog 16 #[.slice a l.length c, zv n] w fun u w' => u = .slice a (min l.length n.toNat) c ∧ w = w' := by
  suffices h : Fn Tryz.prog 16 #[.slice a l.length c, zv n] w fun u w' => u = .slice a (min l.length n.toNat) c ∧ w' = w from h.mono fun _ _ ⟨h1, h2⟩ => ⟨h1, h2.symm⟩
  obtain ⟨a', c', e1, hc⟩ := hR.isInts
  cases e1
  have hm : min (l.length : Int) n = ((min l.length n.toNat : Nat) : Int) := by omega
  refine enter (l := [_, _]) rfl Tryz.ntmps16 rfl ?_
  repeat' (first | apply WL.fold | apply WA.fold | apply WL.nil | apply WX.n_then | apply WC.seq | apply WC.region | refine WL.pa ?_ | refine WL.ga rfl ?_ | refine WL.na rfl ?_ | refine WL.nu rfl rfl ?_ | apply WC.block | apply WC.skip | apply WC.exit | apply WC.ret | apply WX.e_block | refine WX.e_other rfl ?_ | apply WX.e_then | apply WX.e_again | apply WX.n_block | apply WX.r_then | apply WX.r_block | apply WX.r_again | refine WC.cond_yes rfl ?_ | refine WC.cond_no rfl ?_ | refine WC.cond rfl (fun hc => ?_) (fun hc => ?_) | refine WC.cond_b rfl (fun hc => ?_) (fun hc => ?_))
  rw [hm]
  refine WL.pa ?_ (POp.pre_hi hR rfl rfl (by omega) (by omega))
  rw [Int.toNat_natCast]
  repeat' (first | apply WL.fold | apply WA.fold | apply WL.nil | apply WX.n_then | apply WC.seq | apply WC.region | refine WL.pa ?_ | refine WL.ga rfl ?_ | refine WL.na rfl ?_ | refine WL.nu rfl rfl ?_ | apply WC.block | apply WC.skip | apply WC.exit | apply WC.ret | apply WX.e_block | refine WX.e_other rfl ?_ | apply WX.e_then | apply WX.e_again | apply WX.n_block | apply WX.r_then | apply WX.r_block | apply WX.r_again | refine WC.cond_yes rfl ?_ | refine WC.cond_no rfl ?_ | refine WC.cond rfl (fun hc => ?_) (fun hc => ?_) | refine WC.cond_b rfl (fun hc => ?_) (fun hc => ?_))
  exact WX.ret1 rfl rfl ⟨rfl, rfl⟩
theorem some_fn (x : Int) (n : Nat) (hx : i64R x) (hn : n ≤ 9) (w : World) : Fn Tryz.prog 17 #[zv x, zv (n : Int)] w fun v w' => ∃ z : Option Addr × Nat, True ∧ v = .slice z.1 (somL x n).length z.2 ∧ Mm w [A.grow 3 1 z.1 z.2 (somL x n).length (ints (natI (somL x n)))] w' := by
  obtain ⟨hx0, hx1⟩ := hx
  have hp : (1 <<< n : Nat) ≤ 512 := by rw [Nat.one_shiftLeft]; exact Nat.pow_le_pow_right (by decide) hn
  have hp0 : 0 < (1 <<< n : Nat) := by rw [Nat.one_shiftLeft]; exact Nat.two_pow_pos n
  have hpk := pkI_lt x (n := ((1 <<< n : Nat) : Int)) (by omega)
  have e2 : ((1 <<< n : Nat) : Int) = 2 ^ n := by rw [Nat.one_shiftLeft]; simp
  obtain ⟨m, hm, hm5⟩ : ∃ m : Nat, pkI x ((1 <<< n : Nat) : Int) = (m : Int) ∧ m < 512 := ⟨(pkI x ((1 <<< n : Nat) : Int)).toNat, by omega, by omega⟩
  have hL : ∀ i, (List.range i).filter (pkI x (2 ^ n)).toNat.testBit = (List.range i).filter m.testBit := fun i => by rw [← e2, hm, Int.toNat_natCast]
  unfold somL
  rw [hL]
  refine enterH (l := [_, _]) rfl Tryz.ntmps17 rfl ?_
  repeat' (first | apply HL.fold | apply HA.fold | apply HL.nil | apply HX.n_then | apply HC.seq | apply HC.region | refine HL.pa ?_ | refine HL.ga rfl ?_ | refine HL.na rfl ?_ | refine HL.nu rfl rfl ?_ | apply HC.block | apply HC.skip | apply HC.exit | apply HC.ret | apply HX.e_block | refine HX.e_other rfl ?_ | apply HX.e_then | apply HX.e_again | apply HX.n_block | apply HX.r_then | apply HX.r_block | apply HX.r_again | refine HC.cond_yes rfl ?_ | refine HC.cond_no rfl ?_ | refine HL.one (H1.ldb rfl memA rfl rfl ?_) | refine HC.cond rfl (fun hc => ?_) (fun hc => ?_) | refine HC.cond_b rfl (fun hc => ?_) (fun hc => ?_))
  refine HL.one (H1.call0 (vs := [zv x, zv ((1 <<< n : Nat) : Int)]) rfl rfl (fun w' _ => kpick_fn x _ hx0 hx1 (by omega) w') ?_)
  rw [hm]
  repeat' (first | apply HL.fold | apply HA.fold | apply HL.nil | apply HX.n_then | apply HC.seq | apply HC.region | refine HL.pa ?_ | refine HL.ga rfl ?_ | refine HL.na rfl ?_ | refine HL.nu rfl rfl ?_ | apply HC.skip | apply HC.exit | apply HC.ret | apply HX.e_block | refine HX.e_other rfl ?_ | apply HX.e_then | apply HX.e_again | apply HX.n_block | apply HX.r_then | apply HX.r_block | apply HX.r_again | refine HC.cond_yes rfl ?_ | refine HC.cond_no rfl ?_ | refine HL.one (H1.ldb rfl memA rfl rfl ?_) | refine HC.cond rfl (fun hc => ?_) (fun hc => ?_) | refine HC.cond_b rfl (fun hc => ?_) (fun hc => ?_))
  refine HC.grow0 3 1 ?_
  repeat' (first | apply HL.fold | apply HA.fold | apply HL.nil | apply HX.n_then | apply HC.seq | apply HC.region | refine HL.pa ?_ | refine HL.ga rfl ?_ | refine HL.na rfl ?_ | refine HL.nu rfl rfl ?_ | apply HC.block | apply HC.skip | apply HC.exit | apply HC.ret | apply HX.e_block | refine HX.e_other rfl ?_ | apply HX.e_then | apply HX.e_again | apply HX.n_block | apply HX.r_then | apply HX.r_block | apply HX.r_again | refine HC.cond_yes rfl ?_ | refine HC.cond_no rfl ?_ | refine HL.one (H1.ldb rfl memA rfl rfl ?_) | refine HC.cond rfl (fun hc => ?_) (fun hc => ?_) | refine HC.cond_b rfl (fun hc => ?_) (fun hc => ?_))
  refine HC.loop (α := Nat × Option Addr × Nat) (fun z => [(0, zv (m : Int)), (1, zv (n : Int)), (5, .slice z.2.1 ((List.range z.1).filter m.testBit).length z.2.2), (6, zv (z.1 : Int))])
    (fun z => [A.grow 3 1 z.2.1 z.2.2 ((List.range z.1).filter m.testBit).length (ints (natI ((List.range z.1).filter m.testBit)))]) (fun z => z.1 ≤ n) (fun z => n - z.1) (0, none, 0) (Nat.zero_le _) esA (by repeat (first | exact Hs.nil _ | (refine Hs.cons pickA ?_))) ?_
  rintro ⟨i, ar, cr⟩ hi
  dsimp only at hi ⊢
  have hlen9 : ((List.range i).filter m.testBit).length ≤ 9 := by
    have := List.length_filter_le (m.testBit) (List.range i)
    rw [List.length_range] at this
    omega
  by_cases hlt : i < n
  rotate_left
  · obtain rfl : i = n := by omega
    repeat' (first | apply HL.fold | apply HA.fold | apply HL.nil | apply HX.n_then | apply HC.seq | apply HC.region | refine HL.pa ?_ | refine HL.ga rfl ?_ | refine HL.na rfl ?_ | refine HL.nu rfl rfl ?_ | apply HC.block | apply HC.skip | apply HC.exit | apply HC.ret | apply HX.e_block | refine HX.e_other rfl ?_ | apply HX.e_then | apply HX.e_again | apply HX.n_block | apply HX.r_then | apply HX.r_block | apply HX.r_again | refine HC.cond_yes rfl ?_ | refine HC.cond_no rfl ?_ | refine HL.one (H1.ldb rfl memA rfl rfl ?_) | refine HC.cond rfl (fun hc => ?_) (fun hc => ?_) | refine HC.cond_b rfl (fun hc => ?_) (fun hc => ?_))
    exact HX.ret1 rfl rfl fun w' hM => ⟨(ar, cr), trivial, rfl, hM⟩
  have hstep := bits_step m i
  have hbit := bit_i64 m i
  generalize hX : ((List.range i).filter m.testBit) = X at *
  cases hb : m.testBit i with
  | true =>
    rw [hb, if_pos rfl] at hstep
    rw [hb] at hbit
    have hq := of_decide_eq_true hbit
    repeat' (first | apply HL.fold | apply HA.fold | apply HL.nil | apply HX.n_then | apply HC.seq | apply HC.region | refine HL.pa ?_ | refine HL.ga rfl ?_ | refine HL.na rfl ?_ | refine HL.nu rfl rfl ?_ | apply HC.block | apply HC.skip | apply HC.exit | apply HC.ret | apply HX.e_block | refine HX.e_other rfl ?_ | apply HX.e_then | apply HX.e_again | apply HX.n_block | apply HX.r_then | apply HX.r_block | apply HX.r_again | refine HC.cond_yes rfl ?_ | refine HC.cond_no rfl ?_ | refine HL.one (H1.ldb rfl memA rfl rfl ?_) | refine HC.cond rfl (fun hc => ?_) (fun hc => ?_) | refine HC.cond_b rfl (fun hc => ?_) (fun hc => ?_))
    refine HL.pa ?_ (POp.rem rfl rfl (Int.natCast_nonneg _) (by decide))
    repeat' (first | apply HL.fold | apply HA.fold | apply HL.nil | apply HX.n_then | apply HC.seq | apply HC.region | refine HL.pa ?_ | refine HL.ga rfl ?_ | refine HL.na rfl ?_ | refine HL.nu rfl rfl ?_ | apply HC.block | apply HC.skip | apply HC.exit | apply HC.ret | apply HX.e_block | refine HX.e_other rfl ?_ | apply HX.e_then | apply HX.e_again | apply HX.n_block | apply HX.r_then | apply HX.r_block | apply HX.r_again | refine HC.cond_yes rfl ?_ | refine HC.cond_no rfl ?_ | refine HL.one (H1.ldb rfl memA rfl rfl ?_) | refine HC.cond rfl (fun hc => ?_) (fun hc => ?_) | refine HC.cond_b rfl (fun hc => ?_) (fun hc => ?_))
    refine HL.one (H1.lit (cs := [zv (i : Int)]) rfl rfl rfl rfl rfl rfl (fun b3 => ?_))
    repeat' (first | apply HL.fold | apply HA.fold | apply HL.nil | apply HX.n_then | apply HC.seq | apply HC.region | refine HL.pa ?_ | refine HL.ga rfl ?_ | refine HL.na rfl ?_ | refine HL.nu rfl rfl ?_ | apply HC.block | apply HC.skip | apply HC.exit | apply HC.ret | apply HX.e_block | refine HX.e_other rfl ?_ | apply HX.e_then | apply HX.e_again | apply HX.n_block | apply HX.r_then | apply HX.r_block | apply HX.r_again | refine HC.cond_yes rfl ?_ | refine HC.cond_no rfl ?_ | refine HL.one (H1.ldb rfl memA rfl rfl ?_) | refine HC.cond rfl (fun hc => ?_) (fun hc => ?_) | refine HC.cond_b rfl (fun hc => ?_) (fun hc => ?_))
    refine HL.one (H1.app1 (u := zv (i : Int)) rfl rfl (fun _ _ => by first | ((repeat (first | with_reducible exact Rpl.here | with_reducible apply Rpl.there)); done) | (repeat (first | exact Rpl.here | apply Rpl.there))) (by repeat (first | exact mem_hd | apply mem_tl)) rfl rfl (by omega) rfl rfl (fun a4 c4 => ?_))
    repeat' (first | apply HL.fold | apply HA.fold | apply HL.nil | apply HX.n_then | apply HC.seq | apply HC.region | refine HL.pa ?_ | refine HL.ga rfl ?_ | refine HL.na rfl ?_ | refine HL.nu rfl rfl ?_ | apply HC.block | apply HC.skip | apply HC.exit | apply HC.ret | apply HX.e_block | refine HX.e_other rfl ?_ | apply HX.e_then | apply HX.e_again | apply HX.n_block | apply HX.r_then | apply HX.r_block | apply HX.r_again | refine HC.cond_yes rfl ?_ | refine HC.cond_no rfl ?_ | refine HL.one (H1.ldb rfl memA rfl rfl ?_) | refine HC.cond rfl (fun hc => ?_) (fun hc => ?_) | refine HC.cond_b rfl (fun hc => ?_) (fun hc => ?_))
    refine HX.again (i + 1, some ⟨a4, 0, none⟩, c4) (by show i + 1 ≤ n; omega) (by show n - (i + 1) < n - i; omega) (by dsimp only; rw [hstep, List.length_append]; repeat (first | exact trivial | refine ⟨rfl, ?_⟩)) ?_
    dsimp only
    rw [hstep, List.length_append, natI_app, ints_app]
    repeat (first | exact Hs.nil _ | (refine Hs.cons pickA ?_))
  | false =>
    rw [hb, if_neg (by decide), List.append_nil] at hstep
    rw [hb] at hbit
    have hq := of_decide_eq_false hbit
    repeat' (first | apply HL.fold | apply HA.fold | apply HL.nil | apply HX.n_then | apply HC.seq | apply HC.region | refine HL.pa ?_ | refine HL.ga rfl ?_ | refine HL.na rfl ?_ | refine HL.nu rfl rfl ?_ | apply HC.block | apply HC.skip | apply HC.exit | apply HC.ret | apply HX.e_block | refine HX.e_other rfl ?_ | apply HX.e_then | apply HX.e_again | apply HX.n_block | apply HX.r_then | apply HX.r_block | apply HX.r_again | refine HC.cond_yes rfl ?_ | refine HC.cond_no rfl ?_ | refine HL.one (H1.ldb rfl memA rfl rfl ?_) | refine HC.cond rfl (fun hc => ?_) (fun hc => ?_) | refine HC.cond_b rfl (fun hc => ?_) (fun hc => ?_))
    refine HL.pa ?_ (POp.rem rfl rfl (Int.natCast_nonneg _) (by decide))
    repeat' (first | apply HL.fold | apply HA.fold | apply HL.nil | apply HX.n_then | apply HC.seq | apply HC.region | refine HL.pa ?_ | refine HL.ga rfl ?_ | refine HL.na rfl ?_ | refine HL.nu rfl rfl ?_ | apply HC.block | apply HC.skip | apply HC.exit | apply HC.ret | apply HX.e_block | refine HX.e_other rfl ?_ | apply HX.e_then | apply HX.e_again | apply HX.n_block | apply HX.r_then | apply HX.r_block | apply HX.r_again | refine HC.cond_yes rfl ?_ | refine HC.cond_no rfl ?_ | refine HL.one (H1.ldb rfl memA rfl rfl ?_) | refine HC.cond rfl (fun hc => ?_) (fun hc => ?_) | refine HC.cond_b rfl (fun hc => ?_) (fun hc => ?_))
    refine HX.again (i + 1, ar, cr) (by show i + 1 ≤ n; omega) (by show n - (i + 1) < n - i; omega) (by dsimp only; rw [hstep]; repeat (first | exact trivial | refine ⟨rfl, ?_⟩)) ?_
    dsimp only
    rw [hstep]
    repeat (first | exact Hs.nil _ | (refine Hs.cons pickA ?_))
theorem example_fn (w : World) : Fn Tryz.prog 32 #[] w fun v w' => ∃ b : Nat, True ∧ v = .slice (some ⟨b, 0, none⟩) 4 4 ∧ Mm w [A.blk b (ex4.flatMap sc) 95] w' := by
  refine enterH (l := []) rfl Tryz.ntmps32 rfl ?_
  repeat' (first | apply HL.fold | apply HA.fold | apply HL.nil | apply HX.n_then | apply HC.seq | apply HC.region | refine HL.pa ?_ | refine HL.ga rfl ?_ | refine HL.na rfl ?_ | refine HL.nu rfl rfl ?_ | apply HC.block | apply HC.skip | apply HC.exit | apply HC.ret | apply HX.e_block | refine HX.e_other rfl ?_ | apply HX.e_then | apply HX.e_again | apply HX.n_block | apply HX.r_then | apply HX.r_block | apply HX.r_again | refine HC.cond_yes rfl ?_ | refine HC.cond_no rfl ?_ | refine HL.one (H1.ldb rfl memA rfl rfl ?_) | refine HC.cond rfl (fun hc => ?_) (fun hc => ?_) | refine HC.cond_b rfl (fun hc => ?_) (fun hc => ?_))
  refine HL.build (parts := []) (cs := sc ⟨0, 0, 0, 0⟩) rfl rfl rfl ?_
  refine HL.build (cs := sc ⟨0, 1, 1, 1⟩) rfl rfl rfl ?_
  refine HL.build (cs := sc ⟨1, 2, 2, 2⟩) rfl rfl rfl ?_
  refine HL.build (cs := sc ⟨2, 3, 3, 3⟩) rfl rfl rfl ?_
  refine HL.one (H1.lit (cs := ex4.flatMap sc) rfl rfl rfl rfl rfl rfl (fun b => ?_))
  repeat' (first | apply HL.fold | apply HA.fold | apply HL.nil | apply HX.n_then | apply HC.seq | apply HC.region | refine HL.pa ?_ | refine HL.ga rfl ?_ | refine HL.na rfl ?_ | refine HL.nu rfl rfl ?_ | apply HC.block | apply HC.skip | apply HC.exit | apply HC.ret | apply HX.e_block | refine HX.e_other rfl ?_ | apply HX.e_then | apply HX.e_again | apply HX.n_block | apply HX.r_then | apply HX.r_block | apply HX.r_again | refine HC.cond_yes rfl ?_ | refine HC.cond_no rfl ?_ | refine HL.one (H1.ldb rfl memA rfl rfl ?_) | refine HC.cond rfl (fun hc => ?_) (fun hc => ?_) | refine HC.cond_b rfl (fun hc => ?_) (fun hc => ?_))
  exact HX.ret1 rfl rfl fun w' hM => ⟨b, trivial, rfl, hM⟩
end Go.Sx
/- Chapter 18: the inputs of the laws: Made, made. -/
namespace Go.Sx
open Go Go.Proofs Go.RowKit
def mkSite (X : List St) (i : Nat) : St := if i < X.length then ⟨pkI (stAt X i).p 6, pkI (stAt X i).r 4, pkI (stAt X i).v 5, pkI (stAt X i).l 3⟩ else ⟨(i : Int) % 6, (i : Int) % 6, (i : Int) % 6, (i : Int) % 6⟩
def madeN (X : List St) : Nat := max 1 (min X.length 7)
def madeU (X : List St) (n : Nat) : List St := (List.range n).map (mkSite X)
def madeS (X : List St) : List St := madeU X (madeN X)
def madeD (y : Di) : Di := ⟨⟨pkI y.b.p 3, pkI y.b.r 2, pkI y.b.v 2, pkI y.b.l 2⟩, pkI y.liars 3⟩
theorem madeU_len (X : List St) (n : Nat) : (madeU X n).length = n := by simp [madeU]
theorem madeS_len (X : List St) : (madeS X).length = madeN X := madeU_len X _
theorem madeN_7 (X : List St) : 1 ≤ madeN X ∧ madeN X ≤ 7 := by unfold madeN; omega
theorem madeU_step (X : List St) (n : Nat) : madeU X (n + 1) = madeU X n ++ [mkSite X n] := by unfold madeU; rw [List.range_succ, List.map_append]; rfl
def St.i64 (s : St) : Prop := i64R s.p ∧ i64R s.r ∧ i64R s.v ∧ i64R s.l
theorem mkSite_in (X : List St) (i q : Nat) : 0 ≤ (mkSite X i).at q ∧ (mkSite X i).at q ≤ 5 := by
  unfold mkSite
  split
  · have h0 := pkI_lt (stAt X i).p (n := 6) (by decide)
    have h1 := pkI_lt (stAt X i).r (n := 4) (by decide)
    have h2 := pkI_lt (stAt X i).v (n := 5) (by decide)
    have h3 := pkI_lt (stAt X i).l (n := 3) (by decide)
    match q with
    | 0 => show 0 ≤ pkI (stAt X i).p 6 ∧ pkI (stAt X i).p 6 ≤ 5; omega
    | 1 => show 0 ≤ pkI (stAt X i).r 4 ∧ pkI (stAt X i).r 4 ≤ 5; omega
    | 2 => show 0 ≤ pkI (stAt X i).v 5 ∧ pkI (stAt X i).v 5 ≤ 5; omega
    | _ + 3 => show 0 ≤ pkI (stAt X i).l 3 ∧ pkI (stAt X i).l 3 ≤ 5; omega
  · match q with
    | 0 => show 0 ≤ (i : Int) % 6 ∧ (i : Int) % 6 ≤ 5; omega
    | 1 => show 0 ≤ (i : Int) % 6 ∧ (i : Int) % 6 ≤ 5; omega
    | 2 => show 0 ≤ (i : Int) % 6 ∧ (i : Int) % 6 ≤ 5; omega
    | _ + 3 => show 0 ≤ (i : Int) % 6 ∧ (i : Int) % 6 ≤ 5; omega
theorem within_of {s : St} {hi : Int} (h : ∀ q, 0 ≤ s.at q ∧ s.at q ≤ hi) : s.within hi = true := by
  unfold St.within
  rw [decide_eq_true_eq]
  exact ⟨h 0, h 1, h 2, h 3⟩
theorem madeD_in (y : Di) : (∀ q, 0 ≤ (madeD y).b.at q ∧ (madeD y).b.at q ≤ 2) ∧ 0 ≤ (madeD y).liars ∧ (madeD y).liars ≤ 2 := by
  have h0 := pkI_lt y.b.p (n := 3) (by decide)
  have h1 := pkI_lt y.b.r (n := 2) (by decide)
  have h2 := pkI_lt y.b.v (n := 2) (by decide)
  have h3 := pkI_lt y.b.l (n := 2) (by decide)
  have h4 := pkI_lt y.liars (n := 3) (by decide)
  refine ⟨fun q => ?_, h4.1, by show pkI y.liars 3 ≤ 2; omega⟩
  match q with
  | 0 => show 0 ≤ pkI y.b.p 3 ∧ pkI y.b.p 3 ≤ 2; omega
  | 1 => show 0 ≤ pkI y.b.r 2 ∧ pkI y.b.r 2 ≤ 2; omega
  | 2 => show 0 ≤ pkI y.b.v 2 ∧ pkI y.b.v 2 ≤ 2; omega
  | _ + 3 => show 0 ≤ pkI y.b.l 2 ∧ pkI y.b.l 2 ≤ 2; omega
theorem madeV (X : List St) (y : Di) : pvalid (madeS X) (madeD y) = true := by
  have h1 := madeN_7 X
  have h2 := madeD_in y
  unfold pvalid
  rw [madeS_len, decide_eq_true (by omega : 1 ≤ madeN X ∧ madeN X ≤ 9), within_of (fun q => by have := h2.1 q; omega), decide_eq_true (by omega : 0 ≤ (madeD y).liars ∧ (madeD y).liars ≤ 4)]
  rw [List.all_eq_true.2 fun s hs => ?_]
  · rfl
  · obtain ⟨i, -, rfl⟩ := List.mem_map.1 hs
    exact within_of (mkSite_in X i)
attribute [local irreducible] WC WL WX POp Then Again Fn NX W1 WA WO QL RP RA Yld LoopAt HC HL HX HN H1 HA HO HQ HB HP A.blk A.grow A.rd A.obj A.mp AgainH CutH
attribute [local irreducible] A.mq A.mit A.dfrs A.loop mapsA A.land A.pure chk
set_option maxHeartbeats 1000000 in
theorem kMade_fn (v : Value) (X : List St) (y : Di) (hX : X.length ≤ 9223372036854775807) (hxb : ∀ s ∈ X, s.i64) (hyb : y.b.i64 ∧ i64R y.liars) (w : World) (hT : RdS w v X) :
    Fn Tryz.prog 36 #[v, .agg y.cells.toArray] w fun u w' => ∃ z : Option Addr × Nat, True ∧ u = .tuple #[.slice z.1 (madeS X).length z.2, .agg (madeD y).cells.toArray] ∧ Mm w [A.grow 95 4 z.1 z.2 (madeS X).length ((madeS X).flatMap sc)] w' := by
  obtain ⟨a, c, rfl, hc⟩ := hT.shape
  obtain ⟨⟨⟨hy0, hy0'⟩, ⟨hy1, hy1'⟩, ⟨hy2, hy2'⟩, ⟨hy3, hy3'⟩⟩, ⟨hy4, hy4'⟩⟩ := hyb
  have hN := madeN_7 X
  have hNe : max 1 (min (X.length : Int) 7) = (madeN X : Int) := by unfold madeN; omega
  refine enterH (l := [_, _]) rfl Tryz.ntmps36 rfl ?_
  repeat' (first | apply HL.fold | apply HA.fold | apply HL.nil | apply HX.n_then | apply HC.seq | apply HC.region | refine HL.pa ?_ | refine HL.ga rfl ?_ | refine HL.na rfl ?_ | refine HL.nu rfl rfl ?_ | apply HC.block | apply HC.skip | apply HC.exit | apply HC.ret | apply HX.e_block | refine HX.e_other rfl ?_ | apply HX.e_then | apply HX.e_again | apply HX.n_block | apply HX.r_then | apply HX.r_block | apply HX.r_again | refine HC.cond_yes rfl ?_ | refine HC.cond_no rfl ?_ | refine HL.one (H1.ldb rfl memA rfl rfl ?_) | refine HC.cond rfl (fun hc => ?_) (fun hc => ?_) | refine HC.cond_b rfl (fun hc => ?_) (fun hc => ?_))
  refine HL.one (H1.boxAgg (cs := y.cells) rfl rfl (fun b3 => ?_))
  repeat' (first | apply HL.fold | apply HA.fold | apply HL.nil | apply HX.n_then | apply HC.seq | apply HC.region | refine HL.pa ?_ | refine HL.ga rfl ?_ | refine HL.na rfl ?_ | refine HL.nu rfl rfl ?_ | apply HC.block | apply HC.skip | apply HC.exit | apply HC.ret | apply HX.e_block | refine HX.e_other rfl ?_ | apply HX.e_then | apply HX.e_again | apply HX.n_block | apply HX.r_then | apply HX.r_block | apply HX.r_again | refine HC.cond_yes rfl ?_ | refine HC.cond_no rfl ?_ | refine HL.one (H1.ldb rfl memA rfl rfl ?_) | refine HC.cond rfl (fun hc => ?_) (fun hc => ?_) | refine HC.cond_b rfl (fun hc => ?_) (fun hc => ?_))
  refine HL.one (H1.alloc (cs := [zv 0, zv 0, zv 0, zv 0, zv 0]) rfl rfl (fun b5 => ?_))
  repeat' (first | apply HL.fold | apply HA.fold | apply HL.nil | apply HX.n_then | apply HC.seq | apply HC.region | refine HL.pa ?_ | refine HL.ga rfl ?_ | refine HL.na rfl ?_ | refine HL.nu rfl rfl ?_ | apply HC.skip | apply HC.exit | apply HC.ret | apply HX.e_block | refine HX.e_other rfl ?_ | apply HX.e_then | apply HX.e_again | apply HX.n_block | apply HX.r_then | apply HX.r_block | apply HX.r_again | refine HC.cond_yes rfl ?_ | refine HC.cond_no rfl ?_ | refine HL.one (H1.ldb rfl memA rfl rfl ?_) | refine HC.cond rfl (fun hc => ?_) (fun hc => ?_) | refine HC.cond_b rfl (fun hc => ?_) (fun hc => ?_))
  refine HC.grow0 95 4 ?_
  repeat' (first | apply HL.fold | apply HA.fold | apply HL.nil | apply HX.n_then | apply HC.seq | apply HC.region | refine HL.pa ?_ | refine HL.ga rfl ?_ | refine HL.na rfl ?_ | refine HL.nu rfl rfl ?_ | apply HC.skip | apply HC.exit | apply HC.ret | apply HX.e_block | refine HX.e_other rfl ?_ | apply HX.e_then | apply HX.e_again | apply HX.n_block | apply HX.r_then | apply HX.r_block | apply HX.r_again | refine HC.cond_yes rfl ?_ | refine HC.cond_no rfl ?_ | refine HL.one (H1.ldb rfl memA rfl rfl ?_) | refine HC.cond rfl (fun hc => ?_) (fun hc => ?_) | refine HC.cond_b rfl (fun hc => ?_) (fun hc => ?_))
  refine HC.cut (α := Option Addr × Nat) (fun z => [(3, .pointer (some ⟨b3, 0, none⟩)), (5, .pointer (some ⟨b5, 0, none⟩)), (6, .slice z.1 (madeN X) z.2)]) (fun z => [A.grow 95 4 z.1 z.2 (madeN X) ((madeS X).flatMap sc), A.blk b5 [zv 0, zv 0, zv 0, zv 0, zv 0] 48, A.blk b3 y.cells 43]) (fun _ => True) ?_ ?_
  · repeat' (first | apply HL.fold | apply HA.fold | apply HL.nil | apply HX.n_then | apply HC.seq | apply HC.region | refine HL.pa ?_ | refine HL.ga rfl ?_ | refine HL.na rfl ?_ | refine HL.nu rfl rfl ?_ | apply HC.block | apply HC.skip | apply HC.exit | apply HC.ret | apply HX.e_block | refine HX.e_other rfl ?_ | apply HX.e_then | apply HX.e_again | apply HX.n_block | apply HX.r_then | apply HX.r_block | apply HX.r_again | refine HC.cond_yes rfl ?_ | refine HC.cond_no rfl ?_ | refine HL.one (H1.ldb rfl memA rfl rfl ?_) | refine HC.cond rfl (fun hc => ?_) (fun hc => ?_) | refine HC.cond_b rfl (fun hc => ?_) (fun hc => ?_))
    refine HC.loop (α := Nat × Option Addr × Nat) (fun z => [(0, .slice a X.length c), (3, .pointer (some ⟨b3, 0, none⟩)), (5, .pointer (some ⟨b5, 0, none⟩)), (6, .slice z.2.1 z.1 z.2.2), (7, zv (z.1 : Int))])
      (fun z => [A.grow 95 4 z.2.1 z.2.2 z.1 ((madeU X z.1).flatMap sc), A.blk b5 [zv 0, zv 0, zv 0, zv 0, zv 0] 48, A.blk b3 y.cells 43]) (fun z => z.1 ≤ madeN X) (fun z => madeN X - z.1) (0, none, 0) (Nat.zero_le _) esA (by repeat (first | exact Hs.nil _ | (refine Hs.cons pickA ?_))) ?_
    rintro ⟨i, ar, cr⟩ hi
    dsimp only at hi ⊢
    by_cases hlt : i < madeN X
    rotate_left
    · obtain rfl : i = madeN X := by omega
      have hlt' : ¬ (madeN X : Int) < max 1 (min (X.length : Int) 7) := by omega
      repeat' (first | apply HL.fold | apply HA.fold | apply HL.nil | apply HX.n_then | apply HC.seq | apply HC.region | refine HL.pa ?_ | refine HL.ga rfl ?_ | refine HL.na rfl ?_ | refine HL.nu rfl rfl ?_ | apply HC.block | apply HC.skip | apply HC.exit | apply HC.ret | apply HX.e_block | refine HX.e_other rfl ?_ | apply HX.e_then | apply HX.e_again | apply HX.n_block | apply HX.r_then | apply HX.r_block | apply HX.r_again | refine HC.cond_yes rfl ?_ | refine HC.cond_no rfl ?_ | refine HL.one (H1.ldb rfl memA rfl rfl ?_) | refine HC.cond rfl (fun hc => ?_) (fun hc => ?_) | refine HC.cond_b rfl (fun hc => ?_) (fun hc => ?_))
      exact HX.cut (ar, cr) trivial esA (by repeat (first | exact Hs.nil _ | (refine Hs.cons pickA ?_)))
    have hlt' : (i : Int) < max 1 (min (X.length : Int) 7) := by omega
    repeat' (first | apply HL.fold | apply HA.fold | apply HL.nil | apply HX.n_then | apply HC.seq | apply HC.region | refine HL.pa ?_ | refine HL.ga rfl ?_ | refine HL.na rfl ?_ | refine HL.nu rfl rfl ?_ | apply HC.block | apply HC.skip | apply HC.exit | apply HC.ret | apply HX.e_block | refine HX.e_other rfl ?_ | apply HX.e_then | apply HX.e_again | apply HX.n_block | apply HX.r_then | apply HX.r_block | apply HX.r_again | refine HC.cond_yes rfl ?_ | refine HC.cond_no rfl ?_ | refine HL.one (H1.ldb rfl memA rfl rfl ?_) | refine HC.cond rfl (fun hc => ?_) (fun hc => ?_) | refine HC.cond_b rfl (fun hc => ?_) (fun hc => ?_))
    refine HL.build (cs := sc ⟨(i : Int) % 6, (i : Int) % 6, (i : Int) % 6, (i : Int) % 6⟩) rfl rfl rfl ?_
    refine HL.one (H1.alloc (cs := [zv 0, zv 0, zv 0, zv 0]) rfl rfl (fun b8 => ?_))
    repeat' (first | apply HL.fold | apply HA.fold | apply HL.nil | apply HX.n_then | apply HC.seq | apply HC.region | refine HL.pa ?_ | refine HL.ga rfl ?_ | refine HL.na rfl ?_ | refine HL.nu rfl rfl ?_ | apply HC.block | apply HC.skip | apply HC.exit | apply HC.ret | apply HX.e_block | refine HX.e_other rfl ?_ | apply HX.e_then | apply HX.e_again | apply HX.n_block | apply HX.r_then | apply HX.r_block | apply HX.r_again | refine HC.cond_yes rfl ?_ | refine HC.cond_no rfl ?_ | refine HL.one (H1.ldb rfl memA rfl rfl ?_) | refine HC.cond rfl (fun hc => ?_) (fun hc => ?_) | refine HC.cond_b rfl (fun hc => ?_) (fun hc => ?_))
    refine HL.one (H1.stAgg (cs := [zv 0, zv 0, zv 0, zv 0]) (vs := sc ⟨(i : Int) % 6, (i : Int) % 6, (i : Int) % 6, (i : Int) % 6⟩) rfl rfl rfl (sc_one _) rplA rfl ?_)
    repeat' (first | apply HL.fold | apply HA.fold | apply HL.nil | apply HX.n_then | apply HC.seq | apply HC.region | refine HL.pa ?_ | refine HL.ga rfl ?_ | refine HL.na rfl ?_ | refine HL.nu rfl rfl ?_ | apply HC.block | apply HC.skip | apply HC.exit | apply HC.ret | apply HX.e_block | refine HX.e_other rfl ?_ | apply HX.e_then | apply HX.e_again | apply HX.n_block | apply HX.r_then | apply HX.r_block | apply HX.r_again | refine HC.cond_yes rfl ?_ | refine HC.cond_no rfl ?_ | refine HL.one (H1.ldb rfl memA rfl rfl ?_))
    refine HC.cut (α := Unit) (fun _ => [(0, .slice a X.length c), (3, .pointer (some ⟨b3, 0, none⟩)), (5, .pointer (some ⟨b5, 0, none⟩)), (6, .slice ar i cr), (7, zv (i : Int)), (8, .pointer (some ⟨b8, 0, none⟩))])
      (fun _ => [A.blk b8 (sc (mkSite X i)) 95, A.grow 95 4 ar cr i ((madeU X i).flatMap sc), A.blk b5 [zv 0, zv 0, zv 0, zv 0, zv 0] 48, A.blk b3 y.cells 43]) (fun _ => True) ?_ ?_
    · by_cases hiX : i < X.length
      rotate_left
      · have hiX' : ¬ (i : Int) < (X.length : Int) := by omega
        have e1 : mkSite X i = ⟨(i : Int) % 6, (i : Int) % 6, (i : Int) % 6, (i : Int) % 6⟩ := if_neg hiX
        repeat' (first | apply HL.fold | apply HA.fold | apply HL.nil | apply HX.n_then | apply HC.seq | apply HC.region | refine HL.pa ?_ | refine HL.ga rfl ?_ | refine HL.na rfl ?_ | refine HL.nu rfl rfl ?_ | apply HC.block | apply HC.skip | apply HC.exit | apply HC.ret | apply HX.e_block | refine HX.e_other rfl ?_ | apply HX.e_then | apply HX.e_again | apply HX.n_block | apply HX.r_then | apply HX.r_block | apply HX.r_again | refine HC.cond_yes rfl ?_ | refine HC.cond_no rfl ?_ | refine HL.one (H1.ldb rfl memA rfl rfl ?_) | refine HC.cond rfl (fun hc => ?_) (fun hc => ?_) | refine HC.cond_b rfl (fun hc => ?_) (fun hc => ?_))
        refine HX.cut () trivial esA ?_
        rw [e1]
        repeat (first | exact Hs.nil _ | (refine Hs.cons pickA ?_))
      have hiX' : (i : Int) < (X.length : Int) := by omega
      have e1 : mkSite X i = ⟨pkI (stAt X i).p 6, pkI (stAt X i).r 4, pkI (stAt X i).v 5, pkI (stAt X i).l 3⟩ := if_pos hiX
      obtain ⟨b, off, rfl, hbl, hcl⟩ := hT.at (by intro e; rw [e] at hiX; exact absurd hiX (Nat.not_lt_zero _))
      obtain ⟨⟨h0, h0'⟩, ⟨h1, h1'⟩, ⟨h2, h2'⟩, ⟨h3, h3'⟩⟩ := hxb _ (stAt_mem hiX)
      repeat' (first | apply HL.fold | apply HA.fold | apply HL.nil | apply HX.n_then | apply HC.seq | apply HC.region | refine HL.pa ?_ | refine HL.ga rfl ?_ | refine HL.na rfl ?_ | refine HL.nu rfl rfl ?_ | apply HC.block | apply HC.skip | apply HC.exit | apply HC.ret | apply HX.e_block | refine HX.e_other rfl ?_ | apply HX.e_then | apply HX.e_again | apply HX.n_block | apply HX.r_then | apply HX.r_block | apply HX.r_again | refine HC.cond_yes rfl ?_ | refine HC.cond_no rfl ?_ | refine HL.one (H1.ldb rfl memA rfl rfl ?_) | refine HC.cond rfl (fun hc => ?_) (fun hc => ?_) | refine HC.cond_b rfl (fun hc => ?_) (fun hc => ?_))
      refine HC.anyC ([(⟨b, off + i * 4 + 0, none⟩, zv (stAt X i).p), (⟨b, off + i * 4 + 1, none⟩, zv (stAt X i).r), (⟨b, off + i * 4 + 2, none⟩, zv (stAt X i).v), (⟨b, off + i * 4 + 3, none⟩, zv (stAt X i).l)]) rfl ?_
      refine HB.pa 0 rfl ?_
      refine HB.pa 1 rfl ?_
      refine HB.pa 2 rfl ?_
      refine HB.pa 3 rfl ?_
      refine HB.ld 4 rfl rfl memD ?_
      refine HB.pa 6 rfl ?_
      refine HB.pa 7 rfl ?_
      refine HB.pa 8 rfl ?_
      refine HB.pa 9 rfl ?_
      refine HB.ld 10 rfl rfl memD ?_
      refine HB.pa 12 rfl ?_
      refine HB.pa 13 rfl ?_
      refine HB.pa 14 rfl ?_
      refine HB.pa 15 rfl ?_
      refine HB.ld 16 rfl rfl memD ?_
      refine HB.pa 18 rfl ?_
      refine HB.pa 19 rfl ?_
      refine HB.pa 20 rfl ?_
      refine HB.pa 21 rfl ?_
      refine HB.ld 22 rfl rfl memD ?_
      refine HB.all (by exact Keep.base (hcl i hiX 0 _ rfl) (Keep.base (hcl i hiX 1 _ rfl) (Keep.base (hcl i hiX 2 _ rfl) (Keep.base (hcl i hiX 3 _ rfl) Keep.nil)))) [5] (by kernel_rfl) rfl ⟨⟨_, rfl, ?_⟩, trivial⟩
      refine HP.one ?_
      refine H1.call0 (vs := [zv (stAt X i).p, zv 6]) rfl rfl (fun w' _ => kpick2_fn _ _ h0 h0' (by decide) w') ?_
      apply HB.fold
      refine HB.all (by exact Keep.base (hcl i hiX 0 _ rfl) (Keep.base (hcl i hiX 1 _ rfl) (Keep.base (hcl i hiX 2 _ rfl) (Keep.base (hcl i hiX 3 _ rfl) Keep.nil)))) [11] (by kernel_rfl) rfl ⟨⟨_, rfl, ?_⟩, trivial⟩
      refine HP.one ?_
      refine H1.call0 (vs := [zv (stAt X i).r, zv 4]) rfl rfl (fun w' _ => kpick2_fn _ _ h1 h1' (by decide) w') ?_
      apply HB.fold
      refine HB.all (by exact Keep.base (hcl i hiX 0 _ rfl) (Keep.base (hcl i hiX 1 _ rfl) (Keep.base (hcl i hiX 2 _ rfl) (Keep.base (hcl i hiX 3 _ rfl) Keep.nil)))) [17] (by kernel_rfl) rfl ⟨⟨_, rfl, ?_⟩, trivial⟩
      refine HP.one ?_
      refine H1.call0 (vs := [zv (stAt X i).v, zv 5]) rfl rfl (fun w' _ => kpick2_fn _ _ h2 h2' (by decide) w') ?_
      apply HB.fold
      refine HB.all (by exact Keep.base (hcl i hiX 0 _ rfl) (Keep.base (hcl i hiX 1 _ rfl) (Keep.base (hcl i hiX 2 _ rfl) (Keep.base (hcl i hiX 3 _ rfl) Keep.nil)))) [23] (by kernel_rfl) rfl ⟨⟨_, rfl, ?_⟩, trivial⟩
      refine HP.one ?_
      refine H1.call0 (vs := [zv (stAt X i).l, zv 3]) rfl rfl (fun w' _ => kpick2_fn _ _ h3 h3' (by decide) w') ?_
      apply HB.fold
      refine HB.pa (v := .agg (sc ⟨pkI (stAt X i).p 6, pkI (stAt X i).r 4, pkI (stAt X i).v 5, pkI (stAt X i).l 3⟩).toArray) 24 rfl ?_ (POp.build rfl rfl)
      refine HB.all (by exact Keep.base (hcl i hiX 0 _ rfl) (Keep.base (hcl i hiX 1 _ rfl) (Keep.base (hcl i hiX 2 _ rfl) (Keep.base (hcl i hiX 3 _ rfl) Keep.nil)))) [25] (by kernel_rfl) rfl ⟨⟨_, rfl, ?_⟩, trivial⟩
      refine HP.one ?_
      refine H1.stAgg (cs := sc ⟨(i : Int) % 6, (i : Int) % 6, (i : Int) % 6, (i : Int) % 6⟩) (vs := sc ⟨pkI (stAt X i).p 6, pkI (stAt X i).r 4, pkI (stAt X i).v 5, pkI (stAt X i).l 3⟩) rfl rfl rfl (sc_one _) rplA rfl ?_
      apply HB.fold
      refine HB.done (by exact Keep.base (hcl i hiX 0 _ rfl) (Keep.base (hcl i hiX 1 _ rfl) (Keep.base (hcl i hiX 2 _ rfl) (Keep.base (hcl i hiX 3 _ rfl) Keep.nil)))) (by kernel_rfl) ?_
      skip
      repeat' (first | apply HL.fold | apply HA.fold | apply HL.nil | apply HX.n_then | apply HC.seq | apply HC.region | refine HL.pa ?_ | refine HL.ga rfl ?_ | refine HL.na rfl ?_ | refine HL.nu rfl rfl ?_ | apply HC.block | apply HC.skip | apply HC.exit | apply HC.ret | apply HX.e_block | refine HX.e_other rfl ?_ | apply HX.e_then | apply HX.e_again | apply HX.n_block | apply HX.r_then | apply HX.r_block | apply HX.r_again | refine HC.cond_yes rfl ?_ | refine HC.cond_no rfl ?_ | refine HL.one (H1.ldb rfl memA rfl rfl ?_) | refine HC.cond rfl (fun hc => ?_) (fun hc => ?_) | refine HC.cond_b rfl (fun hc => ?_) (fun hc => ?_))
      refine HX.cut () trivial esA ?_
      rw [e1]
      repeat (first | exact Hs.nil _ | (refine Hs.cons pickA ?_))
    rintro - -
    repeat' (first | apply HL.fold | apply HA.fold | apply HL.nil | apply HX.n_then | apply HC.seq | apply HC.region | refine HL.pa ?_ | refine HL.ga rfl ?_ | refine HL.na rfl ?_ | refine HL.nu rfl rfl ?_ | apply HC.block | apply HC.skip | apply HC.exit | apply HC.ret | apply HX.e_block | refine HX.e_other rfl ?_ | apply HX.e_then | apply HX.e_again | apply HX.n_block | apply HX.r_then | apply HX.r_block | apply HX.r_again | refine HC.cond_yes rfl ?_ | refine HC.cond_no rfl ?_ | refine HL.one (H1.ldb rfl memA rfl rfl ?_) | refine HC.cond rfl (fun hc => ?_) (fun hc => ?_) | refine HC.cond_b rfl (fun hc => ?_) (fun hc => ?_))
    refine HL.one (H1.ldAgg (vs := sc (mkSite X i)) rfl memA rfl (fun i v hv => by rw [Nat.zero_add]; exact hv) rfl ?_)
    repeat' (first | apply HL.fold | apply HA.fold | apply HL.nil | apply HX.n_then | apply HC.seq | apply HC.region | refine HL.pa ?_ | refine HL.ga rfl ?_ | refine HL.na rfl ?_ | refine HL.nu rfl rfl ?_ | apply HC.block | apply HC.skip | apply HC.exit | apply HC.ret | apply HX.e_block | refine HX.e_other rfl ?_ | apply HX.e_then | apply HX.e_again | apply HX.n_block | apply HX.r_then | apply HX.r_block | apply HX.r_again | refine HC.cond_yes rfl ?_ | refine HC.cond_no rfl ?_ | refine HL.one (H1.ldb rfl memA rfl rfl ?_) | refine HC.cond rfl (fun hc => ?_) (fun hc => ?_) | refine HC.cond_b rfl (fun hc => ?_) (fun hc => ?_))
    refine HL.one (H1.lit (cs := sc (mkSite X i)) rfl rfl rfl rfl rfl rfl (fun b9 => ?_))
    repeat' (first | apply HL.fold | apply HA.fold | apply HL.nil | apply HX.n_then | apply HC.seq | apply HC.region | refine HL.pa ?_ | refine HL.ga rfl ?_ | refine HL.na rfl ?_ | refine HL.nu rfl rfl ?_ | apply HC.block | apply HC.skip | apply HC.exit | apply HC.ret | apply HX.e_block | refine HX.e_other rfl ?_ | apply HX.e_then | apply HX.e_again | apply HX.n_block | apply HX.r_then | apply HX.r_block | apply HX.r_again | refine HC.cond_yes rfl ?_ | refine HC.cond_no rfl ?_ | refine HL.one (H1.ldb rfl memA rfl rfl ?_) | refine HC.cond rfl (fun hc => ?_) (fun hc => ?_) | refine HC.cond_b rfl (fun hc => ?_) (fun hc => ?_))
    refine HL.one (H1.app (sz := 4) (news := sc (mkSite X i)) rfl (by decide) rfl rfl (fun _ _ => by first | ((repeat (first | with_reducible exact Rpl.here | with_reducible apply Rpl.there)); done) | (repeat (first | exact Rpl.here | apply Rpl.there))) rfl (fun w hM j u hu => by rw [add_lit, Nat.zero_add]; exact (hM.blk (b := b9) (by repeat (first | exact mem_hd | apply mem_tl))).cell hu) (sc_one _) (by omega) (by decide) rfl (fun a4 c4 _ => ?_))
    repeat' (first | apply HL.fold | apply HA.fold | apply HL.nil | apply HX.n_then | apply HC.seq | apply HC.region | refine HL.pa ?_ | refine HL.ga rfl ?_ | refine HL.na rfl ?_ | refine HL.nu rfl rfl ?_ | apply HC.block | apply HC.skip | apply HC.exit | apply HC.ret | apply HX.e_block | refine HX.e_other rfl ?_ | apply HX.e_then | apply HX.e_again | apply HX.n_block | apply HX.r_then | apply HX.r_block | apply HX.r_again | refine HC.cond_yes rfl ?_ | refine HC.cond_no rfl ?_ | refine HL.one (H1.ldb rfl memA rfl rfl ?_) | refine HC.cond rfl (fun hc => ?_) (fun hc => ?_) | refine HC.cond_b rfl (fun hc => ?_) (fun hc => ?_))
    refine HX.again (i + 1, a4, c4) (by show i + 1 ≤ madeN X; omega) (by show madeN X - (i + 1) < madeN X - i; omega) esA ?_
    dsimp only
    rw [madeU_step, List.flatMap_append, List.flatMap_singleton]
    repeat (first | exact Hs.nil _ | (refine Hs.cons pickA ?_))
  rintro ⟨ar, cr⟩ -
  dsimp only
  repeat' (first | apply HL.fold | apply HA.fold | apply HL.nil | apply HX.n_then | apply HC.seq | apply HC.region | refine HL.pa ?_ | refine HL.ga rfl ?_ | refine HL.na rfl ?_ | refine HL.nu rfl rfl ?_ | apply HC.block | apply HC.skip | apply HC.exit | apply HC.ret | apply HX.e_block | refine HX.e_other rfl ?_ | apply HX.e_then | apply HX.e_again | apply HX.n_block | apply HX.r_then | apply HX.r_block | apply HX.r_again | refine HC.cond_yes rfl ?_ | refine HC.cond_no rfl ?_ | refine HL.one (H1.ldb rfl memA rfl rfl ?_) | refine HC.cond rfl (fun hc => ?_) (fun hc => ?_) | refine HC.cond_b rfl (fun hc => ?_) (fun hc => ?_))
  refine HC.anyC (cellsA b3 y.cells ++ []) rfl ?_
  refine HB.pa 0 rfl ?_
  refine HB.pa 1 rfl ?_
  refine HB.ld 2 rfl rfl (cellsL (cellsA_mem (v := zv y.b.p) rfl)) ?_
  refine HB.pa 4 rfl ?_
  refine HB.ld 5 rfl rfl (cellsL (cellsA_mem (v := zv y.b.r) rfl)) ?_
  refine HB.pa 7 rfl ?_
  refine HB.ld 8 rfl rfl (cellsL (cellsA_mem (v := zv y.b.v) rfl)) ?_
  refine HB.pa 10 rfl ?_
  refine HB.ld 11 rfl rfl (cellsL (cellsA_mem (v := zv y.b.l) rfl)) ?_
  refine HB.pa 13 rfl ?_
  refine HB.ld 14 rfl rfl (cellsL (cellsA_mem (v := zv y.liars) rfl)) ?_
  refine HB.all (by exact Keep.blkA memA Keep.nil) [3] (by kernel_rfl) rfl ⟨⟨_, rfl, ?_⟩, trivial⟩
  refine HP.one ?_
  refine H1.call0 (vs := [zv y.b.p, zv 3]) rfl rfl (fun w' _ => kpick2_fn _ _ hy0 hy0' (by decide) w') ?_
  apply HB.fold
  refine HB.all (by exact Keep.blkA memA Keep.nil) [6] (by kernel_rfl) rfl ⟨⟨_, rfl, ?_⟩, trivial⟩
  refine HP.one ?_
  refine H1.call0 (vs := [zv y.b.r, zv 2]) rfl rfl (fun w' _ => kpick2_fn _ _ hy1 hy1' (by decide) w') ?_
  apply HB.fold
  refine HB.all (by exact Keep.blkA memA Keep.nil) [9] (by kernel_rfl) rfl ⟨⟨_, rfl, ?_⟩, trivial⟩
  refine HP.one ?_
  refine H1.call0 (vs := [zv y.b.v, zv 2]) rfl rfl (fun w' _ => kpick2_fn _ _ hy2 hy2' (by decide) w') ?_
  apply HB.fold
  refine HB.all (by exact Keep.blkA memA Keep.nil) [12] (by kernel_rfl) rfl ⟨⟨_, rfl, ?_⟩, trivial⟩
  refine HP.one ?_
  refine H1.call0 (vs := [zv y.b.l, zv 2]) rfl rfl (fun w' _ => kpick2_fn _ _ hy3 hy3' (by decide) w') ?_
  apply HB.fold
  refine HB.all (by exact Keep.blkA memA Keep.nil) [15] (by kernel_rfl) rfl ⟨⟨_, rfl, ?_⟩, trivial⟩
  refine HP.one ?_
  refine H1.call0 (vs := [zv y.liars, zv 3]) rfl rfl (fun w' _ => kpick2_fn _ _ hy4 hy4' (by decide) w') ?_
  apply HB.fold
  refine HB.pa (v := .agg (madeD y).cells.toArray) 16 rfl ?_ (POp.build rfl rfl)
  refine HB.pa 17 rfl ?_
  refine HB.all (by exact Keep.blkA memA Keep.nil) [18] (by kernel_rfl) rfl ⟨⟨_, rfl, ?_⟩, trivial⟩
  refine HP.one ?_
  refine H1.stAgg (cs := [zv 0, zv 0, zv 0, zv 0, zv 0]) (vs := (madeD y).cells) rfl rfl rfl (by unfold Di.cells; intro v hv; simp only [List.mem_cons, List.not_mem_nil, or_false] at hv; rcases hv with rfl | rfl | rfl | rfl | rfl <;> rfl) rplA rfl ?_
  apply HB.fold
  refine HB.done (by exact Keep.blkA memA Keep.nil) (by kernel_rfl) ?_
  skip
  repeat' (first | apply HL.fold | apply HA.fold | apply HL.nil | apply HX.n_then | apply HC.seq | apply HC.region | refine HL.pa ?_ | refine HL.ga rfl ?_ | refine HL.na rfl ?_ | refine HL.nu rfl rfl ?_ | apply HC.block | apply HC.skip | apply HC.exit | apply HC.ret | apply HX.e_block | refine HX.e_other rfl ?_ | apply HX.e_then | apply HX.e_again | apply HX.n_block | apply HX.r_then | apply HX.r_block | apply HX.r_again | refine HC.cond_yes rfl ?_ | refine HC.cond_no rfl ?_ | refine HL.one (H1.ldb rfl memA rfl rfl ?_) | refine HC.cond rfl (fun hc => ?_) (fun hc => ?_) | refine HC.cond_b rfl (fun hc => ?_) (fun hc => ?_))
  refine HX.retG (rs := [.tmp 4, .cell 5 48]) (vs := [.slice ar (madeN X) cr, .agg (madeD y).cells.toArray]) rfl rfl (fun w' hM => ⟨rfl, ⟨_, rfl, loadVar_agg (b := b5) hM memA rfl⟩, trivial⟩) fun w' hM => ⟨(ar, cr), trivial, by rw [madeS_len], ?_⟩
  rw [madeS_len]
  exact hM.sub (by repeat (first | exact Hs.nil _ | (refine Hs.cons pickA ?_)))
end Go.Sx
/- Chapter 18: made; the fixed examples. -/
namespace Go.Sx
open Go Go.Proofs Go.RowKit
theorem Mm.blkGrow {w0 w : World} {H H' : List Atom} {b : Nat} {cs : List Value} {e : TypeId} (h : Mm w0 H w) (hr : Rpl (A.blk b cs e) (A.grow e 1 (some ⟨b, 0, none⟩) cs.length cs.length cs) H H') (hl : cs.length ≤ 1000000) : Mm w0 H' w := by
  have hb : Blk w b cs e := h.blk hr.mem
  refine h.turn hr rfl rfl rfl (Nat.le_refl _) (fun _ _ _ => rfl) ?_ (by simp [A.grow, Value.ownBlock]) fun b' hb' => .inl (by simpa [A.grow, A.blk, Value.ownBlock] using hb')
  refine ⟨by simp, .inr ⟨b, cs.length, cs.toArray, rfl, Nat.zero_le _, hb, Nat.le_refl _, by simp only [maxLen]; omega, by simp, by simp⟩⟩
def caseC (v : Value) (y : Di) (set k : Int) : List Value := v :: (y.cells ++ [zv set, zv k])
def ownL (X : List St) (set : Int) : List Nat := if (somL set (madeN X)).length = 0 then [0] else somL set (madeN X)
def caseK (X : List St) (set k : Int) : Int := 1 + pkI k ((ownL X set).length : Int)
theorem ownL_lt {X : List St} {set : Int} {i : Nat} (h : i ∈ ownL X set) : i < madeN X := by
  unfold ownL at h
  have := madeN_7 X
  split at h
  · rw [List.mem_singleton] at h; omega
  · exact somL_lt h
theorem ownL_asc (X : List St) (set : Int) : (ownL X set).Pairwise (· < ·) := by
  unfold ownL
  split
  · exact List.pairwise_singleton _ _
  · exact somL_asc _ _
theorem ownL_len (X : List St) (set : Int) : 1 ≤ (ownL X set).length ∧ (ownL X set).length ≤ 7 := by
  have h7 := madeN_7 X
  have := somL_len set (madeN X)
  unfold ownL
  split
  · simp
  · omega
theorem caseK_in (X : List St) (set k : Int) : 1 ≤ caseK X set k ∧ caseK X set k ≤ (ownL X set).length := by
  have h1 := (ownL_len X set).1
  have := pkI_lt k (n := ((ownL X set).length : Int)) (by omega)
  unfold caseK
  omega
theorem HX.openg {N : Nat} {ds : List Deferred} {Q : Post} {E : Env} {w0 : World} {H : List Atom} {e : TypeId} {sz c n : Nat} {a : Option Addr} {xs : List Value} {x : Exit} (hm : A.grow e sz a c n xs ∈ H) (hn : n ≠ 0) (h : ∀ b, a = some ⟨b, 0, none⟩ → HX N ds x Q E w0 H) : HX N ds x Q E w0 H := fun w hM => by
  rcases (hM.own hm).2 with ⟨-, h0⟩ | ⟨g, cap, cur, hv, -⟩
  · exact absurd h0 hn
  · cases hv; exact h g rfl w hM
attribute [local irreducible] WC WL WX POp Then Again Fn NX W1 WA WO QL RP RA Yld LoopAt HC HL HX HN H1 HA HO HQ HB HP A.blk A.grow A.rd A.obj A.mp AgainH CutH
attribute [local irreducible] A.mq A.mit A.dfrs A.loop mapsA A.land A.pure chk
set_option maxHeartbeats 1000000 in
theorem kmade_fn (v : Value) (X : List St) (y : Di) (set k : Int) (hX : X.length ≤ 9223372036854775807) (hxb : ∀ s ∈ X, s.i64) (hyb : y.b.i64 ∧ i64R y.liars) (hset : i64R set) (hk : i64R k) (w : World) (hT : RdS w v X) :
    Fn Tryz.prog 13 #[.agg (caseC v y set k).toArray] w fun u w' => ∃ z : (Option Addr × Nat) × (Option Addr × Nat), (∃ b, z.2.1 = some ⟨b, 0, none⟩) ∧ u = .tuple #[.slice z.1.1 (madeS X).length z.1.2, .agg (madeD y).cells.toArray, .slice z.2.1 (ownL X set).length z.2.2, zv (caseK X set k)] ∧
      Mm w [A.grow 3 1 z.2.1 z.2.2 (ownL X set).length (ints (natI (ownL X set))), A.grow 95 4 z.1.1 z.1.2 (madeS X).length ((madeS X).flatMap sc)] w' := by
  have h7 := madeN_7 X
  have hoL := ownL_len X set
  obtain ⟨a, c, rfl, hc⟩ := hT.shape
  refine enterH (l := [_]) rfl Tryz.ntmps13 rfl ?_
  repeat' (first | apply HL.fold | apply HA.fold | apply HL.nil | apply HX.n_then | apply HC.seq | apply HC.region | refine HL.pa ?_ | refine HL.ga rfl ?_ | refine HL.na rfl ?_ | refine HL.nu rfl rfl ?_ | apply HC.block | apply HC.skip | apply HC.exit | apply HC.ret | apply HX.e_block | refine HX.e_other rfl ?_ | apply HX.e_then | apply HX.e_again | apply HX.n_block | apply HX.r_then | apply HX.r_block | apply HX.r_again | refine HC.cond_yes rfl ?_ | refine HC.cond_no rfl ?_ | refine HL.one (H1.ldb rfl memA rfl rfl ?_) | refine HC.cond rfl (fun hc => ?_) (fun hc => ?_) | refine HC.cond_b rfl (fun hc => ?_) (fun hc => ?_))
  refine HL.one (H1.boxAgg (cs := caseC (.slice a X.length c) y set k) rfl rfl (fun b1 => ?_))
  repeat' (first | apply HL.fold | apply HA.fold | apply HL.nil | apply HX.n_then | apply HC.seq | apply HC.region | refine HL.pa ?_ | refine HL.ga rfl ?_ | refine HL.na rfl ?_ | refine HL.nu rfl rfl ?_ | apply HC.block | apply HC.skip | apply HC.exit | apply HC.ret | apply HX.e_block | refine HX.e_other rfl ?_ | apply HX.e_then | apply HX.e_again | apply HX.n_block | apply HX.r_then | apply HX.r_block | apply HX.r_again | refine HC.cond_yes rfl ?_ | refine HC.cond_no rfl ?_ | refine HL.one (H1.ldb rfl memA rfl rfl ?_) | refine HC.cond rfl (fun hc => ?_) (fun hc => ?_) | refine HC.cond_b rfl (fun hc => ?_) (fun hc => ?_))
  refine HL.one (H1.alloc (cs := [zv 0, zv 0, zv 0, zv 0, zv 0]) rfl rfl (fun b3 => ?_))
  repeat' (first | apply HL.fold | apply HA.fold | apply HL.nil | apply HX.n_then | apply HC.seq | apply HC.region | refine HL.pa ?_ | refine HL.ga rfl ?_ | refine HL.na rfl ?_ | refine HL.nu rfl rfl ?_ | apply HC.block | apply HC.skip | apply HC.exit | apply HC.ret | apply HX.e_block | refine HX.e_other rfl ?_ | apply HX.e_then | apply HX.e_again | apply HX.n_block | apply HX.r_then | apply HX.r_block | apply HX.r_again | refine HC.cond_yes rfl ?_ | refine HC.cond_no rfl ?_ | refine HL.one (H1.ldb rfl memA rfl rfl ?_) | refine HC.cond rfl (fun hc => ?_) (fun hc => ?_) | refine HC.cond_b rfl (fun hc => ?_) (fun hc => ?_))
  refine HL.one (H1.ldAgg (vs := y.cells) rfl memA rfl (fun i v hv => by
    unfold caseC
    rw [Nat.add_comm, List.getElem?_cons_succ, List.getElem?_append_left (List.getElem?_eq_some_iff.1 hv).1]; exact hv) rfl ?_)
  repeat' (first | apply HL.fold | apply HA.fold | apply HL.nil | apply HX.n_then | apply HC.seq | apply HC.region | refine HL.pa ?_ | refine HL.ga rfl ?_ | refine HL.na rfl ?_ | refine HL.nu rfl rfl ?_ | apply HC.block | apply HC.skip | apply HC.exit | apply HC.ret | apply HX.e_block | refine HX.e_other rfl ?_ | apply HX.e_then | apply HX.e_again | apply HX.n_block | apply HX.r_then | apply HX.r_block | apply HX.r_again | refine HC.cond_yes rfl ?_ | refine HC.cond_no rfl ?_ | refine HL.one (H1.ldb rfl memA rfl rfl ?_) | refine HC.cond rfl (fun hc => ?_) (fun hc => ?_) | refine HC.cond_b rfl (fun hc => ?_) (fun hc => ?_))
  refine HL.one (H1.callz1 (An := fun z : Option Addr × Nat => A.grow 95 4 z.1 z.2 (madeS X).length ((madeS X).flatMap sc)) (vs := [.slice a X.length c, .agg y.cells.toArray]) rfl rfl (fun w' hM => kMade_fn _ X y hX hxb hyb w' (hT.ext hM.ext)) ?_)
  rintro ⟨aS, cS⟩ -
  dsimp only
  repeat' (first | apply HL.fold | apply HA.fold | apply HL.nil | apply HX.n_then | apply HC.seq | apply HC.region | refine HL.pa ?_ | refine HL.ga rfl ?_ | refine HL.na rfl ?_ | refine HL.nu rfl rfl ?_ | apply HC.block | apply HC.skip | apply HC.exit | apply HC.ret | apply HX.e_block | refine HX.e_other rfl ?_ | apply HX.e_then | apply HX.e_again | apply HX.n_block | apply HX.r_then | apply HX.r_block | apply HX.r_again | refine HC.cond_yes rfl ?_ | refine HC.cond_no rfl ?_ | refine HL.one (H1.ldb rfl memA rfl rfl ?_) | refine HC.cond rfl (fun hc => ?_) (fun hc => ?_) | refine HC.cond_b rfl (fun hc => ?_) (fun hc => ?_))
  refine HL.one (H1.alloc (cs := [zv 0, zv 0, zv 0, zv 0, zv 0]) rfl rfl (fun b7 => ?_))
  repeat' (first | apply HL.fold | apply HA.fold | apply HL.nil | apply HX.n_then | apply HC.seq | apply HC.region | refine HL.pa ?_ | refine HL.ga rfl ?_ | refine HL.na rfl ?_ | refine HL.nu rfl rfl ?_ | apply HC.block | apply HC.skip | apply HC.exit | apply HC.ret | apply HX.e_block | refine HX.e_other rfl ?_ | apply HX.e_then | apply HX.e_again | apply HX.n_block | apply HX.r_then | apply HX.r_block | apply HX.r_again | refine HC.cond_yes rfl ?_ | refine HC.cond_no rfl ?_ | refine HL.one (H1.ldb rfl memA rfl rfl ?_) | refine HC.cond rfl (fun hc => ?_) (fun hc => ?_) | refine HC.cond_b rfl (fun hc => ?_) (fun hc => ?_))
  refine HL.one (H1.stAgg (cs := [zv 0, zv 0, zv 0, zv 0, zv 0]) (vs := (madeD y).cells) rfl rfl rfl (by unfold Di.cells; intro v hv; simp only [List.mem_cons, List.not_mem_nil, or_false] at hv; rcases hv with rfl | rfl | rfl | rfl | rfl <;> rfl) rplA rfl ?_)
  rw [madeS_len]
  repeat' (first | apply HL.fold | apply HA.fold | apply HL.nil | apply HX.n_then | apply HC.seq | apply HC.region | refine HL.pa ?_ | refine HL.ga rfl ?_ | refine HL.na rfl ?_ | refine HL.nu rfl rfl ?_ | apply HC.block | apply HC.skip | apply HC.exit | apply HC.ret | apply HX.e_block | refine HX.e_other rfl ?_ | apply HX.e_then | apply HX.e_again | apply HX.n_block | apply HX.r_then | apply HX.r_block | apply HX.r_again | refine HC.cond_yes rfl ?_ | refine HC.cond_no rfl ?_ | refine HL.one (H1.ldb rfl memA rfl rfl ?_) | refine HC.cond rfl (fun hc => ?_) (fun hc => ?_) | refine HC.cond_b rfl (fun hc => ?_) (fun hc => ?_))
  refine HL.one (H1.callz1 (vs := [zv set, zv (madeN X : Int)]) rfl rfl (fun w' _ => some_fn set (madeN X) hset (by omega) w') ?_)
  rintro ⟨aL, cL⟩ -
  dsimp only
  repeat' (first | apply HL.fold | apply HA.fold | apply HL.nil | apply HX.n_then | apply HC.seq | apply HC.region | refine HL.pa ?_ | refine HL.ga rfl ?_ | refine HL.na rfl ?_ | refine HL.nu rfl rfl ?_ | apply HC.block | apply HC.skip | apply HC.exit | apply HC.ret | apply HX.e_block | refine HX.e_other rfl ?_ | apply HX.e_then | apply HX.e_again | apply HX.n_block | apply HX.r_then | apply HX.r_block | apply HX.r_again | refine HC.cond_yes rfl ?_ | refine HC.cond_no rfl ?_ | refine HL.one (H1.ldb rfl memA rfl rfl ?_))
  refine HC.cut (α := Nat × Nat) (fun z => [(1, .pointer (some ⟨b1, 0, none⟩)), (3, .pointer (some ⟨b3, 0, none⟩)), (6, .slice aS (madeN X) cS), (7, .pointer (some ⟨b7, 0, none⟩)), (8, .slice (some ⟨z.1, 0, none⟩) (ownL X set).length z.2)])
    (fun z => [A.grow 3 1 (some ⟨z.1, 0, none⟩) z.2 (ownL X set).length (ints (natI (ownL X set))), A.blk b7 (madeD y).cells 48, A.grow 95 4 aS cS (madeN X) ((madeS X).flatMap sc), A.blk b3 [zv 0, zv 0, zv 0, zv 0, zv 0] 48, A.blk b1 (caseC (.slice a X.length c) y set k) 45]) (fun _ => True) ?_ ?_
  · by_cases h0 : (somL set (madeN X)).length = 0
    · have h0' : ((somL set (madeN X)).length : Int) = 0 := by omega
      have e1 : ownL X set = [0] := if_pos h0
      repeat' (first | apply HL.fold | apply HA.fold | apply HL.nil | apply HX.n_then | apply HC.seq | apply HC.region | refine HL.pa ?_ | refine HL.ga rfl ?_ | refine HL.na rfl ?_ | refine HL.nu rfl rfl ?_ | apply HC.block | apply HC.skip | apply HC.exit | apply HC.ret | apply HX.e_block | refine HX.e_other rfl ?_ | apply HX.e_then | apply HX.e_again | apply HX.n_block | apply HX.r_then | apply HX.r_block | apply HX.r_again | refine HC.cond_yes rfl ?_ | refine HC.cond_no rfl ?_ | refine HL.one (H1.ldb rfl memA rfl rfl ?_) | refine HC.cond rfl (fun hc => ?_) (fun hc => ?_) | refine HC.cond_b rfl (fun hc => ?_) (fun hc => ?_))
      refine HL.one (H1.lit (cs := [zv 0]) rfl rfl rfl rfl rfl rfl (fun b9 => ?_))
      repeat' (first | apply HL.fold | apply HA.fold | apply HL.nil | apply HX.n_then | apply HC.seq | apply HC.region | refine HL.pa ?_ | refine HL.ga rfl ?_ | refine HL.na rfl ?_ | refine HL.nu rfl rfl ?_ | apply HC.block | apply HC.skip | apply HC.exit | apply HC.ret | apply HX.e_block | refine HX.e_other rfl ?_ | apply HX.e_then | apply HX.e_again | apply HX.n_block | apply HX.r_then | apply HX.r_block | apply HX.r_again | refine HC.cond_yes rfl ?_ | refine HC.cond_no rfl ?_ | refine HL.one (H1.ldb rfl memA rfl rfl ?_) | refine HC.cond rfl (fun hc => ?_) (fun hc => ?_) | refine HC.cond_b rfl (fun hc => ?_) (fun hc => ?_))
      rw [e1]
      refine HX.conv (fun w' hM => Mm.blkGrow (b := b9) hM Rpl.here (by decide)) ?_
      refine HX.cut (b9, 1) trivial esA ?_
      repeat (first | exact Hs.nil _ | (refine Hs.cons pickA ?_))
    · have h0' : ¬ ((somL set (madeN X)).length : Int) = 0 := by omega
      have e1 : ownL X set = somL set (madeN X) := if_neg h0
      repeat' (first | apply HL.fold | apply HA.fold | apply HL.nil | apply HX.n_then | apply HC.seq | apply HC.region | refine HL.pa ?_ | refine HL.ga rfl ?_ | refine HL.na rfl ?_ | refine HL.nu rfl rfl ?_ | apply HC.block | apply HC.skip | apply HC.exit | apply HC.ret | apply HX.e_block | refine HX.e_other rfl ?_ | apply HX.e_then | apply HX.e_again | apply HX.n_block | apply HX.r_then | apply HX.r_block | apply HX.r_again | refine HC.cond_yes rfl ?_ | refine HC.cond_no rfl ?_ | refine HL.one (H1.ldb rfl memA rfl rfl ?_) | refine HC.cond rfl (fun hc => ?_) (fun hc => ?_) | refine HC.cond_b rfl (fun hc => ?_) (fun hc => ?_))
      refine HX.openg (.head _) h0 fun b hb => ?_
      subst hb
      rw [e1]
      exact HX.cut (b, cL) trivial esA (by repeat (first | exact Hs.nil _ | (refine Hs.cons pickA ?_)))
  rintro ⟨bL, cL2⟩ -
  dsimp only
  repeat' (first | apply HL.fold | apply HA.fold | apply HL.nil | apply HX.n_then | apply HC.seq | apply HC.region | refine HL.pa ?_ | refine HL.ga rfl ?_ | refine HL.na rfl ?_ | refine HL.nu rfl rfl ?_ | apply HC.block | apply HC.skip | apply HC.exit | apply HC.ret | apply HX.e_block | refine HX.e_other rfl ?_ | apply HX.e_then | apply HX.e_again | apply HX.n_block | apply HX.r_then | apply HX.r_block | apply HX.r_again | refine HC.cond_yes rfl ?_ | refine HC.cond_no rfl ?_ | refine HL.one (H1.ldb rfl memA rfl rfl ?_) | refine HC.cond rfl (fun hc => ?_) (fun hc => ?_) | refine HC.cond_b rfl (fun hc => ?_) (fun hc => ?_))
  have hpk := pkI_lt k (n := ((ownL X set).length : Int)) (by omega)
  refine HC.anyC (cellsA b7 (madeD y).cells ++ [(⟨b1, 7, none⟩, zv k)]) rfl ?_
  refine HB.pa 0 rfl ?_
  refine HB.ldA (vs := (madeD y).cells) 1 rfl rfl rfl (fun i v hv => cellsL (cellsA_mem hv)) ?_
  refine HB.pa 2 rfl ?_
  refine HB.pa 3 rfl ?_
  refine HB.ld 4 rfl rfl (cellsR (.head _)) ?_
  refine HB.pa 5 rfl ?_
  refine HB.pa 6 rfl ?_
  refine HB.all (by exact Keep.blkA memA (Keep.blk (b := b1) memA rfl Keep.nil)) [7] (by kernel_rfl) rfl ⟨⟨_, rfl, ?_⟩, trivial⟩
  refine HP.one ?_
  refine H1.call0 (vs := [zv k, zv ((ownL X set).length : Int)]) rfl rfl (fun w' _ => kpick_fn _ _ hk.1 hk.2 (by omega) w') ?_
  apply HB.fold
  refine HB.pa 8 rfl ?_
  refine HB.pa 9 rfl ?_
  refine HB.all (by exact Keep.blkA memA (Keep.blk (b := b1) memA rfl Keep.nil)) [10] (by kernel_rfl) rfl ⟨⟨_, rfl, ?_⟩, trivial⟩
  refine HP.one ?_
  refine H1.stAgg (cs := [zv 0, zv 0, zv 0, zv 0, zv 0]) (vs := (madeD y).cells) rfl rfl rfl (by unfold Di.cells; intro v hv; simp only [List.mem_cons, List.not_mem_nil, or_false] at hv; rcases hv with rfl | rfl | rfl | rfl | rfl <;> rfl) rplA rfl ?_
  apply HB.fold
  refine HB.pa 11 rfl ?_
  refine HB.pa 12 rfl ?_
  refine HB.done (by exact Keep.blkA memA (Keep.blk (b := b1) memA rfl Keep.nil)) (by kernel_rfl) ?_
  skip
  repeat' (first | apply HL.fold | apply HA.fold | apply HL.nil | apply HX.n_then | apply HC.seq | apply HC.region | refine HL.pa ?_ | refine HL.ga rfl ?_ | refine HL.na rfl ?_ | refine HL.nu rfl rfl ?_ | apply HC.block | apply HC.skip | apply HC.exit | apply HC.ret | apply HX.e_block | refine HX.e_other rfl ?_ | apply HX.e_then | apply HX.e_again | apply HX.n_block | apply HX.r_then | apply HX.r_block | apply HX.r_again | refine HC.cond_yes rfl ?_ | refine HC.cond_no rfl ?_ | refine HL.one (H1.ldb rfl memA rfl rfl ?_) | refine HC.cond rfl (fun hc => ?_) (fun hc => ?_) | refine HC.cond_b rfl (fun hc => ?_) (fun hc => ?_))
  refine HX.retG (rs := [.tmp 2, .cell 3 48, .tmp 4, .tmp 5]) (vs := [.slice aS (madeN X) cS, .agg (madeD y).cells.toArray, .slice (some ⟨bL, 0, none⟩) (ownL X set).length cL2, zv (caseK X set k)]) rfl rfl (fun w' hM => ⟨rfl, ⟨_, rfl, loadVar_agg (b := b3) hM memA rfl⟩, rfl, rfl, trivial⟩) fun w' hM => ⟨((aS, cS), (some ⟨bL, 0, none⟩, cL2)), ⟨bL, rfl⟩, rfl, hM.sub (by repeat (first | exact Hs.nil _ | (refine Hs.cons pickA ?_)))⟩
end Go.Sx

