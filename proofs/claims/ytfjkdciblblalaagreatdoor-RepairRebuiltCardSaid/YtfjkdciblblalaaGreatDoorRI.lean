/- Make of the reference: a right situation with custodians, whichever numbers come in. -/
import Derived.Test.YtfjkdciblblalaaGreatDoorRP
import Derived.Test.YtfjkdciblblalaaGreatDoorR9
import Derived.Test.YtfjkdciblblalaaGreatDoorHw
namespace Go.Sx
open Go Go.Proofs
structure CaseP where
  holders : List Int
  lost : List Int
  tos : List Int
  width : Int
  k : Int
  deadline : Int
structure GoodC (c : CaseP) : Prop where
  right : Right c.holders c.lost c.width c.k c.deadline
  len : c.tos.length = c.lost.length
  cu : custs c.tos
  off : ∀ x ∈ c.tos, x ∉ survS c.holders c.lost
  w3 : c.width ≤ 3
  d7 : c.deadline ≤ 7
def caseV (c : CaseP) (zh zl zt : Option Addr × Nat) : List Value := [.slice zh.1 c.holders.length zh.2, .slice zl.1 c.lost.length zl.2, .slice zt.1 c.tos.length zt.2, .int .i64 c.width, .int .i64 c.k, .int .i64 c.deadline]
def swapL (l : List Int) (a b : Nat) : List Int := (l.set a (at' l b)).set b (at' l a)
theorem swapL_len (l : List Int) (a b : Nat) : (swapL l a b).length = l.length := by simp [swapL]
theorem at_set {l : List Int} {a i : Nat} {v : Int} (ha : a < l.length) : at' (l.set a v) i = if i = a then v else at' l i := by
  unfold at'
  rw [List.getD_eq_getElem?_getD, List.getD_eq_getElem?_getD, List.getElem?_set]
  by_cases h : a = i
  · subst h; simp [ha]
  · rw [if_neg h, if_neg (fun e => h e.symm)]
theorem at_swap {l : List Int} {a b i : Nat} (ha : a < l.length) (hb : b < l.length) : at' (swapL l a b) i = if i = b then at' l a else if i = a then at' l b else at' l i := by
  unfold swapL
  rw [at_set (by simpa using hb), at_set ha]
theorem nodup_at {l : List Int} : l.Nodup ↔ ∀ i j, i < l.length → j < l.length → at' l i = at' l j → i = j := by
  constructor
  · intro h i j hi hj e
    have e1 : at' l i = l[i] := by simp [at', hi]
    have e2 : at' l j = l[j] := by simp [at', hj]
    rw [e1, e2] at e
    exact (List.getElem_inj h).1 e
  · intro h
    rw [List.nodup_iff_pairwise_ne, List.pairwise_iff_getElem]
    intro i j hi hj hij e
    have e1 : at' l i = l[i] := by simp [at', hi]
    have e2 : at' l j = l[j] := by simp [at', hj]
    have := h i j hi hj (by rw [e1, e2, e])
    omega
theorem swapL_nodup {l : List Int} {a b : Nat} (ha : a < l.length) (hb : b < l.length) (h : l.Nodup) : (swapL l a b).Nodup := by
  rw [nodup_at] at h ⊢
  intro i j hi hj e
  rw [swapL_len] at hi hj
  rw [at_swap ha hb, at_swap ha hb] at e
  split at e <;> split at e <;> (try split at e) <;> (try split at e) <;> (have t := fun p q => h _ _ p q e; have := t (by omega) (by omega); omega)
theorem mem_at {l : List Int} {x : Int} (h : x ∈ l) : ∃ i, i < l.length ∧ at' l i = x := by
  obtain ⟨i, hi, rfl⟩ := List.getElem_of_mem h
  exact ⟨i, hi, by simp [at', hi]⟩
theorem swapL_mem {l : List Int} {a b : Nat} (ha : a < l.length) (hb : b < l.length) {x : Int} (h : x ∈ swapL l a b) : x ∈ l := by
  obtain ⟨i, hi, rfl⟩ := mem_at h
  rw [swapL_len] at hi
  rw [at_swap ha hb]
  split
  · exact at_mem ha
  · split
    · exact at_mem hb
    · exact at_mem hi
structure Perm9 (l : List Int) : Prop where
  len : l.length = 9
  nd : l.Nodup
  b : ∀ x ∈ l, 0 ≤ x ∧ x ≤ 8
theorem Perm9.swap {l : List Int} {a b : Nat} (h : Perm9 l) (ha : a < 9) (hb : b < 9) : Perm9 (swapL l a b) :=
  ⟨by rw [swapL_len, h.len], swapL_nodup (by rw [h.len]; exact ha) (by rw [h.len]; exact hb) h.nd, fun x hx => h.b x (swapL_mem (by rw [h.len]; exact ha) (by rw [h.len]; exact hb) hx)⟩
theorem pick_nat (c : Int) {n : Nat} (hn : 0 < n) : ∃ m : Nat, pickI c n = (m : Int) ∧ m < n := by
  have := pickI_lt c (n := n) (by omega)
  exact ⟨(pickI c n).toNat, by omega, by omega⟩
theorem ints_take (l : List Int) (n : Nat) : ints (l.take n) = (ints l).take n := by simp [ints, List.map_take]
theorem ints_drop (l : List Int) (n : Nat) : ints (l.drop n) = (ints l).drop n := by simp [ints, List.map_drop]
/-- What else custodians may be, when some of the first n are lost. -/
def freeL (all lost : List Int) (n : Nat) : List Int := all.drop n ++ lost.map fun f => at' all f.toNat
theorem free_len {all lost : List Int} {n : Nat} (h : Perm9 all) : (freeL all lost n).length = 9 - n + lost.length := by simp [freeL, h.len]
theorem free_nodup {all lost : List Int} {n : Nat} (h : Perm9 all) (hl : ascTo n lost lost.length) (hn : n ≤ 9) : (freeL all lost n).Nodup := by
  unfold freeL
  rw [List.nodup_append]
  refine ⟨(List.drop_sublist n all).nodup h.nd, ?_, ?_⟩
  · rw [List.nodup_iff_pairwise_ne, List.pairwise_map]
    have h2 := asc_nodup hl
    rw [List.nodup_iff_pairwise_ne] at h2
    refine h2.imp_of_mem fun {a b} ha hb hne e => ?_
    have h3 := asc_in hl a ha
    have h4 := asc_in hl b hb
    have := nodup_at.1 h.nd _ _ (by rw [h.len]; omega) (by rw [h.len]; omega) e
    omega
  · intro x hx y hy e
    subst e
    obtain ⟨f, hf, rfl⟩ := List.mem_map.1 hy
    obtain ⟨i, hi, he⟩ := mem_at hx
    have h3 := asc_in hl f hf
    have hi' : n + i < all.length := by rw [List.length_drop] at hi; omega
    have e2 : at' (all.drop n) i = at' all (n + i) := by unfold at'; simp [List.getD_eq_getElem?_getD]
    rw [e2] at he
    have := nodup_at.1 h.nd _ _ hi' (by rw [h.len]; omega) he
    omega
theorem free_off {all lost : List Int} {n : Nat} (h : Perm9 all) (hl : ascTo n lost lost.length) (hn : n ≤ 9) : ∀ x ∈ freeL all lost n, x ∉ survS (all.take n) lost := by
  intro x hx hs
  unfold survS at hs
  obtain ⟨i, hi, rfl⟩ := List.mem_map.1 hs
  rw [List.mem_filter, List.mem_range, List.length_take, h.len] at hi
  have hin : (i : Int) ∉ lost := by simpa using hi.2
  have hi9 : i < n := by omega
  rw [at_take hi9] at hx
  unfold freeL at hx
  rcases List.mem_append.1 hx with hx | hx
  · obtain ⟨j, hj, he⟩ := mem_at hx
    have e2 : at' (all.drop n) j = at' all (n + j) := by unfold at'; simp [List.getD_eq_getElem?_getD]
    rw [e2] at he
    rw [List.length_drop] at hj
    have := nodup_at.1 h.nd _ _ (by omega) (by rw [h.len]; omega) he
    omega
  · obtain ⟨f, hf, he⟩ := List.mem_map.1 hx
    have h3 := asc_in hl f hf
    have := nodup_at.1 h.nd _ _ (by rw [h.len]; omega) (by rw [h.len]; omega) he
    apply hin
    rw [← this]
    rwa [Int.toNat_of_nonneg h3.1]
theorem free_b {all lost : List Int} {n : Nat} (h : Perm9 all) (hl : ascTo n lost lost.length) (hn : n ≤ 9) : ∀ x ∈ freeL all lost n, 0 ≤ x ∧ x ≤ 8 := by
  intro x hx
  unfold freeL at hx
  rcases List.mem_append.1 hx with hx | hx
  · exact h.b x (List.mem_of_mem_drop hx)
  · obtain ⟨f, hf, rfl⟩ := List.mem_map.1 hx
    have h3 := asc_in hl f hf
    exact h.b _ (at_mem (by rw [h.len]; omega))
theorem asc_snoc {n f : Nat} {lost : List Int} (h : ascTo n lost lost.length) (hf : f < n) (hl : ∀ x ∈ lost, x < (f : Int)) : ascTo n (lost ++ [(f : Int)]) (lost ++ [(f : Int)]).length := by
  have e : ∀ i, i < lost.length → at' (lost ++ [(f : Int)]) i = at' lost i := fun i hi => by unfold at'; simp [List.getD_eq_getElem?_getD, List.getElem?_append_left hi]
  have e2 : at' (lost ++ [(f : Int)]) lost.length = f := by unfold at'; simp [List.getD_eq_getElem?_getD]
  intro j hj
  rw [List.length_append, List.length_singleton] at hj
  by_cases h1 : j < lost.length
  · rw [e j h1]
    refine ⟨(h j h1).1, fun h0 => ?_⟩
    rw [e (j - 1) (by omega)]
    exact (h j h1).2 h0
  · obtain rfl : j = lost.length := by omega
    rw [e2]
    refine ⟨by omega, fun h0 => ?_⟩
    rw [e (lost.length - 1) (by omega)]
    exact hl _ (at_mem (by omega))
theorem free_snoc (all lost : List Int) (n f : Nat) : freeL all (lost ++ [(f : Int)]) n = freeL all lost n ++ [at' all f] := by
  unfold freeL
  rw [List.map_append, List.append_assoc]
  simp
theorem free_zero (all : List Int) (n : Nat) : freeL all [] n = all.drop n := by simp [freeL]
theorem POp.cut_hx {P : Program} {N : Nat} {ds : List Deferred} {E : Env} {t ty : TypeId} {x hi : Operand} {k' : IntKind} {n : Nat} {e : TypeId} {l c : Nat} {a : Option Addr} {z : Value} {sz bb : Nat} [h : UTy P t (.slice e)] [hi' : ITy P e z sz bb]
    (hx : Env.ev E x = some (.slice a l c)) (hh : Env.ev E hi = some (.int k' (n : Int))) (h2 : n ≤ c) : POp P N ds E (.slice t x none (some hi) none) ty (.slice a n c) := by
  cases a with
  | none => have := POp.cut_hn (P := P) (N := N) (ds := ds) (t := t) (ty := ty) (e := e) hx hh (by omega) (by omega); rwa [Int.toNat_natCast] at this
  | some ad => have := POp.cut_hs (P := P) (N := N) (ds := ds) (t := t) (ty := ty) (e := e) hx hh (by omega) (by omega); rwa [Int.toNat_natCast] at this
attribute [local irreducible] WC WL WX POp Then Again Fn NX W1 WA WO QL RP RA Yld LoopAt HC HL HX HN H1 HA HO HQ HB HP A.blk A.grow A.rd A.obj A.mp AgainH CutH
set_option maxHeartbeats 2000000 in
theorem make_fn (x0 x1 x2 x3 : Int) (h0 : i64B x0) (h1 : i64B x1) (h2 : i64B x2) (h3 : i64B x3) (v : Value) (order : List Int) (hob : ∀ x ∈ order, i64B x) (w : World) (hR : Rd w v (ints order)) :
    Fn Tryz.prog 6 #[.agg #[.int .i64 x0, .int .i64 x1, .int .i64 x2, .int .i64 x3], v] w fun u w' => ∃ z : CaseP × (Option Addr × Nat) × (Option Addr × Nat) × (Option Addr × Nat), GoodC z.1 ∧ u = .agg (caseV z.1 z.2.1 z.2.2.1 z.2.2.2).toArray ∧
      Mm w [A.grow 3 1 z.2.1.1 z.2.1.2 z.1.holders.length (ints z.1.holders), A.grow 3 1 z.2.2.1.1 z.2.2.1.2 z.1.lost.length (ints z.1.lost), A.grow 3 1 z.2.2.2.1 z.2.2.2.2 z.1.tos.length (ints z.1.tos)] w' := by
  obtain ⟨a, c, rfl, hc⟩ := hR.isInts
  refine enterH (l := [_, _]) rfl Tryz.ntmps6 rfl ?_
  repeat' (first | apply HL.fold | apply HA.fold | apply HL.nil | apply HX.n_then | apply HC.seq | apply HC.region | refine HL.pa ?_ | refine HL.ga rfl ?_ | refine HL.na rfl ?_ | refine HL.nu rfl rfl ?_ | apply HC.block | apply HC.skip | apply HC.exit | apply HC.ret | apply HX.e_block | refine HX.e_other rfl ?_ | apply HX.e_then | apply HX.e_again | apply HX.n_block | apply HX.r_then | apply HX.r_block | apply HX.r_again | refine HC.cond_yes rfl ?_ | refine HC.cond_no rfl ?_ | refine HL.one (H1.ldb rfl memA rfl rfl ?_) | refine HC.cond rfl (fun hc => ?_) (fun hc => ?_) | refine HC.cond_b rfl (fun hc => ?_) (fun hc => ?_))
  refine HL.one (H1.boxAgg (cs := [.int .i64 x0, .int .i64 x1, .int .i64 x2, .int .i64 x3]) rfl rfl (fun b2 => ?_))
  repeat' (first | apply HL.fold | apply HA.fold | apply HL.nil | apply HX.n_then | apply HC.seq | apply HC.region | refine HL.pa ?_ | refine HL.ga rfl ?_ | refine HL.na rfl ?_ | refine HL.nu rfl rfl ?_ | apply HC.block | apply HC.skip | apply HC.exit | apply HC.ret | apply HX.e_block | refine HX.e_other rfl ?_ | apply HX.e_then | apply HX.e_again | apply HX.n_block | apply HX.r_then | apply HX.r_block | apply HX.r_again | refine HC.cond_yes rfl ?_ | refine HC.cond_no rfl ?_ | refine HL.one (H1.ldb rfl memA rfl rfl ?_) | refine HC.cond rfl (fun hc => ?_) (fun hc => ?_) | refine HC.cond_b rfl (fun hc => ?_) (fun hc => ?_))
  refine HL.one (H1.alloc (cs := [.slice none 0 0, .slice none 0 0, .slice none 0 0, .int .i64 0, .int .i64 0, .int .i64 0]) rfl rfl (fun b4 => ?_))
  repeat' (first | apply HL.fold | apply HA.fold | apply HL.nil | apply HX.n_then | apply HC.seq | apply HC.region | refine HL.pa ?_ | refine HL.ga rfl ?_ | refine HL.na rfl ?_ | refine HL.nu rfl rfl ?_ | apply HC.block | apply HC.skip | apply HC.exit | apply HC.ret | apply HX.e_block | refine HX.e_other rfl ?_ | apply HX.e_then | apply HX.e_again | apply HX.n_block | apply HX.r_then | apply HX.r_block | apply HX.r_again | refine HC.cond_yes rfl ?_ | refine HC.cond_no rfl ?_ | refine HL.one (H1.ldb rfl memA rfl rfl ?_) | refine HC.cond rfl (fun hc => ?_) (fun hc => ?_) | refine HC.cond_b rfl (fun hc => ?_) (fun hc => ?_))
  refine HL.one (H1.call0 rfl rfl (fun w _ => rpick_fn x0 9 h0.1 h0.2 (by decide) w) ?_)
  obtain ⟨n9, e9, hn9⟩ := pick_nat x0 (n := 9) (by decide)
  rw [show pickI x0 9 = (n9 : Int) from e9]
  repeat' (first | apply HL.fold | apply HA.fold | apply HL.nil | apply HX.n_then | apply HC.seq | apply HC.region | refine HL.pa ?_ | refine HL.ga rfl ?_ | refine HL.na rfl ?_ | refine HL.nu rfl rfl ?_ | apply HC.block | apply HC.skip | apply HC.exit | apply HC.ret | apply HX.e_block | refine HX.e_other rfl ?_ | apply HX.e_then | apply HX.e_again | apply HX.n_block | apply HX.r_then | apply HX.r_block | apply HX.r_again | refine HC.cond_yes rfl ?_ | refine HC.cond_no rfl ?_ | refine HL.one (H1.ldb rfl memA rfl rfl ?_) | refine HC.cond rfl (fun hc => ?_) (fun hc => ?_) | refine HC.cond_b rfl (fun hc => ?_) (fun hc => ?_))
  rw [show (1 : Int) + (n9 : Int) = ((n9 + 1 : Nat) : Int) from by omega]
  obtain ⟨n, hn⟩ : ∃ n, n = n9 + 1 := ⟨_, rfl⟩
  rw [← hn]
  refine HL.one (H1.lit (cs := ints [0, 1, 2, 3, 4, 5, 6, 7, 8]) rfl rfl rfl rfl rfl rfl (fun b6 => ?_))
  repeat' (first | apply HL.fold | apply HA.fold | apply HL.nil | apply HX.n_then | apply HC.seq | apply HC.region | refine HL.pa ?_ | refine HL.ga rfl ?_ | refine HL.na rfl ?_ | refine HL.nu rfl rfl ?_ | apply HC.skip | apply HC.exit | apply HC.ret | apply HX.e_block | refine HX.e_other rfl ?_ | apply HX.e_then | apply HX.e_again | apply HX.n_block | apply HX.r_then | apply HX.r_block | apply HX.r_again | refine HC.cond_yes rfl ?_ | refine HC.cond_no rfl ?_ | refine HL.one (H1.ldb rfl memA rfl rfl ?_) | refine HC.cond rfl (fun hc => ?_) (fun hc => ?_) | refine HC.cond_b rfl (fun hc => ?_) (fun hc => ?_))
  refine HC.cut (α := List Int) (fun _ => [(2, .pointer (some ⟨b2, 0, none⟩)), (4, .pointer (some ⟨b4, 0, none⟩)), (5, .int .i64 (n : Int)), (6, .slice (some ⟨b6, 0, none⟩) 9 9)]) (fun all => [A.blk b6 (ints all) 3, A.blk b2 [.int .i64 x0, .int .i64 x1, .int .i64 x2, .int .i64 x3] 22, A.blk b4 [.slice none 0 0, .slice none 0 0, .slice none 0 0, .int .i64 0, .int .i64 0, .int .i64 0] 26]) Perm9 ?_ ?_
  · repeat' (first | apply HL.fold | apply HA.fold | apply HL.nil | apply HX.n_then | apply HC.seq | apply HC.region | refine HL.pa ?_ | refine HL.ga rfl ?_ | refine HL.na rfl ?_ | refine HL.nu rfl rfl ?_ | apply HC.block | apply HC.skip | apply HC.exit | apply HC.ret | apply HX.e_block | refine HX.e_other rfl ?_ | apply HX.e_then | apply HX.e_again | apply HX.n_block | apply HX.r_then | apply HX.r_block | apply HX.r_again | refine HC.cond_yes rfl ?_ | refine HC.cond_no rfl ?_ | refine HL.one (H1.ldb rfl memA rfl rfl ?_) | refine HC.cond rfl (fun hc => ?_) (fun hc => ?_) | refine HC.cond_b rfl (fun hc => ?_) (fun hc => ?_))
    refine HC.loop (α := Nat × List Int) (fun z => [(1, .slice a order.length c), (2, .pointer (some ⟨b2, 0, none⟩)), (4, .pointer (some ⟨b4, 0, none⟩)), (5, .int .i64 (n : Int)), (6, .slice (some ⟨b6, 0, none⟩) 9 9), (7, .int .i64 (z.1 : Int))])
      (fun z => [A.blk b6 (ints z.2) 3, A.blk b2 [.int .i64 x0, .int .i64 x1, .int .i64 x2, .int .i64 x3] 22, A.blk b4 [.slice none 0 0, .slice none 0 0, .slice none 0 0, .int .i64 0, .int .i64 0, .int .i64 0] 26])
      (fun z => z.1 ≤ 20 ∧ z.1 ≤ order.length ∧ Perm9 z.2) (fun z => 20 - z.1) (0, [0, 1, 2, 3, 4, 5, 6, 7, 8]) ⟨Nat.zero_le _, Nat.zero_le _, rfl, by decide, by decide⟩ esA (by repeat (first | exact Hs.nil _ | (refine Hs.cons pickA ?_))) ?_
    rintro ⟨i, all⟩ ⟨hi, hio, hp⟩
    dsimp only at hi hio hp ⊢
    have hpl := hp.len
    by_cases hlt : i < order.length
    · by_cases hl20 : i < 20
      · obtain ⟨b, off, rfl, -⟩ := hR.iat (by intro e; rw [e] at hlt; simp at hlt)
        have hoi := hob _ (at_mem hlt)
        repeat' (first | apply HL.fold | apply HA.fold | apply HL.nil | apply HX.n_then | apply HC.seq | apply HC.region | refine HL.pa ?_ | refine HL.ga rfl ?_ | refine HL.na rfl ?_ | refine HL.nu rfl rfl ?_ | apply HC.block | apply HC.skip | apply HC.exit | apply HC.ret | apply HX.e_block | refine HX.e_other rfl ?_ | apply HX.e_then | apply HX.e_again | apply HX.n_block | apply HX.r_then | apply HX.r_block | apply HX.r_again | refine HC.cond_yes rfl ?_ | refine HC.cond_no rfl ?_ | refine HL.one (H1.ldb rfl memA rfl rfl ?_) | refine HC.cond rfl (fun hc => ?_) (fun hc => ?_) | refine HC.cond_b rfl (fun hc => ?_) (fun hc => ?_))
        refine HL.one (H1.ld0 rfl (hR.cell (ints_get hlt)) rfl ?_)
        repeat' (first | apply HL.fold | apply HA.fold | apply HL.nil | apply HX.n_then | apply HC.seq | apply HC.region | refine HL.pa ?_ | refine HL.ga rfl ?_ | refine HL.na rfl ?_ | refine HL.nu rfl rfl ?_ | apply HC.block | apply HC.skip | apply HC.exit | apply HC.ret | apply HX.e_block | refine HX.e_other rfl ?_ | apply HX.e_then | apply HX.e_again | apply HX.n_block | apply HX.r_then | apply HX.r_block | apply HX.r_again | refine HC.cond_yes rfl ?_ | refine HC.cond_no rfl ?_ | refine HL.one (H1.ldb rfl memA rfl rfl ?_) | refine HC.cond rfl (fun hc => ?_) (fun hc => ?_) | refine HC.cond_b rfl (fun hc => ?_) (fun hc => ?_))
        refine HL.one (H1.call0 rfl rfl (fun w _ => rpick_fn (at' order i) 9 hoi.1 hoi.2 (by decide) w) ?_)
        obtain ⟨na, ea, hna⟩ := pick_nat (at' order i) (n := 9) (by decide)
        rw [show pickI (at' order i) 9 = (na : Int) from ea]
        repeat' (first | apply HL.fold | apply HA.fold | apply HL.nil | apply HX.n_then | apply HC.seq | apply HC.region | refine HL.pa ?_ | refine HL.ga rfl ?_ | refine HL.na rfl ?_ | refine HL.nu rfl rfl ?_ | apply HC.block | apply HC.skip | apply HC.exit | apply HC.ret | apply HX.e_block | refine HX.e_other rfl ?_ | apply HX.e_then | apply HX.e_again | apply HX.n_block | apply HX.r_then | apply HX.r_block | apply HX.r_again | refine HC.cond_yes rfl ?_ | refine HC.cond_no rfl ?_ | refine HL.one (H1.ldb rfl memA rfl rfl ?_) | refine HC.cond rfl (fun hc => ?_) (fun hc => ?_) | refine HC.cond_b rfl (fun hc => ?_) (fun hc => ?_))
        refine HL.one (H1.ld0 rfl (hR.cell (ints_get hlt)) rfl ?_)
        repeat' (first | apply HL.fold | apply HA.fold | apply HL.nil | apply HX.n_then | apply HC.seq | apply HC.region | refine HL.pa ?_ | refine HL.ga rfl ?_ | refine HL.na rfl ?_ | refine HL.nu rfl rfl ?_ | apply HC.block | apply HC.skip | apply HC.exit | apply HC.ret | apply HX.e_block | refine HX.e_other rfl ?_ | apply HX.e_then | apply HX.e_again | apply HX.n_block | apply HX.r_then | apply HX.r_block | apply HX.r_again | refine HC.cond_yes rfl ?_ | refine HC.cond_no rfl ?_ | refine HL.one (H1.ldb rfl memA rfl rfl ?_) | refine HC.cond rfl (fun hc => ?_) (fun hc => ?_) | refine HC.cond_b rfl (fun hc => ?_) (fun hc => ?_))
        refine HL.pa (v := .int .i64 ((at' order i).tdiv 9)) ?_ (POp.quoT rfl rfl hoi.1 hoi.2 (by decide))
        have hq := tdiv_abs (n := 9) (by decide) hoi.1 hoi.2
        repeat' (first | apply HL.fold | apply HA.fold | apply HL.nil | apply HX.n_then | apply HC.seq | apply HC.region | refine HL.pa ?_ | refine HL.ga rfl ?_ | refine HL.na rfl ?_ | refine HL.nu rfl rfl ?_ | apply HC.block | apply HC.skip | apply HC.exit | apply HC.ret | apply HX.e_block | refine HX.e_other rfl ?_ | apply HX.e_then | apply HX.e_again | apply HX.n_block | apply HX.r_then | apply HX.r_block | apply HX.r_again | refine HC.cond_yes rfl ?_ | refine HC.cond_no rfl ?_ | refine HL.one (H1.ldb rfl memA rfl rfl ?_) | refine HC.cond rfl (fun hc => ?_) (fun hc => ?_) | refine HC.cond_b rfl (fun hc => ?_) (fun hc => ?_))
        refine HL.one (H1.call0 rfl rfl (fun w _ => rpick_fn ((at' order i).tdiv 9) 9 hq.1 hq.2 (by decide) w) ?_)
        obtain ⟨nb, eb, hnb⟩ := pick_nat ((at' order i).tdiv 9) (n := 9) (by decide)
        rw [show pickI ((at' order i).tdiv 9) 9 = (nb : Int) from eb]
        repeat' (first | apply HL.fold | apply HA.fold | apply HL.nil | apply HX.n_then | apply HC.seq | apply HC.region | refine HL.pa ?_ | refine HL.ga rfl ?_ | refine HL.na rfl ?_ | refine HL.nu rfl rfl ?_ | apply HC.block | apply HC.skip | apply HC.exit | apply HC.ret | apply HX.e_block | refine HX.e_other rfl ?_ | apply HX.e_then | apply HX.e_again | apply HX.n_block | apply HX.r_then | apply HX.r_block | apply HX.r_again | refine HC.cond_yes rfl ?_ | refine HC.cond_no rfl ?_ | refine HL.one (H1.ldb rfl memA rfl rfl ?_) | refine HC.cond rfl (fun hc => ?_) (fun hc => ?_) | refine HC.cond_b rfl (fun hc => ?_) (fun hc => ?_))
        have hsw : ((ints all).set na (zv (at' all nb))).set nb (zv (at' all na)) = ints (swapL all na nb) := by rw [ints_set, ints_set]; rfl
        refine HC.any rfl ?_
        refine HA.pa 0 rfl ?_
        refine HA.pa 1 rfl ?_
        refine HA.pa 2 rfl ?_
        refine HA.pa 3 rfl ?_
        refine HA.pa 4 rfl ?_
        refine HA.pa 5 rfl ?_
        refine HA.pa 6 rfl ?_
        refine HA.pa 8 rfl ?_
        refine HA.pa 9 rfl ?_
        refine HA.pa 10 rfl ?_
        refine HA.all [7, 11] (by kernel_rfl) rfl ⟨⟨_, rfl, ?_⟩, ⟨_, rfl, ?_⟩, trivial⟩
        · refine HO.one ?_
          refine H1.ldb rfl memA (ints_get (show nb < all.length by omega)) rfl ?_
          apply HA.fold
          refine HA.all [11] (by kernel_rfl) rfl ⟨⟨_, rfl, ?_⟩, trivial⟩
          refine HO.one ?_
          refine H1.ldb rfl memA (ints_get (show na < all.length by omega)) rfl ?_
          apply HA.fold
          refine HA.pa 12 rfl ?_
          refine HA.all [13] (by kernel_rfl) rfl ⟨⟨_, rfl, ?_⟩, trivial⟩
          refine HO.one ?_
          refine H1.st rfl rfl (by intro _ h; cases h) (by intro _ h; cases h) rplA (by rw [ints_len]; omega) ?_
          apply HA.fold
          refine HA.pa 14 rfl ?_
          refine HA.all [15] (by kernel_rfl) rfl ⟨⟨_, rfl, ?_⟩, trivial⟩
          refine HO.one ?_
          refine H1.st rfl rfl (by intro _ h; cases h) (by intro _ h; cases h) rplA (by rw [List.length_set, ints_len]; omega) ?_
          rw [hsw]
          apply HA.fold
          refine HA.done (by kernel_rfl) ?_
          repeat' (first | apply HL.fold | apply HA.fold | apply HL.nil | apply HX.n_then | apply HC.seq | apply HC.region | refine HL.pa ?_ | refine HL.ga rfl ?_ | refine HL.na rfl ?_ | refine HL.nu rfl rfl ?_ | apply HC.block | apply HC.skip | apply HC.exit | apply HC.ret | apply HX.e_block | refine HX.e_other rfl ?_ | apply HX.e_then | apply HX.e_again | apply HX.n_block | apply HX.r_then | apply HX.r_block | apply HX.r_again | refine HC.cond_yes rfl ?_ | refine HC.cond_no rfl ?_ | refine HL.one (H1.ldb rfl memA rfl rfl ?_) | refine HC.cond rfl (fun hc => ?_) (fun hc => ?_) | refine HC.cond_b rfl (fun hc => ?_) (fun hc => ?_))
          exact HX.again (i + 1, swapL all na nb) ⟨by show i + 1 ≤ 20; omega, by show i + 1 ≤ _; omega, hp.swap hna hnb⟩ (by show 20 - (i + 1) < 20 - i; omega) esA (by repeat (first | exact Hs.nil _ | (refine Hs.cons pickA ?_)))
        · refine HO.one ?_
          refine H1.ldb rfl memA (ints_get (show na < all.length by omega)) rfl ?_
          apply HA.fold
          refine HA.all [7] (by kernel_rfl) rfl ⟨⟨_, rfl, ?_⟩, trivial⟩
          refine HO.one ?_
          refine H1.ldb rfl memA (ints_get (show nb < all.length by omega)) rfl ?_
          apply HA.fold
          refine HA.pa 12 rfl ?_
          refine HA.all [13] (by kernel_rfl) rfl ⟨⟨_, rfl, ?_⟩, trivial⟩
          refine HO.one ?_
          refine H1.st rfl rfl (by intro _ h; cases h) (by intro _ h; cases h) rplA (by rw [ints_len]; omega) ?_
          apply HA.fold
          refine HA.pa 14 rfl ?_
          refine HA.all [15] (by kernel_rfl) rfl ⟨⟨_, rfl, ?_⟩, trivial⟩
          refine HO.one ?_
          refine H1.st rfl rfl (by intro _ h; cases h) (by intro _ h; cases h) rplA (by rw [List.length_set, ints_len]; omega) ?_
          rw [hsw]
          apply HA.fold
          refine HA.done (by kernel_rfl) ?_
          repeat' (first | apply HL.fold | apply HA.fold | apply HL.nil | apply HX.n_then | apply HC.seq | apply HC.region | refine HL.pa ?_ | refine HL.ga rfl ?_ | refine HL.na rfl ?_ | refine HL.nu rfl rfl ?_ | apply HC.block | apply HC.skip | apply HC.exit | apply HC.ret | apply HX.e_block | refine HX.e_other rfl ?_ | apply HX.e_then | apply HX.e_again | apply HX.n_block | apply HX.r_then | apply HX.r_block | apply HX.r_again | refine HC.cond_yes rfl ?_ | refine HC.cond_no rfl ?_ | refine HL.one (H1.ldb rfl memA rfl rfl ?_) | refine HC.cond rfl (fun hc => ?_) (fun hc => ?_) | refine HC.cond_b rfl (fun hc => ?_) (fun hc => ?_))
          exact HX.again (i + 1, swapL all na nb) ⟨by show i + 1 ≤ 20; omega, by show i + 1 ≤ _; omega, hp.swap hna hnb⟩ (by show 20 - (i + 1) < 20 - i; omega) esA (by repeat (first | exact Hs.nil _ | (refine Hs.cons pickA ?_)))
      · repeat' (first | apply HL.fold | apply HA.fold | apply HL.nil | apply HX.n_then | apply HC.seq | apply HC.region | refine HL.pa ?_ | refine HL.ga rfl ?_ | refine HL.na rfl ?_ | refine HL.nu rfl rfl ?_ | apply HC.block | apply HC.skip | apply HC.exit | apply HC.ret | apply HX.e_block | refine HX.e_other rfl ?_ | apply HX.e_then | apply HX.e_again | apply HX.n_block | apply HX.r_then | apply HX.r_block | apply HX.r_again | refine HC.cond_yes rfl ?_ | refine HC.cond_no rfl ?_ | refine HL.one (H1.ldb rfl memA rfl rfl ?_) | refine HC.cond rfl (fun hc => ?_) (fun hc => ?_) | refine HC.cond_b rfl (fun hc => ?_) (fun hc => ?_))
        exact HX.cut all hp esA (by repeat (first | exact Hs.nil _ | (refine Hs.cons pickA ?_)))
    · repeat' (first | apply HL.fold | apply HA.fold | apply HL.nil | apply HX.n_then | apply HC.seq | apply HC.region | refine HL.pa ?_ | refine HL.ga rfl ?_ | refine HL.na rfl ?_ | refine HL.nu rfl rfl ?_ | apply HC.block | apply HC.skip | apply HC.exit | apply HC.ret | apply HX.e_block | refine HX.e_other rfl ?_ | apply HX.e_then | apply HX.e_again | apply HX.n_block | apply HX.r_then | apply HX.r_block | apply HX.r_again | refine HC.cond_yes rfl ?_ | refine HC.cond_no rfl ?_ | refine HL.one (H1.ldb rfl memA rfl rfl ?_) | refine HC.cond rfl (fun hc => ?_) (fun hc => ?_) | refine HC.cond_b rfl (fun hc => ?_) (fun hc => ?_))
      exact HX.cut all hp esA (by repeat (first | exact Hs.nil _ | (refine Hs.cons pickA ?_)))
  intro all hp
  have hpl := hp.len
  have hn1 : 1 ≤ n := by omega
  have hn2 : n ≤ 9 := by omega
  clear hn hn9 e9
  obtain ⟨w3, ew, hw3⟩ := pick_nat x2 (n := 3) (by decide)
  obtain ⟨kn, ek, hkn⟩ := pick_nat (x2.tdiv 3) (n := n) (by omega)
  obtain ⟨dl, ed, hdl⟩ := pick_nat x3 (n := 8) (by decide)
  have hq2 := tdiv_abs (n := 3) (by decide) h2.1 h2.2
  have hgt : ∀ j u, (ints (all.take n))[j]? = some u → (ints all)[j]? = some u := fun j u hu => by
    rw [ints_take, List.getElem?_take] at hu
    split at hu
    · exact hu
    · cases hu
  have htl : (ints (all.take n)).length = n := by rw [ints_len, List.length_take, hpl]; omega
  apply HC.seq
  refine HC.cut (α := Nat × Option Addr × Nat) (fun z => [(2, .pointer (some ⟨b2, 0, none⟩)), (4, .pointer (some ⟨b4, 0, none⟩)), (5, .int .i64 (n : Int)), (6, .slice (some ⟨b6, 0, none⟩) 9 9), (10, .pointer (some ⟨z.1, 0, none⟩))])
    (fun z => [A.grow 3 1 z.2.1 z.2.2 n (ints (all.take n)), A.blk z.1 [.slice z.2.1 n z.2.2, .slice none 0 0, .slice none 0 0, .int .i64 (1 + (w3 : Int)), .int .i64 (1 + (kn : Int)), .int .i64 (dl : Int)] 26, A.blk b6 (ints all) 3, A.blk b2 [.int .i64 x0, .int .i64 x1, .int .i64 x2, .int .i64 x3] 22, A.blk b4 [.slice none 0 0, .slice none 0 0, .slice none 0 0, .int .i64 0, .int .i64 0, .int .i64 0] 26]) (fun _ => True) ?_ ?_
  · refine HC.anyC ([(⟨b2, 2, none⟩, .int .i64 x2), (⟨b2, 3, none⟩, .int .i64 x3)]) rfl ?_
    refine HB.pa 1 rfl ?_
    refine HB.pa 2 rfl ?_
    refine HB.pa 3 rfl ?_
    rw [Int.toNat_natCast]
    refine HB.pa 5 rfl ?_
    refine HB.ld 6 rfl rfl memD ?_
    refine HB.pa 9 rfl ?_
    refine HB.ld 10 rfl rfl memD ?_
    refine HB.pa (v := .int .i64 (x2.tdiv 3)) 11 rfl ?_ (POp.quoT rfl rfl h2.1 h2.2 (by decide))
    refine HB.pa 12 rfl ?_
    refine HB.pa 15 rfl ?_
    refine HB.ld 16 rfl rfl memD ?_
    refine HB.all (by repeat (first | exact Keep.nil | refine Keep.blk (by (repeat (first | exact List.Mem.head _ | apply List.Mem.tail)); done) rfl ?_ | refine Keep.grow (by (repeat (first | exact List.Mem.head _ | apply List.Mem.tail)); done) (by assumption) ?_ | refine Keep.base (by assumption) ?_)) [0, 19] (by kernel_rfl) rfl ⟨⟨_, rfl, ?_⟩, ⟨_, rfl, ?_⟩, trivial⟩
    · refine HP.one ?_
      refine H1.lit0 rfl (fun bz => ?_)
      apply HB.fold
      refine HB.all (by repeat (first | exact Keep.nil | refine Keep.blk (by (repeat (first | exact List.Mem.head _ | apply List.Mem.tail)); done) rfl ?_ | refine Keep.grow (by (repeat (first | exact List.Mem.head _ | apply List.Mem.tail)); done) (by assumption) ?_ | refine Keep.base (by assumption) ?_)) [4, 19] (by kernel_rfl) rfl ⟨⟨_, rfl, ?_⟩, ⟨_, rfl, ?_⟩, trivial⟩
      · refine HP.one ?_
        refine H1.app (e := 3) (sz := 1) (m := n) (news := ints (all.take n)) rfl (by decide) rfl rfl (fun _ _ => by first | ((repeat (first | with_reducible exact Rpl.here | with_reducible apply Rpl.there)); done) | (repeat (first | exact Rpl.here | apply Rpl.there))) (by rw [htl, Nat.mul_one]) (fun w hM j u hu => by rw [add_lit, Nat.zero_add]; exact (hM.blk memA).cell (hgt j u hu)) (ints_one _) (by omega) (by decide) rfl (fun aH cH haH => ?_)
        rw [Nat.zero_add, List.nil_append]
        apply HB.fold
        refine HB.all (by repeat (first | exact Keep.nil | refine Keep.blk (by (repeat (first | exact List.Mem.head _ | apply List.Mem.tail)); done) rfl ?_ | refine Keep.grow (by (repeat (first | exact List.Mem.head _ | apply List.Mem.tail)); done) (by assumption) ?_ | refine Keep.base (by assumption) ?_)) [7, 19] (by kernel_rfl) rfl ⟨⟨_, rfl, ?_⟩, ⟨_, rfl, ?_⟩, trivial⟩
        · refine HP.one ?_
          refine H1.call0 rfl rfl (fun w _ => rpick_fn x2 3 h2.1 h2.2 (by decide) w) ?_
          rw [show pickI x2 3 = (w3 : Int) from ew]
          apply HB.fold
          refine HB.pa 8 rfl ?_
          refine HB.all (by repeat (first | exact Keep.nil | refine Keep.blk (by (repeat (first | exact List.Mem.head _ | apply List.Mem.tail)); done) rfl ?_ | refine Keep.grow (by (repeat (first | exact List.Mem.head _ | apply List.Mem.tail)); done) (by assumption) ?_ | refine Keep.base (by assumption) ?_)) [13, 19] (by kernel_rfl) rfl ⟨⟨_, rfl, ?_⟩, ⟨_, rfl, ?_⟩, trivial⟩
          · refine HP.one ?_
            refine H1.call0 rfl rfl (fun w _ => rpick_fn (x2.tdiv 3) n hq2.1 hq2.2 (by omega) w) ?_
            rw [ek]
            apply HB.fold
            refine HB.pa 14 rfl ?_
            refine HB.all (by repeat (first | exact Keep.nil | refine Keep.blk (by (repeat (first | exact List.Mem.head _ | apply List.Mem.tail)); done) rfl ?_ | refine Keep.grow (by (repeat (first | exact List.Mem.head _ | apply List.Mem.tail)); done) (by assumption) ?_ | refine Keep.base (by assumption) ?_)) [17, 19] (by kernel_rfl) rfl ⟨⟨_, rfl, ?_⟩, ⟨_, rfl, ?_⟩, trivial⟩
            · refine HP.one ?_
              refine H1.call0 rfl rfl (fun w _ => rpick_fn x3 8 h3.1 h3.2 (by decide) w) ?_
              rw [show pickI x3 8 = (dl : Int) from ed]
              apply HB.fold
              refine HB.pa (v := .agg #[.slice aH n cH, .slice none 0 0, .slice none 0 0, .int .i64 (1 + (w3 : Int)), .int .i64 (1 + (kn : Int)), .int .i64 (dl : Int)]) 18 rfl ?_ (POp.build (cs := [.slice aH n cH, .slice none 0 0, .slice none 0 0, .int .i64 (1 + (w3 : Int)), .int .i64 (1 + (kn : Int)), .int .i64 (dl : Int)]) rfl rfl)
              refine HB.all (by repeat (first | exact Keep.nil | refine Keep.blk (by (repeat (first | exact List.Mem.head _ | apply List.Mem.tail)); done) rfl ?_ | refine Keep.grow (by (repeat (first | exact List.Mem.head _ | apply List.Mem.tail)); done) (by assumption) ?_ | refine Keep.base (by assumption) ?_)) [19] (by kernel_rfl) rfl ⟨⟨_, rfl, ?_⟩, trivial⟩
              refine HP.one ?_
              refine H1.alloc (cs := [.slice none 0 0, .slice none 0 0, .slice none 0 0, .int .i64 0, .int .i64 0, .int .i64 0]) rfl rfl (fun b10 => ?_)
              apply HB.fold
              refine HB.all (by repeat (first | exact Keep.nil | refine Keep.blk (by (repeat (first | exact List.Mem.head _ | apply List.Mem.tail)); done) rfl ?_ | refine Keep.grow (by (repeat (first | exact List.Mem.head _ | apply List.Mem.tail)); done) (by assumption) ?_ | refine Keep.base (by assumption) ?_)) [20] (by kernel_rfl) rfl ⟨⟨_, rfl, ?_⟩, trivial⟩
              refine HP.one ?_
              refine H1.stAgg (cs := [.slice none 0 0, .slice none 0 0, .slice none 0 0, .int .i64 0, .int .i64 0, .int .i64 0]) (vs := [.slice aH n cH, .slice none 0 0, .slice none 0 0, .int .i64 (1 + (w3 : Int)), .int .i64 (1 + (kn : Int)), .int .i64 (dl : Int)]) rfl rfl rfl (by intro v hv; simp only [List.mem_cons, List.not_mem_nil, or_false] at hv; rcases hv with rfl | rfl | rfl | rfl | rfl | rfl <;> rfl) rplA rfl ?_
              apply HB.fold
              refine HB.done (by repeat (first | exact Keep.nil | refine Keep.blk (by (repeat (first | exact List.Mem.head _ | apply List.Mem.tail)); done) rfl ?_ | refine Keep.grow (by (repeat (first | exact List.Mem.head _ | apply List.Mem.tail)); done) (by assumption) ?_ | refine Keep.base (by assumption) ?_)) (by kernel_rfl) ?_
              exact HX.cut (b10, aH, cH) trivial esA (by repeat (first | exact Hs.nil _ | (refine Hs.cons pickA ?_)))
            · refine HP.one ?_
              refine H1.alloc (cs := [.slice none 0 0, .slice none 0 0, .slice none 0 0, .int .i64 0, .int .i64 0, .int .i64 0]) rfl rfl (fun b10 => ?_)
              apply HB.fold
              refine HB.all (by repeat (first | exact Keep.nil | refine Keep.blk (by (repeat (first | exact List.Mem.head _ | apply List.Mem.tail)); done) rfl ?_ | refine Keep.grow (by (repeat (first | exact List.Mem.head _ | apply List.Mem.tail)); done) (by assumption) ?_ | refine Keep.base (by assumption) ?_)) [17] (by kernel_rfl) rfl ⟨⟨_, rfl, ?_⟩, trivial⟩
              refine HP.one ?_
              refine H1.call0 rfl rfl (fun w _ => rpick_fn x3 8 h3.1 h3.2 (by decide) w) ?_
              rw [show pickI x3 8 = (dl : Int) from ed]
              apply HB.fold
              refine HB.pa (v := .agg #[.slice aH n cH, .slice none 0 0, .slice none 0 0, .int .i64 (1 + (w3 : Int)), .int .i64 (1 + (kn : Int)), .int .i64 (dl : Int)]) 18 rfl ?_ (POp.build (cs := [.slice aH n cH, .slice none 0 0, .slice none 0 0, .int .i64 (1 + (w3 : Int)), .int .i64 (1 + (kn : Int)), .int .i64 (dl : Int)]) rfl rfl)
              refine HB.all (by repeat (first | exact Keep.nil | refine Keep.blk (by (repeat (first | exact List.Mem.head _ | apply List.Mem.tail)); done) rfl ?_ | refine Keep.grow (by (repeat (first | exact List.Mem.head _ | apply List.Mem.tail)); done) (by assumption) ?_ | refine Keep.base (by assumption) ?_)) [20] (by kernel_rfl) rfl ⟨⟨_, rfl, ?_⟩, trivial⟩
              refine HP.one ?_
              refine H1.stAgg (cs := [.slice none 0 0, .slice none 0 0, .slice none 0 0, .int .i64 0, .int .i64 0, .int .i64 0]) (vs := [.slice aH n cH, .slice none 0 0, .slice none 0 0, .int .i64 (1 + (w3 : Int)), .int .i64 (1 + (kn : Int)), .int .i64 (dl : Int)]) rfl rfl rfl (by intro v hv; simp only [List.mem_cons, List.not_mem_nil, or_false] at hv; rcases hv with rfl | rfl | rfl | rfl | rfl | rfl <;> rfl) rplA rfl ?_
              apply HB.fold
              refine HB.done (by repeat (first | exact Keep.nil | refine Keep.blk (by (repeat (first | exact List.Mem.head _ | apply List.Mem.tail)); done) rfl ?_ | refine Keep.grow (by (repeat (first | exact List.Mem.head _ | apply List.Mem.tail)); done) (by assumption) ?_ | refine Keep.base (by assumption) ?_)) (by kernel_rfl) ?_
              exact HX.cut (b10, aH, cH) trivial esA (by repeat (first | exact Hs.nil _ | (refine Hs.cons pickA ?_)))
          · refine HP.one ?_
            refine H1.alloc (cs := [.slice none 0 0, .slice none 0 0, .slice none 0 0, .int .i64 0, .int .i64 0, .int .i64 0]) rfl rfl (fun b10 => ?_)
            apply HB.fold
            refine HB.all (by repeat (first | exact Keep.nil | refine Keep.blk (by (repeat (first | exact List.Mem.head _ | apply List.Mem.tail)); done) rfl ?_ | refine Keep.grow (by (repeat (first | exact List.Mem.head _ | apply List.Mem.tail)); done) (by assumption) ?_ | refine Keep.base (by assumption) ?_)) [13] (by kernel_rfl) rfl ⟨⟨_, rfl, ?_⟩, trivial⟩
            refine HP.one ?_
            refine H1.call0 rfl rfl (fun w _ => rpick_fn (x2.tdiv 3) n hq2.1 hq2.2 (by omega) w) ?_
            rw [ek]
            apply HB.fold
            refine HB.pa 14 rfl ?_
            refine HB.all (by repeat (first | exact Keep.nil | refine Keep.blk (by (repeat (first | exact List.Mem.head _ | apply List.Mem.tail)); done) rfl ?_ | refine Keep.grow (by (repeat (first | exact List.Mem.head _ | apply List.Mem.tail)); done) (by assumption) ?_ | refine Keep.base (by assumption) ?_)) [17] (by kernel_rfl) rfl ⟨⟨_, rfl, ?_⟩, trivial⟩
            refine HP.one ?_
            refine H1.call0 rfl rfl (fun w _ => rpick_fn x3 8 h3.1 h3.2 (by decide) w) ?_
            rw [show pickI x3 8 = (dl : Int) from ed]
            apply HB.fold
            refine HB.pa (v := .agg #[.slice aH n cH, .slice none 0 0, .slice none 0 0, .int .i64 (1 + (w3 : Int)), .int .i64 (1 + (kn : Int)), .int .i64 (dl : Int)]) 18 rfl ?_ (POp.build (cs := [.slice aH n cH, .slice none 0 0, .slice none 0 0, .int .i64 (1 + (w3 : Int)), .int .i64 (1 + (kn : Int)), .int .i64 (dl : Int)]) rfl rfl)
            refine HB.all (by repeat (first | exact Keep.nil | refine Keep.blk (by (repeat (first | exact List.Mem.head _ | apply List.Mem.tail)); done) rfl ?_ | refine Keep.grow (by (repeat (first | exact List.Mem.head _ | apply List.Mem.tail)); done) (by assumption) ?_ | refine Keep.base (by assumption) ?_)) [20] (by kernel_rfl) rfl ⟨⟨_, rfl, ?_⟩, trivial⟩
            refine HP.one ?_
            refine H1.stAgg (cs := [.slice none 0 0, .slice none 0 0, .slice none 0 0, .int .i64 0, .int .i64 0, .int .i64 0]) (vs := [.slice aH n cH, .slice none 0 0, .slice none 0 0, .int .i64 (1 + (w3 : Int)), .int .i64 (1 + (kn : Int)), .int .i64 (dl : Int)]) rfl rfl rfl (by intro v hv; simp only [List.mem_cons, List.not_mem_nil, or_false] at hv; rcases hv with rfl | rfl | rfl | rfl | rfl | rfl <;> rfl) rplA rfl ?_
            apply HB.fold
            refine HB.done (by repeat (first | exact Keep.nil | refine Keep.blk (by (repeat (first | exact List.Mem.head _ | apply List.Mem.tail)); done) rfl ?_ | refine Keep.grow (by (repeat (first | exact List.Mem.head _ | apply List.Mem.tail)); done) (by assumption) ?_ | refine Keep.base (by assumption) ?_)) (by kernel_rfl) ?_
            exact HX.cut (b10, aH, cH) trivial esA (by repeat (first | exact Hs.nil _ | (refine Hs.cons pickA ?_)))
        · refine HP.one ?_
          refine H1.alloc (cs := [.slice none 0 0, .slice none 0 0, .slice none 0 0, .int .i64 0, .int .i64 0, .int .i64 0]) rfl rfl (fun b10 => ?_)
          apply HB.fold
          refine HB.all (by repeat (first | exact Keep.nil | refine Keep.blk (by (repeat (first | exact List.Mem.head _ | apply List.Mem.tail)); done) rfl ?_ | refine Keep.grow (by (repeat (first | exact List.Mem.head _ | apply List.Mem.tail)); done) (by assumption) ?_ | refine Keep.base (by assumption) ?_)) [7] (by kernel_rfl) rfl ⟨⟨_, rfl, ?_⟩, trivial⟩
          refine HP.one ?_
          refine H1.call0 rfl rfl (fun w _ => rpick_fn x2 3 h2.1 h2.2 (by decide) w) ?_
          rw [show pickI x2 3 = (w3 : Int) from ew]
          apply HB.fold
          refine HB.pa 8 rfl ?_
          refine HB.all (by repeat (first | exact Keep.nil | refine Keep.blk (by (repeat (first | exact List.Mem.head _ | apply List.Mem.tail)); done) rfl ?_ | refine Keep.grow (by (repeat (first | exact List.Mem.head _ | apply List.Mem.tail)); done) (by assumption) ?_ | refine Keep.base (by assumption) ?_)) [13] (by kernel_rfl) rfl ⟨⟨_, rfl, ?_⟩, trivial⟩
          refine HP.one ?_
          refine H1.call0 rfl rfl (fun w _ => rpick_fn (x2.tdiv 3) n hq2.1 hq2.2 (by omega) w) ?_
          rw [ek]
          apply HB.fold
          refine HB.pa 14 rfl ?_
          refine HB.all (by repeat (first | exact Keep.nil | refine Keep.blk (by (repeat (first | exact List.Mem.head _ | apply List.Mem.tail)); done) rfl ?_ | refine Keep.grow (by (repeat (first | exact List.Mem.head _ | apply List.Mem.tail)); done) (by assumption) ?_ | refine Keep.base (by assumption) ?_)) [17] (by kernel_rfl) rfl ⟨⟨_, rfl, ?_⟩, trivial⟩
          refine HP.one ?_
          refine H1.call0 rfl rfl (fun w _ => rpick_fn x3 8 h3.1 h3.2 (by decide) w) ?_
          rw [show pickI x3 8 = (dl : Int) from ed]
          apply HB.fold
          refine HB.pa (v := .agg #[.slice aH n cH, .slice none 0 0, .slice none 0 0, .int .i64 (1 + (w3 : Int)), .int .i64 (1 + (kn : Int)), .int .i64 (dl : Int)]) 18 rfl ?_ (POp.build (cs := [.slice aH n cH, .slice none 0 0, .slice none 0 0, .int .i64 (1 + (w3 : Int)), .int .i64 (1 + (kn : Int)), .int .i64 (dl : Int)]) rfl rfl)
          refine HB.all (by repeat (first | exact Keep.nil | refine Keep.blk (by (repeat (first | exact List.Mem.head _ | apply List.Mem.tail)); done) rfl ?_ | refine Keep.grow (by (repeat (first | exact List.Mem.head _ | apply List.Mem.tail)); done) (by assumption) ?_ | refine Keep.base (by assumption) ?_)) [20] (by kernel_rfl) rfl ⟨⟨_, rfl, ?_⟩, trivial⟩
          refine HP.one ?_
          refine H1.stAgg (cs := [.slice none 0 0, .slice none 0 0, .slice none 0 0, .int .i64 0, .int .i64 0, .int .i64 0]) (vs := [.slice aH n cH, .slice none 0 0, .slice none 0 0, .int .i64 (1 + (w3 : Int)), .int .i64 (1 + (kn : Int)), .int .i64 (dl : Int)]) rfl rfl rfl (by intro v hv; simp only [List.mem_cons, List.not_mem_nil, or_false] at hv; rcases hv with rfl | rfl | rfl | rfl | rfl | rfl <;> rfl) rplA rfl ?_
          apply HB.fold
          refine HB.done (by repeat (first | exact Keep.nil | refine Keep.blk (by (repeat (first | exact List.Mem.head _ | apply List.Mem.tail)); done) rfl ?_ | refine Keep.grow (by (repeat (first | exact List.Mem.head _ | apply List.Mem.tail)); done) (by assumption) ?_ | refine Keep.base (by assumption) ?_)) (by kernel_rfl) ?_
          exact HX.cut (b10, aH, cH) trivial esA (by repeat (first | exact Hs.nil _ | (refine Hs.cons pickA ?_)))
      · refine HP.one ?_
        refine H1.alloc (cs := [.slice none 0 0, .slice none 0 0, .slice none 0 0, .int .i64 0, .int .i64 0, .int .i64 0]) rfl rfl (fun b10 => ?_)
        apply HB.fold
        refine HB.all (by repeat (first | exact Keep.nil | refine Keep.blk (by (repeat (first | exact List.Mem.head _ | apply List.Mem.tail)); done) rfl ?_ | refine Keep.grow (by (repeat (first | exact List.Mem.head _ | apply List.Mem.tail)); done) (by assumption) ?_ | refine Keep.base (by assumption) ?_)) [4] (by kernel_rfl) rfl ⟨⟨_, rfl, ?_⟩, trivial⟩
        refine HP.one ?_
        refine H1.app (e := 3) (sz := 1) (m := n) (news := ints (all.take n)) rfl (by decide) rfl rfl (fun _ _ => by first | ((repeat (first | with_reducible exact Rpl.here | with_reducible apply Rpl.there)); done) | (repeat (first | exact Rpl.here | apply Rpl.there))) (by rw [htl, Nat.mul_one]) (fun w hM j u hu => by rw [add_lit, Nat.zero_add]; exact (hM.blk memA).cell (hgt j u hu)) (ints_one _) (by omega) (by decide) rfl (fun aH cH haH => ?_)
        rw [Nat.zero_add, List.nil_append]
        apply HB.fold
        refine HB.all (by repeat (first | exact Keep.nil | refine Keep.blk (by (repeat (first | exact List.Mem.head _ | apply List.Mem.tail)); done) rfl ?_ | refine Keep.grow (by (repeat (first | exact List.Mem.head _ | apply List.Mem.tail)); done) (by assumption) ?_ | refine Keep.base (by assumption) ?_)) [7] (by kernel_rfl) rfl ⟨⟨_, rfl, ?_⟩, trivial⟩
        refine HP.one ?_
        refine H1.call0 rfl rfl (fun w _ => rpick_fn x2 3 h2.1 h2.2 (by decide) w) ?_
        rw [show pickI x2 3 = (w3 : Int) from ew]
        apply HB.fold
        refine HB.pa 8 rfl ?_
        refine HB.all (by repeat (first | exact Keep.nil | refine Keep.blk (by (repeat (first | exact List.Mem.head _ | apply List.Mem.tail)); done) rfl ?_ | refine Keep.grow (by (repeat (first | exact List.Mem.head _ | apply List.Mem.tail)); done) (by assumption) ?_ | refine Keep.base (by assumption) ?_)) [13] (by kernel_rfl) rfl ⟨⟨_, rfl, ?_⟩, trivial⟩
        refine HP.one ?_
        refine H1.call0 rfl rfl (fun w _ => rpick_fn (x2.tdiv 3) n hq2.1 hq2.2 (by omega) w) ?_
        rw [ek]
        apply HB.fold
        refine HB.pa 14 rfl ?_
        refine HB.all (by repeat (first | exact Keep.nil | refine Keep.blk (by (repeat (first | exact List.Mem.head _ | apply List.Mem.tail)); done) rfl ?_ | refine Keep.grow (by (repeat (first | exact List.Mem.head _ | apply List.Mem.tail)); done) (by assumption) ?_ | refine Keep.base (by assumption) ?_)) [17] (by kernel_rfl) rfl ⟨⟨_, rfl, ?_⟩, trivial⟩
        refine HP.one ?_
        refine H1.call0 rfl rfl (fun w _ => rpick_fn x3 8 h3.1 h3.2 (by decide) w) ?_
        rw [show pickI x3 8 = (dl : Int) from ed]
        apply HB.fold
        refine HB.pa (v := .agg #[.slice aH n cH, .slice none 0 0, .slice none 0 0, .int .i64 (1 + (w3 : Int)), .int .i64 (1 + (kn : Int)), .int .i64 (dl : Int)]) 18 rfl ?_ (POp.build (cs := [.slice aH n cH, .slice none 0 0, .slice none 0 0, .int .i64 (1 + (w3 : Int)), .int .i64 (1 + (kn : Int)), .int .i64 (dl : Int)]) rfl rfl)
        refine HB.all (by repeat (first | exact Keep.nil | refine Keep.blk (by (repeat (first | exact List.Mem.head _ | apply List.Mem.tail)); done) rfl ?_ | refine Keep.grow (by (repeat (first | exact List.Mem.head _ | apply List.Mem.tail)); done) (by assumption) ?_ | refine Keep.base (by assumption) ?_)) [20] (by kernel_rfl) rfl ⟨⟨_, rfl, ?_⟩, trivial⟩
        refine HP.one ?_
        refine H1.stAgg (cs := [.slice none 0 0, .slice none 0 0, .slice none 0 0, .int .i64 0, .int .i64 0, .int .i64 0]) (vs := [.slice aH n cH, .slice none 0 0, .slice none 0 0, .int .i64 (1 + (w3 : Int)), .int .i64 (1 + (kn : Int)), .int .i64 (dl : Int)]) rfl rfl rfl (by intro v hv; simp only [List.mem_cons, List.not_mem_nil, or_false] at hv; rcases hv with rfl | rfl | rfl | rfl | rfl | rfl <;> rfl) rplA rfl ?_
        apply HB.fold
        refine HB.done (by repeat (first | exact Keep.nil | refine Keep.blk (by (repeat (first | exact List.Mem.head _ | apply List.Mem.tail)); done) rfl ?_ | refine Keep.grow (by (repeat (first | exact List.Mem.head _ | apply List.Mem.tail)); done) (by assumption) ?_ | refine Keep.base (by assumption) ?_)) (by kernel_rfl) ?_
        exact HX.cut (b10, aH, cH) trivial esA (by repeat (first | exact Hs.nil _ | (refine Hs.cons pickA ?_)))
    · refine HP.one ?_
      refine H1.alloc (cs := [.slice none 0 0, .slice none 0 0, .slice none 0 0, .int .i64 0, .int .i64 0, .int .i64 0]) rfl rfl (fun b10 => ?_)
      apply HB.fold
      refine HB.all (by repeat (first | exact Keep.nil | refine Keep.blk (by (repeat (first | exact List.Mem.head _ | apply List.Mem.tail)); done) rfl ?_ | refine Keep.grow (by (repeat (first | exact List.Mem.head _ | apply List.Mem.tail)); done) (by assumption) ?_ | refine Keep.base (by assumption) ?_)) [0] (by kernel_rfl) rfl ⟨⟨_, rfl, ?_⟩, trivial⟩
      refine HP.one ?_
      refine H1.lit0 rfl (fun bz => ?_)
      apply HB.fold
      refine HB.all (by repeat (first | exact Keep.nil | refine Keep.blk (by (repeat (first | exact List.Mem.head _ | apply List.Mem.tail)); done) rfl ?_ | refine Keep.grow (by (repeat (first | exact List.Mem.head _ | apply List.Mem.tail)); done) (by assumption) ?_ | refine Keep.base (by assumption) ?_)) [4] (by kernel_rfl) rfl ⟨⟨_, rfl, ?_⟩, trivial⟩
      refine HP.one ?_
      refine H1.app (e := 3) (sz := 1) (m := n) (news := ints (all.take n)) rfl (by decide) rfl rfl (fun _ _ => by first | ((repeat (first | with_reducible exact Rpl.here | with_reducible apply Rpl.there)); done) | (repeat (first | exact Rpl.here | apply Rpl.there))) (by rw [htl, Nat.mul_one]) (fun w hM j u hu => by rw [add_lit, Nat.zero_add]; exact (hM.blk memA).cell (hgt j u hu)) (ints_one _) (by omega) (by decide) rfl (fun aH cH haH => ?_)
      rw [Nat.zero_add, List.nil_append]
      apply HB.fold
      refine HB.all (by repeat (first | exact Keep.nil | refine Keep.blk (by (repeat (first | exact List.Mem.head _ | apply List.Mem.tail)); done) rfl ?_ | refine Keep.grow (by (repeat (first | exact List.Mem.head _ | apply List.Mem.tail)); done) (by assumption) ?_ | refine Keep.base (by assumption) ?_)) [7] (by kernel_rfl) rfl ⟨⟨_, rfl, ?_⟩, trivial⟩
      refine HP.one ?_
      refine H1.call0 rfl rfl (fun w _ => rpick_fn x2 3 h2.1 h2.2 (by decide) w) ?_
      rw [show pickI x2 3 = (w3 : Int) from ew]
      apply HB.fold
      refine HB.pa 8 rfl ?_
      refine HB.all (by repeat (first | exact Keep.nil | refine Keep.blk (by (repeat (first | exact List.Mem.head _ | apply List.Mem.tail)); done) rfl ?_ | refine Keep.grow (by (repeat (first | exact List.Mem.head _ | apply List.Mem.tail)); done) (by assumption) ?_ | refine Keep.base (by assumption) ?_)) [13] (by kernel_rfl) rfl ⟨⟨_, rfl, ?_⟩, trivial⟩
      refine HP.one ?_
      refine H1.call0 rfl rfl (fun w _ => rpick_fn (x2.tdiv 3) n hq2.1 hq2.2 (by omega) w) ?_
      rw [ek]
      apply HB.fold
      refine HB.pa 14 rfl ?_
      refine HB.all (by repeat (first | exact Keep.nil | refine Keep.blk (by (repeat (first | exact List.Mem.head _ | apply List.Mem.tail)); done) rfl ?_ | refine Keep.grow (by (repeat (first | exact List.Mem.head _ | apply List.Mem.tail)); done) (by assumption) ?_ | refine Keep.base (by assumption) ?_)) [17] (by kernel_rfl) rfl ⟨⟨_, rfl, ?_⟩, trivial⟩
      refine HP.one ?_
      refine H1.call0 rfl rfl (fun w _ => rpick_fn x3 8 h3.1 h3.2 (by decide) w) ?_
      rw [show pickI x3 8 = (dl : Int) from ed]
      apply HB.fold
      refine HB.pa (v := .agg #[.slice aH n cH, .slice none 0 0, .slice none 0 0, .int .i64 (1 + (w3 : Int)), .int .i64 (1 + (kn : Int)), .int .i64 (dl : Int)]) 18 rfl ?_ (POp.build (cs := [.slice aH n cH, .slice none 0 0, .slice none 0 0, .int .i64 (1 + (w3 : Int)), .int .i64 (1 + (kn : Int)), .int .i64 (dl : Int)]) rfl rfl)
      refine HB.all (by repeat (first | exact Keep.nil | refine Keep.blk (by (repeat (first | exact List.Mem.head _ | apply List.Mem.tail)); done) rfl ?_ | refine Keep.grow (by (repeat (first | exact List.Mem.head _ | apply List.Mem.tail)); done) (by assumption) ?_ | refine Keep.base (by assumption) ?_)) [20] (by kernel_rfl) rfl ⟨⟨_, rfl, ?_⟩, trivial⟩
      refine HP.one ?_
      refine H1.stAgg (cs := [.slice none 0 0, .slice none 0 0, .slice none 0 0, .int .i64 0, .int .i64 0, .int .i64 0]) (vs := [.slice aH n cH, .slice none 0 0, .slice none 0 0, .int .i64 (1 + (w3 : Int)), .int .i64 (1 + (kn : Int)), .int .i64 (dl : Int)]) rfl rfl rfl (by intro v hv; simp only [List.mem_cons, List.not_mem_nil, or_false] at hv; rcases hv with rfl | rfl | rfl | rfl | rfl | rfl <;> rfl) rplA rfl ?_
      apply HB.fold
      refine HB.done (by repeat (first | exact Keep.nil | refine Keep.blk (by (repeat (first | exact List.Mem.head _ | apply List.Mem.tail)); done) rfl ?_ | refine Keep.grow (by (repeat (first | exact List.Mem.head _ | apply List.Mem.tail)); done) (by assumption) ?_ | refine Keep.base (by assumption) ?_)) (by kernel_rfl) ?_
      exact HX.cut (b10, aH, cH) trivial esA (by repeat (first | exact Hs.nil _ | (refine Hs.cons pickA ?_)))
  rintro ⟨b10, aH, cH⟩ -
  dsimp only
  repeat' (first | apply HL.fold | apply HA.fold | apply HL.nil | apply HX.n_then | apply HC.seq | apply HC.region | refine HL.pa ?_ | refine HL.ga rfl ?_ | refine HL.na rfl ?_ | refine HL.nu rfl rfl ?_ | apply HC.block | apply HC.skip | apply HC.exit | apply HC.ret | apply HX.e_block | refine HX.e_other rfl ?_ | apply HX.e_then | apply HX.e_again | apply HX.n_block | apply HX.r_then | apply HX.r_block | apply HX.r_again | refine HC.cond_yes rfl ?_ | refine HC.cond_no rfl ?_ | refine HL.one (H1.ldb rfl memA rfl rfl ?_) | refine HC.cond rfl (fun hc => ?_) (fun hc => ?_) | refine HC.cond_b rfl (fun hc => ?_) (fun hc => ?_))
  refine HL.one (H1.lit0 rfl (fun bz => ?_))
  repeat' (first | apply HL.fold | apply HA.fold | apply HL.nil | apply HX.n_then | apply HC.seq | apply HC.region | refine HL.pa ?_ | refine HL.ga rfl ?_ | refine HL.na rfl ?_ | refine HL.nu rfl rfl ?_ | apply HC.block | apply HC.skip | apply HC.exit | apply HC.ret | apply HX.e_block | refine HX.e_other rfl ?_ | apply HX.e_then | apply HX.e_again | apply HX.n_block | apply HX.r_then | apply HX.r_block | apply HX.r_again | refine HC.cond_yes rfl ?_ | refine HC.cond_no rfl ?_ | refine HL.one (H1.ldb rfl memA rfl rfl ?_) | refine HC.cond rfl (fun hc => ?_) (fun hc => ?_) | refine HC.cond_b rfl (fun hc => ?_) (fun hc => ?_))
  refine HL.pa ?_ (POp.cut_lx rfl rfl hn2)
  rw [Nat.mul_one]
  have hdl : (ints (all.drop n)).length = 9 - n := by rw [ints_len, List.length_drop, hpl]
  refine HL.one (H1.app (e := 3) (sz := 1) (m := 9 - n) (news := ints (all.drop n)) rfl (by decide) rfl rfl (fun _ _ => by first | ((repeat (first | with_reducible exact Rpl.here | with_reducible apply Rpl.there)); done) | (repeat (first | exact Rpl.here | apply Rpl.there))) (by rw [hdl, Nat.mul_one]) (fun w hM j u hu => ?_) (ints_one _) (by omega) (by decide) rfl (fun aF cF haF => ?_))
  · have hj := (List.getElem?_eq_some_iff.1 hu).1
    rw [hdl] at hj
    rw [if_pos (by omega), add_lit, Nat.zero_add]
    refine (hM.blk memA).cell ?_
    rw [ints_drop, List.getElem?_drop] at hu
    exact hu
  rw [Nat.zero_add, List.nil_append]
  repeat' (first | apply HL.fold | apply HA.fold | apply HL.nil | apply HX.n_then | apply HC.seq | apply HC.region | refine HL.pa ?_ | refine HL.ga rfl ?_ | refine HL.na rfl ?_ | refine HL.nu rfl rfl ?_ | apply HC.block | apply HC.skip | apply HC.exit | apply HC.ret | apply HX.e_block | refine HX.e_other rfl ?_ | apply HX.e_then | apply HX.e_again | apply HX.n_block | apply HX.r_then | apply HX.r_block | apply HX.r_again | refine HC.cond_yes rfl ?_ | refine HC.cond_no rfl ?_ | refine HL.one (H1.ldb rfl memA rfl rfl ?_) | refine HC.cond rfl (fun hc => ?_) (fun hc => ?_) | refine HC.cond_b rfl (fun hc => ?_) (fun hc => ?_))
  refine HC.grow0 3 1 ?_
  refine HC.loop (α := Nat × List Int × (Option Addr × Nat) × (Option Addr × Nat)) (fun z => [(2, .pointer (some ⟨b2, 0, none⟩)), (4, .pointer (some ⟨b4, 0, none⟩)), (5, .int .i64 (n : Int)), (6, .slice (some ⟨b6, 0, none⟩) 9 9), (10, .pointer (some ⟨b10, 0, none⟩)), (11, .slice z.2.2.2.1 (freeL all z.2.1 n).length z.2.2.2.2), (12, .int .i64 (z.1 : Int))])
    (fun z => [A.grow 3 1 z.2.2.1.1 z.2.2.1.2 z.2.1.length (ints z.2.1), A.grow 3 1 z.2.2.2.1 z.2.2.2.2 (freeL all z.2.1 n).length (ints (freeL all z.2.1 n)), A.grow 3 1 aH cH n (ints (all.take n)), A.blk b10 [.slice aH n cH, .slice z.2.2.1.1 z.2.1.length z.2.2.1.2, .slice none 0 0, .int .i64 (1 + (w3 : Int)), .int .i64 (1 + (kn : Int)), .int .i64 (dl : Int)] 26, A.blk b6 (ints all) 3, A.blk b2 [.int .i64 x0, .int .i64 x1, .int .i64 x2, .int .i64 x3] 22, A.blk b4 [.slice none 0 0, .slice none 0 0, .slice none 0 0, .int .i64 0, .int .i64 0, .int .i64 0] 26])
    (fun z => z.1 ≤ n ∧ ascTo n z.2.1 z.2.1.length ∧ ∀ x ∈ z.2.1, x < (z.1 : Int)) (fun z => n - z.1) (0, [], (none, 0), (aF, cF)) ⟨Nat.zero_le _, (fun j hj => absurd hj (Nat.not_lt_zero j)), (fun x hx => by cases hx)⟩
    (by dsimp only; rw [free_zero, List.length_drop, hpl]; repeat (first | exact trivial | refine ⟨rfl, ?_⟩)) (by dsimp only; rw [free_zero, List.length_drop, hpl]; repeat (first | exact Hs.nil _ | (refine Hs.cons pickA ?_))) ?_
  rintro ⟨f, lost, ⟨aL, cL⟩, ⟨aF, cF⟩⟩ ⟨hf, hasc, hlf⟩
  dsimp only at hf hasc hlf ⊢
  have hll := asc_len hasc
  have hFl := free_len (lost := lost) (n := n) hp
  by_cases hlt : f < n
  · have hs1 := shr_abs f h1.1 h1.2
    have hfs := free_snoc all lost n f
    generalize hFe : freeL all lost n = F at *
    repeat' (first | apply HL.fold | apply HA.fold | apply HL.nil | apply HX.n_then | apply HC.seq | apply HC.region | refine HL.pa ?_ | refine HL.ga rfl ?_ | refine HL.na rfl ?_ | refine HL.nu rfl rfl ?_ | apply HC.block | apply HC.skip | apply HC.exit | apply HC.ret | apply HX.e_block | refine HX.e_other rfl ?_ | apply HX.e_then | apply HX.e_again | apply HX.n_block | apply HX.r_then | apply HX.r_block | apply HX.r_again | refine HC.cond_yes rfl ?_ | refine HC.cond_no rfl ?_ | refine HL.one (H1.ldb rfl memA rfl rfl ?_) | refine HC.cond rfl (fun hc => ?_) (fun hc => ?_) | refine HC.cond_b rfl (fun hc => ?_) (fun hc => ?_))
    refine HL.pa ?_ (POp.shrI (b := f) rfl rfl rfl (by omega))
    repeat' (first | apply HL.fold | apply HA.fold | apply HL.nil | apply HX.n_then | apply HC.seq | apply HC.region | refine HL.pa ?_ | refine HL.ga rfl ?_ | refine HL.na rfl ?_ | refine HL.nu rfl rfl ?_ | apply HC.block | apply HC.skip | apply HC.exit | apply HC.ret | apply HX.e_block | refine HX.e_other rfl ?_ | apply HX.e_then | apply HX.e_again | apply HX.n_block | apply HX.r_then | apply HX.r_block | apply HX.r_again | refine HC.cond_yes rfl ?_ | refine HC.cond_no rfl ?_ | refine HL.one (H1.ldb rfl memA rfl rfl ?_) | refine HC.cond rfl (fun hc => ?_) (fun hc => ?_) | refine HC.cond_b rfl (fun hc => ?_) (fun hc => ?_))
    refine HL.one (H1.call0 rfl rfl (fun w _ => rpick_fn (x1 / 2 ^ f) 2 hs1.1 hs1.2 (by decide) w) ?_)
    by_cases he : pickI (x1 / 2 ^ f) 2 = 1
    · rw [he]
      repeat' (first | apply HL.fold | apply HA.fold | apply HL.nil | apply HX.n_then | apply HC.seq | apply HC.region | refine HL.pa ?_ | refine HL.ga rfl ?_ | refine HL.na rfl ?_ | refine HL.nu rfl rfl ?_ | apply HC.block | apply HC.skip | apply HC.exit | apply HC.ret | apply HX.e_block | refine HX.e_other rfl ?_ | apply HX.e_then | apply HX.e_again | apply HX.n_block | apply HX.r_then | apply HX.r_block | apply HX.r_again | refine HC.cond_yes rfl ?_ | refine HC.cond_no rfl ?_ | refine HL.one (H1.ldb rfl memA rfl rfl ?_) | refine HC.cond rfl (fun hc => ?_) (fun hc => ?_) | refine HC.cond_b rfl (fun hc => ?_) (fun hc => ?_))
      refine HL.one (H1.lit (cs := [.int .i64 (f : Int)]) rfl rfl rfl rfl rfl rfl (fun b3 => ?_))
      repeat' (first | apply HL.fold | apply HA.fold | apply HL.nil | apply HX.n_then | apply HC.seq | apply HC.region | refine HL.pa ?_ | refine HL.ga rfl ?_ | refine HL.na rfl ?_ | refine HL.nu rfl rfl ?_ | apply HC.block | apply HC.skip | apply HC.exit | apply HC.ret | apply HX.e_block | refine HX.e_other rfl ?_ | apply HX.e_then | apply HX.e_again | apply HX.n_block | apply HX.r_then | apply HX.r_block | apply HX.r_again | refine HC.cond_yes rfl ?_ | refine HC.cond_no rfl ?_ | refine HL.one (H1.ldb rfl memA rfl rfl ?_) | refine HC.cond rfl (fun hc => ?_) (fun hc => ?_) | refine HC.cond_b rfl (fun hc => ?_) (fun hc => ?_))
      refine HL.one (H1.app1 (u := .int .i64 (f : Int)) rfl rfl (fun _ _ => by first | ((repeat (first | with_reducible exact Rpl.here | with_reducible apply Rpl.there)); done) | (repeat (first | exact Rpl.here | apply Rpl.there))) memA rfl rfl (by omega) rfl rfl (fun a3 c3 => ?_))
      repeat' (first | apply HL.fold | apply HA.fold | apply HL.nil | apply HX.n_then | apply HC.seq | apply HC.region | refine HL.pa ?_ | refine HL.ga rfl ?_ | refine HL.na rfl ?_ | refine HL.nu rfl rfl ?_ | apply HC.block | apply HC.skip | apply HC.exit | apply HC.ret | apply HX.e_block | refine HX.e_other rfl ?_ | apply HX.e_then | apply HX.e_again | apply HX.n_block | apply HX.r_then | apply HX.r_block | apply HX.r_again | refine HC.cond_yes rfl ?_ | refine HC.cond_no rfl ?_ | refine HL.one (H1.ldb rfl memA rfl rfl ?_) | refine HC.cond rfl (fun hc => ?_) (fun hc => ?_) | refine HC.cond_b rfl (fun hc => ?_) (fun hc => ?_))
      refine HL.one (H1.st rfl rfl (by intro _ h; cases h) (by intro _ h; cases h) rplA (by show 1 < 6; decide) ?_)
      repeat' (first | apply HL.fold | apply HA.fold | apply HL.nil | apply HX.n_then | apply HC.seq | apply HC.region | refine HL.pa ?_ | refine HL.ga rfl ?_ | refine HL.na rfl ?_ | refine HL.nu rfl rfl ?_ | apply HC.block | apply HC.skip | apply HC.exit | apply HC.ret | apply HX.e_block | refine HX.e_other rfl ?_ | apply HX.e_then | apply HX.e_again | apply HX.n_block | apply HX.r_then | apply HX.r_block | apply HX.r_again | refine HC.cond_yes rfl ?_ | refine HC.cond_no rfl ?_ | refine HL.one (H1.ldb rfl memA rfl rfl ?_) | refine HC.cond rfl (fun hc => ?_) (fun hc => ?_) | refine HC.cond_b rfl (fun hc => ?_) (fun hc => ?_))
      refine HL.one (H1.ldb rfl memA (ints_get (show f < all.length by omega)) rfl ?_)
      repeat' (first | apply HL.fold | apply HA.fold | apply HL.nil | apply HX.n_then | apply HC.seq | apply HC.region | refine HL.pa ?_ | refine HL.ga rfl ?_ | refine HL.na rfl ?_ | refine HL.nu rfl rfl ?_ | apply HC.block | apply HC.skip | apply HC.exit | apply HC.ret | apply HX.e_block | refine HX.e_other rfl ?_ | apply HX.e_then | apply HX.e_again | apply HX.n_block | apply HX.r_then | apply HX.r_block | apply HX.r_again | refine HC.cond_yes rfl ?_ | refine HC.cond_no rfl ?_ | refine HL.one (H1.ldb rfl memA rfl rfl ?_) | refine HC.cond rfl (fun hc => ?_) (fun hc => ?_) | refine HC.cond_b rfl (fun hc => ?_) (fun hc => ?_))
      refine HL.one (H1.lit (cs := [.int .i64 (at' all f)]) rfl rfl rfl rfl rfl rfl (fun b5 => ?_))
      repeat' (first | apply HL.fold | apply HA.fold | apply HL.nil | apply HX.n_then | apply HC.seq | apply HC.region | refine HL.pa ?_ | refine HL.ga rfl ?_ | refine HL.na rfl ?_ | refine HL.nu rfl rfl ?_ | apply HC.block | apply HC.skip | apply HC.exit | apply HC.ret | apply HX.e_block | refine HX.e_other rfl ?_ | apply HX.e_then | apply HX.e_again | apply HX.n_block | apply HX.r_then | apply HX.r_block | apply HX.r_again | refine HC.cond_yes rfl ?_ | refine HC.cond_no rfl ?_ | refine HL.one (H1.ldb rfl memA rfl rfl ?_) | refine HC.cond rfl (fun hc => ?_) (fun hc => ?_) | refine HC.cond_b rfl (fun hc => ?_) (fun hc => ?_))
      refine HL.one (H1.app1 (u := .int .i64 (at' all f)) rfl rfl (fun _ _ => by first | ((repeat (first | with_reducible exact Rpl.here | with_reducible apply Rpl.there)); done) | (repeat (first | exact Rpl.here | apply Rpl.there))) memA rfl rfl (by omega) rfl rfl (fun a7 c7 => ?_))
      repeat' (first | apply HL.fold | apply HA.fold | apply HL.nil | apply HX.n_then | apply HC.seq | apply HC.region | refine HL.pa ?_ | refine HL.ga rfl ?_ | refine HL.na rfl ?_ | refine HL.nu rfl rfl ?_ | apply HC.block | apply HC.skip | apply HC.exit | apply HC.ret | apply HX.e_block | refine HX.e_other rfl ?_ | apply HX.e_then | apply HX.e_again | apply HX.n_block | apply HX.r_then | apply HX.r_block | apply HX.r_again | refine HC.cond_yes rfl ?_ | refine HC.cond_no rfl ?_ | refine HL.one (H1.ldb rfl memA rfl rfl ?_) | refine HC.cond rfl (fun hc => ?_) (fun hc => ?_) | refine HC.cond_b rfl (fun hc => ?_) (fun hc => ?_))
      refine HX.again (f + 1, lost ++ [(f : Int)], (some ⟨a3, 0, none⟩, c3), (some ⟨a7, 0, none⟩, c7)) ⟨by show f + 1 ≤ n; omega, asc_snoc hasc hlt hlf, fun x hx => ?_⟩ (by show n - (f + 1) < n - f; omega) (by dsimp only; rw [hfs, List.length_append]; repeat (first | exact trivial | refine ⟨rfl, ?_⟩)) (by dsimp only; rw [hfs, List.length_append, List.length_append, ints_app, ints_app]; repeat (first | exact Hs.nil _ | (refine Hs.cons pickA ?_)))
      dsimp only at hx ⊢
      rcases List.mem_append.1 hx with hx | hx
      · have := hlf x hx; omega
      · have : x = (f : Int) := by simpa using hx
        omega
    · repeat' (first | apply HL.fold | apply HA.fold | apply HL.nil | apply HX.n_then | apply HC.seq | apply HC.region | refine HL.pa ?_ | refine HL.ga rfl ?_ | refine HL.na rfl ?_ | refine HL.nu rfl rfl ?_ | apply HC.block | apply HC.skip | apply HC.exit | apply HC.ret | apply HX.e_block | refine HX.e_other rfl ?_ | apply HX.e_then | apply HX.e_again | apply HX.n_block | apply HX.r_then | apply HX.r_block | apply HX.r_again | refine HC.cond_yes rfl ?_ | refine HC.cond_no rfl ?_ | refine HL.one (H1.ldb rfl memA rfl rfl ?_) | refine HC.cond rfl (fun hc => ?_) (fun hc => ?_) | refine HC.cond_b rfl (fun hc => ?_) (fun hc => ?_))
      refine HX.again (f + 1, lost, (aL, cL), (aF, cF)) ⟨by show f + 1 ≤ n; omega, hasc, fun x hx => by have := hlf x hx; dsimp only; omega⟩ (by show n - (f + 1) < n - f; omega) (by dsimp only; rw [hFe]; repeat (first | exact trivial | refine ⟨rfl, ?_⟩)) (by dsimp only; rw [hFe]; repeat (first | exact Hs.nil _ | (refine Hs.cons pickA ?_)))
  · obtain rfl : f = n := by omega
    have hFn := free_nodup hp hasc hn2
    have hFo := free_off hp hasc hn2
    have hFb := free_b hp hasc hn2
    generalize hFe : freeL all lost f = F at *
    repeat' (first | apply HL.fold | apply HA.fold | apply HL.nil | apply HX.n_then | apply HC.seq | apply HC.region | refine HL.pa ?_ | refine HL.ga rfl ?_ | refine HL.na rfl ?_ | refine HL.nu rfl rfl ?_ | apply HC.block | apply HC.skip | apply HC.exit | apply HC.ret | apply HX.e_block | refine HX.e_other rfl ?_ | apply HX.e_then | apply HX.e_again | apply HX.n_block | apply HX.r_then | apply HX.r_block | apply HX.r_again | refine HC.cond_yes rfl ?_ | refine HC.cond_no rfl ?_ | refine HL.one (H1.ldb rfl memA rfl rfl ?_))
    refine HL.one (H1.call0 rfl rfl (fun w _ => rpick_fn x3 2 h3.1 h3.2 (by decide) w) ?_)
    repeat' (first | apply HL.fold | apply HA.fold | apply HL.nil | apply HX.n_then | apply HC.seq | apply HC.region | refine HL.pa ?_ | refine HL.ga rfl ?_ | refine HL.na rfl ?_ | refine HL.nu rfl rfl ?_ | apply HC.block | apply HC.skip | apply HC.exit | apply HC.ret | apply HX.e_block | refine HX.e_other rfl ?_ | apply HX.e_then | apply HX.e_again | apply HX.n_block | apply HX.r_then | apply HX.r_block | apply HX.r_again | refine HC.cond_yes rfl ?_ | refine HC.cond_no rfl ?_ | refine HL.one (H1.ldb rfl memA rfl rfl ?_))
    refine HC.cut (α := List Int) (fun _ => [(4, .pointer (some ⟨b4, 0, none⟩)), (10, .pointer (some ⟨b10, 0, none⟩)), (11, .slice aF F.length cF)])
      (fun G => [A.grow 3 1 aF cF F.length (ints G), A.grow 3 1 aL cL lost.length (ints lost), A.grow 3 1 aH cH f (ints (all.take f)), A.blk b10 [.slice aH f cH, .slice aL lost.length cL, .slice none 0 0, .int .i64 (1 + (w3 : Int)), .int .i64 (1 + (kn : Int)), .int .i64 (dl : Int)] 26, A.blk b4 [.slice none 0 0, .slice none 0 0, .slice none 0 0, .int .i64 0, .int .i64 0, .int .i64 0] 26])
      (fun G => G.length = F.length ∧ G.Nodup ∧ ∀ x ∈ G, x ∈ F) ?_ ?_
    · repeat' (first | apply HL.fold | apply HA.fold | apply HL.nil | apply HX.n_then | apply HC.seq | apply HC.region | refine HL.pa ?_ | refine HL.ga rfl ?_ | refine HL.na rfl ?_ | refine HL.nu rfl rfl ?_ | apply HC.block | apply HC.skip | apply HC.exit | apply HC.ret | apply HX.e_block | refine HX.e_other rfl ?_ | apply HX.e_then | apply HX.e_again | apply HX.n_block | apply HX.r_then | apply HX.r_block | apply HX.r_again | refine HC.cond_yes rfl ?_ | refine HC.cond_no rfl ?_ | refine HL.one (H1.ldb rfl memA rfl rfl ?_) | refine HC.cond rfl (fun hc => ?_) (fun hc => ?_) | refine HC.cond_b rfl (fun hc => ?_) (fun hc => ?_))
      · refine HC.loop (α := Nat × List Int) (fun z => [(4, .pointer (some ⟨b4, 0, none⟩)), (10, .pointer (some ⟨b10, 0, none⟩)), (11, .slice aF F.length cF), (13, .int .i64 (z.1 : Int))])
          (fun z => [A.grow 3 1 aF cF F.length (ints z.2), A.grow 3 1 aL cL lost.length (ints lost), A.grow 3 1 aH cH f (ints (all.take f)), A.blk b10 [.slice aH f cH, .slice aL lost.length cL, .slice none 0 0, .int .i64 (1 + (w3 : Int)), .int .i64 (1 + (kn : Int)), .int .i64 (dl : Int)] 26, A.blk b4 [.slice none 0 0, .slice none 0 0, .slice none 0 0, .int .i64 0, .int .i64 0, .int .i64 0] 26])
          (fun z => z.1 ≤ F.length / 2 ∧ z.2.length = F.length ∧ z.2.Nodup ∧ ∀ x ∈ z.2, x ∈ F) (fun z => F.length / 2 - z.1) (0, F) ⟨Nat.zero_le _, rfl, hFn, fun _ h => h⟩ esA (by repeat (first | exact Hs.nil _ | (refine Hs.cons pickA ?_))) ?_
        rintro ⟨i, G⟩ ⟨hi, hG1, hG2, hG3⟩
        dsimp only at hi hG1 hG2 hG3 ⊢
        by_cases hlt2 : i < F.length / 2
        · refine HC.openg (e := 3) (xs := ints G) memA (by omega) ?_
          rintro bf rfl
          obtain ⟨j, hj⟩ : ∃ j : Nat, (j : Int) = (F.length : Int) - 1 - (i : Int) := ⟨F.length - 1 - i, by omega⟩
          have hjl : j < G.length := by omega
          have hil : i < G.length := by omega
          have hsw : ((ints G).set i (zv (at' G j))).set j (zv (at' G i)) = ints (swapL G i j) := by rw [ints_set, ints_set]; rfl
          repeat' (first | apply HL.fold | apply HA.fold | apply HL.nil | apply HX.n_then | apply HC.seq | apply HC.region | refine HL.pa ?_ | refine HL.ga rfl ?_ | refine HL.na rfl ?_ | refine HL.nu rfl rfl ?_ | apply HC.block | apply HC.skip | apply HC.exit | apply HC.ret | apply HX.e_block | refine HX.e_other rfl ?_ | apply HX.e_then | apply HX.e_again | apply HX.n_block | apply HX.r_then | apply HX.r_block | apply HX.r_again | refine HC.cond_yes rfl ?_ | refine HC.cond_no rfl ?_ | refine HL.one (H1.ldb rfl memA rfl rfl ?_) | refine HC.cond rfl (fun hc => ?_) (fun hc => ?_) | refine HC.cond_b rfl (fun hc => ?_) (fun hc => ?_))
          refine HC.any rfl ?_
          refine HA.pa 0 rfl ?_
          refine HA.pa 1 rfl ?_
          refine HA.pa 2 rfl ?_
          refine HA.pa 3 rfl ?_
          refine HA.pa 4 rfl ?_
          refine HA.pa 5 rfl ?_
          refine HA.pa 6 rfl ?_
          refine HA.pa (v := .int .i64 (j : Int)) 7 rfl ?_ (by rw [hj]; exact POp.sub rfl rfl (by omega) (by omega))
          refine HA.pa 8 rfl ?_
          refine HA.pa 9 rfl ?_
          refine HA.pa 10 rfl ?_
          refine HA.pa 11 rfl ?_
          refine HA.pa 12 rfl ?_
          refine HA.pa (v := .int .i64 (j : Int)) 13 rfl ?_ (by rw [hj]; exact POp.sub rfl rfl (by omega) (by omega))
          refine HA.pa 14 rfl ?_
          refine HA.pa 16 rfl ?_
          refine HA.pa 17 rfl ?_
          refine HA.pa 18 rfl ?_
          refine HA.all [15, 19] (by kernel_rfl) rfl ⟨⟨_, rfl, ?_⟩, ⟨_, rfl, ?_⟩, trivial⟩
          · refine HO.one ?_
            refine H1.ldg rfl memA (ints_get hjl) rfl ?_
            apply HA.fold
            refine HA.all [19] (by kernel_rfl) rfl ⟨⟨_, rfl, ?_⟩, trivial⟩
            refine HO.one ?_
            refine H1.ldg rfl memA (ints_get hil) rfl ?_
            apply HA.fold
            refine HA.pa 20 rfl ?_
            refine HA.all [21] (by kernel_rfl) rfl ⟨⟨_, rfl, ?_⟩, trivial⟩
            refine HO.one ?_
            refine H1.stg rfl rfl (by intro _ h; cases h) (by intro _ h; cases h) rplA (by rw [ints_len]; omega) ?_
            apply HA.fold
            refine HA.pa 22 rfl ?_
            refine HA.all [23] (by kernel_rfl) rfl ⟨⟨_, rfl, ?_⟩, trivial⟩
            refine HO.one ?_
            refine H1.stg rfl rfl (by intro _ h; cases h) (by intro _ h; cases h) rplA (by rw [List.length_set, ints_len]; omega) ?_
            rw [hsw]
            apply HA.fold
            refine HA.done (by kernel_rfl) ?_
            repeat' (first | apply HL.fold | apply HA.fold | apply HL.nil | apply HX.n_then | apply HC.seq | apply HC.region | refine HL.pa ?_ | refine HL.ga rfl ?_ | refine HL.na rfl ?_ | refine HL.nu rfl rfl ?_ | apply HC.block | apply HC.skip | apply HC.exit | apply HC.ret | apply HX.e_block | refine HX.e_other rfl ?_ | apply HX.e_then | apply HX.e_again | apply HX.n_block | apply HX.r_then | apply HX.r_block | apply HX.r_again | refine HC.cond_yes rfl ?_ | refine HC.cond_no rfl ?_ | refine HL.one (H1.ldb rfl memA rfl rfl ?_) | refine HC.cond rfl (fun hc => ?_) (fun hc => ?_) | refine HC.cond_b rfl (fun hc => ?_) (fun hc => ?_))
            exact HX.again (i + 1, swapL G i j) ⟨by show i + 1 ≤ _; omega, by rw [swapL_len]; exact hG1, swapL_nodup hil hjl hG2, fun x hx => hG3 x (swapL_mem hil hjl hx)⟩ (by show F.length / 2 - (i + 1) < F.length / 2 - i; omega) esA (by repeat (first | exact Hs.nil _ | (refine Hs.cons pickA ?_)))
          · refine HO.one ?_
            refine H1.ldg rfl memA (ints_get hil) rfl ?_
            apply HA.fold
            refine HA.all [15] (by kernel_rfl) rfl ⟨⟨_, rfl, ?_⟩, trivial⟩
            refine HO.one ?_
            refine H1.ldg rfl memA (ints_get hjl) rfl ?_
            apply HA.fold
            refine HA.pa 20 rfl ?_
            refine HA.all [21] (by kernel_rfl) rfl ⟨⟨_, rfl, ?_⟩, trivial⟩
            refine HO.one ?_
            refine H1.stg rfl rfl (by intro _ h; cases h) (by intro _ h; cases h) rplA (by rw [ints_len]; omega) ?_
            apply HA.fold
            refine HA.pa 22 rfl ?_
            refine HA.all [23] (by kernel_rfl) rfl ⟨⟨_, rfl, ?_⟩, trivial⟩
            refine HO.one ?_
            refine H1.stg rfl rfl (by intro _ h; cases h) (by intro _ h; cases h) rplA (by rw [List.length_set, ints_len]; omega) ?_
            rw [hsw]
            apply HA.fold
            refine HA.done (by kernel_rfl) ?_
            repeat' (first | apply HL.fold | apply HA.fold | apply HL.nil | apply HX.n_then | apply HC.seq | apply HC.region | refine HL.pa ?_ | refine HL.ga rfl ?_ | refine HL.na rfl ?_ | refine HL.nu rfl rfl ?_ | apply HC.block | apply HC.skip | apply HC.exit | apply HC.ret | apply HX.e_block | refine HX.e_other rfl ?_ | apply HX.e_then | apply HX.e_again | apply HX.n_block | apply HX.r_then | apply HX.r_block | apply HX.r_again | refine HC.cond_yes rfl ?_ | refine HC.cond_no rfl ?_ | refine HL.one (H1.ldb rfl memA rfl rfl ?_) | refine HC.cond rfl (fun hc => ?_) (fun hc => ?_) | refine HC.cond_b rfl (fun hc => ?_) (fun hc => ?_))
            exact HX.again (i + 1, swapL G i j) ⟨by show i + 1 ≤ _; omega, by rw [swapL_len]; exact hG1, swapL_nodup hil hjl hG2, fun x hx => hG3 x (swapL_mem hil hjl hx)⟩ (by show F.length / 2 - (i + 1) < F.length / 2 - i; omega) esA (by repeat (first | exact Hs.nil _ | (refine Hs.cons pickA ?_)))
        · repeat' (first | apply HL.fold | apply HA.fold | apply HL.nil | apply HX.n_then | apply HC.seq | apply HC.region | refine HL.pa ?_ | refine HL.ga rfl ?_ | refine HL.na rfl ?_ | refine HL.nu rfl rfl ?_ | apply HC.block | apply HC.skip | apply HC.exit | apply HC.ret | apply HX.e_block | refine HX.e_other rfl ?_ | apply HX.e_then | apply HX.e_again | apply HX.n_block | apply HX.r_then | apply HX.r_block | apply HX.r_again | refine HC.cond_yes rfl ?_ | refine HC.cond_no rfl ?_ | refine HL.one (H1.ldb rfl memA rfl rfl ?_) | refine HC.cond rfl (fun hc => ?_) (fun hc => ?_) | refine HC.cond_b rfl (fun hc => ?_) (fun hc => ?_))
          exact HX.cut G ⟨hG1, hG2, hG3⟩ esA (by repeat (first | exact Hs.nil _ | (refine Hs.cons pickA ?_)))
      · exact HX.cut F ⟨rfl, hFn, fun _ h => h⟩ esA (by repeat (first | exact Hs.nil _ | (refine Hs.cons pickA ?_)))
    · rintro G ⟨hG1, hG2, hG3⟩
      repeat' (first | apply HL.fold | apply HA.fold | apply HL.nil | apply HX.n_then | apply HC.seq | apply HC.region | refine HL.pa ?_ | refine HL.ga rfl ?_ | refine HL.na rfl ?_ | refine HL.nu rfl rfl ?_ | apply HC.block | apply HC.skip | apply HC.exit | apply HC.ret | apply HX.e_block | refine HX.e_other rfl ?_ | apply HX.e_then | apply HX.e_again | apply HX.n_block | apply HX.r_then | apply HX.r_block | apply HX.r_again | refine HC.cond_yes rfl ?_ | refine HC.cond_no rfl ?_ | refine HL.one (H1.ldb rfl memA rfl rfl ?_) | refine HC.cond rfl (fun hc => ?_) (fun hc => ?_) | refine HC.cond_b rfl (fun hc => ?_) (fun hc => ?_))
      refine HL.one (H1.lit0 rfl (fun bz2 => ?_))
      repeat' (first | apply HL.fold | apply HA.fold | apply HL.nil | apply HX.n_then | apply HC.seq | apply HC.region | refine HL.pa ?_ | refine HL.ga rfl ?_ | refine HL.na rfl ?_ | refine HL.nu rfl rfl ?_ | apply HC.block | apply HC.skip | apply HC.exit | apply HC.ret | apply HX.e_block | refine HX.e_other rfl ?_ | apply HX.e_then | apply HX.e_again | apply HX.n_block | apply HX.r_then | apply HX.r_block | apply HX.r_again | refine HC.cond_yes rfl ?_ | refine HC.cond_no rfl ?_ | refine HL.one (H1.ldb rfl memA rfl rfl ?_) | refine HC.cond rfl (fun hc => ?_) (fun hc => ?_) | refine HC.cond_b rfl (fun hc => ?_) (fun hc => ?_))
      refine HL.capOf (e := 3) (xs := ints G) memA (fun hcap => ?_)
      have hlG : lost.length ≤ G.length := by omega
      refine HL.pa (v := .slice aF lost.length cF) ?_ (POp.cut_hx rfl rfl (by omega))
      have hGt : (ints (G.take lost.length)).length = lost.length := by rw [ints_len, List.length_take]; omega
      refine HL.one (H1.appR (vs := ints (G.take lost.length)) rfl rfl (by rw [hGt]; rfl) (fun _ _ => by first | ((repeat (first | with_reducible exact Rpl.here | with_reducible apply Rpl.there)); done) | (repeat (first | exact Rpl.here | apply Rpl.there))) (fun w hM => ?_) (ints_one _) (by rw [hGt]; omega) (by decide) rfl (.inl rfl) (fun aT cT _ => ?_))
      · rw [hGt]
        have := hM.gr (e := 3) (xs := ints G) memA
        rw [← hG1] at this
        exact this.itake hlG
      rw [hGt, Nat.zero_add, List.nil_append]
      repeat' (first | apply HL.fold | apply HA.fold | apply HL.nil | apply HX.n_then | apply HC.seq | apply HC.region | refine HL.pa ?_ | refine HL.ga rfl ?_ | refine HL.na rfl ?_ | refine HL.nu rfl rfl ?_ | apply HC.block | apply HC.skip | apply HC.exit | apply HC.ret | apply HX.e_block | refine HX.e_other rfl ?_ | apply HX.e_then | apply HX.e_again | apply HX.n_block | apply HX.r_then | apply HX.r_block | apply HX.r_again | refine HC.cond_yes rfl ?_ | refine HC.cond_no rfl ?_ | refine HL.one (H1.ldb rfl memA rfl rfl ?_) | refine HC.cond rfl (fun hc => ?_) (fun hc => ?_) | refine HC.cond_b rfl (fun hc => ?_) (fun hc => ?_))
      refine HL.one (H1.st rfl rfl (by intro _ h; cases h) (by intro _ h; cases h) rplA (by show 2 < 6; decide) ?_)
      repeat' (first | apply HL.fold | apply HA.fold | apply HL.nil | apply HX.n_then | apply HC.seq | apply HC.region | refine HL.pa ?_ | refine HL.ga rfl ?_ | refine HL.na rfl ?_ | refine HL.nu rfl rfl ?_ | apply HC.block | apply HC.skip | apply HC.exit | apply HC.ret | apply HX.e_block | refine HX.e_other rfl ?_ | apply HX.e_then | apply HX.e_again | apply HX.n_block | apply HX.r_then | apply HX.r_block | apply HX.r_again | refine HC.cond_yes rfl ?_ | refine HC.cond_no rfl ?_ | refine HL.one (H1.ldb rfl memA rfl rfl ?_) | refine HC.cond rfl (fun hc => ?_) (fun hc => ?_) | refine HC.cond_b rfl (fun hc => ?_) (fun hc => ?_))
      refine HL.one (H1.ldAgg (vs := [.slice aH f cH, .slice aL lost.length cL, .slice aT lost.length cT, .int .i64 (1 + (w3 : Int)), .int .i64 (1 + (kn : Int)), .int .i64 (dl : Int)]) rfl memA rfl (fun i v hv => by rw [show 0 + i = i from Nat.zero_add i]; exact hv) rfl ?_)
      repeat' (first | apply HL.fold | apply HA.fold | apply HL.nil | apply HX.n_then | apply HC.seq | apply HC.region | refine HL.pa ?_ | refine HL.ga rfl ?_ | refine HL.na rfl ?_ | refine HL.nu rfl rfl ?_ | apply HC.block | apply HC.skip | apply HC.exit | apply HC.ret | apply HX.e_block | refine HX.e_other rfl ?_ | apply HX.e_then | apply HX.e_again | apply HX.n_block | apply HX.r_then | apply HX.r_block | apply HX.r_again | refine HC.cond_yes rfl ?_ | refine HC.cond_no rfl ?_ | refine HL.one (H1.ldb rfl memA rfl rfl ?_) | refine HC.cond rfl (fun hc => ?_) (fun hc => ?_) | refine HC.cond_b rfl (fun hc => ?_) (fun hc => ?_))
      refine HL.one (H1.stAgg (cs := [.slice none 0 0, .slice none 0 0, .slice none 0 0, .int .i64 0, .int .i64 0, .int .i64 0]) (vs := [.slice aH f cH, .slice aL lost.length cL, .slice aT lost.length cT, .int .i64 (1 + (w3 : Int)), .int .i64 (1 + (kn : Int)), .int .i64 (dl : Int)]) rfl rfl rfl (by intro v hv; simp only [List.mem_cons, List.not_mem_nil, or_false] at hv; rcases hv with rfl | rfl | rfl | rfl | rfl | rfl <;> rfl) rplA rfl ?_)
      repeat' (first | apply HL.fold | apply HA.fold | apply HL.nil | apply HX.n_then | apply HC.seq | apply HC.region | refine HL.pa ?_ | refine HL.ga rfl ?_ | refine HL.na rfl ?_ | refine HL.nu rfl rfl ?_ | apply HC.block | apply HC.skip | apply HC.exit | apply HC.ret | apply HX.e_block | refine HX.e_other rfl ?_ | apply HX.e_then | apply HX.e_again | apply HX.n_block | apply HX.r_then | apply HX.r_block | apply HX.r_again | refine HC.cond_yes rfl ?_ | refine HC.cond_no rfl ?_ | refine HL.one (H1.ldb rfl memA rfl rfl ?_) | refine HC.cond rfl (fun hc => ?_) (fun hc => ?_) | refine HC.cond_b rfl (fun hc => ?_) (fun hc => ?_))
      have htl2 : (all.take f).length = f := by rw [List.length_take, hpl]; omega
      have hGt2 : (G.take lost.length).length = lost.length := by rw [List.length_take]; omega
      refine HX.retc1 (cs := [.slice aH f cH, .slice aL lost.length cL, .slice aT lost.length cT, .int .i64 (1 + (w3 : Int)), .int .i64 (1 + (kn : Int)), .int .i64 (dl : Int)]) rfl rfl memA rfl fun w' hM => ⟨(⟨all.take f, lost, G.take lost.length, 1 + (w3 : Int), 1 + (kn : Int), (dl : Int)⟩, (aH, cH), (aL, cL), (aT, cT)), ⟨⟨⟨(List.take_sublist f all).nodup hp.nd, fun x hx => hp.b x (List.mem_of_mem_take hx)⟩, ?_, ?_, ?_, ?_, ?_, ?_⟩, ?_, ⟨(List.take_sublist _ _).nodup hG2, fun x hx => hFb x (hG3 x (List.mem_of_mem_take hx))⟩, fun x hx => hFo x (hG3 x (List.mem_of_mem_take hx)), ?_, ?_⟩, ?_, ?_⟩
      · dsimp only; omega
      · dsimp only; omega
      · dsimp only; omega
      · dsimp only; omega
      · dsimp only; omega
      · dsimp only; rw [htl2]; exact hasc
      · exact hGt2
      · dsimp only; omega
      · dsimp only; omega
      · unfold caseV
        rw [htl2, hGt2]
      · rw [htl2, hGt2]
        exact hM.sub (by repeat (first | exact Hs.nil _ | (refine Hs.cons pickA ?_)))
end Go.Sx

