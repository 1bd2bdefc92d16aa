/- Chapter 21: equality of lists of records, of bases; picked numbers. -/
import Derived.Test.YtldhccgelcmjoaaGreatXV
namespace Go.Sx
open Go Go.Proofs Go.RowKit
open Classical in
theorem POp.neRec {N : Nat} {ds : List Deferred} {E : Env} {x y : Operand} {t' ty : TypeId} {r s : Rc} (hx : Env.ev E x = some (recV r)) (hy : Env.ev E y = some (recV s)) (hr : RcOk r) (hs : RcOk s) :
    POp Tryz.prog N ds E (.binOp .neq 24 x y t') ty (.bool (!decide (r = s))) :=
  POp.bin hx hy (fun w => run_eqGuard_agg w _ _ _ _ _ _ (by kernel_rfl)) fun w => by
    have h := run_eqRec hr hs w
    simp only [Go.binOp, Sem.run_bind, h, Result.andThen, Sem.run_pure]
noncomputable def eqR (r s : Rc) : Bool := @decide (r = s) (Classical.propDecidable _)
theorem eqR_iff {r s : Rc} : eqR r s = true ↔ r = s := by unfold eqR; exact @decide_eq_true_iff _ (Classical.propDecidable _)
noncomputable def eqLB (l m : List Rc) : Bool := @decide (l = m) (Classical.propDecidable _)
theorem eqLB_iff {l m : List Rc} : eqLB l m = true ↔ l = m := by unfold eqLB; exact @decide_eq_true_iff _ (Classical.propDecidable _)
theorem eqLB_yes {l m : List Rc} (h : l = m) : eqLB l m = true := eqLB_iff.2 h
theorem eqLB_no {l m : List Rc} (h : l ≠ m) : eqLB l m = false := by rw [← Bool.not_eq_true, eqLB_iff]; exact h
/-- A number, as an index. -/
def pickI21 (c n : Int) : Int := if c < 0 then (-(c + 1)) % n else c % n
theorem pickI21_lt (c : Int) {n : Int} (hn : 0 < n) : 0 ≤ pickI21 c n ∧ pickI21 c n < n := by
  unfold pickI21
  split
  · exact ⟨Int.emod_nonneg _ (by omega), Int.emod_lt_of_pos _ hn⟩
  · exact ⟨Int.emod_nonneg _ (by omega), Int.emod_lt_of_pos _ hn⟩
attribute [local irreducible] WC WL WX POp Then Again Fn NX W1 WA WO QL RP RA Yld LoopAt HC HL HX HN H1 HA HO HQ HB HP A.blk A.grow A.rd A.obj A.mp AgainH CutH
attribute [local irreducible] A.dfr A.loop
theorem equalR_fn (a a' : Option Addr) (c c' : Nat) (l m : List Rc) (hl : l.length ≤ 1000000) (hlo : ∀ r ∈ l, RcOk r) (hmo : ∀ r ∈ m, RcOk r) (w : World) (hR : RdR w (.slice a l.length c) l) (hS : RdR w (.slice a' m.length c') m) :
    Fn Tryz.prog 47 #[.slice a l.length c, .slice a' m.length c'] w fun v w' => v = .bool (eqLB l m) ∧ Ext w w' := by
  refine enterH (l := [_, _]) rfl Tryz.ntmps47 rfl ?_
  by_cases hlen : l.length = m.length
  rotate_left
  · have hlen' : ¬ (l.length : Int) = (m.length : Int) := by omega
    repeat' (first | apply HL.fold | apply HA.fold | apply HL.nil | apply HX.n_then | apply HC.seq | apply HC.region | refine HL.pa ?_ | refine HL.ga rfl ?_ | refine HL.na rfl ?_ | refine HL.nu rfl rfl ?_ | apply HC.block | apply HC.skip | apply HC.exit | apply HC.ret | apply HX.e_block | refine HX.e_other rfl ?_ | apply HX.e_then | apply HX.e_again | apply HX.n_block | apply HX.r_then | apply HX.r_block | apply HX.r_again | refine HC.cond_yes rfl ?_ | refine HC.cond_no rfl ?_ | refine HL.one (H1.ldb rfl memA rfl rfl ?_) | refine HC.cond rfl (fun hc => ?_) (fun hc => ?_) | refine HC.cond_b rfl (fun hc => ?_) (fun hc => ?_))
    exact HX.ret1 rfl rfl fun w' hM => ⟨by rw [eqLB_no fun e => hlen (by rw [e])], hM.ext⟩
  rw [← hlen] at hS ⊢
  repeat' (first | apply HL.fold | apply HA.fold | apply HL.nil | apply HX.n_then | apply HC.seq | apply HC.region | refine HL.pa ?_ | refine HL.ga rfl ?_ | refine HL.na rfl ?_ | refine HL.nu rfl rfl ?_ | apply HC.block | apply HC.skip | apply HC.exit | apply HC.ret | apply HX.e_block | refine HX.e_other rfl ?_ | apply HX.e_then | apply HX.e_again | apply HX.n_block | apply HX.r_then | apply HX.r_block | apply HX.r_again | refine HC.cond_yes rfl ?_ | refine HC.cond_no rfl ?_ | refine HL.one (H1.ldb rfl memA rfl rfl ?_) | refine HC.cond rfl (fun hc => ?_) (fun hc => ?_) | refine HC.cond_b rfl (fun hc => ?_) (fun hc => ?_))
  refine HC.loop (α := Nat) (fun j => [(0, .slice a l.length c), (1, .slice a' l.length c'), (12, zv (l.length : Int)), (13, zv (j : Int))]) (fun _ => []) (fun j => j ≤ l.length ∧ l.take j = m.take j) (fun j => l.length - j) 0 ⟨Nat.zero_le _, rfl⟩ esA (Hs.refl _) ?_
  rintro j ⟨hj, hI⟩
  by_cases hlt : j < l.length
  · have hlt2 : j < m.length := by omega
    obtain ⟨r, hr⟩ : ∃ r, l[j]? = some r := ⟨_, List.getElem?_eq_getElem hlt⟩
    obtain ⟨s, hs⟩ : ∃ s, m[j]? = some s := ⟨_, List.getElem?_eq_getElem hlt2⟩
    have hro := hlo r (List.mem_of_getElem? hr)
    have hso := hmo s (List.mem_of_getElem? hs)
    have htl : l.take (j + 1) = l.take j ++ [r] := by rw [List.take_add_one, hr]; rfl
    have htm : m.take (j + 1) = m.take j ++ [s] := by rw [List.take_add_one, hs]; rfl
    obtain ⟨b1, o1, rfl, -, hc1⟩ := hR.at (fun e => by rw [e] at hlt; exact absurd hlt (Nat.not_lt_zero _))
    obtain ⟨b2, o2, rfl, -, hc2⟩ := hS.at (fun e => by rw [e] at hlt2; exact absurd hlt2 (Nat.not_lt_zero _))
    have hd1 := hc1 j r hr
    have hd2 := hc2 j s hs
    clear hc1 hc2
    have hcut : ∀ b : Bool, b = (!eqR r s) → (b = true → eqLB l m = false) ∧ (b = false → l.take (j + 1) = m.take (j + 1)) := fun b hb => by
      constructor
      · intro h
        refine eqLB_no fun e => ?_
        rw [e, hs] at hr
        rw [h, eqR_iff.2 (Option.some.inj hr).symm] at hb
        cases hb
      · intro h
        rw [h] at hb
        have : eqR r s = true := by cases he : eqR r s with | true => rfl | false => rw [he] at hb; cases hb
        rw [htl, htm, hI, eqR_iff.1 this]
    repeat' (first | apply HL.fold | apply HA.fold | apply HL.nil | apply HX.n_then | apply HC.seq | apply HC.region | refine HL.pa ?_ | refine HL.ga rfl ?_ | refine HL.na rfl ?_ | refine HL.nu rfl rfl ?_ | apply HC.block | apply HC.skip | apply HC.exit | apply HC.ret | apply HX.e_block | refine HX.e_other rfl ?_ | apply HX.e_then | apply HX.e_again | apply HX.n_block | apply HX.r_then | apply HX.r_block | apply HX.r_again | refine HC.cond_yes rfl ?_ | refine HC.cond_no rfl ?_ | refine HL.one (H1.ldb rfl memA rfl rfl ?_) | refine HC.cond rfl (fun hc => ?_) (fun hc => ?_) | refine HC.cond_b rfl (fun hc => ?_) (fun hc => ?_))
    refine HC.any rfl ?_
    refine HA.pa 0 rfl ?_
    refine HA.pa 1 rfl ?_
    refine HA.pa 2 rfl ?_
    refine HA.pa 4 rfl ?_
    refine HA.pa 5 rfl ?_
    refine HA.pa 6 rfl ?_
    refine HA.all [3, 7] (by kernel_rfl) rfl ⟨⟨_, rfl, ?_⟩, ⟨_, rfl, ?_⟩, trivial⟩
    · refine HO.one ?_
      refine H1.ldAggw (vs := rcells r) rfl rfl (fun w' hM i v hv => cell_ext hM.ext (hd1 i v hv)) rfl ?_
      apply HA.fold
      refine HA.all [7] (by kernel_rfl) rfl ⟨⟨_, rfl, ?_⟩, trivial⟩
      refine HO.one ?_
      refine H1.ldAggw (vs := rcells s) rfl rfl (fun w' hM i v hv => cell_ext hM.ext (hd2 i v hv)) rfl ?_
      apply HA.fold
      refine HA.pa 8 rfl ?_ (POp.neRec rfl rfl hro hso)
      refine HA.done (by kernel_rfl) ?_
      repeat' (first | apply HL.fold | apply HA.fold | apply HL.nil | apply HX.n_then | apply HC.seq | apply HC.region | refine HL.pa ?_ | refine HL.ga rfl ?_ | refine HL.na rfl ?_ | refine HL.nu rfl rfl ?_ | apply HC.block | apply HC.skip | apply HC.exit | apply HC.ret | apply HX.e_block | refine HX.e_other rfl ?_ | apply HX.e_then | apply HX.e_again | apply HX.n_block | apply HX.r_then | apply HX.r_block | apply HX.r_again | refine HC.cond_yes rfl ?_ | refine HC.cond_no rfl ?_ | refine HL.one (H1.ldb rfl memA rfl rfl ?_) | refine HC.cond rfl (fun hc => ?_) (fun hc => ?_) | refine HC.cond_b rfl (fun hc => ?_) (fun hc => ?_))
      · exact HX.ret1 rfl rfl fun w' hM => ⟨by rw [(hcut _ rfl).1 hc], hM.ext⟩
      · exact HX.again (j + 1) ⟨hlt, (hcut _ rfl).2 hc⟩ (by omega) esA (Hs.refl _)
    · refine HO.one ?_
      refine H1.ldAggw (vs := rcells s) rfl rfl (fun w' hM i v hv => cell_ext hM.ext (hd2 i v hv)) rfl ?_
      apply HA.fold
      refine HA.all [3] (by kernel_rfl) rfl ⟨⟨_, rfl, ?_⟩, trivial⟩
      refine HO.one ?_
      refine H1.ldAggw (vs := rcells r) rfl rfl (fun w' hM i v hv => cell_ext hM.ext (hd1 i v hv)) rfl ?_
      apply HA.fold
      refine HA.pa 8 rfl ?_ (POp.neRec rfl rfl hro hso)
      refine HA.done (by kernel_rfl) ?_
      repeat' (first | apply HL.fold | apply HA.fold | apply HL.nil | apply HX.n_then | apply HC.seq | apply HC.region | refine HL.pa ?_ | refine HL.ga rfl ?_ | refine HL.na rfl ?_ | refine HL.nu rfl rfl ?_ | apply HC.block | apply HC.skip | apply HC.exit | apply HC.ret | apply HX.e_block | refine HX.e_other rfl ?_ | apply HX.e_then | apply HX.e_again | apply HX.n_block | apply HX.r_then | apply HX.r_block | apply HX.r_again | refine HC.cond_yes rfl ?_ | refine HC.cond_no rfl ?_ | refine HL.one (H1.ldb rfl memA rfl rfl ?_) | refine HC.cond rfl (fun hc => ?_) (fun hc => ?_) | refine HC.cond_b rfl (fun hc => ?_) (fun hc => ?_))
      · exact HX.ret1 rfl rfl fun w' hM => ⟨by rw [(hcut _ rfl).1 hc], hM.ext⟩
      · exact HX.again (j + 1) ⟨hlt, (hcut _ rfl).2 hc⟩ (by omega) esA (Hs.refl _)
  obtain rfl : j = l.length := by omega
  have e1 : l = m := by rw [List.take_length, hlen, List.take_length] at hI; exact hI
  repeat' (first | apply HL.fold | apply HA.fold | apply HL.nil | apply HX.n_then | apply HC.seq | apply HC.region | refine HL.pa ?_ | refine HL.ga rfl ?_ | refine HL.na rfl ?_ | refine HL.nu rfl rfl ?_ | apply HC.block | apply HC.skip | apply HC.exit | apply HC.ret | apply HX.e_block | refine HX.e_other rfl ?_ | apply HX.e_then | apply HX.e_again | apply HX.n_block | apply HX.r_then | apply HX.r_block | apply HX.r_again | refine HC.cond_yes rfl ?_ | refine HC.cond_no rfl ?_ | refine HL.one (H1.ldb rfl memA rfl rfl ?_) | refine HC.cond rfl (fun hc => ?_) (fun hc => ?_) | refine HC.cond_b rfl (fun hc => ?_) (fun hc => ?_))
  exact HX.ret1 rfl rfl fun w' hM => ⟨by rw [eqLB_yes e1], hM.ext⟩
theorem pick21_fn (c n : Int) (h1 : -9223372036854775808 ≤ c) (h2 : c ≤ 9223372036854775807) (hn : 0 < n) (w : World) : Fn Tryz.prog 8 #[zv c, zv n] w fun v w' => v = zv (pickI21 c n) ∧ w = w' := by
  refine enter (l := [_, _]) rfl Tryz.ntmps8 rfl ?_
  by_cases h : c < 0
  · repeat' (first | apply WL.fold | apply WA.fold | apply WL.nil | apply WX.n_then | apply WC.seq | apply WC.region | refine WL.pa ?_ | refine WL.ga rfl ?_ | refine WL.na rfl ?_ | refine WL.nu rfl rfl ?_ | apply WC.block | apply WC.skip | apply WC.exit | apply WC.ret | apply WX.e_block | refine WX.e_other rfl ?_ | apply WX.e_then | apply WX.e_again | apply WX.n_block | apply WX.r_then | apply WX.r_block | apply WX.r_again | refine WC.cond_yes rfl ?_ | refine WC.cond_no rfl ?_ | refine WC.cond rfl (fun hc => ?_) (fun hc => ?_) | refine WC.cond_b rfl (fun hc => ?_) (fun hc => ?_))
    exact WX.ret1 rfl rfl ⟨by rw [pickI21, if_pos h], rfl⟩
  · repeat' (first | apply WL.fold | apply WA.fold | apply WL.nil | apply WX.n_then | apply WC.seq | apply WC.region | refine WL.pa ?_ | refine WL.ga rfl ?_ | refine WL.na rfl ?_ | refine WL.nu rfl rfl ?_ | apply WC.block | apply WC.skip | apply WC.exit | apply WC.ret | apply WX.e_block | refine WX.e_other rfl ?_ | apply WX.e_then | apply WX.e_again | apply WX.n_block | apply WX.r_then | apply WX.r_block | apply WX.r_again | refine WC.cond_yes rfl ?_ | refine WC.cond_no rfl ?_ | refine WC.cond rfl (fun hc => ?_) (fun hc => ?_) | refine WC.cond_b rfl (fun hc => ?_) (fun hc => ?_))
    exact WX.ret1 rfl rfl ⟨by rw [pickI21, if_neg h], rfl⟩
theorem pick20_fn (c n : Int) (h1 : -9223372036854775808 ≤ c) (h2 : c ≤ 9223372036854775807) (hn : 0 < n) (w : World) : Fn Tryz.prog 23 #[zv c, zv n] w fun v w' => v = zv (pickI21 c n) ∧ w = w' := by
  refine enter (l := [_, _]) rfl Tryz.ntmps23 rfl ?_
  by_cases h : c < 0
  · repeat' (first | apply WL.fold | apply WA.fold | apply WL.nil | apply WX.n_then | apply WC.seq | apply WC.region | refine WL.pa ?_ | refine WL.ga rfl ?_ | refine WL.na rfl ?_ | refine WL.nu rfl rfl ?_ | apply WC.block | apply WC.skip | apply WC.exit | apply WC.ret | apply WX.e_block | refine WX.e_other rfl ?_ | apply WX.e_then | apply WX.e_again | apply WX.n_block | apply WX.r_then | apply WX.r_block | apply WX.r_again | refine WC.cond_yes rfl ?_ | refine WC.cond_no rfl ?_ | refine WC.cond rfl (fun hc => ?_) (fun hc => ?_) | refine WC.cond_b rfl (fun hc => ?_) (fun hc => ?_))
    exact WX.ret1 rfl rfl ⟨by rw [pickI21, if_pos h], rfl⟩
  · repeat' (first | apply WL.fold | apply WA.fold | apply WL.nil | apply WX.n_then | apply WC.seq | apply WC.region | refine WL.pa ?_ | refine WL.ga rfl ?_ | refine WL.na rfl ?_ | refine WL.nu rfl rfl ?_ | apply WC.block | apply WC.skip | apply WC.exit | apply WC.ret | apply WX.e_block | refine WX.e_other rfl ?_ | apply WX.e_then | apply WX.e_again | apply WX.n_block | apply WX.r_then | apply WX.r_block | apply WX.r_again | refine WC.cond_yes rfl ?_ | refine WC.cond_no rfl ?_ | refine WC.cond rfl (fun hc => ?_) (fun hc => ?_) | refine WC.cond_b rfl (fun hc => ?_) (fun hc => ?_))
    exact WX.ret1 rfl rfl ⟨by rw [pickI21, if_neg h], rfl⟩
/-- Two bases are equal. -/
def EqB (A B : Nat → List Rc) : Prop := ∀ i, i < 8 → A i = B i
noncomputable def eqBB (A B : Nat → List Rc) : Bool := @decide (EqB A B) (Classical.propDecidable _)
theorem eqBB_iff {A B : Nat → List Rc} : eqBB A B = true ↔ EqB A B := by unfold eqBB; exact @decide_eq_true_iff _ (Classical.propDecidable _)
theorem eqBB_yes {A B : Nat → List Rc} (h : EqB A B) : eqBB A B = true := eqBB_iff.2 h
theorem eqBB_no {A B : Nat → List Rc} (h : ¬ EqB A B) : eqBB A B = false := by rw [← Bool.not_eq_true, eqBB_iff]; exact h
theorem same_fn {B1 B2 : Nat → List Rc} {va vb : Value} (w : World) (hA : BaseV w va B1) (hB : BaseV w vb B2) (hlA : ∀ i, i < 8 → (B1 i).length ≤ 1000000) (hoA : ∀ i, i < 8 → ∀ r ∈ B1 i, RcOk r) (hoB : ∀ i, i < 8 → ∀ r ∈ B2 i, RcOk r) :
    Fn Tryz.prog 22 #[va, vb] w fun v w' => v = .bool (eqBB B1 B2) ∧ Ext w w' := by
  obtain ⟨s, rfl, hs⟩ := hA
  obtain ⟨u, rfl, hu⟩ := hB
  refine enterH (l := [_, _]) rfl Tryz.ntmps22 rfl ?_
  repeat' (first | apply HL.fold | apply HA.fold | apply HL.nil | apply HX.n_then | apply HC.seq | apply HC.region | refine HL.pa ?_ | refine HL.ga rfl ?_ | refine HL.na rfl ?_ | refine HL.nu rfl rfl ?_ | apply HC.block | apply HC.skip | apply HC.exit | apply HC.ret | apply HX.e_block | refine HX.e_other rfl ?_ | apply HX.e_then | apply HX.e_again | apply HX.n_block | apply HX.r_then | apply HX.r_block | apply HX.r_again | refine HC.cond_yes rfl ?_ | refine HC.cond_no rfl ?_ | refine HL.one (H1.ldb rfl memA rfl rfl ?_) | refine HC.cond rfl (fun hc => ?_) (fun hc => ?_) | refine HC.cond_b rfl (fun hc => ?_) (fun hc => ?_))
  refine HL.one (H1.boxAgg (cs := row 8 s) rfl rfl (fun b2 => ?_))
  repeat' (first | apply HL.fold | apply HA.fold | apply HL.nil | apply HX.n_then | apply HC.seq | apply HC.region | refine HL.pa ?_ | refine HL.ga rfl ?_ | refine HL.na rfl ?_ | refine HL.nu rfl rfl ?_ | apply HC.block | apply HC.skip | apply HC.exit | apply HC.ret | apply HX.e_block | refine HX.e_other rfl ?_ | apply HX.e_then | apply HX.e_again | apply HX.n_block | apply HX.r_then | apply HX.r_block | apply HX.r_again | refine HC.cond_yes rfl ?_ | refine HC.cond_no rfl ?_ | refine HL.one (H1.ldb rfl memA rfl rfl ?_) | refine HC.cond rfl (fun hc => ?_) (fun hc => ?_) | refine HC.cond_b rfl (fun hc => ?_) (fun hc => ?_))
  refine HL.one (H1.boxAgg (cs := row 8 u) rfl rfl (fun b3 => ?_))
  repeat' (first | apply HL.fold | apply HA.fold | apply HL.nil | apply HX.n_then | apply HC.seq | apply HC.region | refine HL.pa ?_ | refine HL.ga rfl ?_ | refine HL.na rfl ?_ | refine HL.nu rfl rfl ?_ | apply HC.block | apply HC.skip | apply HC.exit | apply HC.ret | apply HX.e_block | refine HX.e_other rfl ?_ | apply HX.e_then | apply HX.e_again | apply HX.n_block | apply HX.r_then | apply HX.r_block | apply HX.r_again | refine HC.cond_yes rfl ?_ | refine HC.cond_no rfl ?_ | refine HL.one (H1.ldb rfl memA rfl rfl ?_) | refine HC.cond rfl (fun hc => ?_) (fun hc => ?_) | refine HC.cond_b rfl (fun hc => ?_) (fun hc => ?_))
  refine HC.loop (α := Nat) (fun j => [(2, .pointer (some ⟨b2, 0, none⟩)), (3, .pointer (some ⟨b3, 0, none⟩)), (6, zv (j : Int))]) (fun _ => [A.blk b2 (row 8 s) 33, A.blk b3 (row 8 u) 33]) (fun j => j ≤ 8 ∧ ∀ i, i < j → B1 i = B2 i) (fun j => 8 - j) 0 ⟨Nat.zero_le _, fun i h => absurd h (Nat.not_lt_zero _)⟩ esA (by repeat (first | exact Hs.nil _ | (refine Hs.cons pickA ?_))) ?_
  rintro j ⟨hj, hI⟩
  by_cases hlt : j < 8
  · have hjI : (j : Int) < 8 := by omega
    have h1 := hs j hlt
    have h2 := hu j hlt
    obtain ⟨a1, c1, e1, -⟩ := h1.shape
    obtain ⟨a2, c2, e2, -⟩ := h2.shape
    rw [e1] at h1
    rw [e2] at h2
    have heq := fun (w' : World) (k : Ext w w') => equalR_fn a1 a2 c1 c2 (B1 j) (B2 j) (hlA j hlt) (hoA j hlt) (hoB j hlt) w' (h1.ext k) (h2.ext k)
    rw [← e1, ← e2] at heq
    have hno : ¬ B1 j = B2 j → eqBB B1 B2 = false := fun h => eqBB_no fun e => h (e j hlt)
    have hyes : ¬ ¬ B1 j = B2 j → ∀ i, i < j + 1 → B1 i = B2 i := fun h i hi => by
      by_cases e : i = j
      · subst e
        exact Classical.not_not.1 h
      · exact hI i (by omega)
    repeat' (first | apply HL.fold | apply HA.fold | apply HL.nil | apply HX.n_then | apply HC.seq | apply HC.region | refine HL.pa ?_ | refine HL.ga rfl ?_ | refine HL.na rfl ?_ | refine HL.nu rfl rfl ?_ | apply HC.block | apply HC.skip | apply HC.exit | apply HC.ret | apply HX.e_block | refine HX.e_other rfl ?_ | apply HX.e_then | apply HX.e_again | apply HX.n_block | apply HX.r_then | apply HX.r_block | apply HX.r_again | refine HC.cond_yes rfl ?_ | refine HC.cond_no rfl ?_ | refine HL.one (H1.ldb rfl memA rfl rfl ?_) | refine HC.cond rfl (fun hc => ?_) (fun hc => ?_) | refine HC.cond_b rfl (fun hc => ?_) (fun hc => ?_))
    refine HC.any rfl ?_
    refine HA.pa 0 rfl ?_
    refine HA.pa 1 rfl ?_
    refine HA.pa 5 rfl ?_
    refine HA.pa 6 rfl ?_
    refine HA.all [2] (by kernel_rfl) rfl ⟨⟨_, rfl, ?_⟩, trivial⟩
    refine HO.one ?_
    refine H1.callx (vs := [.pointer (some ⟨b2, 0, none⟩), zv ((j : Int) + 1)]) rfl rfl (fun w' _ => list_fn b2 j hlt w') ?_
    apply HA.fold
    refine HA.pa 3 rfl ?_ (POp.nilCheck rfl)
    refine HA.all [4, 7] (by kernel_rfl) rfl ⟨⟨_, rfl, ?_⟩, ⟨_, rfl, ?_⟩, trivial⟩
    · refine HO.one ?_
      refine H1.ldb (cs := row 8 s) (v := s j) rfl memA (row_get _ hlt) rfl ?_
      apply HA.fold
      refine HA.all [7] (by kernel_rfl) rfl ⟨⟨_, rfl, ?_⟩, trivial⟩
      refine HO.one ?_
      refine H1.callx (vs := [.pointer (some ⟨b3, 0, none⟩), zv ((j : Int) + 1)]) rfl rfl (fun w' _ => list_fn b3 j hlt w') ?_
      apply HA.fold
      refine HA.pa 8 rfl ?_ (POp.nilCheck rfl)
      refine HA.all [9] (by kernel_rfl) rfl ⟨⟨_, rfl, ?_⟩, trivial⟩
      refine HO.one ?_
      refine H1.ldb (cs := row 8 u) (v := u j) rfl memA (row_get _ hlt) rfl ?_
      apply HA.fold
      refine HA.all [10] (by kernel_rfl) rfl ⟨⟨_, rfl, ?_⟩, trivial⟩
      refine HO.one ?_
      refine H1.callx (vs := [s j, u j]) rfl rfl (fun w' hM => heq w' hM.ext) ?_
      apply HA.fold
      refine HA.pa 11 rfl ?_
      refine HA.done (by kernel_rfl) ?_
      repeat' (first | apply HL.fold | apply HA.fold | apply HL.nil | apply HX.n_then | apply HC.seq | apply HC.region | refine HL.pa ?_ | refine HL.ga rfl ?_ | refine HL.na rfl ?_ | refine HL.nu rfl rfl ?_ | apply HC.block | apply HC.skip | apply HC.exit | apply HC.ret | apply HX.e_block | refine HX.e_other rfl ?_ | apply HX.e_then | apply HX.e_again | apply HX.n_block | apply HX.r_then | apply HX.r_block | apply HX.r_again | refine HC.cond_yes rfl ?_ | refine HC.cond_no rfl ?_ | refine HL.one (H1.ldb rfl memA rfl rfl ?_) | refine HC.cond rfl (fun hc => ?_) (fun hc => ?_) | refine HC.cond_b rfl (fun hc => ?_) (fun hc => ?_))
      · exact HX.ret1 rfl rfl fun w' hM => ⟨by rw [hno hc], hM.ext⟩
      · exact HX.again (j + 1) ⟨hlt, hyes hc⟩ (by omega) esA (by repeat (first | exact Hs.nil _ | (refine Hs.cons pickA ?_)))
    · refine HO.one ?_
      refine H1.callx (vs := [.pointer (some ⟨b3, 0, none⟩), zv ((j : Int) + 1)]) rfl rfl (fun w' _ => list_fn b3 j hlt w') ?_
      apply HA.fold
      refine HA.pa 8 rfl ?_ (POp.nilCheck rfl)
      refine HA.all [4, 9] (by kernel_rfl) rfl ⟨⟨_, rfl, ?_⟩, ⟨_, rfl, ?_⟩, trivial⟩
      · refine HO.one ?_
        refine H1.ldb (cs := row 8 s) (v := s j) rfl memA (row_get _ hlt) rfl ?_
        apply HA.fold
        refine HA.all [9] (by kernel_rfl) rfl ⟨⟨_, rfl, ?_⟩, trivial⟩
        refine HO.one ?_
        refine H1.ldb (cs := row 8 u) (v := u j) rfl memA (row_get _ hlt) rfl ?_
        apply HA.fold
        refine HA.all [10] (by kernel_rfl) rfl ⟨⟨_, rfl, ?_⟩, trivial⟩
        refine HO.one ?_
        refine H1.callx (vs := [s j, u j]) rfl rfl (fun w' hM => heq w' hM.ext) ?_
        apply HA.fold
        refine HA.pa 11 rfl ?_
        refine HA.done (by kernel_rfl) ?_
        repeat' (first | apply HL.fold | apply HA.fold | apply HL.nil | apply HX.n_then | apply HC.seq | apply HC.region | refine HL.pa ?_ | refine HL.ga rfl ?_ | refine HL.na rfl ?_ | refine HL.nu rfl rfl ?_ | apply HC.block | apply HC.skip | apply HC.exit | apply HC.ret | apply HX.e_block | refine HX.e_other rfl ?_ | apply HX.e_then | apply HX.e_again | apply HX.n_block | apply HX.r_then | apply HX.r_block | apply HX.r_again | refine HC.cond_yes rfl ?_ | refine HC.cond_no rfl ?_ | refine HL.one (H1.ldb rfl memA rfl rfl ?_) | refine HC.cond rfl (fun hc => ?_) (fun hc => ?_) | refine HC.cond_b rfl (fun hc => ?_) (fun hc => ?_))
        · exact HX.ret1 rfl rfl fun w' hM => ⟨by rw [hno hc], hM.ext⟩
        · exact HX.again (j + 1) ⟨hlt, hyes hc⟩ (by omega) esA (by repeat (first | exact Hs.nil _ | (refine Hs.cons pickA ?_)))
      · refine HO.one ?_
        refine H1.ldb (cs := row 8 u) (v := u j) rfl memA (row_get _ hlt) rfl ?_
        apply HA.fold
        refine HA.all [4] (by kernel_rfl) rfl ⟨⟨_, rfl, ?_⟩, trivial⟩
        refine HO.one ?_
        refine H1.ldb (cs := row 8 s) (v := s j) rfl memA (row_get _ hlt) rfl ?_
        apply HA.fold
        refine HA.all [10] (by kernel_rfl) rfl ⟨⟨_, rfl, ?_⟩, trivial⟩
        refine HO.one ?_
        refine H1.callx (vs := [s j, u j]) rfl rfl (fun w' hM => heq w' hM.ext) ?_
        apply HA.fold
        refine HA.pa 11 rfl ?_
        refine HA.done (by kernel_rfl) ?_
        repeat' (first | apply HL.fold | apply HA.fold | apply HL.nil | apply HX.n_then | apply HC.seq | apply HC.region | refine HL.pa ?_ | refine HL.ga rfl ?_ | refine HL.na rfl ?_ | refine HL.nu rfl rfl ?_ | apply HC.block | apply HC.skip | apply HC.exit | apply HC.ret | apply HX.e_block | refine HX.e_other rfl ?_ | apply HX.e_then | apply HX.e_again | apply HX.n_block | apply HX.r_then | apply HX.r_block | apply HX.r_again | refine HC.cond_yes rfl ?_ | refine HC.cond_no rfl ?_ | refine HL.one (H1.ldb rfl memA rfl rfl ?_) | refine HC.cond rfl (fun hc => ?_) (fun hc => ?_) | refine HC.cond_b rfl (fun hc => ?_) (fun hc => ?_))
        · exact HX.ret1 rfl rfl fun w' hM => ⟨by rw [hno hc], hM.ext⟩
        · exact HX.again (j + 1) ⟨hlt, hyes hc⟩ (by omega) esA (by repeat (first | exact Hs.nil _ | (refine Hs.cons pickA ?_)))
  obtain rfl : j = 8 := by omega
  repeat' (first | apply HL.fold | apply HA.fold | apply HL.nil | apply HX.n_then | apply HC.seq | apply HC.region | refine HL.pa ?_ | refine HL.ga rfl ?_ | refine HL.na rfl ?_ | refine HL.nu rfl rfl ?_ | apply HC.block | apply HC.skip | apply HC.exit | apply HC.ret | apply HX.e_block | refine HX.e_other rfl ?_ | apply HX.e_then | apply HX.e_again | apply HX.n_block | apply HX.r_then | apply HX.r_block | apply HX.r_again | refine HC.cond_yes rfl ?_ | refine HC.cond_no rfl ?_ | refine HL.one (H1.ldb rfl memA rfl rfl ?_) | refine HC.cond rfl (fun hc => ?_) (fun hc => ?_) | refine HC.cond_b rfl (fun hc => ?_) (fun hc => ?_))
  exact HX.ret1 rfl rfl fun w' hM => ⟨by rw [eqBB_yes hI], hM.ext⟩
theorem SameInts_fn (v u : Value) (l m : List Int) (w : World) (hR : Rd w v (ints l)) (hS : Rd w u (ints m)) (hl : l.length ≤ 1000000) :
    Fn Tryz.prog 17 #[v, u] w fun u w' => u = .bool (decide (l = m)) ∧ Ext w w' := by
  obtain ⟨a, c, rfl, hc⟩ := hR.isInts
  obtain ⟨a', c', rfl, hc'⟩ := hS.isInts
  refine enterH (l := [_, _]) rfl Tryz.ntmps17 rfl ?_
  by_cases hlen : l.length = m.length
  rotate_left
  · have hlen' : ¬ (l.length : Int) = (m.length : Int) := by omega
    repeat' (first | apply HL.fold | apply HA.fold | apply HL.nil | apply HX.n_then | apply HC.seq | apply HC.region | refine HL.pa ?_ | refine HL.ga rfl ?_ | refine HL.na rfl ?_ | refine HL.nu rfl rfl ?_ | apply HC.block | apply HC.skip | apply HC.exit | apply HC.ret | apply HX.e_block | refine HX.e_other rfl ?_ | apply HX.e_then | apply HX.e_again | apply HX.n_block | apply HX.r_then | apply HX.r_block | apply HX.r_again | refine HC.cond_yes rfl ?_ | refine HC.cond_no rfl ?_ | refine HL.one (H1.ldb rfl memA rfl rfl ?_) | refine HC.cond rfl (fun hc => ?_) (fun hc => ?_) | refine HC.cond_b rfl (fun hc => ?_) (fun hc => ?_))
    exact HX.ret1 rfl rfl fun w' hM => ⟨by rw [decide_eq_false fun e => hlen (by rw [e])], hM.ext⟩
  rw [← hlen] at hS ⊢
  repeat' (first | apply HL.fold | apply HA.fold | apply HL.nil | apply HX.n_then | apply HC.seq | apply HC.region | refine HL.pa ?_ | refine HL.ga rfl ?_ | refine HL.na rfl ?_ | refine HL.nu rfl rfl ?_ | apply HC.block | apply HC.skip | apply HC.exit | apply HC.ret | apply HX.e_block | refine HX.e_other rfl ?_ | apply HX.e_then | apply HX.e_again | apply HX.n_block | apply HX.r_then | apply HX.r_block | apply HX.r_again | refine HC.cond_yes rfl ?_ | refine HC.cond_no rfl ?_ | refine HL.one (H1.ldb rfl memA rfl rfl ?_) | refine HC.cond rfl (fun hc => ?_) (fun hc => ?_) | refine HC.cond_b rfl (fun hc => ?_) (fun hc => ?_))
  refine HC.loop (α := Nat) (fun j => [(0, .slice a l.length c), (1, .slice a' l.length c'), (5, zv (j : Int))]) (fun _ => []) (fun j => j ≤ l.length ∧ l.take j = m.take j) (fun j => l.length - j) 0 ⟨Nat.zero_le _, rfl⟩ esA (Hs.refl _) ?_
  rintro j ⟨hj, hI⟩
  by_cases hlt : j < l.length
  · have hlt2 : j < m.length := by omega
    obtain ⟨b1, o1, rfl, -⟩ := hR.iat (fun e => by rw [e] at hlt; exact absurd hlt (Nat.not_lt_zero _))
    obtain ⟨b2, o2, rfl, -⟩ := hS.iat (fun e => by rw [e] at hlt2; exact absurd hlt2 (Nat.not_lt_zero _))
    have hd1 := hR.cell (ints_get hlt)
    have hd2 := hS.cell (ints_get hlt2)
    have h1 := take_at hlt
    have h2 := take_at hlt2
    have hno : ¬ at' l j = at' m j → decide (l = m) = false := fun h => decide_eq_false fun e => h (by rw [e])
    have hyes : at' l j = at' m j → l.take (j + 1) = m.take (j + 1) := fun h => by rw [h1, h2, hI, h]
    repeat' (first | apply HL.fold | apply HA.fold | apply HL.nil | apply HX.n_then | apply HC.seq | apply HC.region | refine HL.pa ?_ | refine HL.ga rfl ?_ | refine HL.na rfl ?_ | refine HL.nu rfl rfl ?_ | apply HC.block | apply HC.skip | apply HC.exit | apply HC.ret | apply HX.e_block | refine HX.e_other rfl ?_ | apply HX.e_then | apply HX.e_again | apply HX.n_block | apply HX.r_then | apply HX.r_block | apply HX.r_again | refine HC.cond_yes rfl ?_ | refine HC.cond_no rfl ?_ | refine HL.one (H1.ldb rfl memA rfl rfl ?_) | refine HC.cond rfl (fun hc => ?_) (fun hc => ?_) | refine HC.cond_b rfl (fun hc => ?_) (fun hc => ?_))
    refine HC.any rfl ?_
    refine HA.pa 0 rfl ?_
    refine HA.pa 1 rfl ?_
    refine HA.pa 2 rfl ?_
    refine HA.pa 4 rfl ?_
    refine HA.pa 5 rfl ?_
    refine HA.pa 6 rfl ?_
    refine HA.all [3, 7] (by kernel_rfl) rfl ⟨⟨_, rfl, ?_⟩, ⟨_, rfl, ?_⟩, trivial⟩
    · refine HO.one ?_
      refine H1.ld0 rfl hd1 rfl ?_
      apply HA.fold
      refine HA.all [7] (by kernel_rfl) rfl ⟨⟨_, rfl, ?_⟩, trivial⟩
      refine HO.one ?_
      refine H1.ld0 rfl hd2 rfl ?_
      apply HA.fold
      refine HA.pa 8 rfl ?_
      refine HA.done (by kernel_rfl) ?_
      repeat' (first | apply HL.fold | apply HA.fold | apply HL.nil | apply HX.n_then | apply HC.seq | apply HC.region | refine HL.pa ?_ | refine HL.ga rfl ?_ | refine HL.na rfl ?_ | refine HL.nu rfl rfl ?_ | apply HC.block | apply HC.skip | apply HC.exit | apply HC.ret | apply HX.e_block | refine HX.e_other rfl ?_ | apply HX.e_then | apply HX.e_again | apply HX.n_block | apply HX.r_then | apply HX.r_block | apply HX.r_again | refine HC.cond_yes rfl ?_ | refine HC.cond_no rfl ?_ | refine HL.one (H1.ldb rfl memA rfl rfl ?_) | refine HC.cond rfl (fun hc => ?_) (fun hc => ?_) | refine HC.cond_b rfl (fun hc => ?_) (fun hc => ?_))
      · exact HX.ret1 rfl rfl fun w' hM => ⟨by rw [hno hc], hM.ext⟩
      · exact HX.again (j + 1) ⟨hlt, hyes (Decidable.not_not.1 hc)⟩ (by omega) esA (Hs.refl _)
    · refine HO.one ?_
      refine H1.ld0 rfl hd2 rfl ?_
      apply HA.fold
      refine HA.all [3] (by kernel_rfl) rfl ⟨⟨_, rfl, ?_⟩, trivial⟩
      refine HO.one ?_
      refine H1.ld0 rfl hd1 rfl ?_
      apply HA.fold
      refine HA.pa 8 rfl ?_
      refine HA.done (by kernel_rfl) ?_
      repeat' (first | apply HL.fold | apply HA.fold | apply HL.nil | apply HX.n_then | apply HC.seq | apply HC.region | refine HL.pa ?_ | refine HL.ga rfl ?_ | refine HL.na rfl ?_ | refine HL.nu rfl rfl ?_ | apply HC.block | apply HC.skip | apply HC.exit | apply HC.ret | apply HX.e_block | refine HX.e_other rfl ?_ | apply HX.e_then | apply HX.e_again | apply HX.n_block | apply HX.r_then | apply HX.r_block | apply HX.r_again | refine HC.cond_yes rfl ?_ | refine HC.cond_no rfl ?_ | refine HL.one (H1.ldb rfl memA rfl rfl ?_) | refine HC.cond rfl (fun hc => ?_) (fun hc => ?_) | refine HC.cond_b rfl (fun hc => ?_) (fun hc => ?_))
      · exact HX.ret1 rfl rfl fun w' hM => ⟨by rw [hno hc], hM.ext⟩
      · exact HX.again (j + 1) ⟨hlt, hyes (Decidable.not_not.1 hc)⟩ (by omega) esA (Hs.refl _)
  obtain rfl : j = l.length := by omega
  have e1 : l = m := by rw [List.take_length, hlen, List.take_length] at hI; exact hI
  repeat' (first | apply HL.fold | apply HA.fold | apply HL.nil | apply HX.n_then | apply HC.seq | apply HC.region | refine HL.pa ?_ | refine HL.ga rfl ?_ | refine HL.na rfl ?_ | refine HL.nu rfl rfl ?_ | apply HC.block | apply HC.skip | apply HC.exit | apply HC.ret | apply HX.e_block | refine HX.e_other rfl ?_ | apply HX.e_then | apply HX.e_again | apply HX.n_block | apply HX.r_then | apply HX.r_block | apply HX.r_again | refine HC.cond_yes rfl ?_ | refine HC.cond_no rfl ?_ | refine HL.one (H1.ldb rfl memA rfl rfl ?_) | refine HC.cond rfl (fun hc => ?_) (fun hc => ?_) | refine HC.cond_b rfl (fun hc => ?_) (fun hc => ?_))
  exact HX.ret1 rfl rfl fun w' hM => ⟨by rw [decide_eq_true e1], hM.ext⟩
theorem BaseV.slices {w : World} {vb : Value} {B : Nat → List Rc} (h : BaseV w vb B) : ∃ t : Nat → Option Addr × Nat × Nat, vb = .agg (row 8 fun i => .slice (t i).1 (t i).2.1 (t i).2.2).toArray ∧ ∀ i, i < 8 → RdR w (.slice (t i).1 (t i).2.1 (t i).2.2) (B i) := by
  obtain ⟨s, rfl, hs⟩ := h
  have h1 : ∀ i, ∃ t : Option Addr × Nat × Nat, i < 8 → s i = .slice t.1 t.2.1 t.2.2 := fun i => by
    by_cases hi : i < 8
    · obtain ⟨a, c, e, -⟩ := (hs i hi).shape
      exact ⟨(a, (B i).length, c), fun _ => e⟩
    · exact ⟨(none, 0, 0), fun h => absurd h hi⟩
  obtain ⟨t, ht⟩ := Classical.axiomOfChoice h1
  exact ⟨t, by rw [row_congr ht], fun i hi => by rw [← ht i hi]; exact hs i hi⟩
theorem Lists_fn {B : Nat → List Rc} {vb : Value} (w : World) (hB : BaseV w vb B) :
    Fn Tryz.prog 9 #[vb] w fun v w' => ∃ z : Nat × (Nat → Value), (∀ i, i < 8 → RdR w (z.2 i) (B i)) ∧ v = .slice (some ⟨z.1, 0, none⟩) 8 8 ∧ Mm w [A.blk z.1 (row 8 z.2) 26] w' := by
  obtain ⟨t, rfl, hs⟩ := hB.slices
  refine enterH (l := [_]) rfl Tryz.ntmps9 rfl ?_
  repeat' (first | apply HL.fold | apply HA.fold | apply HL.nil | apply HX.n_then | apply HC.seq | apply HC.region | refine HL.pa ?_ | refine HL.ga rfl ?_ | refine HL.na rfl ?_ | refine HL.nu rfl rfl ?_ | apply HC.block | apply HC.skip | apply HC.exit | apply HC.ret | apply HX.e_block | refine HX.e_other rfl ?_ | apply HX.e_then | apply HX.e_again | apply HX.n_block | apply HX.r_then | apply HX.r_block | apply HX.r_again | refine HC.cond_yes rfl ?_ | refine HC.cond_no rfl ?_ | refine HL.one (H1.ldb rfl memA rfl rfl ?_) | refine HC.cond rfl (fun hc => ?_) (fun hc => ?_) | refine HC.cond_b rfl (fun hc => ?_) (fun hc => ?_))
  refine HL.one (H1.boxAgg (cs := row 8 fun i => .slice (t i).1 (t i).2.1 (t i).2.2) rfl rfl (fun b1 => ?_))
  repeat' (first | apply HL.fold | apply HA.fold | apply HL.nil | apply HX.n_then | apply HC.seq | apply HC.region | refine HL.pa ?_ | refine HL.ga rfl ?_ | refine HL.na rfl ?_ | refine HL.nu rfl rfl ?_ | apply HC.block | apply HC.skip | apply HC.exit | apply HC.ret | apply HX.e_block | refine HX.e_other rfl ?_ | apply HX.e_then | apply HX.e_again | apply HX.n_block | apply HX.r_then | apply HX.r_block | apply HX.r_again | refine HC.cond_yes rfl ?_ | refine HC.cond_no rfl ?_ | refine HL.one (H1.ldb rfl memA rfl rfl ?_) | refine HC.cond rfl (fun hc => ?_) (fun hc => ?_) | refine HC.cond_b rfl (fun hc => ?_) (fun hc => ?_))
  refine HL.one (H1.lit (cs := row 8 fun i => .slice (t i).1 (t i).2.1 (t i).2.2) rfl rfl rfl rfl rfl rfl (fun b3 => ?_))
  repeat' (first | apply HL.fold | apply HA.fold | apply HL.nil | apply HX.n_then | apply HC.seq | apply HC.region | refine HL.pa ?_ | refine HL.ga rfl ?_ | refine HL.na rfl ?_ | refine HL.nu rfl rfl ?_ | apply HC.block | apply HC.skip | apply HC.exit | apply HC.ret | apply HX.e_block | refine HX.e_other rfl ?_ | apply HX.e_then | apply HX.e_again | apply HX.n_block | apply HX.r_then | apply HX.r_block | apply HX.r_again | refine HC.cond_yes rfl ?_ | refine HC.cond_no rfl ?_ | refine HL.one (H1.ldb rfl memA rfl rfl ?_) | refine HC.cond rfl (fun hc => ?_) (fun hc => ?_) | refine HC.cond_b rfl (fun hc => ?_) (fun hc => ?_))
  exact HX.ret1 rfl rfl fun w' hM => ⟨(b3, fun i => .slice (t i).1 (t i).2.1 (t i).2.2), hs, rfl, hM.sub (by repeat (first | exact Hs.nil _ | (refine Hs.cons pickA ?_)))⟩
noncomputable def inB (l : List Rc) (r : Rc) : Bool := @decide (r ∈ l) (Classical.propDecidable _)
theorem inB_iff {l : List Rc} {r : Rc} : inB l r = true ↔ r ∈ l := by unfold inB; exact @decide_eq_true_iff _ (Classical.propDecidable _)
theorem inB_yes {l : List Rc} {r : Rc} (h : r ∈ l) : inB l r = true := inB_iff.2 h
theorem inB_no {l : List Rc} {r : Rc} (h : r ∉ l) : inB l r = false := by rw [← Bool.not_eq_true, inB_iff]; exact h
theorem in_fn (v : Value) (l : List Rc) (r : Rc) (hl : l.length ≤ 1000000) (hlo : ∀ r ∈ l, RcOk r) (hr : RcOk r) (w : World) (hR : RdR w v l) :
    Fn Tryz.prog 11 #[v, recV r] w fun v w' => v = .bool (inB l r) ∧ Ext w w' := by
  obtain ⟨a, c, rfl, hc⟩ := hR.shape
  refine enterH (l := [_, _]) rfl Tryz.ntmps11 rfl ?_
  repeat' (first | apply HL.fold | apply HA.fold | apply HL.nil | apply HX.n_then | apply HC.seq | apply HC.region | refine HL.pa ?_ | refine HL.ga rfl ?_ | refine HL.na rfl ?_ | refine HL.nu rfl rfl ?_ | apply HC.block | apply HC.skip | apply HC.exit | apply HC.ret | apply HX.e_block | refine HX.e_other rfl ?_ | apply HX.e_then | apply HX.e_again | apply HX.n_block | apply HX.r_then | apply HX.r_block | apply HX.r_again | refine HC.cond_yes rfl ?_ | refine HC.cond_no rfl ?_ | refine HL.one (H1.ldb rfl memA rfl rfl ?_) | refine HC.cond rfl (fun hc => ?_) (fun hc => ?_) | refine HC.cond_b rfl (fun hc => ?_) (fun hc => ?_))
  refine HL.one (H1.boxAgg (cs := rcells r) rfl rfl (fun b3 => ?_))
  repeat' (first | apply HL.fold | apply HA.fold | apply HL.nil | apply HX.n_then | apply HC.seq | apply HC.region | refine HL.pa ?_ | refine HL.ga rfl ?_ | refine HL.na rfl ?_ | refine HL.nu rfl rfl ?_ | apply HC.block | apply HC.skip | apply HC.exit | apply HC.ret | apply HX.e_block | refine HX.e_other rfl ?_ | apply HX.e_then | apply HX.e_again | apply HX.n_block | apply HX.r_then | apply HX.r_block | apply HX.r_again | refine HC.cond_yes rfl ?_ | refine HC.cond_no rfl ?_ | refine HL.one (H1.ldb rfl memA rfl rfl ?_) | refine HC.cond rfl (fun hc => ?_) (fun hc => ?_) | refine HC.cond_b rfl (fun hc => ?_) (fun hc => ?_))
  refine HC.loop (α := Nat) (fun j => [(0, .slice a l.length c), (3, .pointer (some ⟨b3, 0, none⟩)), (5, zv (j : Int))]) (fun _ => [A.blk b3 (rcells r) 24]) (fun j => j ≤ l.length ∧ r ∉ l.take j) (fun j => l.length - j) 0 ⟨Nat.zero_le _, by simp⟩ esA (by repeat (first | exact Hs.nil _ | (refine Hs.cons pickA ?_))) ?_
  rintro j ⟨hj, hI⟩
  by_cases hlt : j < l.length
  · obtain ⟨s, hs⟩ : ∃ s, l[j]? = some s := ⟨_, List.getElem?_eq_getElem hlt⟩
    have hsm := List.mem_of_getElem? hs
    have hso := hlo s hsm
    have htl : l.take (j + 1) = l.take j ++ [s] := by rw [List.take_add_one, hs]; rfl
    obtain ⟨b1, o1, rfl, -, hc1⟩ := hR.at (fun e => by rw [e] at hlt; exact absurd hlt (Nat.not_lt_zero _))
    have hd1 := hc1 j s hs
    clear hc1
    have hyes : s = r → inB l r = true := fun h => by rw [← h]; exact inB_yes hsm
    have hno : ¬ s = r → r ∉ l.take (j + 1) := fun h hm => by
      rw [htl, List.mem_append, List.mem_singleton] at hm
      rcases hm with hm | hm
      · exact hI hm
      · exact h hm.symm
    repeat' (first | apply HL.fold | apply HA.fold | apply HL.nil | apply HX.n_then | apply HC.seq | apply HC.region | refine HL.pa ?_ | refine HL.ga rfl ?_ | refine HL.na rfl ?_ | refine HL.nu rfl rfl ?_ | apply HC.block | apply HC.skip | apply HC.exit | apply HC.ret | apply HX.e_block | refine HX.e_other rfl ?_ | apply HX.e_then | apply HX.e_again | apply HX.n_block | apply HX.r_then | apply HX.r_block | apply HX.r_again | refine HC.cond_yes rfl ?_ | refine HC.cond_no rfl ?_ | refine HL.one (H1.ldb rfl memA rfl rfl ?_) | refine HC.cond rfl (fun hc => ?_) (fun hc => ?_) | refine HC.cond_b rfl (fun hc => ?_) (fun hc => ?_))
    refine HC.any rfl ?_
    refine HA.pa 0 rfl ?_
    refine HA.pa 1 rfl ?_
    refine HA.pa 2 rfl ?_
    refine HA.all [3, 4] (by kernel_rfl) rfl ⟨⟨_, rfl, ?_⟩, ⟨_, rfl, ?_⟩, trivial⟩
    · refine HO.one ?_
      refine H1.ldAggw (vs := rcells s) rfl rfl (fun w' hM i v hv => cell_ext hM.ext (hd1 i v hv)) rfl ?_
      apply HA.fold
      refine HA.all [4] (by kernel_rfl) rfl ⟨⟨_, rfl, ?_⟩, trivial⟩
      refine HO.one ?_
      refine H1.ldAgg (vs := rcells r) rfl memA rfl (fun i v hv => by rw [Nat.zero_add]; exact hv) rfl ?_
      apply HA.fold
      refine HA.pa (v := .bool (eqR s r)) 5 rfl ?_ (POp.eqRec rfl rfl hso hr)
      refine HA.done (by kernel_rfl) ?_
      repeat' (first | apply HL.fold | apply HA.fold | apply HL.nil | apply HX.n_then | apply HC.seq | apply HC.region | refine HL.pa ?_ | refine HL.ga rfl ?_ | refine HL.na rfl ?_ | refine HL.nu rfl rfl ?_ | apply HC.block | apply HC.skip | apply HC.exit | apply HC.ret | apply HX.e_block | refine HX.e_other rfl ?_ | apply HX.e_then | apply HX.e_again | apply HX.n_block | apply HX.r_then | apply HX.r_block | apply HX.r_again | refine HC.cond_yes rfl ?_ | refine HC.cond_no rfl ?_ | refine HL.one (H1.ldb rfl memA rfl rfl ?_) | refine HC.cond rfl (fun hc => ?_) (fun hc => ?_) | refine HC.cond_b rfl (fun hc => ?_) (fun hc => ?_))
      · exact HX.ret1 rfl rfl fun w' hM => ⟨by rw [hyes hc], hM.ext⟩
      · exact HX.again (j + 1) ⟨hlt, hno hc⟩ (by omega) esA (by repeat (first | exact Hs.nil _ | (refine Hs.cons pickA ?_)))
    · refine HO.one ?_
      refine H1.ldAgg (vs := rcells r) rfl memA rfl (fun i v hv => by rw [Nat.zero_add]; exact hv) rfl ?_
      apply HA.fold
      refine HA.all [3] (by kernel_rfl) rfl ⟨⟨_, rfl, ?_⟩, trivial⟩
      refine HO.one ?_
      refine H1.ldAggw (vs := rcells s) rfl rfl (fun w' hM i v hv => cell_ext hM.ext (hd1 i v hv)) rfl ?_
      apply HA.fold
      refine HA.pa (v := .bool (eqR s r)) 5 rfl ?_ (POp.eqRec rfl rfl hso hr)
      refine HA.done (by kernel_rfl) ?_
      repeat' (first | apply HL.fold | apply HA.fold | apply HL.nil | apply HX.n_then | apply HC.seq | apply HC.region | refine HL.pa ?_ | refine HL.ga rfl ?_ | refine HL.na rfl ?_ | refine HL.nu rfl rfl ?_ | apply HC.block | apply HC.skip | apply HC.exit | apply HC.ret | apply HX.e_block | refine HX.e_other rfl ?_ | apply HX.e_then | apply HX.e_again | apply HX.n_block | apply HX.r_then | apply HX.r_block | apply HX.r_again | refine HC.cond_yes rfl ?_ | refine HC.cond_no rfl ?_ | refine HL.one (H1.ldb rfl memA rfl rfl ?_) | refine HC.cond rfl (fun hc => ?_) (fun hc => ?_) | refine HC.cond_b rfl (fun hc => ?_) (fun hc => ?_))
      · exact HX.ret1 rfl rfl fun w' hM => ⟨by rw [hyes hc], hM.ext⟩
      · exact HX.again (j + 1) ⟨hlt, hno hc⟩ (by omega) esA (by repeat (first | exact Hs.nil _ | (refine Hs.cons pickA ?_)))
  obtain rfl : j = l.length := by omega
  rw [List.take_length] at hI
  repeat' (first | apply HL.fold | apply HA.fold | apply HL.nil | apply HX.n_then | apply HC.seq | apply HC.region | refine HL.pa ?_ | refine HL.ga rfl ?_ | refine HL.na rfl ?_ | refine HL.nu rfl rfl ?_ | apply HC.block | apply HC.skip | apply HC.exit | apply HC.ret | apply HX.e_block | refine HX.e_other rfl ?_ | apply HX.e_then | apply HX.e_again | apply HX.n_block | apply HX.r_then | apply HX.r_block | apply HX.r_again | refine HC.cond_yes rfl ?_ | refine HC.cond_no rfl ?_ | refine HL.one (H1.ldb rfl memA rfl rfl ?_) | refine HC.cond rfl (fun hc => ?_) (fun hc => ?_) | refine HC.cond_b rfl (fun hc => ?_) (fun hc => ?_))
  exact HX.ret1 rfl rfl fun w' hM => ⟨by rw [inB_no hI], hM.ext⟩
end Go.Sx

