/- The law RepairWider. -/
import Derived.Test.YtcnjfccbfdoacaaRU
namespace Go.Sx
open Go Go.Proofs
structure GoodD (c : CaseP) : Prop where
  right : Right c.holders c.lost c.width c.k c.deadline
  len : c.to.length = c.lost.length
  cu : custs c.to
  off : ∀ x ∈ c.to, x ∉ survS c.holders c.lost
theorem GoodC.d {c : CaseP} (h : GoodC c) : GoodD c := ⟨h.right, h.len, h.cu, h.off⟩
theorem good_ofD (c : CaseP) (h : GoodD c) : goodB c.holders c.lost c.to c.width c.k c.deadline = !(decide (0 < c.lost.length) && decide (((survS c.holders c.lost).length : Int) < c.k)) := by
  have h1 : (c.to.any fun x => (survS c.holders c.lost).contains x) = false := by
    rw [List.any_eq_false]; intro x hx hc; exact h.off x hx (List.contains_iff_mem.1 hc)
  unfold goodB
  rw [rightB_yes h.right, decide_eq_true h.len, decide_eq_true h.cu, h1]
  rfl
theorem plan_yesD (c : CaseP) (h : GoodD c) {j : Nat} (hs : 0 < c.lost.length → c.k ≤ ((survS c.holders c.lost).length : Int)) (h1 : (planAt (survS c.holders c.lost) c.lost c.to c.width.toNat c.k.toNat j).length = c.lost.length) (hj : (j : Int) ≤ c.deadline) :
    planB c.holders c.lost c.to c.width c.k c.deadline = true ∧ planR c.holders c.lost c.to c.width c.k c.deadline = planAt (survS c.holders c.lost) c.lost c.to c.width.toNat c.k.toNat j := by
  have hD : planD c.holders c.lost c.to c.width c.k c.deadline = planAt (survS c.holders c.lost) c.lost c.to c.width.toNat c.k.toNat j := plan_full (by omega) _ (by omega)
  have hB : planB c.holders c.lost c.to c.width c.k c.deadline = true := by
    unfold planB
    rw [good_ofD c h, hD, h1, decide_eq_true (Nat.le_refl _), Bool.and_true]
    by_cases h0 : 0 < c.lost.length
    · have := hs h0
      rw [decide_eq_false (show ¬ ((survS c.holders c.lost).length : Int) < c.k by omega), Bool.and_false]; rfl
    · rw [decide_eq_false h0]; rfl
  refine ⟨hB, ?_⟩
  unfold planR
  rw [if_pos hB, hD]
theorem least {p : Nat → Prop} : ∀ n : Nat, p n → ∃ j, j ≤ n ∧ p j ∧ ∀ i, i < j → ¬ p i := by
  intro n
  induction n using Nat.strongRecOn with
  | ind n ih =>
    intro h
    by_cases hx : ∃ i, i < n ∧ p i
    · obtain ⟨i, hi, hp⟩ := hx
      obtain ⟨j, h1, h2, h3⟩ := ih i hi hp
      exact ⟨j, by omega, h2, h3⟩
    · exact ⟨n, Nat.le_refl n, h, fun i hi hp => hx ⟨i, hi, hp⟩⟩
theorem plan_better {surv lost to surv' lost' to' : List Int} {w k w' k' : Nat} (hn : surv.length + lost.length = surv'.length + lost'.length) (hs : surv.length ≤ surv'.length) (hw : w ≤ w') (hk : k' ≤ k) (hk0 : 0 < k') (d : Nat) :
    surv.length + (planAt surv lost to w k d).length ≤ surv'.length + (planAt surv' lost' to' w' k' d).length := by
  induction d with
  | zero => exact hs
  | succ d ih =>
    have h1 := plan_len_le (surv := surv) (lost := lost) (to := to) (width := w) (k := k) d
    have h2 := plan_len_le (surv := surv') (lost := lost') (to := to') (width := w') (k := k') d
    rw [plan_succ_len, plan_succ_len]
    generalize (planAt surv lost to w k d).length = p at *
    generalize (planAt surv' lost' to' w' k' d).length = p' at *
    have h3 : (surv.length + p) * w / k ≤ (surv'.length + p') * w' / k' := Nat.div_le_div (Nat.mul_le_mul ih hw) hk (by omega)
    unfold dayN
    generalize (surv.length + p) * w / k = x at *
    generalize (surv'.length + p') * w' / k' = x' at *
    omega
theorem wider_plan {c c' : CaseP} (hg : GoodC c) (hg' : GoodD c') (hn : (survS c.holders c.lost).length + c.lost.length = (survS c'.holders c'.lost).length + c'.lost.length) (hs : (survS c.holders c.lost).length ≤ (survS c'.holders c'.lost).length)
    (hw : c.width ≤ c'.width) (hk : c'.k ≤ c.k) (hd : c.deadline ≤ c'.deadline) (hB : planB c.holders c.lost c.to c.width c.k c.deadline = true) :
    planB c'.holders c'.lost c'.to c'.width c'.k c'.deadline = true ∧ lastD (planR c'.holders c'.lost c'.to c'.width c'.k c'.deadline) ≤ lastD (planR c.holders c.lost c.to c.width c.k c.deadline) := by
  obtain ⟨hks, hfull⟩ := plan_yes_inv c hg hB
  obtain ⟨j, hj, h1, h2⟩ := least (p := fun j => (planAt (survS c.holders c.lost) c.lost c.to c.width.toNat c.k.toNat j).length = c.lost.length) _ hfull
  have hcd := hg.right.d
  have hk1 := hg'.right.k
  have hle := fun i => plan_len_le (surv := survS c.holders c.lost) (lost := c.lost) (to := c.to) (width := c.width.toNat) (k := c.k.toNat) i
  have hP := (plan_yes c hg hks h1 (by omega)).2
  have hl := plan_last (surv := survS c.holders c.lost) (lost := c.lost) (to := c.to) (width := c.width.toNat) (k := c.k.toNat) h1 fun i hi => by
    have := h2 i hi; have := hle i; omega
  have hb := plan_better (to := c.to) (to' := c'.to) hn hs (show c.width.toNat ≤ c'.width.toNat by omega) (show c'.k.toNat ≤ c.k.toNat by omega) (by omega) j
  have hle' := plan_len_le (surv := survS c'.holders c'.lost) (lost := c'.lost) (to := c'.to) (width := c'.width.toNat) (k := c'.k.toNat) j
  have hf' : (planAt (survS c'.holders c'.lost) c'.lost c'.to c'.width.toNat c'.k.toNat j).length = c'.lost.length := by omega
  obtain ⟨hB', hP'⟩ := plan_yesD c' hg' (fun h0 => by have := hks (by omega); omega) hf' (by omega)
  refine ⟨hB', ?_⟩
  rw [hP, hP', hl]
  exact lastD_le (by omega) fun t ht => (plan_stop j t ht).1
/- one fragment less that is lost -/
def er (l : List Int) (q i : Nat) : List Int := (l.take i).take q ++ (l.take i).drop (q + 1)
theorem er_same {l : List Int} {q : Nat} (h : q < l.length) : er l q (q + 1) = er l q q := by
  unfold er
  have h1 : (l.take (q + 1)).drop (q + 1) = [] := List.drop_eq_nil_of_le (by rw [List.length_take]; omega)
  have h2 : (l.take q).drop (q + 1) = [] := List.drop_eq_nil_of_le (by rw [List.length_take]; omega)
  rw [h1, h2, List.take_take, List.take_take, Nat.min_eq_left (by omega), Nat.min_self]
theorem er_step {l : List Int} {q i : Nat} (h : i < l.length) (hq : i ≠ q) : er l q (i + 1) = er l q i ++ [at' l i] := by
  unfold er
  by_cases hi : i < q
  · have h1 : (l.take (i + 1)).drop (q + 1) = [] := List.drop_eq_nil_of_le (by rw [List.length_take]; omega)
    have h2 : (l.take i).drop (q + 1) = [] := List.drop_eq_nil_of_le (by rw [List.length_take]; omega)
    rw [h1, h2, List.append_nil, List.append_nil, List.take_take, List.take_take, Nat.min_eq_right (by omega), Nat.min_eq_right (by omega), take_at h]
  · rw [take_at h, List.take_append_of_le_length (by rw [List.length_take]; omega), List.drop_append_of_le_length (by rw [List.length_take]; omega), List.append_assoc]
theorem er_all (l : List Int) (q : Nat) : er l q l.length = l.take q ++ l.drop (q + 1) := by unfold er; rw [List.take_length]
theorem er_len {l : List Int} {q : Nat} (h : q < l.length) : (l.take q ++ l.drop (q + 1)).length + 1 = l.length := by
  rw [List.length_append, List.length_take, List.length_drop]; omega
theorem er_mem {l : List Int} {q : Nat} (h : q < l.length) (hn : l.Nodup) {x : Int} : x ∈ l.take q ++ l.drop (q + 1) ↔ x ∈ l ∧ x ≠ at' l q := by
  have hs : l = l.take q ++ at' l q :: l.drop (q + 1) := by
    have e : at' l q = l[q] := by simp [at', h]
    rw [e, ← List.drop_eq_getElem_cons h, List.take_append_drop]
  constructor
  · intro hx
    refine ⟨?_, fun e => ?_⟩
    · rw [hs]
      rcases List.mem_append.1 hx with h1 | h1
      · exact List.mem_append_left _ h1
      · exact List.mem_append_right _ (List.mem_cons_of_mem _ h1)
    · rw [hs, List.nodup_append, List.nodup_cons] at hn
      rcases List.mem_append.1 hx with h1 | h1
      · exact hn.2.2 x h1 (at' l q) (by simp) e
      · exact hn.2.1.1 (e ▸ h1)
  · rintro ⟨h1, h2⟩
    rw [hs] at h1
    rcases List.mem_append.1 h1 with h1 | h1
    · exact List.mem_append_left _ h1
    · rcases List.mem_cons.1 h1 with h1 | h1
      · exact absurd h1 h2
      · exact List.mem_append_right _ h1
theorem er_sub (l : List Int) (q : Nat) : (l.take q ++ l.drop (q + 1)).Sublist l := by
  conv => rhs; rw [← List.take_append_drop q l]
  refine List.Sublist.append (List.Sublist.refl _) ?_
  rw [← List.drop_drop]
  exact List.drop_sublist 1 _
theorem asc_sub {n : Int} {l m : List Int} (h : ascTo n l l.length) (hs : m.Sublist l) : ascTo n m m.length := by
  have hp : l.Pairwise (· < ·) := by
    rw [List.pairwise_iff_getElem]
    intro i j hi hj hij
    have := asc_lt h hij hj
    have e1 : at' l i = l[i] := by simp [at', hi]
    have e2 : at' l j = l[j] := by simp [at', hj]
    omega
  have hp2 := hp.sublist hs
  intro j hj
  refine ⟨asc_in h _ (hs.subset (at_mem hj)), fun h0 => ?_⟩
  have := List.pairwise_iff_getElem.1 hp2 (j - 1) j (by omega) hj (by omega)
  have e1 : at' m (j - 1) = m[j - 1] := by unfold at'; rw [List.getD_eq_getElem?_getD, List.getElem?_eq_getElem (by omega)]; rfl
  have e2 : at' m j = m[j] := by simp [at', hj]
  rw [e1, e2]; exact this
def repl (x y p : Int) : Int := if p = x then y else p
theorem less_good {holders lost to : List Int} {width k deadline : Int} (hg : GoodC ⟨holders, lost, to, width, k, deadline⟩) {q : Nat} (hq : q < lost.length) {x : Int} (hx : x = at' holders (at' lost q).toNat) :
    GoodD ⟨holders, lost.take q ++ lost.drop (q + 1), (to.take q ++ to.drop (q + 1)).map (repl x (at' to q)), width, k, deadline⟩ := by
  have hr := hg.right
  have htl := hg.len
  dsimp only at hr htl
  have hqt : q < to.length := by omega
  have hnd := hg.cu.1
  dsimp only at hnd
  have hlb := asc_in hr.asc _ (at_mem hq)
  have hsv : ∀ c, c ∈ survS holders (lost.take q ++ lost.drop (q + 1)) → c ∈ survS holders lost ∨ c = x := fun c hc => by
    unfold survS at hc ⊢
    obtain ⟨i, hi, rfl⟩ := List.mem_map.1 hc
    rw [List.mem_filter, List.mem_range] at hi
    have hi2 : (i : Int) ∉ lost.take q ++ lost.drop (q + 1) := by simpa using hi.2
    by_cases hin : (i : Int) ∈ lost
    · right
      have : (i : Int) = at' lost q := by
        by_cases e : (i : Int) = at' lost q
        · exact e
        · exact absurd ((er_mem hq (asc_nodup hr.asc)).2 ⟨hin, e⟩) hi2
      rw [hx, ← this]; rfl
    · left
      exact List.mem_map.2 ⟨i, List.mem_filter.2 ⟨List.mem_range.2 hi.1, decide_eq_true hin⟩, rfl⟩
  refine ⟨⟨hr.cu, hr.pos, hr.n9, hr.w, hr.k, hr.d, asc_sub hr.asc (er_sub lost q)⟩, ?_, ⟨?_, fun p hp => ?_⟩, fun p hp hs => ?_⟩
  · have h1 := er_len hq
    have h2 := er_len hqt
    show ((to.take q ++ to.drop (q + 1)).map _).length = (lost.take q ++ lost.drop (q + 1)).length
    rw [List.length_map]; omega
  · show ((to.take q ++ to.drop (q + 1)).map (repl x (at' to q))).Nodup
    rw [List.nodup_iff_pairwise_ne, List.pairwise_map]
    have h1 := (er_sub to q).nodup hnd
    rw [List.nodup_iff_pairwise_ne] at h1
    refine h1.imp_of_mem fun {a b} ha hb hne e => ?_
    have ha2 := ((er_mem hqt hnd).1 ha).2
    have hb2 := ((er_mem hqt hnd).1 hb).2
    unfold repl at e
    split at e <;> split at e <;> omega
  · obtain ⟨p0, h0, rfl⟩ := List.mem_map.1 hp
    have h1 := (er_mem hqt hnd).1 h0
    unfold repl
    split
    · exact hg.cu.2 _ (at_mem hqt)
    · exact hg.cu.2 _ h1.1
  · obtain ⟨p0, h0, rfl⟩ := List.mem_map.1 hp
    have h1 := (er_mem hqt hnd).1 h0
    unfold repl at hs
    split at hs
    · rename_i e
      rcases hsv _ hs with h2 | h2
      · exact hg.off _ (at_mem hqt) h2
      · exact h1.2 (e.trans h2.symm)
    · rename_i e
      rcases hsv _ hs with h2 | h2
      · exact hg.off _ h1.1 h2
      · exact e h2
theorem HC.capOf {P : Program} {r : Option Nat} {N : Nat} {ds : List Deferred} {Q : Post} {E : Env} {w0 : World} {H : List Atom} {e : TypeId} {sz c n : Nat} {a : Option Addr} {xs : List Value} {co : Code} (hm : A.grow e sz a c n xs ∈ H) (h : n ≤ c → HC P r N ds co Q E w0 H) : HC P r N ds co Q E w0 H := fun w hM => by
  refine h ?_ w hM
  rcases (hM.own hm).2 with ⟨-, h0⟩ | ⟨g, cap, cur, hv, -, -, hnc, -⟩
  · omega
  · cases hv; exact hnc
theorem POp.cut_lc {P : Program} {N : Nat} {ds : List Deferred} {E : Env} {t ty : TypeId} {x lo : Operand} {k' : IntKind} {e : TypeId} {b off l c m : Nat} {z : Value} {sz bb : Nat} [h : UTy P t (.slice e)] [hi' : ITy P e z sz bb] (hx : Env.ev E x = some (.slice (some ⟨b, off, none⟩) l c)) (hl : Env.ev E lo = some (.int k' (m : Int))) (h1 : m ≤ l) (h2 : l ≤ c) :
    POp P N ds E (.slice t x (some lo) none none) ty (.slice (some (if m < c then ⟨b, off + m * sz, none⟩ else ⟨b, off, none⟩)) (l - m) (c - m)) := by
  by_cases hm : m < c
  · rw [if_pos hm]
    have := POp.cut_l (P := P) (N := N) (ds := ds) (t := t) (ty := ty) (e := e) hx hl (by omega) (by omega) (by omega)
    rwa [Int.toNat_natCast] at this
  · obtain rfl : m = l := by omega
    obtain rfl : m = c := by omega
    rw [if_neg hm, Nat.sub_self]
    exact POp.cut_le (e := e) hx hl
attribute [local irreducible] WC WL WX POp Then Again Fn NX W1 WA WO QL RP RA Yld LoopAt HC HL HX HN H1 HA HO HQ HB HP A.blk A.grow A.rd A.obj A.mp AgainH CutH
attribute [local irreducible] A.all A.ts
set_option maxHeartbeats 2000000 in
theorem repairWider_fn (x0 x1 x2 x3 : Int) (h0 : i64B x0) (h1 : i64B x1) (h2 : i64B x2) (h3 : i64B x3) (v : Value) (order : List Int) (hob : ∀ x ∈ order, i64B x) (what by_ : Int) (hwb : i64B what) (hbb : i64B by_) (w : World) (hR : Rd w v (ints order)) :
    Fn Try.prog 8 #[.agg #[.int .i64 x0, .int .i64 x1, .int .i64 x2, .int .i64 x3], v, .int .i64 what, .int .i64 by_] w fun u w' => u = .bool true ∧ Ext w w' := by
  refine enterH (l := [_, _, _, _]) rfl Try.ntmps8 rfl ?_
  repeat' (first
    | apply HL.fold
    | apply HA.fold
    | apply HL.nil
    | apply HX.n_then
    | apply HC.seq
    | apply HC.region
    | refine HL.pa ?_
    | refine HL.ga rfl ?_
    | refine HL.na rfl ?_
    | refine HL.nu rfl rfl ?_
    | apply HC.block
    | apply HC.skip
    | apply HC.exit
    | apply HC.ret
    | apply HX.e_block
    | refine HX.e_other rfl ?_
    | apply HX.e_then
    | apply HX.e_again
    | apply HX.n_block
    | apply HX.r_then
    | apply HX.r_block
    | apply HX.r_again
    | refine HC.cond_yes rfl ?_
    | refine HC.cond_no rfl ?_
    | refine HL.one (H1.ldb rfl (by first | ((repeat (first | with_reducible exact mem_hd | with_reducible apply mem_tl)); done) | (repeat (first | exact List.Mem.head _ | apply List.Mem.tail))) rfl rfl ?_)
    | refine HC.cond rfl (fun hc => ?_) (fun hc => ?_)
    | refine HC.cond_b rfl (fun hc => ?_) (fun hc => ?_))
  refine HL.one (H1.boxAgg (cs := [.int .i64 x0, .int .i64 x1, .int .i64 x2, .int .i64 x3]) rfl rfl (fun b2 => ?_))
  repeat' (first
    | apply HL.fold
    | apply HA.fold
    | apply HL.nil
    | apply HX.n_then
    | apply HC.seq
    | apply HC.region
    | refine HL.pa ?_
    | refine HL.ga rfl ?_
    | refine HL.na rfl ?_
    | refine HL.nu rfl rfl ?_
    | apply HC.block
    | apply HC.skip
    | apply HC.exit
    | apply HC.ret
    | apply HX.e_block
    | refine HX.e_other rfl ?_
    | apply HX.e_then
    | apply HX.e_again
    | apply HX.n_block
    | apply HX.r_then
    | apply HX.r_block
    | apply HX.r_again
    | refine HC.cond_yes rfl ?_
    | refine HC.cond_no rfl ?_
    | refine HL.one (H1.ldb rfl (by first | ((repeat (first | with_reducible exact mem_hd | with_reducible apply mem_tl)); done) | (repeat (first | exact List.Mem.head _ | apply List.Mem.tail))) rfl rfl ?_)
    | refine HC.cond rfl (fun hc => ?_) (fun hc => ?_)
    | refine HC.cond_b rfl (fun hc => ?_) (fun hc => ?_))
  refine HL.one (H1.callx (vs := []) rfl rfl (fun w' _ => sane_fn w') ?_)
  repeat' (first
    | apply HL.fold
    | apply HA.fold
    | apply HL.nil
    | apply HX.n_then
    | apply HC.seq
    | apply HC.region
    | refine HL.pa ?_
    | refine HL.ga rfl ?_
    | refine HL.na rfl ?_
    | refine HL.nu rfl rfl ?_
    | apply HC.block
    | apply HC.skip
    | apply HC.exit
    | apply HC.ret
    | apply HX.e_block
    | refine HX.e_other rfl ?_
    | apply HX.e_then
    | apply HX.e_again
    | apply HX.n_block
    | apply HX.r_then
    | apply HX.r_block
    | apply HX.r_again
    | refine HC.cond_yes rfl ?_
    | refine HC.cond_no rfl ?_
    | refine HL.one (H1.ldb rfl (by first | ((repeat (first | with_reducible exact mem_hd | with_reducible apply mem_tl)); done) | (repeat (first | exact List.Mem.head _ | apply List.Mem.tail))) rfl rfl ?_)
    | refine HC.cond rfl (fun hc => ?_) (fun hc => ?_)
    | refine HC.cond_b rfl (fun hc => ?_) (fun hc => ?_))
  refine HL.one (H1.ldAgg (vs := [.int .i64 x0, .int .i64 x1, .int .i64 x2, .int .i64 x3]) rfl (by first | ((repeat (first | with_reducible exact mem_hd | with_reducible apply mem_tl)); done) | (repeat (first | exact List.Mem.head _ | apply List.Mem.tail))) rfl (fun i v hv => by rw [show 0 + i = i from Nat.zero_add i]; exact hv) rfl ?_)
  repeat' (first
    | apply HL.fold
    | apply HA.fold
    | apply HL.nil
    | apply HX.n_then
    | apply HC.seq
    | apply HC.region
    | refine HL.pa ?_
    | refine HL.ga rfl ?_
    | refine HL.na rfl ?_
    | refine HL.nu rfl rfl ?_
    | apply HC.block
    | apply HC.skip
    | apply HC.exit
    | apply HC.ret
    | apply HX.e_block
    | refine HX.e_other rfl ?_
    | apply HX.e_then
    | apply HX.e_again
    | apply HX.n_block
    | apply HX.r_then
    | apply HX.r_block
    | apply HX.r_again
    | refine HC.cond_yes rfl ?_
    | refine HC.cond_no rfl ?_
    | refine HL.one (H1.ldb rfl (by first | ((repeat (first | with_reducible exact mem_hd | with_reducible apply mem_tl)); done) | (repeat (first | exact List.Mem.head _ | apply List.Mem.tail))) rfl rfl ?_)
    | refine HC.cond rfl (fun hc => ?_) (fun hc => ?_)
    | refine HC.cond_b rfl (fun hc => ?_) (fun hc => ?_))
  refine HL.one (H1.callz (vs := [.agg #[.int .i64 x0, .int .i64 x1, .int .i64 x2, .int .i64 x3], v]) rfl rfl (fun w' hM => make_fn x0 x1 x2 x3 h0 h1 h2 h3 v order hob w' (hM.rd0 hR)) ?_)
  rintro ⟨⟨holders, lost, to, width, k, deadline⟩, ⟨ah, ch⟩, ⟨al, cl⟩, ⟨at_, ct⟩⟩ hg
  dsimp only [List.cons_append, List.nil_append] at hg ⊢
  have hr := hg.right
  have hn9 := hr.n9
  have hl9 := asc_len hr.asc
  have htl := hg.len
  have hsc := surv_count hr.asc
  have hcw := hr.w
  have hck := hr.k
  have hcd := hr.d
  dsimp only at hr hn9 hl9 htl hsc hcw hck hcd
  obtain ⟨wd, rfl⟩ : ∃ n : Nat, width = (n : Int) := ⟨width.toNat, by omega⟩
  obtain ⟨kk, rfl⟩ : ∃ n : Nat, k = (n : Int) := ⟨k.toNat, by omega⟩
  obtain ⟨dl, rfl⟩ : ∃ n : Nat, deadline = (n : Int) := ⟨deadline.toNat, by omega⟩
  simp only [caseV]
  repeat' (first
    | apply HL.fold
    | apply HA.fold
    | apply HL.nil
    | apply HX.n_then
    | apply HC.seq
    | apply HC.region
    | refine HL.pa ?_
    | refine HL.ga rfl ?_
    | refine HL.na rfl ?_
    | refine HL.nu rfl rfl ?_
    | apply HC.block
    | apply HC.skip
    | apply HC.exit
    | apply HC.ret
    | apply HX.e_block
    | refine HX.e_other rfl ?_
    | apply HX.e_then
    | apply HX.e_again
    | apply HX.n_block
    | apply HX.r_then
    | apply HX.r_block
    | apply HX.r_again
    | refine HC.cond_yes rfl ?_
    | refine HC.cond_no rfl ?_
    | refine HL.one (H1.ldb rfl (by first | ((repeat (first | with_reducible exact mem_hd | with_reducible apply mem_tl)); done) | (repeat (first | exact List.Mem.head _ | apply List.Mem.tail))) rfl rfl ?_)
    | refine HC.cond rfl (fun hc => ?_) (fun hc => ?_)
    | refine HC.cond_b rfl (fun hc => ?_) (fun hc => ?_))
  refine HL.one (H1.alloc (cs := [.slice none 0 0, .slice none 0 0, .slice none 0 0, .int .i64 0, .int .i64 0, .int .i64 0]) rfl rfl (fun b10 => ?_))
  repeat' (first
    | apply HL.fold
    | apply HA.fold
    | apply HL.nil
    | apply HX.n_then
    | apply HC.seq
    | apply HC.region
    | refine HL.pa ?_
    | refine HL.ga rfl ?_
    | refine HL.na rfl ?_
    | refine HL.nu rfl rfl ?_
    | apply HC.block
    | apply HC.skip
    | apply HC.exit
    | apply HC.ret
    | apply HX.e_block
    | refine HX.e_other rfl ?_
    | apply HX.e_then
    | apply HX.e_again
    | apply HX.n_block
    | apply HX.r_then
    | apply HX.r_block
    | apply HX.r_again
    | refine HC.cond_yes rfl ?_
    | refine HC.cond_no rfl ?_
    | refine HL.one (H1.ldb rfl (by first | ((repeat (first | with_reducible exact mem_hd | with_reducible apply mem_tl)); done) | (repeat (first | exact List.Mem.head _ | apply List.Mem.tail))) rfl rfl ?_)
    | refine HC.cond rfl (fun hc => ?_) (fun hc => ?_)
    | refine HC.cond_b rfl (fun hc => ?_) (fun hc => ?_))
  refine HL.one (H1.stAgg (cs := [.slice none 0 0, .slice none 0 0, .slice none 0 0, .int .i64 0, .int .i64 0, .int .i64 0]) (vs := caseV ⟨holders, lost, to, (wd : Int), (kk : Int), (dl : Int)⟩ (ah, ch) (al, cl) (at_, ct)) rfl rfl rfl (by unfold caseV; intro v hv; simp only [List.mem_cons, List.not_mem_nil, or_false] at hv; rcases hv with rfl | rfl | rfl | rfl | rfl | rfl <;> rfl) (by first | ((repeat (first | with_reducible exact Rpl.here | with_reducible apply Rpl.there)); done) | (repeat (first | exact Rpl.here | apply Rpl.there))) rfl ?_)
  repeat' (first
    | apply HL.fold
    | apply HA.fold
    | apply HL.nil
    | apply HX.n_then
    | apply HC.seq
    | apply HC.region
    | refine HL.pa ?_
    | refine HL.ga rfl ?_
    | refine HL.na rfl ?_
    | refine HL.nu rfl rfl ?_
    | apply HC.block
    | apply HC.skip
    | apply HC.exit
    | apply HC.ret
    | apply HX.e_block
    | refine HX.e_other rfl ?_
    | apply HX.e_then
    | apply HX.e_again
    | apply HX.n_block
    | apply HX.r_then
    | apply HX.r_block
    | apply HX.r_again
    | refine HC.cond_yes rfl ?_
    | refine HC.cond_no rfl ?_
    | refine HL.one (H1.ldb rfl (by first | ((repeat (first | with_reducible exact mem_hd | with_reducible apply mem_tl)); done) | (repeat (first | exact List.Mem.head _ | apply List.Mem.tail))) rfl rfl ?_)
    | refine HC.cond rfl (fun hc => ?_) (fun hc => ?_)
    | refine HC.cond_b rfl (fun hc => ?_) (fun hc => ?_))
  refine HL.one (H1.ldAgg (vs := caseV ⟨holders, lost, to, (wd : Int), (kk : Int), (dl : Int)⟩ (ah, ch) (al, cl) (at_, ct)) rfl (by first | ((repeat (first | with_reducible exact mem_hd | with_reducible apply mem_tl)); done) | (repeat (first | exact List.Mem.head _ | apply List.Mem.tail))) rfl (fun i v hv => by rw [show 0 + i = i from Nat.zero_add i]; exact hv) rfl ?_)
  repeat' (first
    | apply HL.fold
    | apply HA.fold
    | apply HL.nil
    | apply HX.n_then
    | apply HC.seq
    | apply HC.region
    | refine HL.pa ?_
    | refine HL.ga rfl ?_
    | refine HL.na rfl ?_
    | refine HL.nu rfl rfl ?_
    | apply HC.block
    | apply HC.skip
    | apply HC.exit
    | apply HC.ret
    | apply HX.e_block
    | refine HX.e_other rfl ?_
    | apply HX.e_then
    | apply HX.e_again
    | apply HX.n_block
    | apply HX.r_then
    | apply HX.r_block
    | apply HX.r_again
    | refine HC.cond_yes rfl ?_
    | refine HC.cond_no rfl ?_
    | refine HL.one (H1.ldb rfl (by first | ((repeat (first | with_reducible exact mem_hd | with_reducible apply mem_tl)); done) | (repeat (first | exact List.Mem.head _ | apply List.Mem.tail))) rfl rfl ?_)
    | refine HC.cond rfl (fun hc => ?_) (fun hc => ?_)
    | refine HC.cond_b rfl (fun hc => ?_) (fun hc => ?_))
  refine HL.one (H1.callz1 (An := fun z : List (Option Addr × Nat) × Option Addr × Nat => A.ts z.2.1 z.2.2 (planR holders lost to (wd : Int) (kk : Int) (dl : Int)) z.1) (vs := [.agg (caseV ⟨holders, lost, to, (wd : Int), (kk : Int), (dl : Int)⟩ (ah, ch) (al, cl) (at_, ct)).toArray]) rfl rfl (fun w' hM => planW_fn ⟨holders, lost, to, (wd : Int), (kk : Int), (dl : Int)⟩ (ah, ch) (al, cl) (at_, ct) (by dsimp only; omega) (by dsimp only; omega) (by dsimp only; omega) w' (hM.gr (by first | ((repeat (first | with_reducible exact mem_hd | with_reducible apply mem_tl)); done) | (repeat (first | exact List.Mem.head _ | apply List.Mem.tail)))) (hM.gr (by first | ((repeat (first | with_reducible exact mem_hd | with_reducible apply mem_tl)); done) | (repeat (first | exact List.Mem.head _ | apply List.Mem.tail)))) (hM.gr (by first | ((repeat (first | with_reducible exact mem_hd | with_reducible apply mem_tl)); done) | (repeat (first | exact List.Mem.head _ | apply List.Mem.tail))))) ?_)
  rintro ⟨zs, aP, cP⟩ hz
  dsimp only at hz ⊢
  simp only [caseV]
  have hcd7 : dl ≤ 7 := by have := hg.d7; dsimp only at this; omega
  have hgd := hg.d
  repeat' (first
    | apply HL.fold
    | apply HA.fold
    | apply HL.nil
    | apply HX.n_then
    | apply HC.seq
    | apply HC.region
    | refine HL.pa ?_
    | refine HL.ga rfl ?_
    | refine HL.na rfl ?_
    | refine HL.nu rfl rfl ?_
    | apply HC.block
    | apply HC.skip
    | apply HC.exit
    | apply HC.ret
    | apply HX.e_block
    | refine HX.e_other rfl ?_
    | apply HX.e_then
    | apply HX.e_again
    | apply HX.n_block
    | apply HX.r_then
    | apply HX.r_block
    | apply HX.r_again
    | refine HC.cond_yes rfl ?_
    | refine HC.cond_no rfl ?_
    | refine HL.one (H1.ldb rfl (by first | ((repeat (first | with_reducible exact mem_hd | with_reducible apply mem_tl)); done) | (repeat (first | exact List.Mem.head _ | apply List.Mem.tail))) rfl rfl ?_)
    | refine HC.cond rfl (fun hc => ?_) (fun hc => ?_)
    | refine HC.cond_b rfl (fun hc => ?_) (fun hc => ?_))
  refine HL.one (H1.ldAgg (vs := [.slice ah holders.length ch, .slice al lost.length cl, .slice at_ to.length ct, .int .i64 (wd : Int), .int .i64 (kk : Int), .int .i64 (dl : Int)]) rfl (by first | ((repeat (first | with_reducible exact mem_hd | with_reducible apply mem_tl)); done) | (repeat (first | exact List.Mem.head _ | apply List.Mem.tail))) rfl (fun i v hv => by rw [show 0 + i = i from Nat.zero_add i]; exact hv) rfl ?_)
  repeat' (first
    | apply HL.fold
    | apply HA.fold
    | apply HL.nil
    | apply HX.n_then
    | apply HC.seq
    | apply HC.region
    | refine HL.pa ?_
    | refine HL.ga rfl ?_
    | refine HL.na rfl ?_
    | refine HL.nu rfl rfl ?_
    | apply HC.block
    | apply HC.skip
    | apply HC.exit
    | apply HC.ret
    | apply HX.e_block
    | refine HX.e_other rfl ?_
    | apply HX.e_then
    | apply HX.e_again
    | apply HX.n_block
    | apply HX.r_then
    | apply HX.r_block
    | apply HX.r_again
    | refine HC.cond_yes rfl ?_
    | refine HC.cond_no rfl ?_
    | refine HL.one (H1.ldb rfl (by first | ((repeat (first | with_reducible exact mem_hd | with_reducible apply mem_tl)); done) | (repeat (first | exact List.Mem.head _ | apply List.Mem.tail))) rfl rfl ?_)
    | refine HC.cond rfl (fun hc => ?_) (fun hc => ?_)
    | refine HC.cond_b rfl (fun hc => ?_) (fun hc => ?_))
  refine HL.one (H1.alloc (cs := [.slice none 0 0, .slice none 0 0, .slice none 0 0, .int .i64 0, .int .i64 0, .int .i64 0]) rfl rfl (fun b13 => ?_))
  repeat' (first
    | apply HL.fold
    | apply HA.fold
    | apply HL.nil
    | apply HX.n_then
    | apply HC.seq
    | apply HC.region
    | refine HL.pa ?_
    | refine HL.ga rfl ?_
    | refine HL.na rfl ?_
    | refine HL.nu rfl rfl ?_
    | apply HC.block
    | apply HC.skip
    | apply HC.exit
    | apply HC.ret
    | apply HX.e_block
    | refine HX.e_other rfl ?_
    | apply HX.e_then
    | apply HX.e_again
    | apply HX.n_block
    | apply HX.r_then
    | apply HX.r_block
    | apply HX.r_again
    | refine HC.cond_yes rfl ?_
    | refine HC.cond_no rfl ?_
    | refine HL.one (H1.ldb rfl (by first | ((repeat (first | with_reducible exact mem_hd | with_reducible apply mem_tl)); done) | (repeat (first | exact List.Mem.head _ | apply List.Mem.tail))) rfl rfl ?_)
    | refine HC.cond rfl (fun hc => ?_) (fun hc => ?_)
    | refine HC.cond_b rfl (fun hc => ?_) (fun hc => ?_))
  refine HL.one (H1.stAgg (cs := [.slice none 0 0, .slice none 0 0, .slice none 0 0, .int .i64 0, .int .i64 0, .int .i64 0]) (vs := [.slice ah holders.length ch, .slice al lost.length cl, .slice at_ to.length ct, .int .i64 (wd : Int), .int .i64 (kk : Int), .int .i64 (dl : Int)]) rfl rfl rfl (by intro v hv; simp only [List.mem_cons, List.not_mem_nil, or_false] at hv; rcases hv with rfl | rfl | rfl | rfl | rfl | rfl <;> rfl) (by first | ((repeat (first | with_reducible exact Rpl.here | with_reducible apply Rpl.there)); done) | (repeat (first | exact Rpl.here | apply Rpl.there))) rfl ?_)
  repeat' (first
    | apply HL.fold
    | apply HA.fold
    | apply HL.nil
    | apply HX.n_then
    | apply HC.seq
    | apply HC.region
    | refine HL.pa ?_
    | refine HL.ga rfl ?_
    | refine HL.na rfl ?_
    | refine HL.nu rfl rfl ?_
    | apply HC.block
    | apply HC.skip
    | apply HC.exit
    | apply HC.ret
    | apply HX.e_block
    | refine HX.e_other rfl ?_
    | apply HX.e_then
    | apply HX.e_again
    | apply HX.n_block
    | apply HX.r_then
    | apply HX.r_block
    | apply HX.r_again
    | refine HC.cond_yes rfl ?_
    | refine HC.cond_no rfl ?_
    | refine HL.one (H1.ldb rfl (by first | ((repeat (first | with_reducible exact mem_hd | with_reducible apply mem_tl)); done) | (repeat (first | exact List.Mem.head _ | apply List.Mem.tail))) rfl rfl ?_)
    | refine HC.cond rfl (fun hc => ?_) (fun hc => ?_)
    | refine HC.cond_b rfl (fun hc => ?_) (fun hc => ?_))
  refine HL.one (H1.call0 rfl rfl (fun w _ => pick_fn what 4 hwb.1 hwb.2 (by decide) w) ?_)
  obtain ⟨wn, ew, hwn⟩ := pick_nat what (n := 4) (by decide)
  rw [show pickI what 4 = (wn : Int) from ew]
  repeat' (first
    | apply HL.fold
    | apply HA.fold
    | apply HL.nil
    | apply HX.n_then
    | apply HC.seq
    | apply HC.region
    | refine HL.pa ?_
    | refine HL.ga rfl ?_
    | refine HL.na rfl ?_
    | refine HL.nu rfl rfl ?_
    | apply HC.skip
    | apply HC.exit
    | apply HC.ret
    | apply HX.e_block
    | refine HX.e_other rfl ?_
    | apply HX.e_then
    | apply HX.e_again
    | apply HX.n_block
    | apply HX.r_then
    | apply HX.r_block
    | apply HX.r_again
    | refine HC.cond_yes rfl ?_
    | refine HC.cond_no rfl ?_
    | refine HL.one (H1.ldb rfl (by first | ((repeat (first | with_reducible exact mem_hd | with_reducible apply mem_tl)); done) | (repeat (first | exact List.Mem.head _ | apply List.Mem.tail))) rfl rfl ?_)
    | refine HC.cond rfl (fun hc => ?_) (fun hc => ?_)
    | refine HC.cond_b rfl (fun hc => ?_) (fun hc => ?_))
  refine HC.cut (α := CaseP × (Option Addr × Nat) × (Option Addr × Nat) × (Option Addr × Nat)) (fun _ => [(9, .bool true), (11, .slice aP (planR holders lost to (wd : Int) (kk : Int) (dl : Int)).length cP), (12, .int .i64 (if planB holders lost to (wd : Int) (kk : Int) (dl : Int) = true then 0 else 190)), (13, .pointer (some ⟨b13, 0, none⟩))])
    (fun z => [A.ts aP cP (planR holders lost to (wd : Int) (kk : Int) (dl : Int)) zs, A.blk b13 (caseV z.1 z.2.1 z.2.2.1 z.2.2.2) 28, A.grow 3 1 z.2.1.1 z.2.1.2 z.1.holders.length (ints z.1.holders), A.grow 3 1 z.2.2.1.1 z.2.2.1.2 z.1.lost.length (ints z.1.lost), A.grow 3 1 z.2.2.2.1 z.2.2.2.2 z.1.to.length (ints z.1.to)])
    (fun z => GoodD z.1 ∧ (planB holders lost to (wd : Int) (kk : Int) (dl : Int) = true → planB z.1.holders z.1.lost z.1.to z.1.width z.1.k z.1.deadline = true ∧ lastD (planR z.1.holders z.1.lost z.1.to z.1.width z.1.k z.1.deadline) ≤ lastD (planR holders lost to (wd : Int) (kk : Int) (dl : Int)))) ?_ ?_
  · obtain ⟨pn, ep, hpn⟩ := pick_nat by_ (n := 4) (by decide)
    have hw4 : wn = 0 ∨ wn = 1 ∨ wn = 2 ∨ wn = 3 := by omega
    rcases hw4 with rfl | rfl | rfl | rfl
    · have hg2 : GoodD ⟨holders, lost, to, min 9 ((wd : Int) + (pn : Int)), (kk : Int), (dl : Int)⟩ := ⟨⟨hr.cu, hr.pos, hr.n9, by dsimp only; omega, hr.k, hr.d, hr.asc⟩, hgd.len, hgd.cu, hgd.off⟩
      repeat' (first
        | apply HL.fold
        | apply HA.fold
        | apply HL.nil
        | apply HX.n_then
        | apply HC.seq
        | apply HC.region
        | refine HL.pa ?_
        | refine HL.ga rfl ?_
        | refine HL.na rfl ?_
        | refine HL.nu rfl rfl ?_
        | apply HC.block
        | apply HC.skip
        | apply HC.exit
        | apply HC.ret
        | apply HX.e_block
        | refine HX.e_other rfl ?_
        | apply HX.e_then
        | apply HX.e_again
        | apply HX.n_block
        | apply HX.r_then
        | apply HX.r_block
        | apply HX.r_again
        | refine HC.cond_yes rfl ?_
        | refine HC.cond_no rfl ?_
        | refine HL.one (H1.ldb rfl (by first | ((repeat (first | with_reducible exact mem_hd | with_reducible apply mem_tl)); done) | (repeat (first | exact List.Mem.head _ | apply List.Mem.tail))) rfl rfl ?_)
        | refine HC.cond rfl (fun hc => ?_) (fun hc => ?_)
        | refine HC.cond_b rfl (fun hc => ?_) (fun hc => ?_))
      refine HC.anyC ([(⟨b10, 3, none⟩, .int .i64 (wd : Int))]) rfl ?_
      refine HB.pa 0 rfl ?_
      refine HB.ld 1 rfl rfl (by repeat (first | exact List.Mem.head _ | apply List.Mem.tail)) ?_
      refine HB.pa 2 rfl ?_
      refine HB.all (by repeat (first | exact Keep.nil | refine Keep.blk (by (repeat (first | exact List.Mem.head _ | apply List.Mem.tail)); done) rfl ?_ | refine Keep.grow (by (repeat (first | exact List.Mem.head _ | apply List.Mem.tail)); done) (by assumption) ?_ | refine Keep.base (by assumption) ?_)) [3] (by kernel_rfl) rfl ⟨⟨_, rfl, ?_⟩, trivial⟩
      refine HP.one ?_
      refine H1.call0 rfl rfl (fun w _ => pick_fn by_ 4 hbb.1 hbb.2 (by decide) w) ?_
      rw [show pickI by_ 4 = (pn : Int) from ep]
      apply HB.fold
      refine HB.pa 4 rfl ?_
      refine HB.pa 5 rfl ?_
      refine HB.pa 6 rfl ?_
      refine HB.all (by repeat (first | exact Keep.nil | refine Keep.blk (by (repeat (first | exact List.Mem.head _ | apply List.Mem.tail)); done) rfl ?_ | refine Keep.grow (by (repeat (first | exact List.Mem.head _ | apply List.Mem.tail)); done) (by assumption) ?_ | refine Keep.base (by assumption) ?_)) [7] (by kernel_rfl) rfl ⟨⟨_, rfl, ?_⟩, trivial⟩
      refine HP.one ?_
      refine H1.st rfl rfl (by intro _ h; cases h) (by intro _ h; cases h) (by first | ((repeat (first | with_reducible exact Rpl.here | with_reducible apply Rpl.there)); done) | (repeat (first | exact Rpl.here | apply Rpl.there))) (by show 3 < 6; decide) ?_
      apply HB.fold
      refine HB.done (by repeat (first | exact Keep.nil | refine Keep.blk (by (repeat (first | exact List.Mem.head _ | apply List.Mem.tail)); done) rfl ?_ | refine Keep.grow (by (repeat (first | exact List.Mem.head _ | apply List.Mem.tail)); done) (by assumption) ?_ | refine Keep.base (by assumption) ?_)) (by kernel_rfl) ?_
      repeat' (first
        | apply HL.fold
        | apply HA.fold
        | apply HL.nil
        | apply HX.n_then
        | apply HC.seq
        | apply HC.region
        | refine HL.pa ?_
        | refine HL.ga rfl ?_
        | refine HL.na rfl ?_
        | refine HL.nu rfl rfl ?_
        | apply HC.block
        | apply HC.skip
        | apply HC.exit
        | apply HC.ret
        | apply HX.e_block
        | refine HX.e_other rfl ?_
        | apply HX.e_then
        | apply HX.e_again
        | apply HX.n_block
        | apply HX.r_then
        | apply HX.r_block
        | apply HX.r_again
        | refine HC.cond_yes rfl ?_
        | refine HC.cond_no rfl ?_
        | refine HL.one (H1.ldb rfl (by first | ((repeat (first | with_reducible exact mem_hd | with_reducible apply mem_tl)); done) | (repeat (first | exact List.Mem.head _ | apply List.Mem.tail))) rfl rfl ?_)
        | refine HC.cond rfl (fun hc => ?_) (fun hc => ?_)
        | refine HC.cond_b rfl (fun hc => ?_) (fun hc => ?_))
      exact HX.cut (⟨holders, lost, to, min 9 ((wd : Int) + (pn : Int)), (kk : Int), (dl : Int)⟩, (ah, ch), (al, cl), (at_, ct)) ⟨hg2, fun hB => wider_plan hg hg2 rfl (Nat.le_refl _) (by dsimp only; omega) (Int.le_refl _) (Int.le_refl _) hB⟩ (by repeat (first | exact trivial | refine ⟨rfl, ?_⟩)) (by repeat (first | exact Hs.nil _ | (refine Hs.cons (by first | ((repeat (first | with_reducible exact Pick.here | with_reducible apply Pick.there)); done) | (repeat (first | exact Pick.here | apply Pick.there))) ?_)))
    · have hg2 : GoodD ⟨holders, lost, to, (wd : Int), max 1 ((kk : Int) - (pn : Int)), (dl : Int)⟩ := ⟨⟨hr.cu, hr.pos, hr.n9, hr.w, by dsimp only; omega, hr.d, hr.asc⟩, hgd.len, hgd.cu, hgd.off⟩
      repeat' (first
        | apply HL.fold
        | apply HA.fold
        | apply HL.nil
        | apply HX.n_then
        | apply HC.seq
        | apply HC.region
        | refine HL.pa ?_
        | refine HL.ga rfl ?_
        | refine HL.na rfl ?_
        | refine HL.nu rfl rfl ?_
        | apply HC.block
        | apply HC.skip
        | apply HC.exit
        | apply HC.ret
        | apply HX.e_block
        | refine HX.e_other rfl ?_
        | apply HX.e_then
        | apply HX.e_again
        | apply HX.n_block
        | apply HX.r_then
        | apply HX.r_block
        | apply HX.r_again
        | refine HC.cond_yes rfl ?_
        | refine HC.cond_no rfl ?_
        | refine HL.one (H1.ldb rfl (by first | ((repeat (first | with_reducible exact mem_hd | with_reducible apply mem_tl)); done) | (repeat (first | exact List.Mem.head _ | apply List.Mem.tail))) rfl rfl ?_)
        | refine HC.cond rfl (fun hc => ?_) (fun hc => ?_)
        | refine HC.cond_b rfl (fun hc => ?_) (fun hc => ?_))
      refine HC.anyC ([(⟨b10, 4, none⟩, .int .i64 (kk : Int))]) rfl ?_
      refine HB.pa 0 rfl ?_
      refine HB.ld 1 rfl rfl (by repeat (first | exact List.Mem.head _ | apply List.Mem.tail)) ?_
      refine HB.pa 2 rfl ?_
      refine HB.all (by repeat (first | exact Keep.nil | refine Keep.blk (by (repeat (first | exact List.Mem.head _ | apply List.Mem.tail)); done) rfl ?_ | refine Keep.grow (by (repeat (first | exact List.Mem.head _ | apply List.Mem.tail)); done) (by assumption) ?_ | refine Keep.base (by assumption) ?_)) [3] (by kernel_rfl) rfl ⟨⟨_, rfl, ?_⟩, trivial⟩
      refine HP.one ?_
      refine H1.call0 rfl rfl (fun w _ => pick_fn by_ 4 hbb.1 hbb.2 (by decide) w) ?_
      rw [show pickI by_ 4 = (pn : Int) from ep]
      apply HB.fold
      refine HB.pa 4 rfl ?_
      refine HB.pa 5 rfl ?_
      refine HB.pa 6 rfl ?_
      refine HB.all (by repeat (first | exact Keep.nil | refine Keep.blk (by (repeat (first | exact List.Mem.head _ | apply List.Mem.tail)); done) rfl ?_ | refine Keep.grow (by (repeat (first | exact List.Mem.head _ | apply List.Mem.tail)); done) (by assumption) ?_ | refine Keep.base (by assumption) ?_)) [7] (by kernel_rfl) rfl ⟨⟨_, rfl, ?_⟩, trivial⟩
      refine HP.one ?_
      refine H1.st rfl rfl (by intro _ h; cases h) (by intro _ h; cases h) (by first | ((repeat (first | with_reducible exact Rpl.here | with_reducible apply Rpl.there)); done) | (repeat (first | exact Rpl.here | apply Rpl.there))) (by show 4 < 6; decide) ?_
      apply HB.fold
      refine HB.done (by repeat (first | exact Keep.nil | refine Keep.blk (by (repeat (first | exact List.Mem.head _ | apply List.Mem.tail)); done) rfl ?_ | refine Keep.grow (by (repeat (first | exact List.Mem.head _ | apply List.Mem.tail)); done) (by assumption) ?_ | refine Keep.base (by assumption) ?_)) (by kernel_rfl) ?_
      repeat' (first
        | apply HL.fold
        | apply HA.fold
        | apply HL.nil
        | apply HX.n_then
        | apply HC.seq
        | apply HC.region
        | refine HL.pa ?_
        | refine HL.ga rfl ?_
        | refine HL.na rfl ?_
        | refine HL.nu rfl rfl ?_
        | apply HC.block
        | apply HC.skip
        | apply HC.exit
        | apply HC.ret
        | apply HX.e_block
        | refine HX.e_other rfl ?_
        | apply HX.e_then
        | apply HX.e_again
        | apply HX.n_block
        | apply HX.r_then
        | apply HX.r_block
        | apply HX.r_again
        | refine HC.cond_yes rfl ?_
        | refine HC.cond_no rfl ?_
        | refine HL.one (H1.ldb rfl (by first | ((repeat (first | with_reducible exact mem_hd | with_reducible apply mem_tl)); done) | (repeat (first | exact List.Mem.head _ | apply List.Mem.tail))) rfl rfl ?_)
        | refine HC.cond rfl (fun hc => ?_) (fun hc => ?_)
        | refine HC.cond_b rfl (fun hc => ?_) (fun hc => ?_))
      exact HX.cut (⟨holders, lost, to, (wd : Int), max 1 ((kk : Int) - (pn : Int)), (dl : Int)⟩, (ah, ch), (al, cl), (at_, ct)) ⟨hg2, fun hB => wider_plan hg hg2 rfl (Nat.le_refl _) (Int.le_refl _) (by dsimp only; omega) (Int.le_refl _) hB⟩ (by repeat (first | exact trivial | refine ⟨rfl, ?_⟩)) (by repeat (first | exact Hs.nil _ | (refine Hs.cons (by first | ((repeat (first | with_reducible exact Pick.here | with_reducible apply Pick.there)); done) | (repeat (first | exact Pick.here | apply Pick.there))) ?_)))
    · have hg2 : GoodD ⟨holders, lost, to, (wd : Int), (kk : Int), (dl : Int) + (pn : Int)⟩ := ⟨⟨hr.cu, hr.pos, hr.n9, hr.w, hr.k, by dsimp only; omega, hr.asc⟩, hgd.len, hgd.cu, hgd.off⟩
      repeat' (first
        | apply HL.fold
        | apply HA.fold
        | apply HL.nil
        | apply HX.n_then
        | apply HC.seq
        | apply HC.region
        | refine HL.pa ?_
        | refine HL.ga rfl ?_
        | refine HL.na rfl ?_
        | refine HL.nu rfl rfl ?_
        | apply HC.block
        | apply HC.skip
        | apply HC.exit
        | apply HC.ret
        | apply HX.e_block
        | refine HX.e_other rfl ?_
        | apply HX.e_then
        | apply HX.e_again
        | apply HX.n_block
        | apply HX.r_then
        | apply HX.r_block
        | apply HX.r_again
        | refine HC.cond_yes rfl ?_
        | refine HC.cond_no rfl ?_
        | refine HL.one (H1.ldb rfl (by first | ((repeat (first | with_reducible exact mem_hd | with_reducible apply mem_tl)); done) | (repeat (first | exact List.Mem.head _ | apply List.Mem.tail))) rfl rfl ?_)
        | refine HC.cond rfl (fun hc => ?_) (fun hc => ?_)
        | refine HC.cond_b rfl (fun hc => ?_) (fun hc => ?_))
      refine HC.anyC ([(⟨b10, 5, none⟩, .int .i64 (dl : Int))]) rfl ?_
      refine HB.pa 0 rfl ?_
      refine HB.ld 1 rfl rfl (by repeat (first | exact List.Mem.head _ | apply List.Mem.tail)) ?_
      refine HB.pa 2 rfl ?_
      refine HB.all (by repeat (first | exact Keep.nil | refine Keep.blk (by (repeat (first | exact List.Mem.head _ | apply List.Mem.tail)); done) rfl ?_ | refine Keep.grow (by (repeat (first | exact List.Mem.head _ | apply List.Mem.tail)); done) (by assumption) ?_ | refine Keep.base (by assumption) ?_)) [3] (by kernel_rfl) rfl ⟨⟨_, rfl, ?_⟩, trivial⟩
      refine HP.one ?_
      refine H1.call0 rfl rfl (fun w _ => pick_fn by_ 4 hbb.1 hbb.2 (by decide) w) ?_
      rw [show pickI by_ 4 = (pn : Int) from ep]
      apply HB.fold
      refine HB.pa 4 rfl ?_
      refine HB.pa 5 rfl ?_
      refine HB.all (by repeat (first | exact Keep.nil | refine Keep.blk (by (repeat (first | exact List.Mem.head _ | apply List.Mem.tail)); done) rfl ?_ | refine Keep.grow (by (repeat (first | exact List.Mem.head _ | apply List.Mem.tail)); done) (by assumption) ?_ | refine Keep.base (by assumption) ?_)) [6] (by kernel_rfl) rfl ⟨⟨_, rfl, ?_⟩, trivial⟩
      refine HP.one ?_
      refine H1.st rfl rfl (by intro _ h; cases h) (by intro _ h; cases h) (by first | ((repeat (first | with_reducible exact Rpl.here | with_reducible apply Rpl.there)); done) | (repeat (first | exact Rpl.here | apply Rpl.there))) (by show 5 < 6; decide) ?_
      apply HB.fold
      refine HB.done (by repeat (first | exact Keep.nil | refine Keep.blk (by (repeat (first | exact List.Mem.head _ | apply List.Mem.tail)); done) rfl ?_ | refine Keep.grow (by (repeat (first | exact List.Mem.head _ | apply List.Mem.tail)); done) (by assumption) ?_ | refine Keep.base (by assumption) ?_)) (by kernel_rfl) ?_
      repeat' (first
        | apply HL.fold
        | apply HA.fold
        | apply HL.nil
        | apply HX.n_then
        | apply HC.seq
        | apply HC.region
        | refine HL.pa ?_
        | refine HL.ga rfl ?_
        | refine HL.na rfl ?_
        | refine HL.nu rfl rfl ?_
        | apply HC.block
        | apply HC.skip
        | apply HC.exit
        | apply HC.ret
        | apply HX.e_block
        | refine HX.e_other rfl ?_
        | apply HX.e_then
        | apply HX.e_again
        | apply HX.n_block
        | apply HX.r_then
        | apply HX.r_block
        | apply HX.r_again
        | refine HC.cond_yes rfl ?_
        | refine HC.cond_no rfl ?_
        | refine HL.one (H1.ldb rfl (by first | ((repeat (first | with_reducible exact mem_hd | with_reducible apply mem_tl)); done) | (repeat (first | exact List.Mem.head _ | apply List.Mem.tail))) rfl rfl ?_)
        | refine HC.cond rfl (fun hc => ?_) (fun hc => ?_)
        | refine HC.cond_b rfl (fun hc => ?_) (fun hc => ?_))
      exact HX.cut (⟨holders, lost, to, (wd : Int), (kk : Int), (dl : Int) + (pn : Int)⟩, (ah, ch), (al, cl), (at_, ct)) ⟨hg2, fun hB => wider_plan hg hg2 rfl (Nat.le_refl _) (Int.le_refl _) (Int.le_refl _) (by dsimp only; omega) hB⟩ (by repeat (first | exact trivial | refine ⟨rfl, ?_⟩)) (by repeat (first | exact Hs.nil _ | (refine Hs.cons (by first | ((repeat (first | with_reducible exact Pick.here | with_reducible apply Pick.there)); done) | (repeat (first | exact Pick.here | apply Pick.there))) ?_)))
    · by_cases hL : lost.length = 0
      · repeat' (first
          | apply HL.fold
          | apply HA.fold
          | apply HL.nil
          | apply HX.n_then
          | apply HC.seq
          | apply HC.region
          | refine HL.pa ?_
          | refine HL.ga rfl ?_
          | refine HL.na rfl ?_
          | refine HL.nu rfl rfl ?_
          | apply HC.block
          | apply HC.skip
          | apply HC.exit
          | apply HC.ret
          | apply HX.e_block
          | refine HX.e_other rfl ?_
          | apply HX.e_then
          | apply HX.e_again
          | apply HX.n_block
          | apply HX.r_then
          | apply HX.r_block
          | apply HX.r_again
          | refine HC.cond_yes rfl ?_
          | refine HC.cond_no rfl ?_
          | refine HL.one (H1.ldb rfl (by first | ((repeat (first | with_reducible exact mem_hd | with_reducible apply mem_tl)); done) | (repeat (first | exact List.Mem.head _ | apply List.Mem.tail))) rfl rfl ?_)
          | refine HC.cond rfl (fun hc => ?_) (fun hc => ?_)
          | refine HC.cond_b rfl (fun hc => ?_) (fun hc => ?_))
        exact HX.ret1 rfl rfl fun w' hM => ⟨rfl, hM.ext⟩
      obtain ⟨q, eq, hq⟩ := pick_nat by_ (n := lost.length) (by omega)
      have hlb := asc_in hr.asc _ (at_mem hq)
      obtain ⟨lq, hlq⟩ : ∃ lq : Nat, at' lost q = (lq : Int) := ⟨(at' lost q).toNat, by omega⟩
      have hlqn : lq < holders.length := by omega
      have hg2 := less_good hg hq (x := at' holders lq) (by rw [hlq]; rfl)
      have hlE := er_len hq
      have hsE := surv_count hg2.right.asc
      dsimp only at hsE
      repeat' (first
        | apply HL.fold
        | apply HA.fold
        | apply HL.nil
        | apply HX.n_then
        | apply HC.seq
        | apply HC.region
        | refine HL.pa ?_
        | refine HL.ga rfl ?_
        | refine HL.na rfl ?_
        | refine HL.nu rfl rfl ?_
        | apply HC.block
        | apply HC.skip
        | apply HC.exit
        | apply HC.ret
        | apply HX.e_block
        | refine HX.e_other rfl ?_
        | apply HX.e_then
        | apply HX.e_again
        | apply HX.n_block
        | apply HX.r_then
        | apply HX.r_block
        | apply HX.r_again
        | refine HC.cond_yes rfl ?_
        | refine HC.cond_no rfl ?_
        | refine HL.one (H1.ldb rfl (by first | ((repeat (first | with_reducible exact mem_hd | with_reducible apply mem_tl)); done) | (repeat (first | exact List.Mem.head _ | apply List.Mem.tail))) rfl rfl ?_)
        | refine HC.cond rfl (fun hc => ?_) (fun hc => ?_)
        | refine HC.cond_b rfl (fun hc => ?_) (fun hc => ?_))
      refine HL.one (H1.call0 rfl rfl (fun w _ => pick_fn by_ lost.length hbb.1 hbb.2 (by omega) w) ?_)
      rw [eq]
      repeat' (first
        | apply HL.fold
        | apply HA.fold
        | apply HL.nil
        | apply HX.n_then
        | apply HC.seq
        | apply HC.region
        | refine HL.pa ?_
        | refine HL.ga rfl ?_
        | refine HL.na rfl ?_
        | refine HL.nu rfl rfl ?_
        | apply HC.block
        | apply HC.skip
        | apply HC.exit
        | apply HC.ret
        | apply HX.e_block
        | refine HX.e_other rfl ?_
        | apply HX.e_then
        | apply HX.e_again
        | apply HX.n_block
        | apply HX.r_then
        | apply HX.r_block
        | apply HX.r_again
        | refine HC.cond_yes rfl ?_
        | refine HC.cond_no rfl ?_
        | refine HL.one (H1.ldb rfl (by first | ((repeat (first | with_reducible exact mem_hd | with_reducible apply mem_tl)); done) | (repeat (first | exact List.Mem.head _ | apply List.Mem.tail))) rfl rfl ?_)
        | refine HC.cond rfl (fun hc => ?_) (fun hc => ?_)
        | refine HC.cond_b rfl (fun hc => ?_) (fun hc => ?_))
      refine HC.openg (e := 3) (a := al) (xs := ints lost) (by first | ((repeat (first | with_reducible exact mem_hd | with_reducible apply mem_tl)); done) | (repeat (first | exact List.Mem.head _ | apply List.Mem.tail))) hL ?_
      rintro bl rfl
      refine HC.openg (e := 3) (a := ah) (xs := ints holders) (by first | ((repeat (first | with_reducible exact mem_hd | with_reducible apply mem_tl)); done) | (repeat (first | exact List.Mem.head _ | apply List.Mem.tail))) (by omega) ?_
      rintro bh rfl
      refine HC.openg (e := 3) (a := at_) (xs := ints to) (by first | ((repeat (first | with_reducible exact mem_hd | with_reducible apply mem_tl)); done) | (repeat (first | exact List.Mem.head _ | apply List.Mem.tail))) (by omega) ?_
      rintro bt rfl
      refine HC.capOf (e := 3) (xs := ints lost) (by first | ((repeat (first | with_reducible exact mem_hd | with_reducible apply mem_tl)); done) | (repeat (first | exact List.Mem.head _ | apply List.Mem.tail))) (fun hcap => ?_)
      have hgq : (ints lost)[q]? = some (.int .i64 (lq : Int)) := by rw [ints_get hq, hlq]
      have hgx := ints_get hlqn
      have hgt : ∀ j u, (ints (lost.take q))[j]? = some u → (ints lost)[j]? = some u := fun j u hu => by
        rw [ints_take, List.getElem?_take] at hu
        split at hu
        · exact hu
        · cases hu
      have htl1 : (ints (lost.take q)).length = q := by rw [ints_len, List.length_take]; omega
      have hdl1 : (ints (lost.drop (q + 1))).length = lost.length - (q + 1) := by rw [ints_len, List.length_drop]
      have hlE2 : q + (lost.length - (q + 1)) = (lost.take q ++ lost.drop (q + 1)).length := by omega
      refine HC.cut (α := Option Addr × Nat) (fun _ => [(9, .bool true), (11, .slice aP (planR holders lost to (wd : Int) (kk : Int) (dl : Int)).length cP), (12, .int .i64 (if planB holders lost to (wd : Int) (kk : Int) (dl : Int) = true then 0 else 190)), (10, .pointer (some ⟨b10, 0, none⟩)), (13, .pointer (some ⟨b13, 0, none⟩)), (14, .int .i64 (q : Int))]) (fun z => [A.grow 3 1 z.1 z.2 (lost.take q ++ lost.drop (q + 1)).length (ints (lost.take q ++ lost.drop (q + 1))), A.ts aP cP (planR holders lost to (wd : Int) (kk : Int) (dl : Int)) zs,
        A.blk b13 [.slice (some ⟨bh, 0, none⟩) holders.length ch, .slice z.1 (lost.take q ++ lost.drop (q + 1)).length z.2, .slice (some ⟨bt, 0, none⟩) to.length ct, .int .i64 (wd : Int), .int .i64 (kk : Int), .int .i64 (dl : Int)] 28, A.blk b10 [.slice (some ⟨bh, 0, none⟩) holders.length ch, .slice (some ⟨bl, 0, none⟩) lost.length cl, .slice (some ⟨bt, 0, none⟩) to.length ct, .int .i64 (wd : Int), .int .i64 (kk : Int), .int .i64 (dl : Int)] 28, A.grow 3 1 (some ⟨bh, 0, none⟩) ch holders.length (ints holders), A.grow 3 1 (some ⟨bl, 0, none⟩) cl lost.length (ints lost), A.grow 3 1 (some ⟨bt, 0, none⟩) ct to.length (ints to)]) (fun _ => True) ?_ ?_
      · refine HC.anyC ([(⟨b10, 1, none⟩, .slice (some ⟨bl, 0, none⟩) lost.length cl)]) rfl ?_
        refine HB.pa 1 rfl ?_
        refine HB.ld 2 rfl rfl (by repeat (first | exact List.Mem.head _ | apply List.Mem.tail)) ?_
        refine HB.pa 3 rfl ?_
        refine HB.pa (v := .slice (some ⟨bl, 0, none⟩) q cl) 4 rfl ?_ (POp.cut_hx rfl rfl (by omega))
        refine HB.pa 6 rfl ?_
        refine HB.ld 7 rfl rfl (by repeat (first | exact List.Mem.head _ | apply List.Mem.tail)) ?_
        refine HB.pa 8 rfl ?_
        refine HB.pa (v := .int .i64 ((q + 1 : Nat) : Int)) 9 rfl ?_ (by rw [show ((q + 1 : Nat) : Int) = (q : Int) + 1 from by push_cast; rfl]; exact POp.add rfl rfl (by omega) (by omega))
        refine HB.pa 10 rfl ?_ (POp.cut_lc rfl rfl (by omega) hcap)
        refine HB.all (by repeat (first | exact Keep.nil | refine Keep.blk (by (repeat (first | exact List.Mem.head _ | apply List.Mem.tail)); done) rfl ?_ | refine Keep.grow (by (repeat (first | exact List.Mem.head _ | apply List.Mem.tail)); done) (by assumption) ?_ | refine Keep.base (by assumption) ?_)) [0] (by kernel_rfl) rfl ⟨⟨_, rfl, ?_⟩, trivial⟩
        refine HP.one ?_
        refine H1.lit0 rfl (fun bz => ?_)
        apply HB.fold
        refine HB.all (by repeat (first | exact Keep.nil | refine Keep.blk (by (repeat (first | exact List.Mem.head _ | apply List.Mem.tail)); done) rfl ?_ | refine Keep.grow (by (repeat (first | exact List.Mem.head _ | apply List.Mem.tail)); done) (by assumption) ?_ | refine Keep.base (by assumption) ?_)) [5] (by kernel_rfl) rfl ⟨⟨_, rfl, ?_⟩, trivial⟩
        refine HP.one ?_
        refine H1.app (e := 3) (sz := 1) (m := q) (news := ints (lost.take q)) rfl (by decide) rfl rfl (fun _ _ => by first | ((repeat (first | with_reducible exact Rpl.here | with_reducible apply Rpl.there)); done) | (repeat (first | exact Rpl.here | apply Rpl.there))) (by rw [htl1, Nat.mul_one]) (fun w hM j u hu => by rw [add_lit, Nat.zero_add]; exact ownsRow_cell (hM.own (e := 3) (xs := ints lost) (by first | ((repeat (first | with_reducible exact mem_hd | with_reducible apply mem_tl)); done) | (repeat (first | exact List.Mem.head _ | apply List.Mem.tail)))) (hgt j u hu)) (ints_one _) (by omega) (by decide) rfl (fun a5 c5 _ => ?_)
        rw [Nat.zero_add, List.nil_append]
        apply HB.fold
        refine HB.all (by repeat (first | exact Keep.nil | refine Keep.blk (by (repeat (first | exact List.Mem.head _ | apply List.Mem.tail)); done) rfl ?_ | refine Keep.grow (by (repeat (first | exact List.Mem.head _ | apply List.Mem.tail)); done) (by assumption) ?_ | refine Keep.base (by assumption) ?_)) [11] (by kernel_rfl) rfl ⟨⟨_, rfl, ?_⟩, trivial⟩
        refine HP.one ?_
        refine H1.app (e := 3) (sz := 1) (m := lost.length - (q + 1)) (news := ints (lost.drop (q + 1))) rfl (by decide) rfl rfl (fun _ _ => by first | ((repeat (first | with_reducible exact Rpl.here | with_reducible apply Rpl.there)); done) | (repeat (first | exact Rpl.here | apply Rpl.there))) (by rw [hdl1, Nat.mul_one]) (fun w hM j u hu => by
          have hj := (List.getElem?_eq_some_iff.1 hu).1
          rw [hdl1] at hj
          rw [if_pos (by omega), add_lit, Nat.zero_add, Nat.mul_one]
          refine ownsRow_cell (hM.own (e := 3) (xs := ints lost) (by first | ((repeat (first | with_reducible exact mem_hd | with_reducible apply mem_tl)); done) | (repeat (first | exact List.Mem.head _ | apply List.Mem.tail)))) ?_
          rw [ints_drop, List.getElem?_drop] at hu
          exact hu) (ints_one _) (by omega) (by decide) rfl (fun a11 c11 _ => ?_)
        rw [← ints_app, hlE2]
        apply HB.fold
        refine HB.pa 12 rfl ?_
        refine HB.all (by repeat (first | exact Keep.nil | refine Keep.blk (by (repeat (first | exact List.Mem.head _ | apply List.Mem.tail)); done) rfl ?_ | refine Keep.grow (by (repeat (first | exact List.Mem.head _ | apply List.Mem.tail)); done) (by assumption) ?_ | refine Keep.base (by assumption) ?_)) [13] (by kernel_rfl) rfl ⟨⟨_, rfl, ?_⟩, trivial⟩
        refine HP.one ?_
        refine H1.st rfl rfl (by intro _ h; cases h) (by intro _ h; cases h) (by first | ((repeat (first | with_reducible exact Rpl.here | with_reducible apply Rpl.there)); done) | (repeat (first | exact Rpl.here | apply Rpl.there))) (by show 1 < 6; decide) ?_
        apply HB.fold
        refine HB.done (by repeat (first | exact Keep.nil | refine Keep.blk (by (repeat (first | exact List.Mem.head _ | apply List.Mem.tail)); done) rfl ?_ | refine Keep.grow (by (repeat (first | exact List.Mem.head _ | apply List.Mem.tail)); done) (by assumption) ?_ | refine Keep.base (by assumption) ?_)) (by kernel_rfl) ?_
        exact HX.cut (a11, c11) trivial (by repeat (first | exact trivial | refine ⟨rfl, ?_⟩)) (by repeat (first | exact Hs.nil _ | (refine Hs.cons (by first | ((repeat (first | with_reducible exact Pick.here | with_reducible apply Pick.there)); done) | (repeat (first | exact Pick.here | apply Pick.there))) ?_)))
      rintro ⟨aE, cE⟩ -
      dsimp only
      repeat' (first
        | apply HL.fold
        | apply HA.fold
        | apply HL.nil
        | apply HX.n_then
        | apply HC.seq
        | apply HC.region
        | refine HL.pa ?_
        | refine HL.ga rfl ?_
        | refine HL.na rfl ?_
        | refine HL.nu rfl rfl ?_
        | apply HC.block
        | apply HC.skip
        | apply HC.exit
        | apply HC.ret
        | apply HX.e_block
        | refine HX.e_other rfl ?_
        | apply HX.e_then
        | apply HX.e_again
        | apply HX.n_block
        | apply HX.r_then
        | apply HX.r_block
        | apply HX.r_again
        | refine HC.cond_yes rfl ?_
        | refine HC.cond_no rfl ?_
        | refine HL.one (H1.ldb rfl (by first | ((repeat (first | with_reducible exact mem_hd | with_reducible apply mem_tl)); done) | (repeat (first | exact List.Mem.head _ | apply List.Mem.tail))) rfl rfl ?_)
        | refine HC.cond rfl (fun hc => ?_) (fun hc => ?_)
        | refine HC.cond_b rfl (fun hc => ?_) (fun hc => ?_))
      refine HL.one (H1.st rfl rfl (by intro _ h; cases h) (by intro _ h; cases h) (by first | ((repeat (first | with_reducible exact Rpl.here | with_reducible apply Rpl.there)); done) | (repeat (first | exact Rpl.here | apply Rpl.there))) (by show 2 < 6; decide) ?_)
      repeat' (first
        | apply HL.fold
        | apply HA.fold
        | apply HL.nil
        | apply HX.n_then
        | apply HC.seq
        | apply HC.region
        | refine HL.pa ?_
        | refine HL.ga rfl ?_
        | refine HL.na rfl ?_
        | refine HL.nu rfl rfl ?_
        | apply HC.block
        | apply HC.skip
        | apply HC.exit
        | apply HC.ret
        | apply HX.e_block
        | refine HX.e_other rfl ?_
        | apply HX.e_then
        | apply HX.e_again
        | apply HX.n_block
        | apply HX.r_then
        | apply HX.r_block
        | apply HX.r_again
        | refine HC.cond_yes rfl ?_
        | refine HC.cond_no rfl ?_
        | refine HL.one (H1.ldb rfl (by first | ((repeat (first | with_reducible exact mem_hd | with_reducible apply mem_tl)); done) | (repeat (first | exact List.Mem.head _ | apply List.Mem.tail))) rfl rfl ?_)
        | refine HC.cond rfl (fun hc => ?_) (fun hc => ?_)
        | refine HC.cond_b rfl (fun hc => ?_) (fun hc => ?_))
      refine HC.grow0 3 1 ?_
      refine HC.loop (α := Nat × Option Addr × Nat) (fun z => [(9, .bool true), (11, .slice aP (planR holders lost to (wd : Int) (kk : Int) (dl : Int)).length cP), (12, .int .i64 (if planB holders lost to (wd : Int) (kk : Int) (dl : Int) = true then 0 else 190)), (10, .pointer (some ⟨b10, 0, none⟩)), (13, .pointer (some ⟨b13, 0, none⟩)), (14, .int .i64 (q : Int)), (15, .int .i64 (z.1 : Int))])
        (fun z => [A.grow 3 1 z.2.1 z.2.2 ((er to q z.1).map (repl (at' holders lq) (at' to q))).length (ints ((er to q z.1).map (repl (at' holders lq) (at' to q)))), A.grow 3 1 aE cE (lost.take q ++ lost.drop (q + 1)).length (ints (lost.take q ++ lost.drop (q + 1))), A.ts aP cP (planR holders lost to (wd : Int) (kk : Int) (dl : Int)) zs,
          A.blk b13 [.slice (some ⟨bh, 0, none⟩) holders.length ch, .slice aE (lost.take q ++ lost.drop (q + 1)).length cE, .slice z.2.1 ((er to q z.1).map (repl (at' holders lq) (at' to q))).length z.2.2, .int .i64 (wd : Int), .int .i64 (kk : Int), .int .i64 (dl : Int)] 28, A.blk b10 [.slice (some ⟨bh, 0, none⟩) holders.length ch, .slice (some ⟨bl, 0, none⟩) lost.length cl, .slice (some ⟨bt, 0, none⟩) to.length ct, .int .i64 (wd : Int), .int .i64 (kk : Int), .int .i64 (dl : Int)] 28, A.grow 3 1 (some ⟨bh, 0, none⟩) ch holders.length (ints holders), A.grow 3 1 (some ⟨bl, 0, none⟩) cl lost.length (ints lost), A.grow 3 1 (some ⟨bt, 0, none⟩) ct to.length (ints to)])
        (fun z => z.1 ≤ to.length) (fun z => to.length - z.1) (0, none, 0) (Nat.zero_le _) (by repeat (first | exact trivial | refine ⟨rfl, ?_⟩)) (by dsimp only; rw [show er to q 0 = [] from by simp [er]]; repeat (first | exact Hs.nil _ | (refine Hs.cons (by first | ((repeat (first | with_reducible exact Pick.here | with_reducible apply Pick.there)); done) | (repeat (first | exact Pick.here | apply Pick.there))) ?_))) ?_
      rintro ⟨i, aX, cX⟩ hi
      dsimp only at hi ⊢
      by_cases hlt : i < to.length
      · by_cases hiq : i = q
        · subst hiq
          have he := er_same hlt
          repeat' (first
            | apply HL.fold
            | apply HA.fold
            | apply HL.nil
            | apply HX.n_then
            | apply HC.seq
            | apply HC.region
            | refine HL.pa ?_
            | refine HL.ga rfl ?_
            | refine HL.na rfl ?_
            | refine HL.nu rfl rfl ?_
            | apply HC.block
            | apply HC.skip
            | apply HC.exit
            | apply HC.ret
            | apply HX.e_block
            | refine HX.e_other rfl ?_
            | apply HX.e_then
            | apply HX.e_again
            | apply HX.n_block
            | apply HX.r_then
            | apply HX.r_block
            | apply HX.r_again
            | refine HC.cond_yes rfl ?_
            | refine HC.cond_no rfl ?_
            | refine HL.one (H1.ldb rfl (by first | ((repeat (first | with_reducible exact mem_hd | with_reducible apply mem_tl)); done) | (repeat (first | exact List.Mem.head _ | apply List.Mem.tail))) rfl rfl ?_)
            | refine HC.cond rfl (fun hc => ?_) (fun hc => ?_)
            | refine HC.cond_b rfl (fun hc => ?_) (fun hc => ?_))
          refine HX.again (i + 1, aX, cX) (by show i + 1 ≤ _; omega) (by show to.length - (i + 1) < to.length - i; omega) (by repeat (first | exact trivial | refine ⟨rfl, ?_⟩)) (by dsimp only; rw [he]; repeat (first | exact Hs.nil _ | (refine Hs.cons (by first | ((repeat (first | with_reducible exact Pick.here | with_reducible apply Pick.there)); done) | (repeat (first | exact Pick.here | apply Pick.there))) ?_)))
        · have he := er_step hlt hiq
          have hel : ((er to q i).map (repl (at' holders lq) (at' to q))).length ≤ 10 := by
            rw [List.length_map]; unfold er
            rw [List.length_append, List.length_take, List.length_drop, List.length_take]; omega
          have hem : (er to q (i + 1)).map (repl (at' holders lq) (at' to q)) = (er to q i).map (repl (at' holders lq) (at' to q)) ++ [repl (at' holders lq) (at' to q) (at' to i)] := by rw [he, List.map_append]; rfl
          have hemL : ((er to q (i + 1)).map (repl (at' holders lq) (at' to q))).length = ((er to q i).map (repl (at' holders lq) (at' to q))).length + 1 := by rw [hem, List.length_append]; rfl
          have hemI : ints ((er to q (i + 1)).map (repl (at' holders lq) (at' to q))) = ints ((er to q i).map (repl (at' holders lq) (at' to q))) ++ ints [repl (at' holders lq) (at' to q) (at' to i)] := by rw [hem, ints_app]
          generalize (er to q i).map (repl (at' holders lq) (at' to q)) = F at *
          by_cases hpx : at' to i = at' holders lq
          · have hrp : repl (at' holders lq) (at' to q) (at' to i) = at' to q := if_pos hpx
            rw [hrp] at hemI
            repeat' (first
              | apply HL.fold
              | apply HA.fold
              | apply HL.nil
              | apply HX.n_then
              | apply HC.seq
              | apply HC.region
              | refine HL.pa ?_
              | refine HL.ga rfl ?_
              | refine HL.na rfl ?_
              | refine HL.nu rfl rfl ?_
              | apply HC.block
              | apply HC.skip
              | apply HC.exit
              | apply HC.ret
              | apply HX.e_block
              | refine HX.e_other rfl ?_
              | apply HX.e_then
              | apply HX.e_again
              | apply HX.n_block
              | apply HX.r_then
              | apply HX.r_block
              | apply HX.r_again
              | refine HC.cond_yes rfl ?_
              | refine HC.cond_no rfl ?_
              | refine HL.one (H1.ldb rfl (by first | ((repeat (first | with_reducible exact mem_hd | with_reducible apply mem_tl)); done) | (repeat (first | exact List.Mem.head _ | apply List.Mem.tail))) rfl rfl ?_)
              | refine HC.cond rfl (fun hc => ?_) (fun hc => ?_)
              | refine HC.cond_b rfl (fun hc => ?_) (fun hc => ?_))
            refine HL.one (H1.ldg rfl (by first | ((repeat (first | with_reducible exact mem_hd | with_reducible apply mem_tl)); done) | (repeat (first | exact List.Mem.head _ | apply List.Mem.tail))) (ints_get hlt) rfl ?_)
            repeat' (first
              | apply HL.fold
              | apply HA.fold
              | apply HL.nil
              | apply HX.n_then
              | apply HC.seq
              | apply HC.region
              | refine HL.pa ?_
              | refine HL.ga rfl ?_
              | refine HL.na rfl ?_
              | refine HL.nu rfl rfl ?_
              | apply HC.block
              | apply HC.skip
              | apply HC.exit
              | apply HC.ret
              | apply HX.e_block
              | refine HX.e_other rfl ?_
              | apply HX.e_then
              | apply HX.e_again
              | apply HX.n_block
              | apply HX.r_then
              | apply HX.r_block
              | apply HX.r_again
              | refine HC.cond_yes rfl ?_
              | refine HC.cond_no rfl ?_
              | refine HL.one (H1.ldb rfl (by first | ((repeat (first | with_reducible exact mem_hd | with_reducible apply mem_tl)); done) | (repeat (first | exact List.Mem.head _ | apply List.Mem.tail))) rfl rfl ?_)
              | refine HC.cond rfl (fun hc => ?_) (fun hc => ?_)
              | refine HC.cond_b rfl (fun hc => ?_) (fun hc => ?_))
            refine HC.anyC ([(⟨b10, 0, none⟩, .slice (some ⟨bh, 0, none⟩) holders.length ch), (⟨b10, 1, none⟩, .slice (some ⟨bl, 0, none⟩) lost.length cl), (⟨bl, q, none⟩, .int .i64 (lq : Int)), (⟨bh, lq, none⟩, zv (at' holders lq))]) rfl ?_
            refine HB.pa 0 rfl ?_
            refine HB.pa 1 rfl ?_
            refine HB.ld 2 rfl rfl (by repeat (first | exact List.Mem.head _ | apply List.Mem.tail)) ?_
            refine HB.pa 3 rfl ?_
            refine HB.ld 4 rfl rfl (by repeat (first | exact List.Mem.head _ | apply List.Mem.tail)) ?_
            refine HB.pa 5 rfl ?_
            refine HB.pa 6 rfl ?_
            refine HB.ld 7 rfl rfl (by repeat (first | exact List.Mem.head _ | apply List.Mem.tail)) ?_
            refine HB.pa 8 rfl ?_
            refine HB.ld 9 rfl rfl (by repeat (first | exact List.Mem.head _ | apply List.Mem.tail)) ?_
            refine HB.pa 10 rfl ?_
            refine HB.done (by repeat (first | exact Keep.nil | refine Keep.blk (by (repeat (first | exact List.Mem.head _ | apply List.Mem.tail)); done) rfl ?_ | refine Keep.grow (by (repeat (first | exact List.Mem.head _ | apply List.Mem.tail)); done) (by assumption) ?_ | refine Keep.base (by assumption) ?_)) (by kernel_rfl) ?_
            repeat' (first
              | apply HL.fold
              | apply HA.fold
              | apply HL.nil
              | apply HX.n_then
              | apply HC.seq
              | apply HC.region
              | refine HL.pa ?_
              | refine HL.ga rfl ?_
              | refine HL.na rfl ?_
              | refine HL.nu rfl rfl ?_
              | apply HC.block
              | apply HC.skip
              | apply HC.exit
              | apply HC.ret
              | apply HX.e_block
              | refine HX.e_other rfl ?_
              | apply HX.e_then
              | apply HX.e_again
              | apply HX.n_block
              | apply HX.r_then
              | apply HX.r_block
              | apply HX.r_again
              | refine HC.cond_yes rfl ?_
              | refine HC.cond_no rfl ?_
              | refine HL.one (H1.ldb rfl (by first | ((repeat (first | with_reducible exact mem_hd | with_reducible apply mem_tl)); done) | (repeat (first | exact List.Mem.head _ | apply List.Mem.tail))) rfl rfl ?_)
              | refine HC.cond rfl (fun hc => ?_) (fun hc => ?_)
              | refine HC.cond_b rfl (fun hc => ?_) (fun hc => ?_))
            refine HL.one (H1.ldg rfl (by first | ((repeat (first | with_reducible exact mem_hd | with_reducible apply mem_tl)); done) | (repeat (first | exact List.Mem.head _ | apply List.Mem.tail))) (ints_get (show q < to.length by omega)) rfl ?_)
            repeat' (first
              | apply HL.fold
              | apply HA.fold
              | apply HL.nil
              | apply HX.n_then
              | apply HC.seq
              | apply HC.region
              | refine HL.pa ?_
              | refine HL.ga rfl ?_
              | refine HL.na rfl ?_
              | refine HL.nu rfl rfl ?_
              | apply HC.block
              | apply HC.skip
              | apply HC.exit
              | apply HC.ret
              | apply HX.e_block
              | refine HX.e_other rfl ?_
              | apply HX.e_then
              | apply HX.e_again
              | apply HX.n_block
              | apply HX.r_then
              | apply HX.r_block
              | apply HX.r_again
              | refine HC.cond_yes rfl ?_
              | refine HC.cond_no rfl ?_
              | refine HL.one (H1.ldb rfl (by first | ((repeat (first | with_reducible exact mem_hd | with_reducible apply mem_tl)); done) | (repeat (first | exact List.Mem.head _ | apply List.Mem.tail))) rfl rfl ?_)
              | refine HC.cond rfl (fun hc => ?_) (fun hc => ?_)
              | refine HC.cond_b rfl (fun hc => ?_) (fun hc => ?_))
            refine HL.one (H1.lit (cs := [.int .i64 (at' to q)]) rfl rfl rfl rfl rfl rfl (fun b4 => ?_))
            repeat' (first
              | apply HL.fold
              | apply HA.fold
              | apply HL.nil
              | apply HX.n_then
              | apply HC.seq
              | apply HC.region
              | refine HL.pa ?_
              | refine HL.ga rfl ?_
              | refine HL.na rfl ?_
              | refine HL.nu rfl rfl ?_
              | apply HC.block
              | apply HC.skip
              | apply HC.exit
              | apply HC.ret
              | apply HX.e_block
              | refine HX.e_other rfl ?_
              | apply HX.e_then
              | apply HX.e_again
              | apply HX.n_block
              | apply HX.r_then
              | apply HX.r_block
              | apply HX.r_again
              | refine HC.cond_yes rfl ?_
              | refine HC.cond_no rfl ?_
              | refine HL.one (H1.ldb rfl (by first | ((repeat (first | with_reducible exact mem_hd | with_reducible apply mem_tl)); done) | (repeat (first | exact List.Mem.head _ | apply List.Mem.tail))) rfl rfl ?_)
              | refine HC.cond rfl (fun hc => ?_) (fun hc => ?_)
              | refine HC.cond_b rfl (fun hc => ?_) (fun hc => ?_))
            refine HL.one (H1.app1 (u := .int .i64 (at' to q)) rfl rfl (fun _ _ => by first | ((repeat (first | with_reducible exact Rpl.here | with_reducible apply Rpl.there)); done) | (repeat (first | exact Rpl.here | apply Rpl.there))) (by first | ((repeat (first | with_reducible exact mem_hd | with_reducible apply mem_tl)); done) | (repeat (first | exact List.Mem.head _ | apply List.Mem.tail))) rfl rfl (by omega) rfl rfl (fun a4 c4 => ?_))
            repeat' (first
              | apply HL.fold
              | apply HA.fold
              | apply HL.nil
              | apply HX.n_then
              | apply HC.seq
              | apply HC.region
              | refine HL.pa ?_
              | refine HL.ga rfl ?_
              | refine HL.na rfl ?_
              | refine HL.nu rfl rfl ?_
              | apply HC.block
              | apply HC.skip
              | apply HC.exit
              | apply HC.ret
              | apply HX.e_block
              | refine HX.e_other rfl ?_
              | apply HX.e_then
              | apply HX.e_again
              | apply HX.n_block
              | apply HX.r_then
              | apply HX.r_block
              | apply HX.r_again
              | refine HC.cond_yes rfl ?_
              | refine HC.cond_no rfl ?_
              | refine HL.one (H1.ldb rfl (by first | ((repeat (first | with_reducible exact mem_hd | with_reducible apply mem_tl)); done) | (repeat (first | exact List.Mem.head _ | apply List.Mem.tail))) rfl rfl ?_)
              | refine HC.cond rfl (fun hc => ?_) (fun hc => ?_)
              | refine HC.cond_b rfl (fun hc => ?_) (fun hc => ?_))
            refine HL.one (H1.st rfl rfl (by intro _ h; cases h) (by intro _ h; cases h) (by first | ((repeat (first | with_reducible exact Rpl.here | with_reducible apply Rpl.there)); done) | (repeat (first | exact Rpl.here | apply Rpl.there))) (by show 2 < 6; decide) ?_)
            repeat' (first
              | apply HL.fold
              | apply HA.fold
              | apply HL.nil
              | apply HX.n_then
              | apply HC.seq
              | apply HC.region
              | refine HL.pa ?_
              | refine HL.ga rfl ?_
              | refine HL.na rfl ?_
              | refine HL.nu rfl rfl ?_
              | apply HC.block
              | apply HC.skip
              | apply HC.exit
              | apply HC.ret
              | apply HX.e_block
              | refine HX.e_other rfl ?_
              | apply HX.e_then
              | apply HX.e_again
              | apply HX.n_block
              | apply HX.r_then
              | apply HX.r_block
              | apply HX.r_again
              | refine HC.cond_yes rfl ?_
              | refine HC.cond_no rfl ?_
              | refine HL.one (H1.ldb rfl (by first | ((repeat (first | with_reducible exact mem_hd | with_reducible apply mem_tl)); done) | (repeat (first | exact List.Mem.head _ | apply List.Mem.tail))) rfl rfl ?_)
              | refine HC.cond rfl (fun hc => ?_) (fun hc => ?_)
              | refine HC.cond_b rfl (fun hc => ?_) (fun hc => ?_))
            exact HX.again (i + 1, some ⟨a4, 0, none⟩, c4) (by show i + 1 ≤ _; omega) (by show to.length - (i + 1) < to.length - i; omega) (by repeat (first | exact trivial | refine ⟨rfl, ?_⟩)) (by dsimp only; rw [hemL, hemI]; repeat (first | exact Hs.nil _ | (refine Hs.cons (by first | ((repeat (first | with_reducible exact Pick.here | with_reducible apply Pick.there)); done) | (repeat (first | exact Pick.here | apply Pick.there))) ?_)))
          · have hrp : repl (at' holders lq) (at' to q) (at' to i) = at' to i := if_neg hpx
            rw [hrp] at hemI
            repeat' (first
              | apply HL.fold
              | apply HA.fold
              | apply HL.nil
              | apply HX.n_then
              | apply HC.seq
              | apply HC.region
              | refine HL.pa ?_
              | refine HL.ga rfl ?_
              | refine HL.na rfl ?_
              | refine HL.nu rfl rfl ?_
              | apply HC.block
              | apply HC.skip
              | apply HC.exit
              | apply HC.ret
              | apply HX.e_block
              | refine HX.e_other rfl ?_
              | apply HX.e_then
              | apply HX.e_again
              | apply HX.n_block
              | apply HX.r_then
              | apply HX.r_block
              | apply HX.r_again
              | refine HC.cond_yes rfl ?_
              | refine HC.cond_no rfl ?_
              | refine HL.one (H1.ldb rfl (by first | ((repeat (first | with_reducible exact mem_hd | with_reducible apply mem_tl)); done) | (repeat (first | exact List.Mem.head _ | apply List.Mem.tail))) rfl rfl ?_)
              | refine HC.cond rfl (fun hc => ?_) (fun hc => ?_)
              | refine HC.cond_b rfl (fun hc => ?_) (fun hc => ?_))
            refine HL.one (H1.ldg rfl (by first | ((repeat (first | with_reducible exact mem_hd | with_reducible apply mem_tl)); done) | (repeat (first | exact List.Mem.head _ | apply List.Mem.tail))) (ints_get hlt) rfl ?_)
            repeat' (first
              | apply HL.fold
              | apply HA.fold
              | apply HL.nil
              | apply HX.n_then
              | apply HC.seq
              | apply HC.region
              | refine HL.pa ?_
              | refine HL.ga rfl ?_
              | refine HL.na rfl ?_
              | refine HL.nu rfl rfl ?_
              | apply HC.block
              | apply HC.skip
              | apply HC.exit
              | apply HC.ret
              | apply HX.e_block
              | refine HX.e_other rfl ?_
              | apply HX.e_then
              | apply HX.e_again
              | apply HX.n_block
              | apply HX.r_then
              | apply HX.r_block
              | apply HX.r_again
              | refine HC.cond_yes rfl ?_
              | refine HC.cond_no rfl ?_
              | refine HL.one (H1.ldb rfl (by first | ((repeat (first | with_reducible exact mem_hd | with_reducible apply mem_tl)); done) | (repeat (first | exact List.Mem.head _ | apply List.Mem.tail))) rfl rfl ?_)
              | refine HC.cond rfl (fun hc => ?_) (fun hc => ?_)
              | refine HC.cond_b rfl (fun hc => ?_) (fun hc => ?_))
            refine HC.anyC ([(⟨b10, 0, none⟩, .slice (some ⟨bh, 0, none⟩) holders.length ch), (⟨b10, 1, none⟩, .slice (some ⟨bl, 0, none⟩) lost.length cl), (⟨bl, q, none⟩, .int .i64 (lq : Int)), (⟨bh, lq, none⟩, zv (at' holders lq))]) rfl ?_
            refine HB.pa 0 rfl ?_
            refine HB.pa 1 rfl ?_
            refine HB.ld 2 rfl rfl (by repeat (first | exact List.Mem.head _ | apply List.Mem.tail)) ?_
            refine HB.pa 3 rfl ?_
            refine HB.ld 4 rfl rfl (by repeat (first | exact List.Mem.head _ | apply List.Mem.tail)) ?_
            refine HB.pa 5 rfl ?_
            refine HB.pa 6 rfl ?_
            refine HB.ld 7 rfl rfl (by repeat (first | exact List.Mem.head _ | apply List.Mem.tail)) ?_
            refine HB.pa 8 rfl ?_
            refine HB.ld 9 rfl rfl (by repeat (first | exact List.Mem.head _ | apply List.Mem.tail)) ?_
            refine HB.pa 10 rfl ?_
            refine HB.done (by repeat (first | exact Keep.nil | refine Keep.blk (by (repeat (first | exact List.Mem.head _ | apply List.Mem.tail)); done) rfl ?_ | refine Keep.grow (by (repeat (first | exact List.Mem.head _ | apply List.Mem.tail)); done) (by assumption) ?_ | refine Keep.base (by assumption) ?_)) (by kernel_rfl) ?_
            repeat' (first
              | apply HL.fold
              | apply HA.fold
              | apply HL.nil
              | apply HX.n_then
              | apply HC.seq
              | apply HC.region
              | refine HL.pa ?_
              | refine HL.ga rfl ?_
              | refine HL.na rfl ?_
              | refine HL.nu rfl rfl ?_
              | apply HC.block
              | apply HC.skip
              | apply HC.exit
              | apply HC.ret
              | apply HX.e_block
              | refine HX.e_other rfl ?_
              | apply HX.e_then
              | apply HX.e_again
              | apply HX.n_block
              | apply HX.r_then
              | apply HX.r_block
              | apply HX.r_again
              | refine HC.cond_yes rfl ?_
              | refine HC.cond_no rfl ?_
              | refine HL.one (H1.ldb rfl (by first | ((repeat (first | with_reducible exact mem_hd | with_reducible apply mem_tl)); done) | (repeat (first | exact List.Mem.head _ | apply List.Mem.tail))) rfl rfl ?_)
              | refine HC.cond rfl (fun hc => ?_) (fun hc => ?_)
              | refine HC.cond_b rfl (fun hc => ?_) (fun hc => ?_))
            refine HL.one (H1.lit (cs := [.int .i64 (at' to i)]) rfl rfl rfl rfl rfl rfl (fun b4 => ?_))
            repeat' (first
              | apply HL.fold
              | apply HA.fold
              | apply HL.nil
              | apply HX.n_then
              | apply HC.seq
              | apply HC.region
              | refine HL.pa ?_
              | refine HL.ga rfl ?_
              | refine HL.na rfl ?_
              | refine HL.nu rfl rfl ?_
              | apply HC.block
              | apply HC.skip
              | apply HC.exit
              | apply HC.ret
              | apply HX.e_block
              | refine HX.e_other rfl ?_
              | apply HX.e_then
              | apply HX.e_again
              | apply HX.n_block
              | apply HX.r_then
              | apply HX.r_block
              | apply HX.r_again
              | refine HC.cond_yes rfl ?_
              | refine HC.cond_no rfl ?_
              | refine HL.one (H1.ldb rfl (by first | ((repeat (first | with_reducible exact mem_hd | with_reducible apply mem_tl)); done) | (repeat (first | exact List.Mem.head _ | apply List.Mem.tail))) rfl rfl ?_)
              | refine HC.cond rfl (fun hc => ?_) (fun hc => ?_)
              | refine HC.cond_b rfl (fun hc => ?_) (fun hc => ?_))
            refine HL.one (H1.app1 (u := .int .i64 (at' to i)) rfl rfl (fun _ _ => by first | ((repeat (first | with_reducible exact Rpl.here | with_reducible apply Rpl.there)); done) | (repeat (first | exact Rpl.here | apply Rpl.there))) (by first | ((repeat (first | with_reducible exact mem_hd | with_reducible apply mem_tl)); done) | (repeat (first | exact List.Mem.head _ | apply List.Mem.tail))) rfl rfl (by omega) rfl rfl (fun a4 c4 => ?_))
            repeat' (first
              | apply HL.fold
              | apply HA.fold
              | apply HL.nil
              | apply HX.n_then
              | apply HC.seq
              | apply HC.region
              | refine HL.pa ?_
              | refine HL.ga rfl ?_
              | refine HL.na rfl ?_
              | refine HL.nu rfl rfl ?_
              | apply HC.block
              | apply HC.skip
              | apply HC.exit
              | apply HC.ret
              | apply HX.e_block
              | refine HX.e_other rfl ?_
              | apply HX.e_then
              | apply HX.e_again
              | apply HX.n_block
              | apply HX.r_then
              | apply HX.r_block
              | apply HX.r_again
              | refine HC.cond_yes rfl ?_
              | refine HC.cond_no rfl ?_
              | refine HL.one (H1.ldb rfl (by first | ((repeat (first | with_reducible exact mem_hd | with_reducible apply mem_tl)); done) | (repeat (first | exact List.Mem.head _ | apply List.Mem.tail))) rfl rfl ?_)
              | refine HC.cond rfl (fun hc => ?_) (fun hc => ?_)
              | refine HC.cond_b rfl (fun hc => ?_) (fun hc => ?_))
            refine HL.one (H1.st rfl rfl (by intro _ h; cases h) (by intro _ h; cases h) (by first | ((repeat (first | with_reducible exact Rpl.here | with_reducible apply Rpl.there)); done) | (repeat (first | exact Rpl.here | apply Rpl.there))) (by show 2 < 6; decide) ?_)
            repeat' (first
              | apply HL.fold
              | apply HA.fold
              | apply HL.nil
              | apply HX.n_then
              | apply HC.seq
              | apply HC.region
              | refine HL.pa ?_
              | refine HL.ga rfl ?_
              | refine HL.na rfl ?_
              | refine HL.nu rfl rfl ?_
              | apply HC.block
              | apply HC.skip
              | apply HC.exit
              | apply HC.ret
              | apply HX.e_block
              | refine HX.e_other rfl ?_
              | apply HX.e_then
              | apply HX.e_again
              | apply HX.n_block
              | apply HX.r_then
              | apply HX.r_block
              | apply HX.r_again
              | refine HC.cond_yes rfl ?_
              | refine HC.cond_no rfl ?_
              | refine HL.one (H1.ldb rfl (by first | ((repeat (first | with_reducible exact mem_hd | with_reducible apply mem_tl)); done) | (repeat (first | exact List.Mem.head _ | apply List.Mem.tail))) rfl rfl ?_)
              | refine HC.cond rfl (fun hc => ?_) (fun hc => ?_)
              | refine HC.cond_b rfl (fun hc => ?_) (fun hc => ?_))
            exact HX.again (i + 1, some ⟨a4, 0, none⟩, c4) (by show i + 1 ≤ _; omega) (by show to.length - (i + 1) < to.length - i; omega) (by repeat (first | exact trivial | refine ⟨rfl, ?_⟩)) (by dsimp only; rw [hemL, hemI]; repeat (first | exact Hs.nil _ | (refine Hs.cons (by first | ((repeat (first | with_reducible exact Pick.here | with_reducible apply Pick.there)); done) | (repeat (first | exact Pick.here | apply Pick.there))) ?_)))
      · obtain rfl : i = to.length := by omega
        rw [er_all]
        repeat' (first
          | apply HL.fold
          | apply HA.fold
          | apply HL.nil
          | apply HX.n_then
          | apply HC.seq
          | apply HC.region
          | refine HL.pa ?_
          | refine HL.ga rfl ?_
          | refine HL.na rfl ?_
          | refine HL.nu rfl rfl ?_
          | apply HC.block
          | apply HC.skip
          | apply HC.exit
          | apply HC.ret
          | apply HX.e_block
          | refine HX.e_other rfl ?_
          | apply HX.e_then
          | apply HX.e_again
          | apply HX.n_block
          | apply HX.r_then
          | apply HX.r_block
          | apply HX.r_again
          | refine HC.cond_yes rfl ?_
          | refine HC.cond_no rfl ?_
          | refine HL.one (H1.ldb rfl (by first | ((repeat (first | with_reducible exact mem_hd | with_reducible apply mem_tl)); done) | (repeat (first | exact List.Mem.head _ | apply List.Mem.tail))) rfl rfl ?_)
          | refine HC.cond rfl (fun hc => ?_) (fun hc => ?_)
          | refine HC.cond_b rfl (fun hc => ?_) (fun hc => ?_))
        refine HX.cut (⟨holders, lost.take q ++ lost.drop (q + 1), (to.take q ++ to.drop (q + 1)).map (repl (at' holders lq) (at' to q)), (wd : Int), (kk : Int), (dl : Int)⟩, (some ⟨bh, 0, none⟩, ch), (aE, cE), (aX, cX)) ⟨hg2, fun hB => wider_plan hg hg2 (by dsimp only; omega) (by dsimp only; omega) (Int.le_refl _) (Int.le_refl _) (Int.le_refl _) hB⟩ (by repeat (first | exact trivial | refine ⟨rfl, ?_⟩)) (by repeat (first | exact Hs.nil _ | (refine Hs.cons (by first | ((repeat (first | with_reducible exact Pick.here | with_reducible apply Pick.there)); done) | (repeat (first | exact Pick.here | apply Pick.there))) ?_)))
  rintro ⟨c', zh, zl, zt⟩ ⟨hg2, himp⟩
  dsimp only at hg2 himp ⊢
  have hr2 := hg2.right
  have hn92 := hr2.n9
  have hl92 := asc_len hr2.asc
  have htl2 := hg2.len
  repeat' (first
    | apply HL.fold
    | apply HA.fold
    | apply HL.nil
    | apply HX.n_then
    | apply HC.seq
    | apply HC.region
    | refine HL.pa ?_
    | refine HL.ga rfl ?_
    | refine HL.na rfl ?_
    | refine HL.nu rfl rfl ?_
    | apply HC.block
    | apply HC.skip
    | apply HC.exit
    | apply HC.ret
    | apply HX.e_block
    | refine HX.e_other rfl ?_
    | apply HX.e_then
    | apply HX.e_again
    | apply HX.n_block
    | apply HX.r_then
    | apply HX.r_block
    | apply HX.r_again
    | refine HC.cond_yes rfl ?_
    | refine HC.cond_no rfl ?_
    | refine HL.one (H1.ldb rfl (by first | ((repeat (first | with_reducible exact mem_hd | with_reducible apply mem_tl)); done) | (repeat (first | exact List.Mem.head _ | apply List.Mem.tail))) rfl rfl ?_)
    | refine HC.cond rfl (fun hc => ?_) (fun hc => ?_)
    | refine HC.cond_b rfl (fun hc => ?_) (fun hc => ?_))
  refine HL.one (H1.ldAgg (vs := caseV c' zh zl zt) rfl (by first | ((repeat (first | with_reducible exact mem_hd | with_reducible apply mem_tl)); done) | (repeat (first | exact List.Mem.head _ | apply List.Mem.tail))) rfl (fun i v hv => by rw [show 0 + i = i from Nat.zero_add i]; exact hv) rfl ?_)
  repeat' (first
    | apply HL.fold
    | apply HA.fold
    | apply HL.nil
    | apply HX.n_then
    | apply HC.seq
    | apply HC.region
    | refine HL.pa ?_
    | refine HL.ga rfl ?_
    | refine HL.na rfl ?_
    | refine HL.nu rfl rfl ?_
    | apply HC.block
    | apply HC.skip
    | apply HC.exit
    | apply HC.ret
    | apply HX.e_block
    | refine HX.e_other rfl ?_
    | apply HX.e_then
    | apply HX.e_again
    | apply HX.n_block
    | apply HX.r_then
    | apply HX.r_block
    | apply HX.r_again
    | refine HC.cond_yes rfl ?_
    | refine HC.cond_no rfl ?_
    | refine HL.one (H1.ldb rfl (by first | ((repeat (first | with_reducible exact mem_hd | with_reducible apply mem_tl)); done) | (repeat (first | exact List.Mem.head _ | apply List.Mem.tail))) rfl rfl ?_)
    | refine HC.cond rfl (fun hc => ?_) (fun hc => ?_)
    | refine HC.cond_b rfl (fun hc => ?_) (fun hc => ?_))
  refine HL.one (H1.callz1 (An := fun z : List (Option Addr × Nat) × Option Addr × Nat => A.ts z.2.1 z.2.2 (planR c'.holders c'.lost c'.to c'.width c'.k c'.deadline) z.1) (vs := [.agg (caseV c' zh zl zt).toArray]) rfl rfl (fun w' hM => planW_fn c' zh zl zt (by omega) (by omega) (by omega) w' (hM.gr (by first | ((repeat (first | with_reducible exact mem_hd | with_reducible apply mem_tl)); done) | (repeat (first | exact List.Mem.head _ | apply List.Mem.tail)))) (hM.gr (by first | ((repeat (first | with_reducible exact mem_hd | with_reducible apply mem_tl)); done) | (repeat (first | exact List.Mem.head _ | apply List.Mem.tail)))) (hM.gr (by first | ((repeat (first | with_reducible exact mem_hd | with_reducible apply mem_tl)); done) | (repeat (first | exact List.Mem.head _ | apply List.Mem.tail))))) ?_)
  rintro ⟨zs2, aM, cM⟩ hz2
  dsimp only at hz2 ⊢
  have hlen1 : (planR holders lost to (wd : Int) (kk : Int) (dl : Int)).length ≤ 9 := by
    unfold planR
    split
    · exact Nat.le_trans (plan_len_le _) (by omega)
    · exact Nat.zero_le _
  have hlen2 : (planR c'.holders c'.lost c'.to c'.width c'.k c'.deadline).length ≤ 9 := by
    unfold planR
    split
    · exact Nat.le_trans (plan_len_le _) (by omega)
    · exact Nat.zero_le _
  by_cases hB : planB holders lost to (wd : Int) (kk : Int) (dl : Int) = true
  · obtain ⟨hB2, hll⟩ := himp hB
    rw [if_pos hB, if_pos hB2]
    repeat' (first
      | apply HL.fold
      | apply HA.fold
      | apply HL.nil
      | apply HX.n_then
      | apply HC.seq
      | apply HC.region
      | refine HL.pa ?_
      | refine HL.ga rfl ?_
      | refine HL.na rfl ?_
      | refine HL.nu rfl rfl ?_
      | apply HC.block
      | apply HC.skip
      | apply HC.exit
      | apply HC.ret
      | apply HX.e_block
      | refine HX.e_other rfl ?_
      | apply HX.e_then
      | apply HX.e_again
      | apply HX.n_block
      | apply HX.r_then
      | apply HX.r_block
      | apply HX.r_again
      | refine HC.cond_yes rfl ?_
      | refine HC.cond_no rfl ?_
      | refine HL.one (H1.ldb rfl (by first | ((repeat (first | with_reducible exact mem_hd | with_reducible apply mem_tl)); done) | (repeat (first | exact List.Mem.head _ | apply List.Mem.tail))) rfl rfl ?_)
      | refine HC.cond rfl (fun hc => ?_) (fun hc => ?_)
      | refine HC.cond_b rfl (fun hc => ?_) (fun hc => ?_))
    refine HL.one (H1.callx (vs := [.slice aM (planR c'.holders c'.lost c'.to c'.width c'.k c'.deadline).length cM]) rfl rfl (fun w' hM => last_fn _ _ (by omega) w' (hM.ts (by first | ((repeat (first | with_reducible exact mem_hd | with_reducible apply mem_tl)); done) | (repeat (first | exact List.Mem.head _ | apply List.Mem.tail))) hz2)) ?_)
    repeat' (first
      | apply HL.fold
      | apply HA.fold
      | apply HL.nil
      | apply HX.n_then
      | apply HC.seq
      | apply HC.region
      | refine HL.pa ?_
      | refine HL.ga rfl ?_
      | refine HL.na rfl ?_
      | refine HL.nu rfl rfl ?_
      | apply HC.block
      | apply HC.skip
      | apply HC.exit
      | apply HC.ret
      | apply HX.e_block
      | refine HX.e_other rfl ?_
      | apply HX.e_then
      | apply HX.e_again
      | apply HX.n_block
      | apply HX.r_then
      | apply HX.r_block
      | apply HX.r_again
      | refine HC.cond_yes rfl ?_
      | refine HC.cond_no rfl ?_
      | refine HL.one (H1.ldb rfl (by first | ((repeat (first | with_reducible exact mem_hd | with_reducible apply mem_tl)); done) | (repeat (first | exact List.Mem.head _ | apply List.Mem.tail))) rfl rfl ?_)
      | refine HC.cond rfl (fun hc => ?_) (fun hc => ?_)
      | refine HC.cond_b rfl (fun hc => ?_) (fun hc => ?_))
    refine HL.one (H1.callx (vs := [.slice aP (planR holders lost to (wd : Int) (kk : Int) (dl : Int)).length cP]) rfl rfl (fun w' hM => last_fn _ _ (by omega) w' (hM.ts (by first | ((repeat (first | with_reducible exact mem_hd | with_reducible apply mem_tl)); done) | (repeat (first | exact List.Mem.head _ | apply List.Mem.tail))) hz)) ?_)
    repeat' (first
      | apply HL.fold
      | apply HA.fold
      | apply HL.nil
      | apply HX.n_then
      | apply HC.seq
      | apply HC.region
      | refine HL.pa ?_
      | refine HL.ga rfl ?_
      | refine HL.na rfl ?_
      | refine HL.nu rfl rfl ?_
      | apply HC.block
      | apply HC.skip
      | apply HC.exit
      | apply HC.ret
      | apply HX.e_block
      | refine HX.e_other rfl ?_
      | apply HX.e_then
      | apply HX.e_again
      | apply HX.n_block
      | apply HX.r_then
      | apply HX.r_block
      | apply HX.r_again
      | refine HC.cond_yes rfl ?_
      | refine HC.cond_no rfl ?_
      | refine HL.one (H1.ldb rfl (by first | ((repeat (first | with_reducible exact mem_hd | with_reducible apply mem_tl)); done) | (repeat (first | exact List.Mem.head _ | apply List.Mem.tail))) rfl rfl ?_)
      | refine HC.cond rfl (fun hc => ?_) (fun hc => ?_)
      | refine HC.cond_b rfl (fun hc => ?_) (fun hc => ?_))
    rw [decide_eq_true hll]
    exact HX.ret1 rfl rfl fun w' hM => ⟨rfl, hM.ext⟩
  · rw [if_neg hB]
    repeat' (first
      | apply HL.fold
      | apply HA.fold
      | apply HL.nil
      | apply HX.n_then
      | apply HC.seq
      | apply HC.region
      | refine HL.pa ?_
      | refine HL.ga rfl ?_
      | refine HL.na rfl ?_
      | refine HL.nu rfl rfl ?_
      | apply HC.block
      | apply HC.skip
      | apply HC.exit
      | apply HC.ret
      | apply HX.e_block
      | refine HX.e_other rfl ?_
      | apply HX.e_then
      | apply HX.e_again
      | apply HX.n_block
      | apply HX.r_then
      | apply HX.r_block
      | apply HX.r_again
      | refine HC.cond_yes rfl ?_
      | refine HC.cond_no rfl ?_
      | refine HL.one (H1.ldb rfl (by first | ((repeat (first | with_reducible exact mem_hd | with_reducible apply mem_tl)); done) | (repeat (first | exact List.Mem.head _ | apply List.Mem.tail))) rfl rfl ?_)
      | refine HC.cond rfl (fun hc => ?_) (fun hc => ?_)
      | refine HC.cond_b rfl (fun hc => ?_) (fun hc => ?_))
    exact HX.ret1 rfl rfl fun w' hM => ⟨rfl, hM.ext⟩
end Go.Sx

