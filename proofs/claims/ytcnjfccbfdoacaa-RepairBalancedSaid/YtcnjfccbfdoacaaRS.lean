/- The law RepairBalanced. -/
import Derived.Test.YtcnjfccbfdoacaaRU
namespace Go.Sx
open Go Go.Proofs
/-- A guarded operation, a call at that, that is not performed. -/
theorem HO.drop_a {P : Program} {N : Nat} {ds : List Deferred} {ol : List Oper} {Q : Post} {E : Env} {w0 : World} {H : List Atom} {fuel : Nat} {listed : Array Bool} {ty : TypeId} {pos : String} {af : Array Edge} {op : Op} {d : Option Nat} {i j : Nat} {want b : Bool} (hj : guardE ol E j = some b)
    (h : HA P N ds ol fuel (listed.setIfInBounds i true) Q (putE d undef E) w0 H)
    (hb : b = !want := by
      first | with_reducible rfl | assumption | (simp only [Bool.not_true, Bool.not_false]; done) | (simp only [decide_eq_true_eq, decide_eq_false_iff_not, Bool.not_true, Bool.not_false, not_true_eq_false, not_false_eq_true, reduceCtorEq]; first | done | assumption | omega)) (hd : dOk d N = true := by exact rfl) : HO P N ds ol fuel listed i ⟨d, op, ty, pos, af, some (j, want)⟩ Q E w0 H := fun w hM a ha => by
  have hy := guardE_spec hj ha
  have hne : ((some (!want) : Option Bool) == some want) = false := by cases want <;> rfl
  simp only [Region.wanted, hy, hb, hne, Bool.false_eq_true, if_false]
  exact h w hM _ (ha.putO hd undef)
theorem lastD_nonneg (l : List Tr) : 0 ≤ lastD l := by
  unfold lastD
  have key : ∀ (l : List Tr) (n : Int), n ≤ l.foldl (fun n t => max n t.stop) n := by
    intro l
    induction l with
    | nil => intro n; exact Int.le_refl _
    | cons u l ih => intro n; exact Int.le_trans (Int.le_max_left n u.stop) (ih _)
  exact key l 0
theorem gAt_bound (l : List Tr) (q m : Nat) (s c : Int) : 0 ≤ gAt l q m s c ∧ gAt l q m s c ≤ (l.length : Int) + 1 := by
  unfold gAt
  have h1 := cntP_len (l.take q) s c
  rw [List.length_take] at h1
  split <;> omega
theorem day_low {h lost to : List Int} {k f d n p : Nat} (hk : 0 < k) (hkm : k ≤ h.length) (hp : p < h.length) : n * k / h.length ≤ ((List.range n).filter fun j => decide (at' h p ∈ (newT h lost to k f d j).src)).length := by
  have hmono : ∀ a b : Nat, a < b → (h.length * a + p) / k < (h.length * b + p) / k := fun a b hab => by
    have h1 : h.length * a + p + k ≤ h.length * b + p := by
      have : h.length * (a + 1) ≤ h.length * b := Nat.mul_le_mul_left _ hab
      rw [Nat.mul_add] at this; omega
    have h2 := Nat.div_le_div_right (c := k) h1
    rw [Nat.add_div_right _ hk] at h2
    omega
  have := nodup_le ((List.range (n * k / h.length)).map fun q => (h.length * q + p) / k) ((List.range n).filter fun j => decide (at' h p ∈ (newT h lost to k f d j).src)) ?_ (fun j hj => ?_)
  · simpa using this
  · rw [List.nodup_iff_pairwise_ne, List.pairwise_map]
    have hr := List.nodup_range (n := n * k / h.length)
    rw [List.nodup_iff_pairwise_ne] at hr
    refine hr.imp fun {a b} hne e => ?_
    rcases Nat.lt_or_gt_of_ne hne with h1 | h1
    · have := hmono a b h1; omega
    · have := hmono b a h1; omega
  · obtain ⟨q, hq, rfl⟩ := List.mem_map.1 hj
    rw [List.mem_range] at hq
    have h1 : h.length * (q + 1) ≤ n * k := Nat.le_trans (Nat.mul_le_mul_left _ hq) (by rw [Nat.mul_comm]; exact Nat.div_mul_le_self _ _)
    rw [Nat.mul_add] at h1
    have h2 : h.length * q + p < n * k := by omega
    rw [List.mem_filter, List.mem_range]
    refine ⟨Nat.div_lt_of_lt_mul (by rw [Nat.mul_comm k n]; exact h2), decide_eq_true (newT_mem.2 ⟨(h.length * q + p) % k, Nat.mod_lt _ hk, ?_⟩)⟩
    rw [show (h.length * q + p) / k * k + (h.length * q + p) % k = h.length * q + p by rw [Nat.mul_comm]; exact Nat.div_add_mod _ _, Nat.mul_add_mod, Nat.mod_eq_of_lt hp]
/-- On each day of a plan what custodians send differs by at most one. -/
theorem plan_balanced {holders lost to : List Int} {width k dl : Nat} (hg : GoodC ⟨holders, lost, to, (width : Int), (k : Int), (dl : Int)⟩) (hks : 0 < lost.length → k ≤ (survS holders lost).length) (h1 : (planAt (survS holders lost) lost to width k dl).length = lost.length) {d : Nat} (hd : (d : Int) < lastD (planAt (survS holders lost) lost to width k dl)) :
    ∃ Q : Nat, Q ≤ 9 ∧ ∀ i, i < holders.length → 0 ≤ at' (afterS holders lost (planAt (survS holders lost) lost to width k dl) (d : Int)) i →
      Q ≤ cntP (planAt (survS holders lost) lost to width k dl) (d : Int) (at' (afterS holders lost (planAt (survS holders lost) lost to width k dl) (d : Int)) i) ∧ cntP (planAt (survS holders lost) lost to width k dl) (d : Int) (at' (afterS holders lost (planAt (survS holders lost) lost to width k dl) (d : Int)) i) ≤ Q + 1 ∧
      cntP (planAt (survS holders lost) lost to width k dl) (d : Int) (at' (afterS holders lost (planAt (survS holders lost) lost to width k dl) (d : Int)) i) ≤ width := by
  have hr := hg.right
  have htl := hg.len
  dsimp only at hr htl
  have hk1 := hr.k
  have hw9 := hr.w
  have hddl : d < dl := by
    have := lastD_le (l := planAt (survS holders lost) lost to width k dl) (d := (dl : Int)) (by omega) fun t ht => (plan_stop dl t ht).1
    omega
  have hL0 : 0 < lost.length := by
    rcases Nat.eq_zero_or_pos lost.length with h | h
    · rw [h] at h1
      rw [List.eq_nil_of_length_eq_zero h1] at hd
      have : lastD ([] : List Tr) = 0 := rfl
      omega
    · exact h
  have hks2 := hks hL0
  have hhl : (hasL (survS holders lost) (planAt (survS holders lost) lost to width k d) d).length = (survS holders lost).length + (planAt (survS holders lost) lost to width k d).length := plan_has_len d
  have hnd := plan_has_nodup (width := width) (k := k) htl hr.cu.1 hg.cu.1 hg.off d
  have hcnt := fun c => plan_cnt (surv := survS holders lost) (lost := lost) (to := to) (width := width) (k := k) hddl c
  have hmem : ∀ i, i < holders.length → 0 ≤ at' (afterS holders lost (planAt (survS holders lost) lost to width k dl) (d : Int)) i → at' (afterS holders lost (planAt (survS holders lost) lost to width k dl) (d : Int)) i ∈ hasL (survS holders lost) (planAt (survS holders lost) lost to width k d) d := fun i hi h0 => by
    rw [← plan_has (show d ≤ dl by omega)]
    rw [after_at hi] at h0 ⊢
    unfold hasL
    rw [srt_mem, List.mem_append]
    unfold afterI at h0 ⊢
    by_cases hin : (i : Int) ∈ lost
    · rw [if_pos hin] at h0 ⊢
      right
      unfold backT at h0 ⊢
      cases hf : (planAt (survS holders lost) lost to width k dl).find? fun t => decide (t.frag = (i : Int) ∧ t.stop ≤ (d : Int)) with
      | none => rw [hf] at h0; simp at h0
      | some t =>
        unfold endTo
        have h2 := List.mem_of_find?_eq_some hf
        have h3 := List.find?_some hf
        exact List.mem_map.2 ⟨t, List.mem_filter.2 ⟨h2, decide_eq_true (of_decide_eq_true h3).2⟩, rfl⟩
    · rw [if_neg hin]
      left
      unfold survS
      exact List.mem_map.2 ⟨i, List.mem_filter.2 ⟨List.mem_range.2 hi, decide_eq_true hin⟩, rfl⟩
  generalize hasL (survS holders lost) (planAt (survS holders lost) lost to width k d) d = h at *
  have hnw : dayN ((survS holders lost).length + (planAt (survS holders lost) lost to width k d).length) width k lost.length (planAt (survS holders lost) lost to width k d).length * k ≤ h.length * width := by
    rw [hhl]
    exact Nat.le_trans (Nat.mul_le_mul_right k (Nat.min_le_left _ _)) (Nat.div_mul_le_self _ _)
  generalize dayN ((survS holders lost).length + (planAt (survS holders lost) lost to width k d).length) width k lost.length (planAt (survS holders lost) lost to width k d).length = n at *
  have hm : 0 < h.length := by omega
  refine ⟨n * k / h.length, ?_, fun i hi h0 => ?_⟩
  · have h2 : n * k / h.length ≤ h.length * width / h.length := Nat.div_le_div_right hnw
    rw [Nat.mul_div_cancel_left _ hm] at h2
    omega
  · have hc := hmem i hi h0
    rw [hcnt]
    obtain ⟨p, hp, hpe⟩ := mem_at hc
    rw [← hpe]
    refine ⟨day_low (by omega) (by omega) hp, day_width hnd hm (by omega) ?_ _, day_width hnd hm (by omega) hnw _⟩
    have h3 := Nat.div_add_mod (n * k) h.length
    have h4 := Nat.mod_lt (n * k) hm
    rw [Nat.mul_add]; omega
attribute [local irreducible] WC WL WX POp Then Again Fn NX W1 WA WO QL RP RA Yld LoopAt HC HL HX HN H1 HA HO HQ HB HP A.blk A.grow A.rd A.obj A.mp AgainH CutH
attribute [local irreducible] A.all A.ts
set_option maxHeartbeats 2000000 in
theorem repairBalanced_fn (x0 x1 x2 x3 : Int) (h0 : i64B x0) (h1 : i64B x1) (h2 : i64B x2) (h3 : i64B x3) (v : Value) (order : List Int) (hob : ∀ x ∈ order, i64B x) (w : World) (hR : Rd w v (ints order)) :
    Fn Try.prog 9 #[.agg #[.int .i64 x0, .int .i64 x1, .int .i64 x2, .int .i64 x3], v] w fun u w' => u = .bool true ∧ Ext w w' := by
  refine enterH (l := [_, _]) rfl Try.ntmps9 rfl ?_
  repeat' (first
    | apply HL.fold
    | apply HA.fold
    | apply HL.nil
    | apply HX.n_then
    | apply HC.seq
    | apply HC.region
    | refine HL.pa ?_
    | refine HL.ga rfl ?_
    | refine HL.na rfl ?_
    | refine HL.nu rfl rfl ?_
    | apply HC.block
    | apply HC.skip
    | apply HC.exit
    | apply HC.ret
    | apply HX.e_block
    | refine HX.e_other rfl ?_
    | apply HX.e_then
    | apply HX.e_again
    | apply HX.n_block
    | apply HX.r_then
    | apply HX.r_block
    | apply HX.r_again
    | refine HC.cond_yes rfl ?_
    | refine HC.cond_no rfl ?_
    | refine HL.one (H1.ldb rfl (by first | ((repeat (first | with_reducible exact mem_hd | with_reducible apply mem_tl)); done) | (repeat (first | exact List.Mem.head _ | apply List.Mem.tail))) rfl rfl ?_)
    | refine HC.cond rfl (fun hc => ?_) (fun hc => ?_)
    | refine HC.cond_b rfl (fun hc => ?_) (fun hc => ?_))
  refine HL.one (H1.boxAgg (cs := [.int .i64 x0, .int .i64 x1, .int .i64 x2, .int .i64 x3]) rfl rfl (fun b2 => ?_))
  repeat' (first
    | apply HL.fold
    | apply HA.fold
    | apply HL.nil
    | apply HX.n_then
    | apply HC.seq
    | apply HC.region
    | refine HL.pa ?_
    | refine HL.ga rfl ?_
    | refine HL.na rfl ?_
    | refine HL.nu rfl rfl ?_
    | apply HC.block
    | apply HC.skip
    | apply HC.exit
    | apply HC.ret
    | apply HX.e_block
    | refine HX.e_other rfl ?_
    | apply HX.e_then
    | apply HX.e_again
    | apply HX.n_block
    | apply HX.r_then
    | apply HX.r_block
    | apply HX.r_again
    | refine HC.cond_yes rfl ?_
    | refine HC.cond_no rfl ?_
    | refine HL.one (H1.ldb rfl (by first | ((repeat (first | with_reducible exact mem_hd | with_reducible apply mem_tl)); done) | (repeat (first | exact List.Mem.head _ | apply List.Mem.tail))) rfl rfl ?_)
    | refine HC.cond rfl (fun hc => ?_) (fun hc => ?_)
    | refine HC.cond_b rfl (fun hc => ?_) (fun hc => ?_))
  refine HL.one (H1.callx (vs := []) rfl rfl (fun w' _ => sane_fn w') ?_)
  repeat' (first
    | apply HL.fold
    | apply HA.fold
    | apply HL.nil
    | apply HX.n_then
    | apply HC.seq
    | apply HC.region
    | refine HL.pa ?_
    | refine HL.ga rfl ?_
    | refine HL.na rfl ?_
    | refine HL.nu rfl rfl ?_
    | apply HC.block
    | apply HC.skip
    | apply HC.exit
    | apply HC.ret
    | apply HX.e_block
    | refine HX.e_other rfl ?_
    | apply HX.e_then
    | apply HX.e_again
    | apply HX.n_block
    | apply HX.r_then
    | apply HX.r_block
    | apply HX.r_again
    | refine HC.cond_yes rfl ?_
    | refine HC.cond_no rfl ?_
    | refine HL.one (H1.ldb rfl (by first | ((repeat (first | with_reducible exact mem_hd | with_reducible apply mem_tl)); done) | (repeat (first | exact List.Mem.head _ | apply List.Mem.tail))) rfl rfl ?_)
    | refine HC.cond rfl (fun hc => ?_) (fun hc => ?_)
    | refine HC.cond_b rfl (fun hc => ?_) (fun hc => ?_))
  refine HL.one (H1.ldAgg (vs := [.int .i64 x0, .int .i64 x1, .int .i64 x2, .int .i64 x3]) rfl (by first | ((repeat (first | with_reducible exact mem_hd | with_reducible apply mem_tl)); done) | (repeat (first | exact List.Mem.head _ | apply List.Mem.tail))) rfl (fun i v hv => by rw [show 0 + i = i from Nat.zero_add i]; exact hv) rfl ?_)
  repeat' (first
    | apply HL.fold
    | apply HA.fold
    | apply HL.nil
    | apply HX.n_then
    | apply HC.seq
    | apply HC.region
    | refine HL.pa ?_
    | refine HL.ga rfl ?_
    | refine HL.na rfl ?_
    | refine HL.nu rfl rfl ?_
    | apply HC.block
    | apply HC.skip
    | apply HC.exit
    | apply HC.ret
    | apply HX.e_block
    | refine HX.e_other rfl ?_
    | apply HX.e_then
    | apply HX.e_again
    | apply HX.n_block
    | apply HX.r_then
    | apply HX.r_block
    | apply HX.r_again
    | refine HC.cond_yes rfl ?_
    | refine HC.cond_no rfl ?_
    | refine HL.one (H1.ldb rfl (by first | ((repeat (first | with_reducible exact mem_hd | with_reducible apply mem_tl)); done) | (repeat (first | exact List.Mem.head _ | apply List.Mem.tail))) rfl rfl ?_)
    | refine HC.cond rfl (fun hc => ?_) (fun hc => ?_)
    | refine HC.cond_b rfl (fun hc => ?_) (fun hc => ?_))
  refine HL.one (H1.callz (vs := [.agg #[.int .i64 x0, .int .i64 x1, .int .i64 x2, .int .i64 x3], v]) rfl rfl (fun w' hM => make_fn x0 x1 x2 x3 h0 h1 h2 h3 v order hob w' (hM.rd0 hR)) ?_)
  rintro ⟨⟨holders, lost, to, width, k, deadline⟩, ⟨ah, ch⟩, ⟨al, cl⟩, ⟨at_, ct⟩⟩ hg
  dsimp only [List.cons_append, List.nil_append] at hg ⊢
  have hr := hg.right
  have hn9 := hr.n9
  have hl9 := asc_len hr.asc
  have htl := hg.len
  have hsc := surv_count hr.asc
  have hcw := hr.w
  have hck := hr.k
  have hcd := hr.d
  dsimp only at hr hn9 hl9 htl hsc hcw hck hcd
  obtain ⟨wd, rfl⟩ : ∃ n : Nat, width = (n : Int) := ⟨width.toNat, by omega⟩
  obtain ⟨kk, rfl⟩ : ∃ n : Nat, k = (n : Int) := ⟨k.toNat, by omega⟩
  obtain ⟨dl, rfl⟩ : ∃ n : Nat, deadline = (n : Int) := ⟨deadline.toNat, by omega⟩
  simp only [caseV]
  repeat' (first
    | apply HL.fold
    | apply HA.fold
    | apply HL.nil
    | apply HX.n_then
    | apply HC.seq
    | apply HC.region
    | refine HL.pa ?_
    | refine HL.ga rfl ?_
    | refine HL.na rfl ?_
    | refine HL.nu rfl rfl ?_
    | apply HC.block
    | apply HC.skip
    | apply HC.exit
    | apply HC.ret
    | apply HX.e_block
    | refine HX.e_other rfl ?_
    | apply HX.e_then
    | apply HX.e_again
    | apply HX.n_block
    | apply HX.r_then
    | apply HX.r_block
    | apply HX.r_again
    | refine HC.cond_yes rfl ?_
    | refine HC.cond_no rfl ?_
    | refine HL.one (H1.ldb rfl (by first | ((repeat (first | with_reducible exact mem_hd | with_reducible apply mem_tl)); done) | (repeat (first | exact List.Mem.head _ | apply List.Mem.tail))) rfl rfl ?_)
    | refine HC.cond rfl (fun hc => ?_) (fun hc => ?_)
    | refine HC.cond_b rfl (fun hc => ?_) (fun hc => ?_))
  refine HL.one (H1.alloc (cs := [.slice none 0 0, .slice none 0 0, .slice none 0 0, .int .i64 0, .int .i64 0, .int .i64 0]) rfl rfl (fun b6 => ?_))
  repeat' (first
    | apply HL.fold
    | apply HA.fold
    | apply HL.nil
    | apply HX.n_then
    | apply HC.seq
    | apply HC.region
    | refine HL.pa ?_
    | refine HL.ga rfl ?_
    | refine HL.na rfl ?_
    | refine HL.nu rfl rfl ?_
    | apply HC.block
    | apply HC.skip
    | apply HC.exit
    | apply HC.ret
    | apply HX.e_block
    | refine HX.e_other rfl ?_
    | apply HX.e_then
    | apply HX.e_again
    | apply HX.n_block
    | apply HX.r_then
    | apply HX.r_block
    | apply HX.r_again
    | refine HC.cond_yes rfl ?_
    | refine HC.cond_no rfl ?_
    | refine HL.one (H1.ldb rfl (by first | ((repeat (first | with_reducible exact mem_hd | with_reducible apply mem_tl)); done) | (repeat (first | exact List.Mem.head _ | apply List.Mem.tail))) rfl rfl ?_)
    | refine HC.cond rfl (fun hc => ?_) (fun hc => ?_)
    | refine HC.cond_b rfl (fun hc => ?_) (fun hc => ?_))
  refine HL.one (H1.stAgg (cs := [.slice none 0 0, .slice none 0 0, .slice none 0 0, .int .i64 0, .int .i64 0, .int .i64 0]) (vs := caseV ⟨holders, lost, to, (wd : Int), (kk : Int), (dl : Int)⟩ (ah, ch) (al, cl) (at_, ct)) rfl rfl rfl (by unfold caseV; intro v hv; simp only [List.mem_cons, List.not_mem_nil, or_false] at hv; rcases hv with rfl | rfl | rfl | rfl | rfl | rfl <;> rfl) (by first | ((repeat (first | with_reducible exact Rpl.here | with_reducible apply Rpl.there)); done) | (repeat (first | exact Rpl.here | apply Rpl.there))) rfl ?_)
  repeat' (first
    | apply HL.fold
    | apply HA.fold
    | apply HL.nil
    | apply HX.n_then
    | apply HC.seq
    | apply HC.region
    | refine HL.pa ?_
    | refine HL.ga rfl ?_
    | refine HL.na rfl ?_
    | refine HL.nu rfl rfl ?_
    | apply HC.block
    | apply HC.skip
    | apply HC.exit
    | apply HC.ret
    | apply HX.e_block
    | refine HX.e_other rfl ?_
    | apply HX.e_then
    | apply HX.e_again
    | apply HX.n_block
    | apply HX.r_then
    | apply HX.r_block
    | apply HX.r_again
    | refine HC.cond_yes rfl ?_
    | refine HC.cond_no rfl ?_
    | refine HL.one (H1.ldb rfl (by first | ((repeat (first | with_reducible exact mem_hd | with_reducible apply mem_tl)); done) | (repeat (first | exact List.Mem.head _ | apply List.Mem.tail))) rfl rfl ?_)
    | refine HC.cond rfl (fun hc => ?_) (fun hc => ?_)
    | refine HC.cond_b rfl (fun hc => ?_) (fun hc => ?_))
  refine HL.one (H1.ldAgg (vs := caseV ⟨holders, lost, to, (wd : Int), (kk : Int), (dl : Int)⟩ (ah, ch) (al, cl) (at_, ct)) rfl (by first | ((repeat (first | with_reducible exact mem_hd | with_reducible apply mem_tl)); done) | (repeat (first | exact List.Mem.head _ | apply List.Mem.tail))) rfl (fun i v hv => by rw [show 0 + i = i from Nat.zero_add i]; exact hv) rfl ?_)
  repeat' (first
    | apply HL.fold
    | apply HA.fold
    | apply HL.nil
    | apply HX.n_then
    | apply HC.seq
    | apply HC.region
    | refine HL.pa ?_
    | refine HL.ga rfl ?_
    | refine HL.na rfl ?_
    | refine HL.nu rfl rfl ?_
    | apply HC.block
    | apply HC.skip
    | apply HC.exit
    | apply HC.ret
    | apply HX.e_block
    | refine HX.e_other rfl ?_
    | apply HX.e_then
    | apply HX.e_again
    | apply HX.n_block
    | apply HX.r_then
    | apply HX.r_block
    | apply HX.r_again
    | refine HC.cond_yes rfl ?_
    | refine HC.cond_no rfl ?_
    | refine HL.one (H1.ldb rfl (by first | ((repeat (first | with_reducible exact mem_hd | with_reducible apply mem_tl)); done) | (repeat (first | exact List.Mem.head _ | apply List.Mem.tail))) rfl rfl ?_)
    | refine HC.cond rfl (fun hc => ?_) (fun hc => ?_)
    | refine HC.cond_b rfl (fun hc => ?_) (fun hc => ?_))
  refine HL.one (H1.callz1 (An := fun z : List (Option Addr × Nat) × Option Addr × Nat => A.ts z.2.1 z.2.2 (planR holders lost to (wd : Int) (kk : Int) (dl : Int)) z.1) (vs := [.agg (caseV ⟨holders, lost, to, (wd : Int), (kk : Int), (dl : Int)⟩ (ah, ch) (al, cl) (at_, ct)).toArray]) rfl rfl (fun w' hM => planW_fn ⟨holders, lost, to, (wd : Int), (kk : Int), (dl : Int)⟩ (ah, ch) (al, cl) (at_, ct) (by dsimp only; omega) (by dsimp only; omega) (by dsimp only; omega) w' (hM.gr (by first | ((repeat (first | with_reducible exact mem_hd | with_reducible apply mem_tl)); done) | (repeat (first | exact List.Mem.head _ | apply List.Mem.tail)))) (hM.gr (by first | ((repeat (first | with_reducible exact mem_hd | with_reducible apply mem_tl)); done) | (repeat (first | exact List.Mem.head _ | apply List.Mem.tail)))) (hM.gr (by first | ((repeat (first | with_reducible exact mem_hd | with_reducible apply mem_tl)); done) | (repeat (first | exact List.Mem.head _ | apply List.Mem.tail))))) ?_)
  rintro ⟨zs, aP, cP⟩ hz
  dsimp only at hz ⊢
  simp only [caseV]
  by_cases hB : planB holders lost to (wd : Int) (kk : Int) (dl : Int) = true
  rotate_left
  · rw [if_neg hB]
    repeat' (first
      | apply HL.fold
      | apply HA.fold
      | apply HL.nil
      | apply HX.n_then
      | apply HC.seq
      | apply HC.region
      | refine HL.pa ?_
      | refine HL.ga rfl ?_
      | refine HL.na rfl ?_
      | refine HL.nu rfl rfl ?_
      | apply HC.block
      | apply HC.skip
      | apply HC.exit
      | apply HC.ret
      | apply HX.e_block
      | refine HX.e_other rfl ?_
      | apply HX.e_then
      | apply HX.e_again
      | apply HX.n_block
      | apply HX.r_then
      | apply HX.r_block
      | apply HX.r_again
      | refine HC.cond_yes rfl ?_
      | refine HC.cond_no rfl ?_
      | refine HL.one (H1.ldb rfl (by first | ((repeat (first | with_reducible exact mem_hd | with_reducible apply mem_tl)); done) | (repeat (first | exact List.Mem.head _ | apply List.Mem.tail))) rfl rfl ?_)
      | refine HC.cond rfl (fun hc => ?_) (fun hc => ?_)
      | refine HC.cond_b rfl (fun hc => ?_) (fun hc => ?_))
    refine HC.cut (α := Unit) (fun _ => [(5, .bool true), (8, .int .i64 190), (34, .bool true)]) (fun _ => []) (fun _ => True) ?_ ?_
    · refine HC.any rfl ?_
      refine HA.pa 0 rfl ?_
      refine HA.pa 1 rfl ?_
      refine HA.pa 2 rfl ?_
      first | refine HA.ga 3 rfl rfl ?_ | refine HA.na 3 rfl rfl ?_ | refine HA.nu 3 rfl rfl ?_
      first | refine HA.ga 5 rfl rfl ?_ | refine HA.na 5 rfl rfl ?_ | refine HA.nu 5 rfl rfl ?_
      first | refine HA.ga 6 rfl rfl ?_ | refine HA.na 6 rfl rfl ?_ | refine HA.nu 6 rfl rfl ?_
      refine HA.all [4] (by kernel_rfl) rfl ⟨⟨_, rfl, ?_⟩, trivial⟩
      refine HO.drop_a rfl ?_
      first | refine HA.ga 7 rfl rfl ?_ | refine HA.na 7 rfl rfl ?_ | refine HA.nu 7 rfl rfl ?_
      refine HA.pa 8 rfl ?_
      refine HA.done (by kernel_rfl) ?_
      exact HX.cut () trivial (by repeat (first | exact trivial | refine ⟨rfl, ?_⟩)) (by repeat (first | exact Hs.nil _ | (refine Hs.cons (by first | ((repeat (first | with_reducible exact Pick.here | with_reducible apply Pick.there)); done) | (repeat (first | exact Pick.here | apply Pick.there))) ?_)))
    rintro - -
    repeat' (first
      | apply HL.fold
      | apply HA.fold
      | apply HL.nil
      | apply HX.n_then
      | apply HC.seq
      | apply HC.region
      | refine HL.pa ?_
      | refine HL.ga rfl ?_
      | refine HL.na rfl ?_
      | refine HL.nu rfl rfl ?_
      | apply HC.block
      | apply HC.skip
      | apply HC.exit
      | apply HC.ret
      | apply HX.e_block
      | refine HX.e_other rfl ?_
      | apply HX.e_then
      | apply HX.e_again
      | apply HX.n_block
      | apply HX.r_then
      | apply HX.r_block
      | apply HX.r_again
      | refine HC.cond_yes rfl ?_
      | refine HC.cond_no rfl ?_
      | refine HL.one (H1.ldb rfl (by first | ((repeat (first | with_reducible exact mem_hd | with_reducible apply mem_tl)); done) | (repeat (first | exact List.Mem.head _ | apply List.Mem.tail))) rfl rfl ?_)
      | refine HC.cond rfl (fun hc => ?_) (fun hc => ?_)
      | refine HC.cond_b rfl (fun hc => ?_) (fun hc => ?_))
    exact HX.ret1 rfl rfl fun w' hM => ⟨by simp, hM.ext⟩
  obtain ⟨hks, hlen⟩ := plan_yes_inv ⟨holders, lost, to, (wd : Int), (kk : Int), (dl : Int)⟩ hg hB
  dsimp only [Int.toNat_natCast] at hks hlen
  obtain ⟨-, hP⟩ := plan_yes ⟨holders, lost, to, (wd : Int), (kk : Int), (dl : Int)⟩ hg (j := dl) hks hlen (by dsimp only; omega)
  dsimp only [Int.toNat_natCast] at hP
  have hlast : lastD (planAt (survS holders lost) lost to wd kk dl) ≤ (dl : Int) := lastD_le (by omega) fun t ht => (plan_stop dl t ht).1
  have hbal := fun {d : Nat} (hd : (d : Int) < lastD (planAt (survS holders lost) lost to wd kk dl)) => plan_balanced hg (fun h => by have := hks h; omega) hlen hd
  have hsrc : ∀ t ∈ planAt (survS holders lost) lost to wd kk dl, t.src.length ≤ 1000000 := fun t ht => by rw [plan_src dl t ht]; omega
  have hnd : ∀ t ∈ planAt (survS holders lost) lost to wd kk dl, t.src.Nodup := fun t ht => by
    obtain ⟨i, hi, e⟩ := List.getElem_of_mem ht
    have hv := (plan_valid hg (fun h => by have := hks h; omega) hlen (Nat.le_refl dl)).ok i hi
    have e2 : tr (planAt (survS holders lost) lost to wd kk dl) i = t := by simp [tr, hi, e]
    rw [← e2]; exact hv.1.nd
  have hZ0 : 0 ≤ lastD (planAt (survS holders lost) lost to wd kk dl) := lastD_nonneg _
  rw [if_pos hB]
  rw [hP] at hz ⊢
  generalize planAt (survS holders lost) lost to wd kk dl = l at *
  repeat' (first
    | apply HL.fold
    | apply HA.fold
    | apply HL.nil
    | apply HX.n_then
    | apply HC.seq
    | apply HC.region
    | refine HL.pa ?_
    | refine HL.ga rfl ?_
    | refine HL.na rfl ?_
    | refine HL.nu rfl rfl ?_
    | apply HC.block
    | apply HC.skip
    | apply HC.exit
    | apply HC.ret
    | apply HX.e_block
    | refine HX.e_other rfl ?_
    | apply HX.e_then
    | apply HX.e_again
    | apply HX.n_block
    | apply HX.r_then
    | apply HX.r_block
    | apply HX.r_again
    | refine HC.cond_yes rfl ?_
    | refine HC.cond_no rfl ?_
    | refine HL.one (H1.ldb rfl (by first | ((repeat (first | with_reducible exact mem_hd | with_reducible apply mem_tl)); done) | (repeat (first | exact List.Mem.head _ | apply List.Mem.tail))) rfl rfl ?_)
    | refine HC.cond rfl (fun hc => ?_) (fun hc => ?_)
    | refine HC.cond_b rfl (fun hc => ?_) (fun hc => ?_))
  refine HC.rebase fun w1 hM1 => ?_
  have hE1 := hM1.ext
  have q0 : w1.cell? ⟨b6, 0, none⟩ = some (.slice ah holders.length ch) := (hM1.blk (cs := [.slice ah holders.length ch, .slice al lost.length cl, .slice at_ to.length ct, .int .i64 (wd : Int), .int .i64 (kk : Int), .int .i64 (dl : Int)]) (by first | ((repeat (first | with_reducible exact mem_hd | with_reducible apply mem_tl)); done) | (repeat (first | exact List.Mem.head _ | apply List.Mem.tail)))).cell rfl
  have q1 : w1.cell? ⟨b6, 1, none⟩ = some (.slice al lost.length cl) := (hM1.blk (cs := [.slice ah holders.length ch, .slice al lost.length cl, .slice at_ to.length ct, .int .i64 (wd : Int), .int .i64 (kk : Int), .int .i64 (dl : Int)]) (by first | ((repeat (first | with_reducible exact mem_hd | with_reducible apply mem_tl)); done) | (repeat (first | exact List.Mem.head _ | apply List.Mem.tail)))).cell rfl
  have q3 : w1.cell? ⟨b6, 3, none⟩ = some (.int .i64 (wd : Int)) := (hM1.blk (cs := [.slice ah holders.length ch, .slice al lost.length cl, .slice at_ to.length ct, .int .i64 (wd : Int), .int .i64 (kk : Int), .int .i64 (dl : Int)]) (by first | ((repeat (first | with_reducible exact mem_hd | with_reducible apply mem_tl)); done) | (repeat (first | exact List.Mem.head _ | apply List.Mem.tail)))).cell rfl
  have q5 : w1.cell? ⟨b6, 5, none⟩ = some (.int .i64 (dl : Int)) := (hM1.blk (cs := [.slice ah holders.length ch, .slice al lost.length cl, .slice at_ to.length ct, .int .i64 (wd : Int), .int .i64 (kk : Int), .int .i64 (dl : Int)]) (by first | ((repeat (first | with_reducible exact mem_hd | with_reducible apply mem_tl)); done) | (repeat (first | exact List.Mem.head _ | apply List.Mem.tail)))).cell rfl
  have hRh : Rd w1 (.slice ah holders.length ch) (ints holders) := hM1.gr (by first | ((repeat (first | with_reducible exact mem_hd | with_reducible apply mem_tl)); done) | (repeat (first | exact List.Mem.head _ | apply List.Mem.tail)))
  have hRl : Rd w1 (.slice al lost.length cl) (ints lost) := hM1.gr (by first | ((repeat (first | with_reducible exact mem_hd | with_reducible apply mem_tl)); done) | (repeat (first | exact List.Mem.head _ | apply List.Mem.tail)))
  have hT1 : RdT w1 (.slice aP l.length cP) l := hM1.ts (by first | ((repeat (first | with_reducible exact mem_hd | with_reducible apply mem_tl)); done) | (repeat (first | exact List.Mem.head _ | apply List.Mem.tail))) hz
  clear hM1
  refine HC.cut (α := Unit) (fun _ => [(5, .bool true), (6, .pointer (some ⟨b6, 0, none⟩)), (7, .slice aP l.length cP), (34, .bool false)]) (fun _ => []) (fun _ => True) ?_ ?_
  · refine HC.any rfl ?_
    refine HA.pa 0 rfl ?_
    refine HA.pa 1 rfl ?_
    refine HA.pa 2 rfl ?_
    first | refine HA.ga 3 rfl rfl ?_ | refine HA.na 3 rfl rfl ?_ | refine HA.nu 3 rfl rfl ?_
    first | refine HA.ga 5 rfl rfl ?_ | refine HA.na 5 rfl rfl ?_ | refine HA.nu 5 rfl rfl ?_
    refine HA.all [4, 6] (by kernel_rfl) rfl ⟨⟨_, rfl, ?_⟩, ⟨_, rfl, ?_⟩, trivial⟩
    · refine HO.one_a rfl ?_
      refine H1.callx (vs := [.slice aP l.length cP]) rfl rfl (fun w' hM => last_fn _ l (by omega) w' (hT1.ext hM.ext)) ?_
      apply HA.fold
      refine HA.all [6] (by kernel_rfl) rfl ⟨⟨_, rfl, ?_⟩, trivial⟩
      refine HO.one_a rfl ?_
      refine H1.ld0 rfl q5 rfl ?_
      apply HA.fold
      first | refine HA.ga 7 rfl rfl ?_ | refine HA.na 7 rfl rfl ?_ | refine HA.nu 7 rfl rfl ?_
      refine HA.pa 8 rfl ?_
      refine HA.done (by kernel_rfl) ?_
      rw [decide_eq_false (show ¬ (dl : Int) < lastD l by omega)]
      exact HX.cut () trivial (by repeat (first | exact trivial | refine ⟨rfl, ?_⟩)) (by repeat (first | exact Hs.nil _ | (refine Hs.cons (by first | ((repeat (first | with_reducible exact Pick.here | with_reducible apply Pick.there)); done) | (repeat (first | exact Pick.here | apply Pick.there))) ?_)))
    · refine HO.one_a rfl ?_
      refine H1.ld0 rfl q5 rfl ?_
      apply HA.fold
      refine HA.all [4] (by kernel_rfl) rfl ⟨⟨_, rfl, ?_⟩, trivial⟩
      refine HO.one_a rfl ?_
      refine H1.callx (vs := [.slice aP l.length cP]) rfl rfl (fun w' hM => last_fn _ l (by omega) w' (hT1.ext hM.ext)) ?_
      apply HA.fold
      first | refine HA.ga 7 rfl rfl ?_ | refine HA.na 7 rfl rfl ?_ | refine HA.nu 7 rfl rfl ?_
      refine HA.pa 8 rfl ?_
      refine HA.done (by kernel_rfl) ?_
      rw [decide_eq_false (show ¬ (dl : Int) < lastD l by omega)]
      exact HX.cut () trivial (by repeat (first | exact trivial | refine ⟨rfl, ?_⟩)) (by repeat (first | exact Hs.nil _ | (refine Hs.cons (by first | ((repeat (first | with_reducible exact Pick.here | with_reducible apply Pick.there)); done) | (repeat (first | exact Pick.here | apply Pick.there))) ?_)))
  rintro - -
  repeat' (first
    | apply HL.fold
    | apply HA.fold
    | apply HL.nil
    | apply HX.n_then
    | apply HC.seq
    | apply HC.region
    | refine HL.pa ?_
    | refine HL.ga rfl ?_
    | refine HL.na rfl ?_
    | refine HL.nu rfl rfl ?_
    | apply HC.block
    | apply HC.skip
    | apply HC.exit
    | apply HC.ret
    | apply HX.e_block
    | refine HX.e_other rfl ?_
    | apply HX.e_then
    | apply HX.e_again
    | apply HX.n_block
    | apply HX.r_then
    | apply HX.r_block
    | apply HX.r_again
    | refine HC.cond_yes rfl ?_
    | refine HC.cond_no rfl ?_
    | refine HL.one (H1.ldb rfl (by first | ((repeat (first | with_reducible exact mem_hd | with_reducible apply mem_tl)); done) | (repeat (first | exact List.Mem.head _ | apply List.Mem.tail))) rfl rfl ?_)
    | refine HC.cond rfl (fun hc => ?_) (fun hc => ?_)
    | refine HC.cond_b rfl (fun hc => ?_) (fun hc => ?_))
  refine HC.loop (α := Nat) (fun d => [(5, .bool true), (6, .pointer (some ⟨b6, 0, none⟩)), (7, .slice aP l.length cP), (9, .int .i64 (d : Int))]) (fun _ => []) (fun d => (d : Int) ≤ lastD l) (fun d => (lastD l).toNat - d) 0 (by omega) (by repeat (first | exact trivial | refine ⟨rfl, ?_⟩)) (by repeat (first | exact Hs.nil _ | (refine Hs.cons (by first | ((repeat (first | with_reducible exact Pick.here | with_reducible apply Pick.there)); done) | (repeat (first | exact Pick.here | apply Pick.there))) ?_))) ?_
  intro d hd
  repeat' (first
    | apply HL.fold
    | apply HA.fold
    | apply HL.nil
    | apply HX.n_then
    | apply HC.seq
    | apply HC.region
    | refine HL.pa ?_
    | refine HL.ga rfl ?_
    | refine HL.na rfl ?_
    | refine HL.nu rfl rfl ?_
    | apply HC.block
    | apply HC.skip
    | apply HC.exit
    | apply HC.ret
    | apply HX.e_block
    | refine HX.e_other rfl ?_
    | apply HX.e_then
    | apply HX.e_again
    | apply HX.n_block
    | apply HX.r_then
    | apply HX.r_block
    | apply HX.r_again
    | refine HC.cond_yes rfl ?_
    | refine HC.cond_no rfl ?_
    | refine HL.one (H1.ldb rfl (by first | ((repeat (first | with_reducible exact mem_hd | with_reducible apply mem_tl)); done) | (repeat (first | exact List.Mem.head _ | apply List.Mem.tail))) rfl rfl ?_)
    | refine HC.cond rfl (fun hc => ?_) (fun hc => ?_)
    | refine HC.cond_b rfl (fun hc => ?_) (fun hc => ?_))
  refine HL.one (H1.callx (vs := [.slice aP l.length cP]) rfl rfl (fun w' hM => last_fn _ l (by omega) w' (hT1.ext hM.ext)) ?_)
  by_cases hdl : (d : Int) < lastD l
  rotate_left
  · repeat' (first
      | apply HL.fold
      | apply HA.fold
      | apply HL.nil
      | apply HX.n_then
      | apply HC.seq
      | apply HC.region
      | refine HL.pa ?_
      | refine HL.ga rfl ?_
      | refine HL.na rfl ?_
      | refine HL.nu rfl rfl ?_
      | apply HC.block
      | apply HC.skip
      | apply HC.exit
      | apply HC.ret
      | apply HX.e_block
      | refine HX.e_other rfl ?_
      | apply HX.e_then
      | apply HX.e_again
      | apply HX.n_block
      | apply HX.r_then
      | apply HX.r_block
      | apply HX.r_again
      | refine HC.cond_yes rfl ?_
      | refine HC.cond_no rfl ?_
      | refine HL.one (H1.ldb rfl (by first | ((repeat (first | with_reducible exact mem_hd | with_reducible apply mem_tl)); done) | (repeat (first | exact List.Mem.head _ | apply List.Mem.tail))) rfl rfl ?_)
      | refine HC.cond rfl (fun hc => ?_) (fun hc => ?_)
      | refine HC.cond_b rfl (fun hc => ?_) (fun hc => ?_))
    exact HX.ret1 rfl rfl fun w' hM => ⟨rfl, hE1.trans hM.ext⟩
  have hal : (afterS holders lost l (d : Int)).length = holders.length := by simp [afterS]
  repeat' (first
    | apply HL.fold
    | apply HA.fold
    | apply HL.nil
    | apply HX.n_then
    | apply HC.seq
    | apply HC.region
    | refine HL.pa ?_
    | refine HL.ga rfl ?_
    | refine HL.na rfl ?_
    | refine HL.nu rfl rfl ?_
    | apply HC.block
    | apply HC.skip
    | apply HC.exit
    | apply HC.ret
    | apply HX.e_block
    | refine HX.e_other rfl ?_
    | apply HX.e_then
    | apply HX.e_again
    | apply HX.n_block
    | apply HX.r_then
    | apply HX.r_block
    | apply HX.r_again
    | refine HC.cond_yes rfl ?_
    | refine HC.cond_no rfl ?_
    | refine HL.one (H1.ldb rfl (by first | ((repeat (first | with_reducible exact mem_hd | with_reducible apply mem_tl)); done) | (repeat (first | exact List.Mem.head _ | apply List.Mem.tail))) rfl rfl ?_)
    | refine HC.cond rfl (fun hc => ?_) (fun hc => ?_)
    | refine HC.cond_b rfl (fun hc => ?_) (fun hc => ?_))
  refine HL.one (H1.ld0 rfl q0 rfl ?_)
  repeat' (first
    | apply HL.fold
    | apply HA.fold
    | apply HL.nil
    | apply HX.n_then
    | apply HC.seq
    | apply HC.region
    | refine HL.pa ?_
    | refine HL.ga rfl ?_
    | refine HL.na rfl ?_
    | refine HL.nu rfl rfl ?_
    | apply HC.block
    | apply HC.skip
    | apply HC.exit
    | apply HC.ret
    | apply HX.e_block
    | refine HX.e_other rfl ?_
    | apply HX.e_then
    | apply HX.e_again
    | apply HX.n_block
    | apply HX.r_then
    | apply HX.r_block
    | apply HX.r_again
    | refine HC.cond_yes rfl ?_
    | refine HC.cond_no rfl ?_
    | refine HL.one (H1.ldb rfl (by first | ((repeat (first | with_reducible exact mem_hd | with_reducible apply mem_tl)); done) | (repeat (first | exact List.Mem.head _ | apply List.Mem.tail))) rfl rfl ?_)
    | refine HC.cond rfl (fun hc => ?_) (fun hc => ?_)
    | refine HC.cond_b rfl (fun hc => ?_) (fun hc => ?_))
  refine HL.one (H1.ld0 rfl q1 rfl ?_)
  repeat' (first
    | apply HL.fold
    | apply HA.fold
    | apply HL.nil
    | apply HX.n_then
    | apply HC.seq
    | apply HC.region
    | refine HL.pa ?_
    | refine HL.ga rfl ?_
    | refine HL.na rfl ?_
    | refine HL.nu rfl rfl ?_
    | apply HC.block
    | apply HC.skip
    | apply HC.exit
    | apply HC.ret
    | apply HX.e_block
    | refine HX.e_other rfl ?_
    | apply HX.e_then
    | apply HX.e_again
    | apply HX.n_block
    | apply HX.r_then
    | apply HX.r_block
    | apply HX.r_again
    | refine HC.cond_yes rfl ?_
    | refine HC.cond_no rfl ?_
    | refine HL.one (H1.ldb rfl (by first | ((repeat (first | with_reducible exact mem_hd | with_reducible apply mem_tl)); done) | (repeat (first | exact List.Mem.head _ | apply List.Mem.tail))) rfl rfl ?_)
    | refine HC.cond rfl (fun hc => ?_) (fun hc => ?_)
    | refine HC.cond_b rfl (fun hc => ?_) (fun hc => ?_))
  refine HL.one (H1.callz1 (An := fun z : Option Addr × Nat => A.grow 3 1 z.1 z.2 holders.length (ints (afterS holders lost l (d : Int)))) (vs := [.slice ah holders.length ch, .slice al lost.length cl, .slice aP l.length cP, .int .i64 (d : Int)]) rfl rfl (fun w' hM => by
    have := after_fn (.slice ah holders.length ch) (.slice al lost.length cl) (.slice aP l.length cP) holders lost l (d : Int) (by omega) (by omega) (by omega) w' (hM.rd0 hRh) (hM.rd0 hRl) (hT1.ext hM.ext)
    rw [hal] at this
    exact this) ?_)
  rintro ⟨aA, cA⟩ -
  dsimp only
  obtain ⟨Q, hQ⟩ : ∃ Q : Nat, Q ≤ 9 ∧ ∀ i, i < holders.length → 0 ≤ at' (afterS holders lost l (d : Int)) i → Q ≤ cntP l (d : Int) (at' (afterS holders lost l (d : Int)) i) ∧ cntP l (d : Int) (at' (afterS holders lost l (d : Int)) i) ≤ Q + 1 ∧ cntP l (d : Int) (at' (afterS holders lost l (d : Int)) i) ≤ wd := hbal hdl
  obtain ⟨hQ9, hQ⟩ := hQ
  generalize hav : afterS holders lost l (d : Int) = av at *
  repeat' (first
    | apply HL.fold
    | apply HA.fold
    | apply HL.nil
    | apply HX.n_then
    | apply HC.seq
    | apply HC.region
    | refine HL.pa ?_
    | refine HL.ga rfl ?_
    | refine HL.na rfl ?_
    | refine HL.nu rfl rfl ?_
    | apply HC.block
    | apply HC.skip
    | apply HC.exit
    | apply HC.ret
    | apply HX.e_block
    | refine HX.e_other rfl ?_
    | apply HX.e_then
    | apply HX.e_again
    | apply HX.n_block
    | apply HX.r_then
    | apply HX.r_block
    | apply HX.r_again
    | refine HC.cond_yes rfl ?_
    | refine HC.cond_no rfl ?_
    | refine HL.one (H1.ldb rfl (by first | ((repeat (first | with_reducible exact mem_hd | with_reducible apply mem_tl)); done) | (repeat (first | exact List.Mem.head _ | apply List.Mem.tail))) rfl rfl ?_)
    | refine HC.cond rfl (fun hc => ?_) (fun hc => ?_)
    | refine HC.cond_b rfl (fun hc => ?_) (fun hc => ?_))
  refine HC.openg (e := 3) (a := aA) (xs := ints av) (by first | ((repeat (first | with_reducible exact mem_hd | with_reducible apply mem_tl)); done) | (repeat (first | exact List.Mem.head _ | apply List.Mem.tail))) (by omega) ?_
  rintro bA rfl
  refine HC.loop (α := Nat × Nat × Nat) (fun z => [(5, .bool true), (6, .pointer (some ⟨b6, 0, none⟩)), (7, .slice aP l.length cP), (9, .int .i64 (d : Int)), (10, .slice (some ⟨bA, 0, none⟩) holders.length cA), (11, .int .i64 (z.2.1 : Int)), (12, .int .i64 (z.2.2 : Int)), (13, .int .i64 (z.1 : Int))])
    (fun _ => [A.grow 3 1 (some ⟨bA, 0, none⟩) cA holders.length (ints av)]) (fun z => z.1 ≤ holders.length ∧ Q ≤ z.2.1 ∧ z.2.1 ≤ 100 ∧ z.2.2 ≤ Q + 1 ∧ z.2.2 ≤ wd) (fun z => holders.length - z.1) (0, 100, 0) ⟨Nat.zero_le _, by show Q ≤ 100; omega, Nat.le_refl _, Nat.zero_le _, Nat.zero_le _⟩ (by repeat (first | exact trivial | refine ⟨rfl, ?_⟩)) (by repeat (first | exact Hs.nil _ | (refine Hs.cons (by first | ((repeat (first | with_reducible exact Pick.here | with_reducible apply Pick.there)); done) | (repeat (first | exact Pick.here | apply Pick.there))) ?_))) ?_
  rintro ⟨i, least, most⟩ ⟨hi, hle1, hle2, hmo1, hmo2⟩
  dsimp only at hi hle1 hle2 hmo1 hmo2 ⊢
  by_cases hlt : i < holders.length
  · by_cases hneg : at' av i < 0
    · repeat' (first
        | apply HL.fold
        | apply HA.fold
        | apply HL.nil
        | apply HX.n_then
        | apply HC.seq
        | apply HC.region
        | refine HL.pa ?_
        | refine HL.ga rfl ?_
        | refine HL.na rfl ?_
        | refine HL.nu rfl rfl ?_
        | apply HC.block
        | apply HC.skip
        | apply HC.exit
        | apply HC.ret
        | apply HX.e_block
        | refine HX.e_other rfl ?_
        | apply HX.e_then
        | apply HX.e_again
        | apply HX.n_block
        | apply HX.r_then
        | apply HX.r_block
        | apply HX.r_again
        | refine HC.cond_yes rfl ?_
        | refine HC.cond_no rfl ?_
        | refine HL.one (H1.ldb rfl (by first | ((repeat (first | with_reducible exact mem_hd | with_reducible apply mem_tl)); done) | (repeat (first | exact List.Mem.head _ | apply List.Mem.tail))) rfl rfl ?_)
        | refine HC.cond rfl (fun hc => ?_) (fun hc => ?_)
        | refine HC.cond_b rfl (fun hc => ?_) (fun hc => ?_))
      refine HL.one (H1.ldg rfl (by first | ((repeat (first | with_reducible exact mem_hd | with_reducible apply mem_tl)); done) | (repeat (first | exact List.Mem.head _ | apply List.Mem.tail))) (ints_get (show i < av.length by omega)) rfl ?_)
      repeat' (first
        | apply HL.fold
        | apply HA.fold
        | apply HL.nil
        | apply HX.n_then
        | apply HC.seq
        | apply HC.region
        | refine HL.pa ?_
        | refine HL.ga rfl ?_
        | refine HL.na rfl ?_
        | refine HL.nu rfl rfl ?_
        | apply HC.block
        | apply HC.skip
        | apply HC.exit
        | apply HC.ret
        | apply HX.e_block
        | refine HX.e_other rfl ?_
        | apply HX.e_then
        | apply HX.e_again
        | apply HX.n_block
        | apply HX.r_then
        | apply HX.r_block
        | apply HX.r_again
        | refine HC.cond_yes rfl ?_
        | refine HC.cond_no rfl ?_
        | refine HL.one (H1.ldb rfl (by first | ((repeat (first | with_reducible exact mem_hd | with_reducible apply mem_tl)); done) | (repeat (first | exact List.Mem.head _ | apply List.Mem.tail))) rfl rfl ?_)
        | refine HC.cond rfl (fun hc => ?_) (fun hc => ?_)
        | refine HC.cond_b rfl (fun hc => ?_) (fun hc => ?_))
      exact HX.again (i + 1, least, most) ⟨by show i + 1 ≤ _; omega, hle1, hle2, hmo1, hmo2⟩ (by show holders.length - (i + 1) < holders.length - i; omega) (by repeat (first | exact trivial | refine ⟨rfl, ?_⟩)) (by repeat (first | exact Hs.nil _ | (refine Hs.cons (by first | ((repeat (first | with_reducible exact Pick.here | with_reducible apply Pick.there)); done) | (repeat (first | exact Pick.here | apply Pick.there))) ?_)))
    · obtain ⟨hc1, hc2, hc3⟩ := hQ i hlt (by omega)
      have hgi := ints_get (show i < av.length by omega)
      generalize at' av i = c at *
      repeat' (first
        | apply HL.fold
        | apply HA.fold
        | apply HL.nil
        | apply HX.n_then
        | apply HC.seq
        | apply HC.region
        | refine HL.pa ?_
        | refine HL.ga rfl ?_
        | refine HL.na rfl ?_
        | refine HL.nu rfl rfl ?_
        | apply HC.block
        | apply HC.skip
        | apply HC.exit
        | apply HC.ret
        | apply HX.e_block
        | refine HX.e_other rfl ?_
        | apply HX.e_then
        | apply HX.e_again
        | apply HX.n_block
        | apply HX.r_then
        | apply HX.r_block
        | apply HX.r_again
        | refine HC.cond_yes rfl ?_
        | refine HC.cond_no rfl ?_
        | refine HL.one (H1.ldb rfl (by first | ((repeat (first | with_reducible exact mem_hd | with_reducible apply mem_tl)); done) | (repeat (first | exact List.Mem.head _ | apply List.Mem.tail))) rfl rfl ?_)
        | refine HC.cond rfl (fun hc => ?_) (fun hc => ?_)
        | refine HC.cond_b rfl (fun hc => ?_) (fun hc => ?_))
      refine HL.one (H1.ldg rfl (by first | ((repeat (first | with_reducible exact mem_hd | with_reducible apply mem_tl)); done) | (repeat (first | exact List.Mem.head _ | apply List.Mem.tail))) hgi rfl ?_)
      repeat' (first
        | apply HL.fold
        | apply HA.fold
        | apply HL.nil
        | apply HX.n_then
        | apply HC.seq
        | apply HC.region
        | refine HL.pa ?_
        | refine HL.ga rfl ?_
        | refine HL.na rfl ?_
        | refine HL.nu rfl rfl ?_
        | apply HC.block
        | apply HC.skip
        | apply HC.exit
        | apply HC.ret
        | apply HX.e_block
        | refine HX.e_other rfl ?_
        | apply HX.e_then
        | apply HX.e_again
        | apply HX.n_block
        | apply HX.r_then
        | apply HX.r_block
        | apply HX.r_again
        | refine HC.cond_yes rfl ?_
        | refine HC.cond_no rfl ?_
        | refine HL.one (H1.ldb rfl (by first | ((repeat (first | with_reducible exact mem_hd | with_reducible apply mem_tl)); done) | (repeat (first | exact List.Mem.head _ | apply List.Mem.tail))) rfl rfl ?_)
        | refine HC.cond rfl (fun hc => ?_) (fun hc => ?_)
        | refine HC.cond_b rfl (fun hc => ?_) (fun hc => ?_))
      refine HC.loop (α := Nat) (fun q => [(5, .bool true), (6, .pointer (some ⟨b6, 0, none⟩)), (7, .slice aP l.length cP), (9, .int .i64 (d : Int)), (10, .slice (some ⟨bA, 0, none⟩) holders.length cA), (11, .int .i64 (least : Int)), (12, .int .i64 (most : Int)), (13, .int .i64 (i : Int)), (14, .int .i64 (cntP (l.take q) (d : Int) c : Int)), (15, .int .i64 (q : Int))])
        (fun _ => [A.grow 3 1 (some ⟨bA, 0, none⟩) cA holders.length (ints av)]) (fun q => q ≤ l.length) (fun q => l.length - q) 0 (Nat.zero_le _) (by repeat (first | exact trivial | refine ⟨rfl, ?_⟩)) (by repeat (first | exact Hs.nil _ | (refine Hs.cons (by first | ((repeat (first | with_reducible exact Pick.here | with_reducible apply Pick.there)); done) | (repeat (first | exact Pick.here | apply Pick.there))) ?_))) ?_
      intro q hq
      by_cases hql : q < l.length
      · obtain ⟨bt, offt, h, rfl, hcl, hsr⟩ := hT1.el hql
        obtain ⟨ash, csh, rfl, -⟩ := hsr.isInts
        have hs1 := hsrc _ (tr_mem hql)
        have hn1 := hnd _ (tr_mem hql)
        have hg0 := congrFun (congrFun (gAt_zero l q) (d : Int)) c
        have hgE := congrFun (congrFun (gAt_end hql) (d : Int)) c
        have hcl3 := hcl 3 _ rfl
        have hcl2 := hcl 2 _ rfl
        rw [← hg0]
        repeat' (first
          | apply HL.fold
          | apply HA.fold
          | apply HL.nil
          | apply HX.n_then
          | apply HC.seq
          | apply HC.region
          | refine HL.pa ?_
          | refine HL.ga rfl ?_
          | refine HL.na rfl ?_
          | refine HL.nu rfl rfl ?_
          | apply HC.block
          | apply HC.skip
          | apply HC.exit
          | apply HC.ret
          | apply HX.e_block
          | refine HX.e_other rfl ?_
          | apply HX.e_then
          | apply HX.e_again
          | apply HX.n_block
          | apply HX.r_then
          | apply HX.r_block
          | apply HX.r_again
          | refine HC.cond_yes rfl ?_
          | refine HC.cond_no rfl ?_
          | refine HL.one (H1.ldb rfl (by first | ((repeat (first | with_reducible exact mem_hd | with_reducible apply mem_tl)); done) | (repeat (first | exact List.Mem.head _ | apply List.Mem.tail))) rfl rfl ?_)
          | refine HC.cond rfl (fun hc => ?_) (fun hc => ?_)
          | refine HC.cond_b rfl (fun hc => ?_) (fun hc => ?_))
        refine HC.loop (α := Nat) (fun m => [(5, .bool true), (6, .pointer (some ⟨b6, 0, none⟩)), (7, .slice (some ⟨bt, offt, none⟩) l.length cP), (9, .int .i64 (d : Int)), (10, .slice (some ⟨bA, 0, none⟩) holders.length cA), (11, .int .i64 (least : Int)), (12, .int .i64 (most : Int)), (13, .int .i64 (i : Int)), (14, .int .i64 (gAt l q m (d : Int) c)), (15, .int .i64 (q : Int)), (16, .int .i64 (m : Int))])
          (fun _ => [A.grow 3 1 (some ⟨bA, 0, none⟩) cA holders.length (ints av)]) (fun m => m ≤ (tr l q).src.length) (fun m => (tr l q).src.length - m) 0 (Nat.zero_le _) (by repeat (first | exact trivial | refine ⟨rfl, ?_⟩)) (by repeat (first | exact Hs.nil _ | (refine Hs.cons (by first | ((repeat (first | with_reducible exact Pick.here | with_reducible apply Pick.there)); done) | (repeat (first | exact Pick.here | apply Pick.there))) ?_))) ?_
        intro m hm
        have hgb := gAt_bound l q m (d : Int) c
        by_cases hml : m < (tr l q).src.length
        · obtain ⟨bs, offs, rfl, -⟩ := hsr.iat (by intro e; rw [e] at hml; simp at hml)
          have hcm := hsr.cell (ints_get hml)
          have hgs := congrFun (congrFun (gAt_step hml hn1) (d : Int)) c
          unfold upd2 at hgs
          repeat' (first
            | apply HL.fold
            | apply HA.fold
            | apply HL.nil
            | apply HX.n_then
            | apply HC.seq
            | apply HC.region
            | refine HL.pa ?_
            | refine HL.ga rfl ?_
            | refine HL.na rfl ?_
            | refine HL.nu rfl rfl ?_
            | apply HC.block
            | apply HC.skip
            | apply HC.exit
            | apply HC.ret
            | apply HX.e_block
            | refine HX.e_other rfl ?_
            | apply HX.e_then
            | apply HX.e_again
            | apply HX.n_block
            | apply HX.r_then
            | apply HX.r_block
            | apply HX.r_again
            | refine HC.cond_yes rfl ?_
            | refine HC.cond_no rfl ?_
            | refine HL.one (H1.ldb rfl (by first | ((repeat (first | with_reducible exact mem_hd | with_reducible apply mem_tl)); done) | (repeat (first | exact List.Mem.head _ | apply List.Mem.tail))) rfl rfl ?_)
            | refine HC.cond rfl (fun hc => ?_) (fun hc => ?_)
            | refine HC.cond_b rfl (fun hc => ?_) (fun hc => ?_))
          refine HL.one (H1.ld0 rfl hcl2 rfl ?_)
          repeat' (first
            | apply HL.fold
            | apply HA.fold
            | apply HL.nil
            | apply HX.n_then
            | apply HC.seq
            | apply HC.region
            | refine HL.pa ?_
            | refine HL.ga rfl ?_
            | refine HL.na rfl ?_
            | refine HL.nu rfl rfl ?_
            | apply HC.block
            | apply HC.skip
            | apply HC.exit
            | apply HC.ret
            | apply HX.e_block
            | refine HX.e_other rfl ?_
            | apply HX.e_then
            | apply HX.e_again
            | apply HX.n_block
            | apply HX.r_then
            | apply HX.r_block
            | apply HX.r_again
            | refine HC.cond_yes rfl ?_
            | refine HC.cond_no rfl ?_
            | refine HL.one (H1.ldb rfl (by first | ((repeat (first | with_reducible exact mem_hd | with_reducible apply mem_tl)); done) | (repeat (first | exact List.Mem.head _ | apply List.Mem.tail))) rfl rfl ?_)
            | refine HC.cond rfl (fun hc => ?_) (fun hc => ?_)
            | refine HC.cond_b rfl (fun hc => ?_) (fun hc => ?_))
          by_cases e1 : (tr l q).start = (d : Int)
          · by_cases e2 : at' (tr l q).src m = c
            · rw [if_pos ⟨e1.symm, e2.symm⟩, e1, e2] at hgs
              refine HC.any rfl ?_
              refine HA.pa 0 rfl ?_
              refine HA.pa 1 rfl ?_
              refine HA.pa 2 rfl ?_
              refine HA.pa 3 rfl ?_
              refine HA.pa 5 rfl ?_
              refine HA.all [4] (by kernel_rfl) rfl ⟨⟨_, rfl, ?_⟩, trivial⟩
              refine HO.one ?_
              refine H1.ld0 rfl hcl3 rfl ?_
              apply HA.fold
              refine HA.pa 6 rfl ?_
              refine HA.pa 7 rfl ?_
              first | refine HA.ga 8 rfl rfl ?_ | refine HA.na 8 rfl rfl ?_ | refine HA.nu 8 rfl rfl ?_
              first | refine HA.ga 9 rfl rfl ?_ | refine HA.na 9 rfl rfl ?_ | refine HA.nu 9 rfl rfl ?_
              first | refine HA.ga 10 rfl rfl ?_ | refine HA.na 10 rfl rfl ?_ | refine HA.nu 10 rfl rfl ?_
              first | refine HA.ga 11 rfl rfl ?_ | refine HA.na 11 rfl rfl ?_ | refine HA.nu 11 rfl rfl ?_
              first | refine HA.ga 13 rfl rfl ?_ | refine HA.na 13 rfl rfl ?_ | refine HA.nu 13 rfl rfl ?_
              first | refine HA.ga 16 rfl rfl ?_ | refine HA.na 16 rfl rfl ?_ | refine HA.nu 16 rfl rfl ?_
              first | refine HA.ga 17 rfl rfl ?_ | refine HA.na 17 rfl rfl ?_ | refine HA.nu 17 rfl rfl ?_
              first | refine HA.ga 18 rfl rfl ?_ | refine HA.na 18 rfl rfl ?_ | refine HA.nu 18 rfl rfl ?_
              refine HA.all [12, 19] (by kernel_rfl) rfl ⟨⟨_, rfl, ?_⟩, ⟨_, rfl, ?_⟩, trivial⟩
              · refine HO.one_a rfl ?_
                refine H1.ld0 rfl hcl2 rfl ?_
                apply HA.fold
                first | refine HA.ga 14 rfl rfl ?_ | refine HA.na 14 rfl rfl ?_ | refine HA.nu 14 rfl rfl ?_
                refine HA.all [15, 19] (by kernel_rfl) rfl ⟨⟨_, rfl, ?_⟩, ⟨_, rfl, ?_⟩, trivial⟩
                · refine HO.one_a rfl ?_
                  refine H1.ld0 rfl hcm rfl ?_
                  apply HA.fold
                  refine HA.all [19] (by kernel_rfl) rfl ⟨⟨_, rfl, ?_⟩, trivial⟩
                  refine HO.one_a rfl ?_
                  refine H1.ldg rfl (by first | ((repeat (first | with_reducible exact mem_hd | with_reducible apply mem_tl)); done) | (repeat (first | exact List.Mem.head _ | apply List.Mem.tail))) hgi rfl ?_
                  apply HA.fold
                  first | refine HA.ga 20 rfl rfl ?_ | refine HA.na 20 rfl rfl ?_ | refine HA.nu 20 rfl rfl ?_
                  refine HA.pa 21 rfl ?_
                  refine HA.done (by kernel_rfl) ?_
                  repeat' (first
                    | apply HL.fold
                    | apply HA.fold
                    | apply HL.nil
                    | apply HX.n_then
                    | apply HC.seq
                    | apply HC.region
                    | refine HL.pa ?_
                    | refine HL.ga rfl ?_
                    | refine HL.na rfl ?_
                    | refine HL.nu rfl rfl ?_
                    | apply HC.block
                    | apply HC.skip
                    | apply HC.exit
                    | apply HC.ret
                    | apply HX.e_block
                    | refine HX.e_other rfl ?_
                    | apply HX.e_then
                    | apply HX.e_again
                    | apply HX.n_block
                    | apply HX.r_then
                    | apply HX.r_block
                    | apply HX.r_again
                    | refine HC.cond_yes rfl ?_
                    | refine HC.cond_no rfl ?_
                    | refine HL.one (H1.ldb rfl (by first | ((repeat (first | with_reducible exact mem_hd | with_reducible apply mem_tl)); done) | (repeat (first | exact List.Mem.head _ | apply List.Mem.tail))) rfl rfl ?_)
                    | refine HC.cond rfl (fun hc => ?_) (fun hc => ?_)
                    | refine HC.cond_b rfl (fun hc => ?_) (fun hc => ?_))
                  rw [hgs]
                  exact HX.again (m + 1) (by omega) (by omega) (by repeat (first | exact trivial | refine ⟨rfl, ?_⟩)) (by repeat (first | exact Hs.nil _ | (refine Hs.cons (by first | ((repeat (first | with_reducible exact Pick.here | with_reducible apply Pick.there)); done) | (repeat (first | exact Pick.here | apply Pick.there))) ?_)))
                · refine HO.one_a rfl ?_
                  refine H1.ldg rfl (by first | ((repeat (first | with_reducible exact mem_hd | with_reducible apply mem_tl)); done) | (repeat (first | exact List.Mem.head _ | apply List.Mem.tail))) hgi rfl ?_
                  apply HA.fold
                  refine HA.all [15] (by kernel_rfl) rfl ⟨⟨_, rfl, ?_⟩, trivial⟩
                  refine HO.one_a rfl ?_
                  refine H1.ld0 rfl hcm rfl ?_
                  apply HA.fold
                  first | refine HA.ga 20 rfl rfl ?_ | refine HA.na 20 rfl rfl ?_ | refine HA.nu 20 rfl rfl ?_
                  refine HA.pa 21 rfl ?_
                  refine HA.done (by kernel_rfl) ?_
                  repeat' (first
                    | apply HL.fold
                    | apply HA.fold
                    | apply HL.nil
                    | apply HX.n_then
                    | apply HC.seq
                    | apply HC.region
                    | refine HL.pa ?_
                    | refine HL.ga rfl ?_
                    | refine HL.na rfl ?_
                    | refine HL.nu rfl rfl ?_
                    | apply HC.block
                    | apply HC.skip
                    | apply HC.exit
                    | apply HC.ret
                    | apply HX.e_block
                    | refine HX.e_other rfl ?_
                    | apply HX.e_then
                    | apply HX.e_again
                    | apply HX.n_block
                    | apply HX.r_then
                    | apply HX.r_block
                    | apply HX.r_again
                    | refine HC.cond_yes rfl ?_
                    | refine HC.cond_no rfl ?_
                    | refine HL.one (H1.ldb rfl (by first | ((repeat (first | with_reducible exact mem_hd | with_reducible apply mem_tl)); done) | (repeat (first | exact List.Mem.head _ | apply List.Mem.tail))) rfl rfl ?_)
                    | refine HC.cond rfl (fun hc => ?_) (fun hc => ?_)
                    | refine HC.cond_b rfl (fun hc => ?_) (fun hc => ?_))
                  rw [hgs]
                  exact HX.again (m + 1) (by omega) (by omega) (by repeat (first | exact trivial | refine ⟨rfl, ?_⟩)) (by repeat (first | exact Hs.nil _ | (refine Hs.cons (by first | ((repeat (first | with_reducible exact Pick.here | with_reducible apply Pick.there)); done) | (repeat (first | exact Pick.here | apply Pick.there))) ?_)))
              · refine HO.one_a rfl ?_
                refine H1.ldg rfl (by first | ((repeat (first | with_reducible exact mem_hd | with_reducible apply mem_tl)); done) | (repeat (first | exact List.Mem.head _ | apply List.Mem.tail))) hgi rfl ?_
                apply HA.fold
                refine HA.all [12] (by kernel_rfl) rfl ⟨⟨_, rfl, ?_⟩, trivial⟩
                refine HO.one_a rfl ?_
                refine H1.ld0 rfl hcl2 rfl ?_
                apply HA.fold
                first | refine HA.ga 14 rfl rfl ?_ | refine HA.na 14 rfl rfl ?_ | refine HA.nu 14 rfl rfl ?_
                refine HA.all [15] (by kernel_rfl) rfl ⟨⟨_, rfl, ?_⟩, trivial⟩
                refine HO.one_a rfl ?_
                refine H1.ld0 rfl hcm rfl ?_
                apply HA.fold
                first | refine HA.ga 20 rfl rfl ?_ | refine HA.na 20 rfl rfl ?_ | refine HA.nu 20 rfl rfl ?_
                refine HA.pa 21 rfl ?_
                refine HA.done (by kernel_rfl) ?_
                repeat' (first
                  | apply HL.fold
                  | apply HA.fold
                  | apply HL.nil
                  | apply HX.n_then
                  | apply HC.seq
                  | apply HC.region
                  | refine HL.pa ?_
                  | refine HL.ga rfl ?_
                  | refine HL.na rfl ?_
                  | refine HL.nu rfl rfl ?_
                  | apply HC.block
                  | apply HC.skip
                  | apply HC.exit
                  | apply HC.ret
                  | apply HX.e_block
                  | refine HX.e_other rfl ?_
                  | apply HX.e_then
                  | apply HX.e_again
                  | apply HX.n_block
                  | apply HX.r_then
                  | apply HX.r_block
                  | apply HX.r_again
                  | refine HC.cond_yes rfl ?_
                  | refine HC.cond_no rfl ?_
                  | refine HL.one (H1.ldb rfl (by first | ((repeat (first | with_reducible exact mem_hd | with_reducible apply mem_tl)); done) | (repeat (first | exact List.Mem.head _ | apply List.Mem.tail))) rfl rfl ?_)
                  | refine HC.cond rfl (fun hc => ?_) (fun hc => ?_)
                  | refine HC.cond_b rfl (fun hc => ?_) (fun hc => ?_))
                rw [hgs]
                exact HX.again (m + 1) (by omega) (by omega) (by repeat (first | exact trivial | refine ⟨rfl, ?_⟩)) (by repeat (first | exact Hs.nil _ | (refine Hs.cons (by first | ((repeat (first | with_reducible exact Pick.here | with_reducible apply Pick.there)); done) | (repeat (first | exact Pick.here | apply Pick.there))) ?_)))
            · rw [if_neg fun h => e2 h.2.symm] at hgs
              refine HC.any rfl ?_
              refine HA.pa 0 rfl ?_
              refine HA.pa 1 rfl ?_
              refine HA.pa 2 rfl ?_
              refine HA.pa 3 rfl ?_
              refine HA.pa 5 rfl ?_
              refine HA.all [4] (by kernel_rfl) rfl ⟨⟨_, rfl, ?_⟩, trivial⟩
              refine HO.one ?_
              refine H1.ld0 rfl hcl3 rfl ?_
              apply HA.fold
              refine HA.pa 6 rfl ?_
              refine HA.pa 7 rfl ?_
              first | refine HA.ga 8 rfl rfl ?_ | refine HA.na 8 rfl rfl ?_ | refine HA.nu 8 rfl rfl ?_
              first | refine HA.ga 9 rfl rfl ?_ | refine HA.na 9 rfl rfl ?_ | refine HA.nu 9 rfl rfl ?_
              first | refine HA.ga 10 rfl rfl ?_ | refine HA.na 10 rfl rfl ?_ | refine HA.nu 10 rfl rfl ?_
              first | refine HA.ga 11 rfl rfl ?_ | refine HA.na 11 rfl rfl ?_ | refine HA.nu 11 rfl rfl ?_
              first | refine HA.ga 13 rfl rfl ?_ | refine HA.na 13 rfl rfl ?_ | refine HA.nu 13 rfl rfl ?_
              first | refine HA.ga 16 rfl rfl ?_ | refine HA.na 16 rfl rfl ?_ | refine HA.nu 16 rfl rfl ?_
              first | refine HA.ga 17 rfl rfl ?_ | refine HA.na 17 rfl rfl ?_ | refine HA.nu 17 rfl rfl ?_
              first | refine HA.ga 18 rfl rfl ?_ | refine HA.na 18 rfl rfl ?_ | refine HA.nu 18 rfl rfl ?_
              refine HA.all [12, 19] (by kernel_rfl) rfl ⟨⟨_, rfl, ?_⟩, ⟨_, rfl, ?_⟩, trivial⟩
              · refine HO.one_a rfl ?_
                refine H1.ld0 rfl hcl2 rfl ?_
                apply HA.fold
                first | refine HA.ga 14 rfl rfl ?_ | refine HA.na 14 rfl rfl ?_ | refine HA.nu 14 rfl rfl ?_
                refine HA.all [15, 19] (by kernel_rfl) rfl ⟨⟨_, rfl, ?_⟩, ⟨_, rfl, ?_⟩, trivial⟩
                · refine HO.one_a rfl ?_
                  refine H1.ld0 rfl hcm rfl ?_
                  apply HA.fold
                  refine HA.all [19] (by kernel_rfl) rfl ⟨⟨_, rfl, ?_⟩, trivial⟩
                  refine HO.one_a rfl ?_
                  refine H1.ldg rfl (by first | ((repeat (first | with_reducible exact mem_hd | with_reducible apply mem_tl)); done) | (repeat (first | exact List.Mem.head _ | apply List.Mem.tail))) hgi rfl ?_
                  apply HA.fold
                  first | refine HA.ga 20 rfl rfl ?_ | refine HA.na 20 rfl rfl ?_ | refine HA.nu 20 rfl rfl ?_
                  refine HA.pa 21 rfl ?_
                  refine HA.done (by kernel_rfl) ?_
                  repeat' (first
                    | apply HL.fold
                    | apply HA.fold
                    | apply HL.nil
                    | apply HX.n_then
                    | apply HC.seq
                    | apply HC.region
                    | refine HL.pa ?_
                    | refine HL.ga rfl ?_
                    | refine HL.na rfl ?_
                    | refine HL.nu rfl rfl ?_
                    | apply HC.block
                    | apply HC.skip
                    | apply HC.exit
                    | apply HC.ret
                    | apply HX.e_block
                    | refine HX.e_other rfl ?_
                    | apply HX.e_then
                    | apply HX.e_again
                    | apply HX.n_block
                    | apply HX.r_then
                    | apply HX.r_block
                    | apply HX.r_again
                    | refine HC.cond_yes rfl ?_
                    | refine HC.cond_no rfl ?_
                    | refine HL.one (H1.ldb rfl (by first | ((repeat (first | with_reducible exact mem_hd | with_reducible apply mem_tl)); done) | (repeat (first | exact List.Mem.head _ | apply List.Mem.tail))) rfl rfl ?_)
                    | refine HC.cond rfl (fun hc => ?_) (fun hc => ?_)
                    | refine HC.cond_b rfl (fun hc => ?_) (fun hc => ?_))
                  rw [hgs]
                  exact HX.again (m + 1) (by omega) (by omega) (by repeat (first | exact trivial | refine ⟨rfl, ?_⟩)) (by repeat (first | exact Hs.nil _ | (refine Hs.cons (by first | ((repeat (first | with_reducible exact Pick.here | with_reducible apply Pick.there)); done) | (repeat (first | exact Pick.here | apply Pick.there))) ?_)))
                · refine HO.one_a rfl ?_
                  refine H1.ldg rfl (by first | ((repeat (first | with_reducible exact mem_hd | with_reducible apply mem_tl)); done) | (repeat (first | exact List.Mem.head _ | apply List.Mem.tail))) hgi rfl ?_
                  apply HA.fold
                  refine HA.all [15] (by kernel_rfl) rfl ⟨⟨_, rfl, ?_⟩, trivial⟩
                  refine HO.one_a rfl ?_
                  refine H1.ld0 rfl hcm rfl ?_
                  apply HA.fold
                  first | refine HA.ga 20 rfl rfl ?_ | refine HA.na 20 rfl rfl ?_ | refine HA.nu 20 rfl rfl ?_
                  refine HA.pa 21 rfl ?_
                  refine HA.done (by kernel_rfl) ?_
                  repeat' (first
                    | apply HL.fold
                    | apply HA.fold
                    | apply HL.nil
                    | apply HX.n_then
                    | apply HC.seq
                    | apply HC.region
                    | refine HL.pa ?_
                    | refine HL.ga rfl ?_
                    | refine HL.na rfl ?_
                    | refine HL.nu rfl rfl ?_
                    | apply HC.block
                    | apply HC.skip
                    | apply HC.exit
                    | apply HC.ret
                    | apply HX.e_block
                    | refine HX.e_other rfl ?_
                    | apply HX.e_then
                    | apply HX.e_again
                    | apply HX.n_block
                    | apply HX.r_then
                    | apply HX.r_block
                    | apply HX.r_again
                    | refine HC.cond_yes rfl ?_
                    | refine HC.cond_no rfl ?_
                    | refine HL.one (H1.ldb rfl (by first | ((repeat (first | with_reducible exact mem_hd | with_reducible apply mem_tl)); done) | (repeat (first | exact List.Mem.head _ | apply List.Mem.tail))) rfl rfl ?_)
                    | refine HC.cond rfl (fun hc => ?_) (fun hc => ?_)
                    | refine HC.cond_b rfl (fun hc => ?_) (fun hc => ?_))
                  rw [hgs]
                  exact HX.again (m + 1) (by omega) (by omega) (by repeat (first | exact trivial | refine ⟨rfl, ?_⟩)) (by repeat (first | exact Hs.nil _ | (refine Hs.cons (by first | ((repeat (first | with_reducible exact Pick.here | with_reducible apply Pick.there)); done) | (repeat (first | exact Pick.here | apply Pick.there))) ?_)))
              · refine HO.one_a rfl ?_
                refine H1.ldg rfl (by first | ((repeat (first | with_reducible exact mem_hd | with_reducible apply mem_tl)); done) | (repeat (first | exact List.Mem.head _ | apply List.Mem.tail))) hgi rfl ?_
                apply HA.fold
                refine HA.all [12] (by kernel_rfl) rfl ⟨⟨_, rfl, ?_⟩, trivial⟩
                refine HO.one_a rfl ?_
                refine H1.ld0 rfl hcl2 rfl ?_
                apply HA.fold
                first | refine HA.ga 14 rfl rfl ?_ | refine HA.na 14 rfl rfl ?_ | refine HA.nu 14 rfl rfl ?_
                refine HA.all [15] (by kernel_rfl) rfl ⟨⟨_, rfl, ?_⟩, trivial⟩
                refine HO.one_a rfl ?_
                refine H1.ld0 rfl hcm rfl ?_
                apply HA.fold
                first | refine HA.ga 20 rfl rfl ?_ | refine HA.na 20 rfl rfl ?_ | refine HA.nu 20 rfl rfl ?_
                refine HA.pa 21 rfl ?_
                refine HA.done (by kernel_rfl) ?_
                repeat' (first
                  | apply HL.fold
                  | apply HA.fold
                  | apply HL.nil
                  | apply HX.n_then
                  | apply HC.seq
                  | apply HC.region
                  | refine HL.pa ?_
                  | refine HL.ga rfl ?_
                  | refine HL.na rfl ?_
                  | refine HL.nu rfl rfl ?_
                  | apply HC.block
                  | apply HC.skip
                  | apply HC.exit
                  | apply HC.ret
                  | apply HX.e_block
                  | refine HX.e_other rfl ?_
                  | apply HX.e_then
                  | apply HX.e_again
                  | apply HX.n_block
                  | apply HX.r_then
                  | apply HX.r_block
                  | apply HX.r_again
                  | refine HC.cond_yes rfl ?_
                  | refine HC.cond_no rfl ?_
                  | refine HL.one (H1.ldb rfl (by first | ((repeat (first | with_reducible exact mem_hd | with_reducible apply mem_tl)); done) | (repeat (first | exact List.Mem.head _ | apply List.Mem.tail))) rfl rfl ?_)
                  | refine HC.cond rfl (fun hc => ?_) (fun hc => ?_)
                  | refine HC.cond_b rfl (fun hc => ?_) (fun hc => ?_))
                rw [hgs]
                exact HX.again (m + 1) (by omega) (by omega) (by repeat (first | exact trivial | refine ⟨rfl, ?_⟩)) (by repeat (first | exact Hs.nil _ | (refine Hs.cons (by first | ((repeat (first | with_reducible exact Pick.here | with_reducible apply Pick.there)); done) | (repeat (first | exact Pick.here | apply Pick.there))) ?_)))
          · rw [if_neg fun h => e1 h.1.symm] at hgs
            refine HC.any rfl ?_
            refine HA.pa 0 rfl ?_
            refine HA.pa 1 rfl ?_
            refine HA.pa 2 rfl ?_
            refine HA.pa 3 rfl ?_
            refine HA.pa 5 rfl ?_
            refine HA.all [4] (by kernel_rfl) rfl ⟨⟨_, rfl, ?_⟩, trivial⟩
            refine HO.one ?_
            refine H1.ld0 rfl hcl3 rfl ?_
            apply HA.fold
            refine HA.pa 6 rfl ?_
            refine HA.pa 7 rfl ?_
            first | refine HA.ga 8 rfl rfl ?_ | refine HA.na 8 rfl rfl ?_ | refine HA.nu 8 rfl rfl ?_
            first | refine HA.ga 9 rfl rfl ?_ | refine HA.na 9 rfl rfl ?_ | refine HA.nu 9 rfl rfl ?_
            first | refine HA.ga 10 rfl rfl ?_ | refine HA.na 10 rfl rfl ?_ | refine HA.nu 10 rfl rfl ?_
            first | refine HA.ga 11 rfl rfl ?_ | refine HA.na 11 rfl rfl ?_ | refine HA.nu 11 rfl rfl ?_
            first | refine HA.ga 12 rfl rfl ?_ | refine HA.na 12 rfl rfl ?_ | refine HA.nu 12 rfl rfl ?_
            first | refine HA.ga 13 rfl rfl ?_ | refine HA.na 13 rfl rfl ?_ | refine HA.nu 13 rfl rfl ?_
            first | refine HA.ga 14 rfl rfl ?_ | refine HA.na 14 rfl rfl ?_ | refine HA.nu 14 rfl rfl ?_
            first | refine HA.ga 15 rfl rfl ?_ | refine HA.na 15 rfl rfl ?_ | refine HA.nu 15 rfl rfl ?_
            first | refine HA.ga 16 rfl rfl ?_ | refine HA.na 16 rfl rfl ?_ | refine HA.nu 16 rfl rfl ?_
            first | refine HA.ga 17 rfl rfl ?_ | refine HA.na 17 rfl rfl ?_ | refine HA.nu 17 rfl rfl ?_
            first | refine HA.ga 18 rfl rfl ?_ | refine HA.na 18 rfl rfl ?_ | refine HA.nu 18 rfl rfl ?_
            first | refine HA.ga 19 rfl rfl ?_ | refine HA.na 19 rfl rfl ?_ | refine HA.nu 19 rfl rfl ?_
            first | refine HA.ga 20 rfl rfl ?_ | refine HA.na 20 rfl rfl ?_ | refine HA.nu 20 rfl rfl ?_
            refine HA.pa 21 rfl ?_
            refine HA.done (by kernel_rfl) ?_
            repeat' (first
              | apply HL.fold
              | apply HA.fold
              | apply HL.nil
              | apply HX.n_then
              | apply HC.seq
              | apply HC.region
              | refine HL.pa ?_
              | refine HL.ga rfl ?_
              | refine HL.na rfl ?_
              | refine HL.nu rfl rfl ?_
              | apply HC.block
              | apply HC.skip
              | apply HC.exit
              | apply HC.ret
              | apply HX.e_block
              | refine HX.e_other rfl ?_
              | apply HX.e_then
              | apply HX.e_again
              | apply HX.n_block
              | apply HX.r_then
              | apply HX.r_block
              | apply HX.r_again
              | refine HC.cond_yes rfl ?_
              | refine HC.cond_no rfl ?_
              | refine HL.one (H1.ldb rfl (by first | ((repeat (first | with_reducible exact mem_hd | with_reducible apply mem_tl)); done) | (repeat (first | exact List.Mem.head _ | apply List.Mem.tail))) rfl rfl ?_)
              | refine HC.cond rfl (fun hc => ?_) (fun hc => ?_)
              | refine HC.cond_b rfl (fun hc => ?_) (fun hc => ?_))
            rw [hgs]
            exact HX.again (m + 1) (by omega) (by omega) (by repeat (first | exact trivial | refine ⟨rfl, ?_⟩)) (by repeat (first | exact Hs.nil _ | (refine Hs.cons (by first | ((repeat (first | with_reducible exact Pick.here | with_reducible apply Pick.there)); done) | (repeat (first | exact Pick.here | apply Pick.there))) ?_)))
        · obtain rfl : m = (tr l q).src.length := by omega
          rw [hgE]
          repeat' (first
            | apply HL.fold
            | apply HA.fold
            | apply HL.nil
            | apply HX.n_then
            | apply HC.seq
            | apply HC.region
            | refine HL.pa ?_
            | refine HL.ga rfl ?_
            | refine HL.na rfl ?_
            | refine HL.nu rfl rfl ?_
            | apply HC.block
            | apply HC.skip
            | apply HC.exit
            | apply HC.ret
            | apply HX.e_block
            | refine HX.e_other rfl ?_
            | apply HX.e_then
            | apply HX.e_again
            | apply HX.n_block
            | apply HX.r_then
            | apply HX.r_block
            | apply HX.r_again
            | refine HC.cond_yes rfl ?_
            | refine HC.cond_no rfl ?_
            | refine HL.one (H1.ldb rfl (by first | ((repeat (first | with_reducible exact mem_hd | with_reducible apply mem_tl)); done) | (repeat (first | exact List.Mem.head _ | apply List.Mem.tail))) rfl rfl ?_)
            | refine HC.cond rfl (fun hc => ?_) (fun hc => ?_)
            | refine HC.cond_b rfl (fun hc => ?_) (fun hc => ?_))
          refine HL.one (H1.ld0 rfl hcl2 rfl ?_)
          repeat' (first
            | apply HL.fold
            | apply HA.fold
            | apply HL.nil
            | apply HX.n_then
            | apply HC.seq
            | apply HC.region
            | refine HL.pa ?_
            | refine HL.ga rfl ?_
            | refine HL.na rfl ?_
            | refine HL.nu rfl rfl ?_
            | apply HC.block
            | apply HC.skip
            | apply HC.exit
            | apply HC.ret
            | apply HX.e_block
            | refine HX.e_other rfl ?_
            | apply HX.e_then
            | apply HX.e_again
            | apply HX.n_block
            | apply HX.r_then
            | apply HX.r_block
            | apply HX.r_again
            | refine HC.cond_yes rfl ?_
            | refine HC.cond_no rfl ?_
            | refine HL.one (H1.ldb rfl (by first | ((repeat (first | with_reducible exact mem_hd | with_reducible apply mem_tl)); done) | (repeat (first | exact List.Mem.head _ | apply List.Mem.tail))) rfl rfl ?_)
            | refine HC.cond rfl (fun hc => ?_) (fun hc => ?_)
            | refine HC.cond_b rfl (fun hc => ?_) (fun hc => ?_))
          exact HX.again (q + 1) (by omega) (by omega) (by repeat (first | exact trivial | refine ⟨rfl, ?_⟩)) (by repeat (first | exact Hs.nil _ | (refine Hs.cons (by first | ((repeat (first | with_reducible exact Pick.here | with_reducible apply Pick.there)); done) | (repeat (first | exact Pick.here | apply Pick.there))) ?_)))
      · obtain rfl : q = l.length := by omega
        rw [List.take_length]
        repeat' (first
          | apply HL.fold
          | apply HA.fold
          | apply HL.nil
          | apply HX.n_then
          | apply HC.seq
          | apply HC.region
          | refine HL.pa ?_
          | refine HL.ga rfl ?_
          | refine HL.na rfl ?_
          | refine HL.nu rfl rfl ?_
          | apply HC.block
          | apply HC.skip
          | apply HC.exit
          | apply HC.ret
          | apply HX.e_block
          | refine HX.e_other rfl ?_
          | apply HX.e_then
          | apply HX.e_again
          | apply HX.n_block
          | apply HX.r_then
          | apply HX.r_block
          | apply HX.r_again
          | refine HC.cond_yes rfl ?_
          | refine HC.cond_no rfl ?_
          | refine HL.one (H1.ldb rfl (by first | ((repeat (first | with_reducible exact mem_hd | with_reducible apply mem_tl)); done) | (repeat (first | exact List.Mem.head _ | apply List.Mem.tail))) rfl rfl ?_)
          | refine HC.cond rfl (fun hc => ?_) (fun hc => ?_)
          | refine HC.cond_b rfl (fun hc => ?_) (fun hc => ?_))
        rw [show min (least : Int) (cntP l (d : Int) c : Int) = ((min least (cntP l (d : Int) c) : Nat) : Int) from by omega, show max (most : Int) (cntP l (d : Int) c : Int) = ((max most (cntP l (d : Int) c) : Nat) : Int) from by omega]
        exact HX.again (i + 1, min least (cntP l (d : Int) c), max most (cntP l (d : Int) c)) ⟨by show i + 1 ≤ _; omega, by show Q ≤ min least _; omega, by show min least _ ≤ 100; omega, by show max most _ ≤ Q + 1; omega, by show max most _ ≤ wd; omega⟩ (by show holders.length - (i + 1) < holders.length - i; omega) (by repeat (first | exact trivial | refine ⟨rfl, ?_⟩)) (by repeat (first | exact Hs.nil _ | (refine Hs.cons (by first | ((repeat (first | with_reducible exact Pick.here | with_reducible apply Pick.there)); done) | (repeat (first | exact Pick.here | apply Pick.there))) ?_)))
  · obtain rfl : i = holders.length := by omega
    repeat' (first
      | apply HL.fold
      | apply HA.fold
      | apply HL.nil
      | apply HX.n_then
      | apply HC.seq
      | apply HC.region
      | refine HL.pa ?_
      | refine HL.ga rfl ?_
      | refine HL.na rfl ?_
      | refine HL.nu rfl rfl ?_
      | apply HC.block
      | apply HC.skip
      | apply HC.exit
      | apply HC.ret
      | apply HX.e_block
      | refine HX.e_other rfl ?_
      | apply HX.e_then
      | apply HX.e_again
      | apply HX.n_block
      | apply HX.r_then
      | apply HX.r_block
      | apply HX.r_again
      | refine HC.cond_yes rfl ?_
      | refine HC.cond_no rfl ?_
      | refine HL.one (H1.ldb rfl (by first | ((repeat (first | with_reducible exact mem_hd | with_reducible apply mem_tl)); done) | (repeat (first | exact List.Mem.head _ | apply List.Mem.tail))) rfl rfl ?_)
      | refine HC.cond rfl (fun hc => ?_) (fun hc => ?_)
      | refine HC.cond_b rfl (fun hc => ?_) (fun hc => ?_))
    refine HL.one (H1.ld0 rfl q3 rfl ?_)
    repeat' (first
      | apply HL.fold
      | apply HA.fold
      | apply HL.nil
      | apply HX.n_then
      | apply HC.seq
      | apply HC.region
      | refine HL.pa ?_
      | refine HL.ga rfl ?_
      | refine HL.na rfl ?_
      | refine HL.nu rfl rfl ?_
      | apply HC.block
      | apply HC.skip
      | apply HC.exit
      | apply HC.ret
      | apply HX.e_block
      | refine HX.e_other rfl ?_
      | apply HX.e_then
      | apply HX.e_again
      | apply HX.n_block
      | apply HX.r_then
      | apply HX.r_block
      | apply HX.r_again
      | refine HC.cond_yes rfl ?_
      | refine HC.cond_no rfl ?_
      | refine HL.one (H1.ldb rfl (by first | ((repeat (first | with_reducible exact mem_hd | with_reducible apply mem_tl)); done) | (repeat (first | exact List.Mem.head _ | apply List.Mem.tail))) rfl rfl ?_)
      | refine HC.cond rfl (fun hc => ?_) (fun hc => ?_)
      | refine HC.cond_b rfl (fun hc => ?_) (fun hc => ?_))
    exact HX.again (d + 1) (by push_cast; omega) (by omega) (by repeat (first | exact trivial | refine ⟨rfl, ?_⟩)) (by repeat (first | exact Hs.nil _ | (refine Hs.cons (by first | ((repeat (first | with_reducible exact Pick.here | with_reducible apply Pick.there)); done) | (repeat (first | exact Pick.here | apply Pick.there))) ?_)))
end Go.Sx

