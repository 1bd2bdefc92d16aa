/- The law RepairPermitted. -/
import Derived.Test.YtcnjfccbfdoacaaRO
namespace Go.Sx
open Go Go.Proofs
theorem after_at {holders lost : List Int} {l : List Tr} {day : Int} {f : Nat} (hf : f < holders.length) : at' (afterS holders lost l day) f = afterI holders lost l day f := by
  unfold afterS at'
  simp [hf]
theorem plan_yes_inv (c : CaseP) (h : GoodC c) (hB : planB c.holders c.lost c.to c.width c.k c.deadline = true) : (0 < c.lost.length → c.k ≤ ((survS c.holders c.lost).length : Int)) ∧ (planAt (survS c.holders c.lost) c.lost c.to c.width.toNat c.k.toNat c.deadline.toNat).length = c.lost.length := by
  refine ⟨fun h0 => ?_, ?_⟩
  · by_cases h1 : ((survS c.holders c.lost).length : Int) < c.k
    · rw [plan_no1 c h h0 h1] at hB; cases hB
    · omega
  · have hle := plan_len_le (surv := survS c.holders c.lost) (lost := c.lost) (to := c.to) (width := c.width.toNat) (k := c.k.toNat) c.deadline.toNat
    by_cases h1 : (planAt (survS c.holders c.lost) c.lost c.to c.width.toNat c.k.toNat c.deadline.toNat).length < c.lost.length
    · rw [plan_no2 c h1] at hB; cases hB
    · omega
attribute [local irreducible] WC WL WX POp Then Again Fn NX W1 WA WO QL RP RA Yld LoopAt HC HL HX HN H1 HA HO HQ HB HP A.blk A.grow A.rd A.obj A.mp AgainH CutH
attribute [local irreducible] A.all A.ts
theorem validW_fn (c : CaseP) (zh zl zt : Option Addr × Nat) (t : Value) (l : List Tr) (hh : c.holders.length ≤ 1000000) (hl : c.lost.length ≤ 100000) (ht : l.length ≤ 100000) (hts : ∀ t ∈ l, t.src.length ≤ 1000000) (w : World) (hR : Rd w (.slice zh.1 c.holders.length zh.2) (ints c.holders)) (hS : Rd w (.slice zl.1 c.lost.length zl.2) (ints c.lost)) (hT : RdT w t l) :
    Fn Try.prog 17 #[.agg (caseV c zh zl zt).toArray, t] w fun x w' => x = .bool (validB c.holders c.lost c.width c.k c.deadline l) ∧ Ext w w' := by
  refine enterH (l := [_, _]) rfl Try.ntmps17 rfl ?_
  repeat' (first
    | apply HL.fold
    | apply HA.fold
    | apply HL.nil
    | apply HX.n_then
    | apply HC.seq
    | apply HC.region
    | refine HL.pa ?_
    | refine HL.ga rfl ?_
    | refine HL.na rfl ?_
    | refine HL.nu rfl rfl ?_
    | apply HC.block
    | apply HC.skip
    | apply HC.exit
    | apply HC.ret
    | apply HX.e_block
    | refine HX.e_other rfl ?_
    | apply HX.e_then
    | apply HX.e_again
    | apply HX.n_block
    | apply HX.r_then
    | apply HX.r_block
    | apply HX.r_again
    | refine HC.cond_yes rfl ?_
    | refine HC.cond_no rfl ?_
    | refine HL.one (H1.ldb rfl (by first | ((repeat (first | with_reducible exact mem_hd | with_reducible apply mem_tl)); done) | (repeat (first | exact List.Mem.head _ | apply List.Mem.tail))) rfl rfl ?_)
    | refine HC.cond rfl (fun hc => ?_) (fun hc => ?_)
    | refine HC.cond_b rfl (fun hc => ?_) (fun hc => ?_))
  refine HL.one (H1.boxAgg (cs := caseV c zh zl zt) rfl rfl (fun b1 => ?_))
  unfold caseV
  repeat' (first
    | apply HL.fold
    | apply HA.fold
    | apply HL.nil
    | apply HX.n_then
    | apply HC.seq
    | apply HC.region
    | refine HL.pa ?_
    | refine HL.ga rfl ?_
    | refine HL.na rfl ?_
    | refine HL.nu rfl rfl ?_
    | apply HC.block
    | apply HC.skip
    | apply HC.exit
    | apply HC.ret
    | apply HX.e_block
    | refine HX.e_other rfl ?_
    | apply HX.e_then
    | apply HX.e_again
    | apply HX.n_block
    | apply HX.r_then
    | apply HX.r_block
    | apply HX.r_again
    | refine HC.cond_yes rfl ?_
    | refine HC.cond_no rfl ?_
    | refine HL.one (H1.ldb rfl (by first | ((repeat (first | with_reducible exact mem_hd | with_reducible apply mem_tl)); done) | (repeat (first | exact List.Mem.head _ | apply List.Mem.tail))) rfl rfl ?_)
    | refine HC.cond rfl (fun hc => ?_) (fun hc => ?_)
    | refine HC.cond_b rfl (fun hc => ?_) (fun hc => ?_))
  refine HL.one (H1.callx (vs := [.slice zh.1 c.holders.length zh.2, .slice zl.1 c.lost.length zl.2, .int .i64 c.width, .int .i64 c.k, .int .i64 c.deadline, t]) rfl rfl (fun w' hM => valid_fn _ _ _ c.holders c.lost c.width c.k c.deadline l hh hl ht hts w' (hM.rd0 hR) (hM.rd0 hS) (hT.ext hM.ext)) ?_)
  repeat' (first
    | apply HL.fold
    | apply HA.fold
    | apply HL.nil
    | apply HX.n_then
    | apply HC.seq
    | apply HC.region
    | refine HL.pa ?_
    | refine HL.ga rfl ?_
    | refine HL.na rfl ?_
    | refine HL.nu rfl rfl ?_
    | apply HC.block
    | apply HC.skip
    | apply HC.exit
    | apply HC.ret
    | apply HX.e_block
    | refine HX.e_other rfl ?_
    | apply HX.e_then
    | apply HX.e_again
    | apply HX.n_block
    | apply HX.r_then
    | apply HX.r_block
    | apply HX.r_again
    | refine HC.cond_yes rfl ?_
    | refine HC.cond_no rfl ?_
    | refine HL.one (H1.ldb rfl (by first | ((repeat (first | with_reducible exact mem_hd | with_reducible apply mem_tl)); done) | (repeat (first | exact List.Mem.head _ | apply List.Mem.tail))) rfl rfl ?_)
    | refine HC.cond rfl (fun hc => ?_) (fun hc => ?_)
    | refine HC.cond_b rfl (fun hc => ?_) (fun hc => ?_))
  exact HX.ret1 rfl rfl fun w' hM => ⟨rfl, hM.ext⟩
set_option maxHeartbeats 2000000 in
theorem repairPermitted_fn (x0 x1 x2 x3 : Int) (h0 : i64B x0) (h1 : i64B x1) (h2 : i64B x2) (h3 : i64B x3) (v : Value) (order : List Int) (hob : ∀ x ∈ order, i64B x) (w : World) (hR : Rd w v (ints order)) :
    Fn Try.prog 4 #[.agg #[.int .i64 x0, .int .i64 x1, .int .i64 x2, .int .i64 x3], v] w fun u w' => u = .bool true ∧ Ext w w' := by
  refine enterH (l := [_, _]) rfl Try.ntmps4 rfl ?_
  repeat' (first
    | apply HL.fold
    | apply HA.fold
    | apply HL.nil
    | apply HX.n_then
    | apply HC.seq
    | apply HC.region
    | refine HL.pa ?_
    | refine HL.ga rfl ?_
    | refine HL.na rfl ?_
    | refine HL.nu rfl rfl ?_
    | apply HC.block
    | apply HC.skip
    | apply HC.exit
    | apply HC.ret
    | apply HX.e_block
    | refine HX.e_other rfl ?_
    | apply HX.e_then
    | apply HX.e_again
    | apply HX.n_block
    | apply HX.r_then
    | apply HX.r_block
    | apply HX.r_again
    | refine HC.cond_yes rfl ?_
    | refine HC.cond_no rfl ?_
    | refine HL.one (H1.ldb rfl (by first | ((repeat (first | with_reducible exact mem_hd | with_reducible apply mem_tl)); done) | (repeat (first | exact List.Mem.head _ | apply List.Mem.tail))) rfl rfl ?_)
    | refine HC.cond rfl (fun hc => ?_) (fun hc => ?_)
    | refine HC.cond_b rfl (fun hc => ?_) (fun hc => ?_))
  refine HL.one (H1.boxAgg (cs := [.int .i64 x0, .int .i64 x1, .int .i64 x2, .int .i64 x3]) rfl rfl (fun b2 => ?_))
  repeat' (first
    | apply HL.fold
    | apply HA.fold
    | apply HL.nil
    | apply HX.n_then
    | apply HC.seq
    | apply HC.region
    | refine HL.pa ?_
    | refine HL.ga rfl ?_
    | refine HL.na rfl ?_
    | refine HL.nu rfl rfl ?_
    | apply HC.block
    | apply HC.skip
    | apply HC.exit
    | apply HC.ret
    | apply HX.e_block
    | refine HX.e_other rfl ?_
    | apply HX.e_then
    | apply HX.e_again
    | apply HX.n_block
    | apply HX.r_then
    | apply HX.r_block
    | apply HX.r_again
    | refine HC.cond_yes rfl ?_
    | refine HC.cond_no rfl ?_
    | refine HL.one (H1.ldb rfl (by first | ((repeat (first | with_reducible exact mem_hd | with_reducible apply mem_tl)); done) | (repeat (first | exact List.Mem.head _ | apply List.Mem.tail))) rfl rfl ?_)
    | refine HC.cond rfl (fun hc => ?_) (fun hc => ?_)
    | refine HC.cond_b rfl (fun hc => ?_) (fun hc => ?_))
  refine HL.one (H1.callx (vs := []) rfl rfl (fun w' _ => sane_fn w') ?_)
  repeat' (first
    | apply HL.fold
    | apply HA.fold
    | apply HL.nil
    | apply HX.n_then
    | apply HC.seq
    | apply HC.region
    | refine HL.pa ?_
    | refine HL.ga rfl ?_
    | refine HL.na rfl ?_
    | refine HL.nu rfl rfl ?_
    | apply HC.block
    | apply HC.skip
    | apply HC.exit
    | apply HC.ret
    | apply HX.e_block
    | refine HX.e_other rfl ?_
    | apply HX.e_then
    | apply HX.e_again
    | apply HX.n_block
    | apply HX.r_then
    | apply HX.r_block
    | apply HX.r_again
    | refine HC.cond_yes rfl ?_
    | refine HC.cond_no rfl ?_
    | refine HL.one (H1.ldb rfl (by first | ((repeat (first | with_reducible exact mem_hd | with_reducible apply mem_tl)); done) | (repeat (first | exact List.Mem.head _ | apply List.Mem.tail))) rfl rfl ?_)
    | refine HC.cond rfl (fun hc => ?_) (fun hc => ?_)
    | refine HC.cond_b rfl (fun hc => ?_) (fun hc => ?_))
  refine HL.one (H1.ldAgg (vs := [.int .i64 x0, .int .i64 x1, .int .i64 x2, .int .i64 x3]) rfl (by first | ((repeat (first | with_reducible exact mem_hd | with_reducible apply mem_tl)); done) | (repeat (first | exact List.Mem.head _ | apply List.Mem.tail))) rfl (fun i v hv => by rw [show 0 + i = i from Nat.zero_add i]; exact hv) rfl ?_)
  repeat' (first
    | apply HL.fold
    | apply HA.fold
    | apply HL.nil
    | apply HX.n_then
    | apply HC.seq
    | apply HC.region
    | refine HL.pa ?_
    | refine HL.ga rfl ?_
    | refine HL.na rfl ?_
    | refine HL.nu rfl rfl ?_
    | apply HC.block
    | apply HC.skip
    | apply HC.exit
    | apply HC.ret
    | apply HX.e_block
    | refine HX.e_other rfl ?_
    | apply HX.e_then
    | apply HX.e_again
    | apply HX.n_block
    | apply HX.r_then
    | apply HX.r_block
    | apply HX.r_again
    | refine HC.cond_yes rfl ?_
    | refine HC.cond_no rfl ?_
    | refine HL.one (H1.ldb rfl (by first | ((repeat (first | with_reducible exact mem_hd | with_reducible apply mem_tl)); done) | (repeat (first | exact List.Mem.head _ | apply List.Mem.tail))) rfl rfl ?_)
    | refine HC.cond rfl (fun hc => ?_) (fun hc => ?_)
    | refine HC.cond_b rfl (fun hc => ?_) (fun hc => ?_))
  refine HL.one (H1.callz (vs := [.agg #[.int .i64 x0, .int .i64 x1, .int .i64 x2, .int .i64 x3], v]) rfl rfl (fun w' hM => make_fn x0 x1 x2 x3 h0 h1 h2 h3 v order hob w' (hM.rd0 hR)) ?_)
  rintro ⟨⟨holders, lost, to, width, k, deadline⟩, ⟨ah, ch⟩, ⟨al, cl⟩, ⟨at_, ct⟩⟩ hg
  dsimp only [List.cons_append, List.nil_append] at hg ⊢
  have hr := hg.right
  have hn9 := hr.n9
  have hl9 := asc_len hr.asc
  have htl := hg.len
  have hsc := surv_count hr.asc
  have hcw := hr.w
  have hck := hr.k
  have hcd := hr.d
  dsimp only at hr hn9 hl9 htl hsc hcw hck hcd
  obtain ⟨wd, rfl⟩ : ∃ n : Nat, width = (n : Int) := ⟨width.toNat, by omega⟩
  obtain ⟨kk, rfl⟩ : ∃ n : Nat, k = (n : Int) := ⟨k.toNat, by omega⟩
  obtain ⟨dl, rfl⟩ : ∃ n : Nat, deadline = (n : Int) := ⟨deadline.toNat, by omega⟩
  simp only [caseV]
  repeat' (first
    | apply HL.fold
    | apply HA.fold
    | apply HL.nil
    | apply HX.n_then
    | apply HC.seq
    | apply HC.region
    | refine HL.pa ?_
    | refine HL.ga rfl ?_
    | refine HL.na rfl ?_
    | refine HL.nu rfl rfl ?_
    | apply HC.block
    | apply HC.skip
    | apply HC.exit
    | apply HC.ret
    | apply HX.e_block
    | refine HX.e_other rfl ?_
    | apply HX.e_then
    | apply HX.e_again
    | apply HX.n_block
    | apply HX.r_then
    | apply HX.r_block
    | apply HX.r_again
    | refine HC.cond_yes rfl ?_
    | refine HC.cond_no rfl ?_
    | refine HL.one (H1.ldb rfl (by first | ((repeat (first | with_reducible exact mem_hd | with_reducible apply mem_tl)); done) | (repeat (first | exact List.Mem.head _ | apply List.Mem.tail))) rfl rfl ?_)
    | refine HC.cond rfl (fun hc => ?_) (fun hc => ?_)
    | refine HC.cond_b rfl (fun hc => ?_) (fun hc => ?_))
  refine HL.one (H1.alloc (cs := [.slice none 0 0, .slice none 0 0, .slice none 0 0, .int .i64 0, .int .i64 0, .int .i64 0]) rfl rfl (fun b6 => ?_))
  repeat' (first
    | apply HL.fold
    | apply HA.fold
    | apply HL.nil
    | apply HX.n_then
    | apply HC.seq
    | apply HC.region
    | refine HL.pa ?_
    | refine HL.ga rfl ?_
    | refine HL.na rfl ?_
    | refine HL.nu rfl rfl ?_
    | apply HC.block
    | apply HC.skip
    | apply HC.exit
    | apply HC.ret
    | apply HX.e_block
    | refine HX.e_other rfl ?_
    | apply HX.e_then
    | apply HX.e_again
    | apply HX.n_block
    | apply HX.r_then
    | apply HX.r_block
    | apply HX.r_again
    | refine HC.cond_yes rfl ?_
    | refine HC.cond_no rfl ?_
    | refine HL.one (H1.ldb rfl (by first | ((repeat (first | with_reducible exact mem_hd | with_reducible apply mem_tl)); done) | (repeat (first | exact List.Mem.head _ | apply List.Mem.tail))) rfl rfl ?_)
    | refine HC.cond rfl (fun hc => ?_) (fun hc => ?_)
    | refine HC.cond_b rfl (fun hc => ?_) (fun hc => ?_))
  refine HL.one (H1.stAgg (cs := [.slice none 0 0, .slice none 0 0, .slice none 0 0, .int .i64 0, .int .i64 0, .int .i64 0]) (vs := caseV ⟨holders, lost, to, (wd : Int), (kk : Int), (dl : Int)⟩ (ah, ch) (al, cl) (at_, ct)) rfl rfl rfl (by unfold caseV; intro v hv; simp only [List.mem_cons, List.not_mem_nil, or_false] at hv; rcases hv with rfl | rfl | rfl | rfl | rfl | rfl <;> rfl) (by first | ((repeat (first | with_reducible exact Rpl.here | with_reducible apply Rpl.there)); done) | (repeat (first | exact Rpl.here | apply Rpl.there))) rfl ?_)
  repeat' (first
    | apply HL.fold
    | apply HA.fold
    | apply HL.nil
    | apply HX.n_then
    | apply HC.seq
    | apply HC.region
    | refine HL.pa ?_
    | refine HL.ga rfl ?_
    | refine HL.na rfl ?_
    | refine HL.nu rfl rfl ?_
    | apply HC.block
    | apply HC.skip
    | apply HC.exit
    | apply HC.ret
    | apply HX.e_block
    | refine HX.e_other rfl ?_
    | apply HX.e_then
    | apply HX.e_again
    | apply HX.n_block
    | apply HX.r_then
    | apply HX.r_block
    | apply HX.r_again
    | refine HC.cond_yes rfl ?_
    | refine HC.cond_no rfl ?_
    | refine HL.one (H1.ldb rfl (by first | ((repeat (first | with_reducible exact mem_hd | with_reducible apply mem_tl)); done) | (repeat (first | exact List.Mem.head _ | apply List.Mem.tail))) rfl rfl ?_)
    | refine HC.cond rfl (fun hc => ?_) (fun hc => ?_)
    | refine HC.cond_b rfl (fun hc => ?_) (fun hc => ?_))
  refine HL.one (H1.ldAgg (vs := caseV ⟨holders, lost, to, (wd : Int), (kk : Int), (dl : Int)⟩ (ah, ch) (al, cl) (at_, ct)) rfl (by first | ((repeat (first | with_reducible exact mem_hd | with_reducible apply mem_tl)); done) | (repeat (first | exact List.Mem.head _ | apply List.Mem.tail))) rfl (fun i v hv => by rw [show 0 + i = i from Nat.zero_add i]; exact hv) rfl ?_)
  repeat' (first
    | apply HL.fold
    | apply HA.fold
    | apply HL.nil
    | apply HX.n_then
    | apply HC.seq
    | apply HC.region
    | refine HL.pa ?_
    | refine HL.ga rfl ?_
    | refine HL.na rfl ?_
    | refine HL.nu rfl rfl ?_
    | apply HC.block
    | apply HC.skip
    | apply HC.exit
    | apply HC.ret
    | apply HX.e_block
    | refine HX.e_other rfl ?_
    | apply HX.e_then
    | apply HX.e_again
    | apply HX.n_block
    | apply HX.r_then
    | apply HX.r_block
    | apply HX.r_again
    | refine HC.cond_yes rfl ?_
    | refine HC.cond_no rfl ?_
    | refine HL.one (H1.ldb rfl (by first | ((repeat (first | with_reducible exact mem_hd | with_reducible apply mem_tl)); done) | (repeat (first | exact List.Mem.head _ | apply List.Mem.tail))) rfl rfl ?_)
    | refine HC.cond rfl (fun hc => ?_) (fun hc => ?_)
    | refine HC.cond_b rfl (fun hc => ?_) (fun hc => ?_))
  refine HL.one (H1.callz1 (An := fun z : List (Option Addr × Nat) × Option Addr × Nat => A.ts z.2.1 z.2.2 (planR holders lost to (wd : Int) (kk : Int) (dl : Int)) z.1) (vs := [.agg (caseV ⟨holders, lost, to, (wd : Int), (kk : Int), (dl : Int)⟩ (ah, ch) (al, cl) (at_, ct)).toArray]) rfl rfl (fun w' hM => planW_fn ⟨holders, lost, to, (wd : Int), (kk : Int), (dl : Int)⟩ (ah, ch) (al, cl) (at_, ct) (by dsimp only; omega) (by dsimp only; omega) (by dsimp only; omega) w' (hM.gr (by first | ((repeat (first | with_reducible exact mem_hd | with_reducible apply mem_tl)); done) | (repeat (first | exact List.Mem.head _ | apply List.Mem.tail)))) (hM.gr (by first | ((repeat (first | with_reducible exact mem_hd | with_reducible apply mem_tl)); done) | (repeat (first | exact List.Mem.head _ | apply List.Mem.tail)))) (hM.gr (by first | ((repeat (first | with_reducible exact mem_hd | with_reducible apply mem_tl)); done) | (repeat (first | exact List.Mem.head _ | apply List.Mem.tail))))) ?_)
  rintro ⟨zs, aP, cP⟩ hz
  dsimp only at hz ⊢
  simp only [caseV]
  by_cases hB : planB holders lost to (wd : Int) (kk : Int) (dl : Int) = true
  rotate_left
  · have hP : planR holders lost to (wd : Int) (kk : Int) (dl : Int) = [] := by unfold planR; rw [if_neg hB]
    rw [if_neg hB]
    rw [hP] at hz ⊢
    repeat' (first
      | apply HL.fold
      | apply HA.fold
      | apply HL.nil
      | apply HX.n_then
      | apply HC.seq
      | apply HC.region
      | refine HL.pa ?_
      | refine HL.ga rfl ?_
      | refine HL.na rfl ?_
      | refine HL.nu rfl rfl ?_
      | apply HC.block
      | apply HC.skip
      | apply HC.exit
      | apply HC.ret
      | apply HX.e_block
      | refine HX.e_other rfl ?_
      | apply HX.e_then
      | apply HX.e_again
      | apply HX.n_block
      | apply HX.r_then
      | apply HX.r_block
      | apply HX.r_again
      | refine HC.cond_yes rfl ?_
      | refine HC.cond_no rfl ?_
      | refine HL.one (H1.ldb rfl (by first | ((repeat (first | with_reducible exact mem_hd | with_reducible apply mem_tl)); done) | (repeat (first | exact List.Mem.head _ | apply List.Mem.tail))) rfl rfl ?_)
      | refine HC.cond rfl (fun hc => ?_) (fun hc => ?_)
      | refine HC.cond_b rfl (fun hc => ?_) (fun hc => ?_))
    exact HX.ret1 rfl rfl fun w' hM => ⟨by simp, hM.ext⟩
  obtain ⟨hks, hlen⟩ := plan_yes_inv ⟨holders, lost, to, (wd : Int), (kk : Int), (dl : Int)⟩ hg hB
  dsimp only [Int.toNat_natCast] at hks hlen
  obtain ⟨-, hP⟩ := plan_yes ⟨holders, lost, to, (wd : Int), (kk : Int), (dl : Int)⟩ hg (j := dl) hks hlen (by dsimp only; omega)
  dsimp only [Int.toNat_natCast] at hP
  have hval := validB_yes (plan_valid hg (fun h => by have := hks h; omega) hlen (Nat.le_refl dl))
  have hlast : lastD (planAt (survS holders lost) lost to wd kk dl) ≤ (dl : Int) := lastD_le (by omega) fun t ht => (plan_stop dl t ht).1
  have hafter := fun {q f : Nat} (hq : q < lost.length) (hf : at' lost q = (f : Int)) => plan_after (n := (holders.length : Int)) hr.asc htl hlen (Nat.le_refl dl) hq hf
  have hsrc : ∀ t ∈ planAt (survS holders lost) lost to wd kk dl, t.src.length ≤ 1000000 := fun t ht => by rw [plan_src dl t ht]; omega
  rw [if_pos hB]
  rw [hP] at hz ⊢
  generalize planAt (survS holders lost) lost to wd kk dl = l at *
  repeat' (first
    | apply HL.fold
    | apply HA.fold
    | apply HL.nil
    | apply HX.n_then
    | apply HC.seq
    | apply HC.region
    | refine HL.pa ?_
    | refine HL.ga rfl ?_
    | refine HL.na rfl ?_
    | refine HL.nu rfl rfl ?_
    | apply HC.block
    | apply HC.skip
    | apply HC.exit
    | apply HC.ret
    | apply HX.e_block
    | refine HX.e_other rfl ?_
    | apply HX.e_then
    | apply HX.e_again
    | apply HX.n_block
    | apply HX.r_then
    | apply HX.r_block
    | apply HX.r_again
    | refine HC.cond_yes rfl ?_
    | refine HC.cond_no rfl ?_
    | refine HL.one (H1.ldb rfl (by first | ((repeat (first | with_reducible exact mem_hd | with_reducible apply mem_tl)); done) | (repeat (first | exact List.Mem.head _ | apply List.Mem.tail))) rfl rfl ?_)
    | refine HC.cond rfl (fun hc => ?_) (fun hc => ?_)
    | refine HC.cond_b rfl (fun hc => ?_) (fun hc => ?_))
  refine HC.cut (α := Unit) (fun _ => [(5, .bool true), (6, .pointer (some ⟨b6, 0, none⟩)), (7, .slice aP l.length cP), (44, .bool false)])
    (fun _ => [A.ts aP cP l zs, A.blk b6 [.slice ah holders.length ch, .slice al lost.length cl, .slice at_ to.length ct, .int .i64 (wd : Int), .int .i64 (kk : Int), .int .i64 (dl : Int)] 28, A.grow 3 1 ah ch holders.length (ints holders), A.grow 3 1 al cl lost.length (ints lost), A.grow 3 1 at_ ct to.length (ints to)]) (fun _ => True) ?_ ?_
  · refine HC.any rfl ?_
    refine HA.pa 1 rfl ?_
    refine HA.all [0] (by kernel_rfl) rfl ⟨⟨_, rfl, ?_⟩, trivial⟩
    refine HO.one ?_
    refine H1.ldAgg (vs := [.slice ah holders.length ch, .slice al lost.length cl, .slice at_ to.length ct, .int .i64 (wd : Int), .int .i64 (kk : Int), .int .i64 (dl : Int)]) rfl (by first | ((repeat (first | with_reducible exact mem_hd | with_reducible apply mem_tl)); done) | (repeat (first | exact List.Mem.head _ | apply List.Mem.tail))) rfl (fun i v hv => by rw [show 0 + i = i from Nat.zero_add i]; exact hv) rfl ?_
    apply HA.fold
    refine HA.all [2] (by kernel_rfl) rfl ⟨⟨_, rfl, ?_⟩, trivial⟩
    refine HO.one ?_
    refine H1.callx (vs := [.agg #[.slice ah holders.length ch, .slice al lost.length cl, .slice at_ to.length ct, .int .i64 (wd : Int), .int .i64 (kk : Int), .int .i64 (dl : Int)], .slice aP l.length cP]) rfl rfl (fun w' hM => validW_fn ⟨holders, lost, to, (wd : Int), (kk : Int), (dl : Int)⟩ (ah, ch) (al, cl) (at_, ct) _ l (by dsimp only; omega) (by dsimp only; omega) (by omega) hsrc w' (hM.gr (by first | ((repeat (first | with_reducible exact mem_hd | with_reducible apply mem_tl)); done) | (repeat (first | exact List.Mem.head _ | apply List.Mem.tail)))) (hM.gr (by first | ((repeat (first | with_reducible exact mem_hd | with_reducible apply mem_tl)); done) | (repeat (first | exact List.Mem.head _ | apply List.Mem.tail)))) (hM.ts (by first | ((repeat (first | with_reducible exact mem_hd | with_reducible apply mem_tl)); done) | (repeat (first | exact List.Mem.head _ | apply List.Mem.tail))) hz)) ?_
    dsimp only
    rw [hval]
    apply HA.fold
    refine HA.pa 3 rfl ?_
    refine HA.pa 4 rfl ?_
    first | refine HA.ga 5 rfl rfl ?_ | refine HA.na 5 rfl rfl ?_ | refine HA.nu 5 rfl rfl ?_
    first | refine HA.ga 7 rfl rfl ?_ | refine HA.na 7 rfl rfl ?_ | refine HA.nu 7 rfl rfl ?_
    refine HA.all [6, 8] (by kernel_rfl) rfl ⟨⟨_, rfl, ?_⟩, ⟨_, rfl, ?_⟩, trivial⟩
    · refine HO.one_a rfl ?_
      refine H1.callx (vs := [.slice aP l.length cP]) rfl rfl (fun w' hM => last_fn _ l (by omega) w' (hM.ts (by first | ((repeat (first | with_reducible exact mem_hd | with_reducible apply mem_tl)); done) | (repeat (first | exact List.Mem.head _ | apply List.Mem.tail))) hz)) ?_
      apply HA.fold
      refine HA.all [8] (by kernel_rfl) rfl ⟨⟨_, rfl, ?_⟩, trivial⟩
      refine HO.one_a rfl ?_
      refine H1.ldb rfl (by first | ((repeat (first | with_reducible exact mem_hd | with_reducible apply mem_tl)); done) | (repeat (first | exact List.Mem.head _ | apply List.Mem.tail))) rfl rfl ?_
      apply HA.fold
      first | refine HA.ga 9 rfl rfl ?_ | refine HA.na 9 rfl rfl ?_ | refine HA.nu 9 rfl rfl ?_
      refine HA.pa 10 rfl ?_
      refine HA.done (by kernel_rfl) ?_
      rw [decide_eq_false (show ¬ (dl : Int) < lastD l by omega)]
      exact HX.cut () trivial (by repeat (first | exact trivial | refine ⟨rfl, ?_⟩)) (by repeat (first | exact Hs.nil _ | (refine Hs.cons (by first | ((repeat (first | with_reducible exact Pick.here | with_reducible apply Pick.there)); done) | (repeat (first | exact Pick.here | apply Pick.there))) ?_)))
    · refine HO.one_a rfl ?_
      refine H1.ldb rfl (by first | ((repeat (first | with_reducible exact mem_hd | with_reducible apply mem_tl)); done) | (repeat (first | exact List.Mem.head _ | apply List.Mem.tail))) rfl rfl ?_
      apply HA.fold
      refine HA.all [6] (by kernel_rfl) rfl ⟨⟨_, rfl, ?_⟩, trivial⟩
      refine HO.one_a rfl ?_
      refine H1.callx (vs := [.slice aP l.length cP]) rfl rfl (fun w' hM => last_fn _ l (by omega) w' (hM.ts (by first | ((repeat (first | with_reducible exact mem_hd | with_reducible apply mem_tl)); done) | (repeat (first | exact List.Mem.head _ | apply List.Mem.tail))) hz)) ?_
      apply HA.fold
      first | refine HA.ga 9 rfl rfl ?_ | refine HA.na 9 rfl rfl ?_ | refine HA.nu 9 rfl rfl ?_
      refine HA.pa 10 rfl ?_
      refine HA.done (by kernel_rfl) ?_
      rw [decide_eq_false (show ¬ (dl : Int) < lastD l by omega)]
      exact HX.cut () trivial (by repeat (first | exact trivial | refine ⟨rfl, ?_⟩)) (by repeat (first | exact Hs.nil _ | (refine Hs.cons (by first | ((repeat (first | with_reducible exact Pick.here | with_reducible apply Pick.there)); done) | (repeat (first | exact Pick.here | apply Pick.there))) ?_)))
  rintro - -
  have hal : (afterS holders lost l (dl : Int)).length = holders.length := by simp [afterS]
  repeat' (first
    | apply HL.fold
    | apply HA.fold
    | apply HL.nil
    | apply HX.n_then
    | apply HC.seq
    | apply HC.region
    | refine HL.pa ?_
    | refine HL.ga rfl ?_
    | refine HL.na rfl ?_
    | refine HL.nu rfl rfl ?_
    | apply HC.block
    | apply HC.skip
    | apply HC.exit
    | apply HC.ret
    | apply HX.e_block
    | refine HX.e_other rfl ?_
    | apply HX.e_then
    | apply HX.e_again
    | apply HX.n_block
    | apply HX.r_then
    | apply HX.r_block
    | apply HX.r_again
    | refine HC.cond_yes rfl ?_
    | refine HC.cond_no rfl ?_
    | refine HL.one (H1.ldb rfl (by first | ((repeat (first | with_reducible exact mem_hd | with_reducible apply mem_tl)); done) | (repeat (first | exact List.Mem.head _ | apply List.Mem.tail))) rfl rfl ?_)
    | refine HC.cond rfl (fun hc => ?_) (fun hc => ?_)
    | refine HC.cond_b rfl (fun hc => ?_) (fun hc => ?_))
  refine HL.one (H1.callz1 (An := fun z : Option Addr × Nat => A.grow 3 1 z.1 z.2 holders.length (ints (afterS holders lost l (dl : Int)))) (vs := [.slice ah holders.length ch, .slice al lost.length cl, .slice aP l.length cP, .int .i64 (dl : Int)]) rfl rfl (fun w' hM => by
    have := after_fn (.slice ah holders.length ch) (.slice al lost.length cl) (.slice aP l.length cP) holders lost l (dl : Int) (by omega) (by omega) (by omega) w' (hM.gr (by first | ((repeat (first | with_reducible exact mem_hd | with_reducible apply mem_tl)); done) | (repeat (first | exact List.Mem.head _ | apply List.Mem.tail)))) (hM.gr (by first | ((repeat (first | with_reducible exact mem_hd | with_reducible apply mem_tl)); done) | (repeat (first | exact List.Mem.head _ | apply List.Mem.tail)))) (hM.ts (by first | ((repeat (first | with_reducible exact mem_hd | with_reducible apply mem_tl)); done) | (repeat (first | exact List.Mem.head _ | apply List.Mem.tail))) hz)
    rw [hal] at this
    exact this) ?_)
  rintro ⟨aA, cA⟩ -
  dsimp only
  repeat' (first
    | apply HL.fold
    | apply HA.fold
    | apply HL.nil
    | apply HX.n_then
    | apply HC.seq
    | apply HC.region
    | refine HL.pa ?_
    | refine HL.ga rfl ?_
    | refine HL.na rfl ?_
    | refine HL.nu rfl rfl ?_
    | apply HC.block
    | apply HC.skip
    | apply HC.exit
    | apply HC.ret
    | apply HX.e_block
    | refine HX.e_other rfl ?_
    | apply HX.e_then
    | apply HX.e_again
    | apply HX.n_block
    | apply HX.r_then
    | apply HX.r_block
    | apply HX.r_again
    | refine HC.cond_yes rfl ?_
    | refine HC.cond_no rfl ?_
    | refine HL.one (H1.ldb rfl (by first | ((repeat (first | with_reducible exact mem_hd | with_reducible apply mem_tl)); done) | (repeat (first | exact List.Mem.head _ | apply List.Mem.tail))) rfl rfl ?_)
    | refine HC.cond rfl (fun hc => ?_) (fun hc => ?_)
    | refine HC.cond_b rfl (fun hc => ?_) (fun hc => ?_))
  refine HC.openg (e := 3) (a := aA) (xs := ints (afterS holders lost l (dl : Int))) (by first | ((repeat (first | with_reducible exact mem_hd | with_reducible apply mem_tl)); done) | (repeat (first | exact List.Mem.head _ | apply List.Mem.tail))) (by omega) ?_
  rintro bA rfl
  refine HC.openg (e := 3) (a := ah) (xs := ints holders) (by first | ((repeat (first | with_reducible exact mem_hd | with_reducible apply mem_tl)); done) | (repeat (first | exact List.Mem.head _ | apply List.Mem.tail))) (by omega) ?_
  rintro bh rfl
  refine HC.loop (α := Nat × Nat) (fun z => [(5, .bool true), (6, .pointer (some ⟨b6, 0, none⟩)), (9, .slice (some ⟨bA, 0, none⟩) holders.length cA), (10, .int .i64 (z.2 : Int)), (11, .int .i64 (z.1 : Int))])
    (fun _ => [A.grow 3 1 (some ⟨bA, 0, none⟩) cA holders.length (ints (afterS holders lost l (dl : Int))), A.blk b6 [.slice (some ⟨bh, 0, none⟩) holders.length ch, .slice al lost.length cl, .slice at_ to.length ct, .int .i64 (wd : Int), .int .i64 (kk : Int), .int .i64 (dl : Int)] 28, A.grow 3 1 (some ⟨bh, 0, none⟩) ch holders.length (ints holders), A.grow 3 1 al cl lost.length (ints lost), A.grow 3 1 at_ ct to.length (ints to)])
    (fun z => z.1 ≤ holders.length ∧ z.2 ≤ lost.length ∧ (∀ q, q < z.2 → at' lost q < (z.1 : Int)) ∧ (z.2 < lost.length → (z.1 : Int) ≤ at' lost z.2)) (fun z => holders.length - z.1) (0, 0) ⟨Nat.zero_le _, Nat.zero_le _, (fun q hq => absurd hq (Nat.not_lt_zero q)), (fun h => (hr.asc 0 h).1.1)⟩ (by repeat (first | exact trivial | refine ⟨rfl, ?_⟩)) (by repeat (first | exact Hs.nil _ | (refine Hs.cons (by first | ((repeat (first | with_reducible exact Pick.here | with_reducible apply Pick.there)); done) | (repeat (first | exact Pick.here | apply Pick.there))) ?_))) ?_
  rintro ⟨f, q⟩ ⟨hf, hq, hq1, hq2⟩
  dsimp only at hf hq hq1 hq2 ⊢
  by_cases hlt : f < holders.length
  · have haf := after_at (lost := lost) (l := l) (day := (dl : Int)) hlt
    by_cases h1 : q < lost.length ∧ at' lost q = (f : Int)
    · obtain ⟨h1, h2⟩ := h1
      have hin : (f : Int) ∈ lost := h2 ▸ at_mem h1
      rw [afterI, if_pos hin, hafter h1 h2] at haf
      refine HC.openg (e := 3) (a := al) (xs := ints lost) (by first | ((repeat (first | with_reducible exact mem_hd | with_reducible apply mem_tl)); done) | (repeat (first | exact List.Mem.head _ | apply List.Mem.tail))) (by omega) ?_
      rintro bl rfl
      refine HC.openg (e := 3) (a := at_) (xs := ints to) (by first | ((repeat (first | with_reducible exact mem_hd | with_reducible apply mem_tl)); done) | (repeat (first | exact List.Mem.head _ | apply List.Mem.tail))) (by omega) ?_
      rintro bt rfl
      repeat' (first
        | apply HL.fold
        | apply HA.fold
        | apply HL.nil
        | apply HX.n_then
        | apply HC.seq
        | apply HC.region
        | refine HL.pa ?_
        | refine HL.ga rfl ?_
        | refine HL.na rfl ?_
        | refine HL.nu rfl rfl ?_
        | apply HC.block
        | apply HC.skip
        | apply HC.exit
        | apply HC.ret
        | apply HX.e_block
        | refine HX.e_other rfl ?_
        | apply HX.e_then
        | apply HX.e_again
        | apply HX.n_block
        | apply HX.r_then
        | apply HX.r_block
        | apply HX.r_again
        | refine HC.cond_yes rfl ?_
        | refine HC.cond_no rfl ?_
        | refine HL.one (H1.ldb rfl (by first | ((repeat (first | with_reducible exact mem_hd | with_reducible apply mem_tl)); done) | (repeat (first | exact List.Mem.head _ | apply List.Mem.tail))) rfl rfl ?_)
        | refine HC.cond rfl (fun hc => ?_) (fun hc => ?_)
        | refine HC.cond_b rfl (fun hc => ?_) (fun hc => ?_))
      refine HL.one (H1.ldg rfl (by first | ((repeat (first | with_reducible exact mem_hd | with_reducible apply mem_tl)); done) | (repeat (first | exact List.Mem.head _ | apply List.Mem.tail))) (ints_get hlt) rfl ?_)
      repeat' (first
        | apply HL.fold
        | apply HA.fold
        | apply HL.nil
        | apply HX.n_then
        | apply HC.seq
        | apply HC.region
        | refine HL.pa ?_
        | refine HL.ga rfl ?_
        | refine HL.na rfl ?_
        | refine HL.nu rfl rfl ?_
        | apply HC.block
        | apply HC.skip
        | apply HC.exit
        | apply HC.ret
        | apply HX.e_block
        | refine HX.e_other rfl ?_
        | apply HX.e_then
        | apply HX.e_again
        | apply HX.n_block
        | apply HX.r_then
        | apply HX.r_block
        | apply HX.r_again
        | refine HC.cond_yes rfl ?_
        | refine HC.cond_no rfl ?_
        | refine HL.one (H1.ldb rfl (by first | ((repeat (first | with_reducible exact mem_hd | with_reducible apply mem_tl)); done) | (repeat (first | exact List.Mem.head _ | apply List.Mem.tail))) rfl rfl ?_)
        | refine HC.cond rfl (fun hc => ?_) (fun hc => ?_)
        | refine HC.cond_b rfl (fun hc => ?_) (fun hc => ?_))
      refine HL.one (H1.ldg rfl (by first | ((repeat (first | with_reducible exact mem_hd | with_reducible apply mem_tl)); done) | (repeat (first | exact List.Mem.head _ | apply List.Mem.tail))) (ints_get h1) rfl ?_)
      repeat' (first
        | apply HL.fold
        | apply HA.fold
        | apply HL.nil
        | apply HX.n_then
        | apply HC.seq
        | apply HC.region
        | refine HL.pa ?_
        | refine HL.ga rfl ?_
        | refine HL.na rfl ?_
        | refine HL.nu rfl rfl ?_
        | apply HC.block
        | apply HC.skip
        | apply HC.exit
        | apply HC.ret
        | apply HX.e_block
        | refine HX.e_other rfl ?_
        | apply HX.e_then
        | apply HX.e_again
        | apply HX.n_block
        | apply HX.r_then
        | apply HX.r_block
        | apply HX.r_again
        | refine HC.cond_yes rfl ?_
        | refine HC.cond_no rfl ?_
        | refine HL.one (H1.ldb rfl (by first | ((repeat (first | with_reducible exact mem_hd | with_reducible apply mem_tl)); done) | (repeat (first | exact List.Mem.head _ | apply List.Mem.tail))) rfl rfl ?_)
        | refine HC.cond rfl (fun hc => ?_) (fun hc => ?_)
        | refine HC.cond_b rfl (fun hc => ?_) (fun hc => ?_))
      refine HL.one (H1.ldg rfl (by first | ((repeat (first | with_reducible exact mem_hd | with_reducible apply mem_tl)); done) | (repeat (first | exact List.Mem.head _ | apply List.Mem.tail))) (ints_get (show q < to.length by omega)) rfl ?_)
      repeat' (first
        | apply HL.fold
        | apply HA.fold
        | apply HL.nil
        | apply HX.n_then
        | apply HC.seq
        | apply HC.region
        | refine HL.pa ?_
        | refine HL.ga rfl ?_
        | refine HL.na rfl ?_
        | refine HL.nu rfl rfl ?_
        | apply HC.block
        | apply HC.skip
        | apply HC.exit
        | apply HC.ret
        | apply HX.e_block
        | refine HX.e_other rfl ?_
        | apply HX.e_then
        | apply HX.e_again
        | apply HX.n_block
        | apply HX.r_then
        | apply HX.r_block
        | apply HX.r_again
        | refine HC.cond_yes rfl ?_
        | refine HC.cond_no rfl ?_
        | refine HL.one (H1.ldb rfl (by first | ((repeat (first | with_reducible exact mem_hd | with_reducible apply mem_tl)); done) | (repeat (first | exact List.Mem.head _ | apply List.Mem.tail))) rfl rfl ?_)
        | refine HC.cond rfl (fun hc => ?_) (fun hc => ?_)
        | refine HC.cond_b rfl (fun hc => ?_) (fun hc => ?_))
      refine HL.one (H1.ldg rfl (by first | ((repeat (first | with_reducible exact mem_hd | with_reducible apply mem_tl)); done) | (repeat (first | exact List.Mem.head _ | apply List.Mem.tail))) (ints_get (show f < (afterS holders lost l (dl : Int)).length by omega)) rfl ?_)
      rw [haf]
      repeat' (first
        | apply HL.fold
        | apply HA.fold
        | apply HL.nil
        | apply HX.n_then
        | apply HC.seq
        | apply HC.region
        | refine HL.pa ?_
        | refine HL.ga rfl ?_
        | refine HL.na rfl ?_
        | refine HL.nu rfl rfl ?_
        | apply HC.block
        | apply HC.skip
        | apply HC.exit
        | apply HC.ret
        | apply HX.e_block
        | refine HX.e_other rfl ?_
        | apply HX.e_then
        | apply HX.e_again
        | apply HX.n_block
        | apply HX.r_then
        | apply HX.r_block
        | apply HX.r_again
        | refine HC.cond_yes rfl ?_
        | refine HC.cond_no rfl ?_
        | refine HL.one (H1.ldb rfl (by first | ((repeat (first | with_reducible exact mem_hd | with_reducible apply mem_tl)); done) | (repeat (first | exact List.Mem.head _ | apply List.Mem.tail))) rfl rfl ?_)
        | refine HC.cond rfl (fun hc => ?_) (fun hc => ?_)
        | refine HC.cond_b rfl (fun hc => ?_) (fun hc => ?_))
      refine HX.again (f + 1, q + 1) ⟨by show f + 1 ≤ _; omega, by show q + 1 ≤ _; omega, fun p hp => ?_, fun h => ?_⟩ (by show holders.length - (f + 1) < holders.length - f; omega) (by repeat (first | exact trivial | refine ⟨rfl, ?_⟩)) (by repeat (first | exact Hs.nil _ | (refine Hs.cons (by first | ((repeat (first | with_reducible exact Pick.here | with_reducible apply Pick.there)); done) | (repeat (first | exact Pick.here | apply Pick.there))) ?_)))
      · dsimp only at hp ⊢
        by_cases e : p = q
        · subst e; omega
        · have := hq1 p (by omega); omega
      · dsimp only at h ⊢
        have := asc_lt hr.asc (show q < q + 1 by omega) h
        omega
    · have hnin : (f : Int) ∉ lost := fun h => by
        obtain ⟨p, hp, hpe⟩ := mem_at h
        rcases Nat.lt_trichotomy p q with h2 | h2 | h2
        · have := hq1 p h2; omega
        · subst h2; exact h1 ⟨hp, hpe⟩
        · have := asc_lt hr.asc h2 hp
          have := hq2 (by omega); omega
      rw [afterI, if_neg hnin] at haf
      by_cases h3 : q < lost.length
      · have h4 : ¬ at' lost q = (f : Int) := fun e => h1 ⟨h3, e⟩
        refine HC.openg (e := 3) (a := al) (xs := ints lost) (by first | ((repeat (first | with_reducible exact mem_hd | with_reducible apply mem_tl)); done) | (repeat (first | exact List.Mem.head _ | apply List.Mem.tail))) (by omega) ?_
        rintro bl rfl
        repeat' (first
          | apply HL.fold
          | apply HA.fold
          | apply HL.nil
          | apply HX.n_then
          | apply HC.seq
          | apply HC.region
          | refine HL.pa ?_
          | refine HL.ga rfl ?_
          | refine HL.na rfl ?_
          | refine HL.nu rfl rfl ?_
          | apply HC.block
          | apply HC.skip
          | apply HC.exit
          | apply HC.ret
          | apply HX.e_block
          | refine HX.e_other rfl ?_
          | apply HX.e_then
          | apply HX.e_again
          | apply HX.n_block
          | apply HX.r_then
          | apply HX.r_block
          | apply HX.r_again
          | refine HC.cond_yes rfl ?_
          | refine HC.cond_no rfl ?_
          | refine HL.one (H1.ldb rfl (by first | ((repeat (first | with_reducible exact mem_hd | with_reducible apply mem_tl)); done) | (repeat (first | exact List.Mem.head _ | apply List.Mem.tail))) rfl rfl ?_)
          | refine HC.cond rfl (fun hc => ?_) (fun hc => ?_)
          | refine HC.cond_b rfl (fun hc => ?_) (fun hc => ?_))
        refine HL.one (H1.ldg rfl (by first | ((repeat (first | with_reducible exact mem_hd | with_reducible apply mem_tl)); done) | (repeat (first | exact List.Mem.head _ | apply List.Mem.tail))) (ints_get hlt) rfl ?_)
        repeat' (first
          | apply HL.fold
          | apply HA.fold
          | apply HL.nil
          | apply HX.n_then
          | apply HC.seq
          | apply HC.region
          | refine HL.pa ?_
          | refine HL.ga rfl ?_
          | refine HL.na rfl ?_
          | refine HL.nu rfl rfl ?_
          | apply HC.block
          | apply HC.skip
          | apply HC.exit
          | apply HC.ret
          | apply HX.e_block
          | refine HX.e_other rfl ?_
          | apply HX.e_then
          | apply HX.e_again
          | apply HX.n_block
          | apply HX.r_then
          | apply HX.r_block
          | apply HX.r_again
          | refine HC.cond_yes rfl ?_
          | refine HC.cond_no rfl ?_
          | refine HL.one (H1.ldb rfl (by first | ((repeat (first | with_reducible exact mem_hd | with_reducible apply mem_tl)); done) | (repeat (first | exact List.Mem.head _ | apply List.Mem.tail))) rfl rfl ?_)
          | refine HC.cond rfl (fun hc => ?_) (fun hc => ?_)
          | refine HC.cond_b rfl (fun hc => ?_) (fun hc => ?_))
        refine HL.one (H1.ldg rfl (by first | ((repeat (first | with_reducible exact mem_hd | with_reducible apply mem_tl)); done) | (repeat (first | exact List.Mem.head _ | apply List.Mem.tail))) (ints_get h3) rfl ?_)
        repeat' (first
          | apply HL.fold
          | apply HA.fold
          | apply HL.nil
          | apply HX.n_then
          | apply HC.seq
          | apply HC.region
          | refine HL.pa ?_
          | refine HL.ga rfl ?_
          | refine HL.na rfl ?_
          | refine HL.nu rfl rfl ?_
          | apply HC.block
          | apply HC.skip
          | apply HC.exit
          | apply HC.ret
          | apply HX.e_block
          | refine HX.e_other rfl ?_
          | apply HX.e_then
          | apply HX.e_again
          | apply HX.n_block
          | apply HX.r_then
          | apply HX.r_block
          | apply HX.r_again
          | refine HC.cond_yes rfl ?_
          | refine HC.cond_no rfl ?_
          | refine HL.one (H1.ldb rfl (by first | ((repeat (first | with_reducible exact mem_hd | with_reducible apply mem_tl)); done) | (repeat (first | exact List.Mem.head _ | apply List.Mem.tail))) rfl rfl ?_)
          | refine HC.cond rfl (fun hc => ?_) (fun hc => ?_)
          | refine HC.cond_b rfl (fun hc => ?_) (fun hc => ?_))
        refine HL.one (H1.ldg rfl (by first | ((repeat (first | with_reducible exact mem_hd | with_reducible apply mem_tl)); done) | (repeat (first | exact List.Mem.head _ | apply List.Mem.tail))) (ints_get (show f < (afterS holders lost l (dl : Int)).length by omega)) rfl ?_)
        rw [haf]
        repeat' (first
          | apply HL.fold
          | apply HA.fold
          | apply HL.nil
          | apply HX.n_then
          | apply HC.seq
          | apply HC.region
          | refine HL.pa ?_
          | refine HL.ga rfl ?_
          | refine HL.na rfl ?_
          | refine HL.nu rfl rfl ?_
          | apply HC.block
          | apply HC.skip
          | apply HC.exit
          | apply HC.ret
          | apply HX.e_block
          | refine HX.e_other rfl ?_
          | apply HX.e_then
          | apply HX.e_again
          | apply HX.n_block
          | apply HX.r_then
          | apply HX.r_block
          | apply HX.r_again
          | refine HC.cond_yes rfl ?_
          | refine HC.cond_no rfl ?_
          | refine HL.one (H1.ldb rfl (by first | ((repeat (first | with_reducible exact mem_hd | with_reducible apply mem_tl)); done) | (repeat (first | exact List.Mem.head _ | apply List.Mem.tail))) rfl rfl ?_)
          | refine HC.cond rfl (fun hc => ?_) (fun hc => ?_)
          | refine HC.cond_b rfl (fun hc => ?_) (fun hc => ?_))
        refine HX.again (f + 1, q) ⟨by show f + 1 ≤ _; omega, hq, fun p hp => by have := hq1 p hp; dsimp only; omega, fun h => by have := hq2 h; dsimp only; omega⟩ (by show holders.length - (f + 1) < holders.length - f; omega) (by repeat (first | exact trivial | refine ⟨rfl, ?_⟩)) (by repeat (first | exact Hs.nil _ | (refine Hs.cons (by first | ((repeat (first | with_reducible exact Pick.here | with_reducible apply Pick.there)); done) | (repeat (first | exact Pick.here | apply Pick.there))) ?_)))
      · repeat' (first
          | apply HL.fold
          | apply HA.fold
          | apply HL.nil
          | apply HX.n_then
          | apply HC.seq
          | apply HC.region
          | refine HL.pa ?_
          | refine HL.ga rfl ?_
          | refine HL.na rfl ?_
          | refine HL.nu rfl rfl ?_
          | apply HC.block
          | apply HC.skip
          | apply HC.exit
          | apply HC.ret
          | apply HX.e_block
          | refine HX.e_other rfl ?_
          | apply HX.e_then
          | apply HX.e_again
          | apply HX.n_block
          | apply HX.r_then
          | apply HX.r_block
          | apply HX.r_again
          | refine HC.cond_yes rfl ?_
          | refine HC.cond_no rfl ?_
          | refine HL.one (H1.ldb rfl (by first | ((repeat (first | with_reducible exact mem_hd | with_reducible apply mem_tl)); done) | (repeat (first | exact List.Mem.head _ | apply List.Mem.tail))) rfl rfl ?_)
          | refine HC.cond rfl (fun hc => ?_) (fun hc => ?_)
          | refine HC.cond_b rfl (fun hc => ?_) (fun hc => ?_))
        refine HL.one (H1.ldg rfl (by first | ((repeat (first | with_reducible exact mem_hd | with_reducible apply mem_tl)); done) | (repeat (first | exact List.Mem.head _ | apply List.Mem.tail))) (ints_get hlt) rfl ?_)
        repeat' (first
          | apply HL.fold
          | apply HA.fold
          | apply HL.nil
          | apply HX.n_then
          | apply HC.seq
          | apply HC.region
          | refine HL.pa ?_
          | refine HL.ga rfl ?_
          | refine HL.na rfl ?_
          | refine HL.nu rfl rfl ?_
          | apply HC.block
          | apply HC.skip
          | apply HC.exit
          | apply HC.ret
          | apply HX.e_block
          | refine HX.e_other rfl ?_
          | apply HX.e_then
          | apply HX.e_again
          | apply HX.n_block
          | apply HX.r_then
          | apply HX.r_block
          | apply HX.r_again
          | refine HC.cond_yes rfl ?_
          | refine HC.cond_no rfl ?_
          | refine HL.one (H1.ldb rfl (by first | ((repeat (first | with_reducible exact mem_hd | with_reducible apply mem_tl)); done) | (repeat (first | exact List.Mem.head _ | apply List.Mem.tail))) rfl rfl ?_)
          | refine HC.cond rfl (fun hc => ?_) (fun hc => ?_)
          | refine HC.cond_b rfl (fun hc => ?_) (fun hc => ?_))
        refine HL.one (H1.ldg rfl (by first | ((repeat (first | with_reducible exact mem_hd | with_reducible apply mem_tl)); done) | (repeat (first | exact List.Mem.head _ | apply List.Mem.tail))) (ints_get (show f < (afterS holders lost l (dl : Int)).length by omega)) rfl ?_)
        rw [haf]
        repeat' (first
          | apply HL.fold
          | apply HA.fold
          | apply HL.nil
          | apply HX.n_then
          | apply HC.seq
          | apply HC.region
          | refine HL.pa ?_
          | refine HL.ga rfl ?_
          | refine HL.na rfl ?_
          | refine HL.nu rfl rfl ?_
          | apply HC.block
          | apply HC.skip
          | apply HC.exit
          | apply HC.ret
          | apply HX.e_block
          | refine HX.e_other rfl ?_
          | apply HX.e_then
          | apply HX.e_again
          | apply HX.n_block
          | apply HX.r_then
          | apply HX.r_block
          | apply HX.r_again
          | refine HC.cond_yes rfl ?_
          | refine HC.cond_no rfl ?_
          | refine HL.one (H1.ldb rfl (by first | ((repeat (first | with_reducible exact mem_hd | with_reducible apply mem_tl)); done) | (repeat (first | exact List.Mem.head _ | apply List.Mem.tail))) rfl rfl ?_)
          | refine HC.cond rfl (fun hc => ?_) (fun hc => ?_)
          | refine HC.cond_b rfl (fun hc => ?_) (fun hc => ?_))
        refine HX.again (f + 1, q) ⟨by show f + 1 ≤ _; omega, hq, fun p hp => by have := hq1 p hp; dsimp only; omega, fun h => absurd h h3⟩ (by show holders.length - (f + 1) < holders.length - f; omega) (by repeat (first | exact trivial | refine ⟨rfl, ?_⟩)) (by repeat (first | exact Hs.nil _ | (refine Hs.cons (by first | ((repeat (first | with_reducible exact Pick.here | with_reducible apply Pick.there)); done) | (repeat (first | exact Pick.here | apply Pick.there))) ?_)))
  · obtain rfl : f = holders.length := by omega
    repeat' (first
      | apply HL.fold
      | apply HA.fold
      | apply HL.nil
      | apply HX.n_then
      | apply HC.seq
      | apply HC.region
      | refine HL.pa ?_
      | refine HL.ga rfl ?_
      | refine HL.na rfl ?_
      | refine HL.nu rfl rfl ?_
      | apply HC.block
      | apply HC.skip
      | apply HC.exit
      | apply HC.ret
      | apply HX.e_block
      | refine HX.e_other rfl ?_
      | apply HX.e_then
      | apply HX.e_again
      | apply HX.n_block
      | apply HX.r_then
      | apply HX.r_block
      | apply HX.r_again
      | refine HC.cond_yes rfl ?_
      | refine HC.cond_no rfl ?_
      | refine HL.one (H1.ldb rfl (by first | ((repeat (first | with_reducible exact mem_hd | with_reducible apply mem_tl)); done) | (repeat (first | exact List.Mem.head _ | apply List.Mem.tail))) rfl rfl ?_)
      | refine HC.cond rfl (fun hc => ?_) (fun hc => ?_)
      | refine HC.cond_b rfl (fun hc => ?_) (fun hc => ?_))
    exact HX.ret1 rfl rfl fun w' hM => ⟨rfl, hM.ext⟩
end Go.Sx

