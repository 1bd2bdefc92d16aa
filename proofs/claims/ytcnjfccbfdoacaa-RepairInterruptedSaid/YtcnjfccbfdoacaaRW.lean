/- The law RepairInterrupted. -/
import Derived.Test.YtcnjfccbfdoacaaRV
namespace Go.Sx
open Go Go.Proofs
theorem lastD_nonneg2 (l : List Tr) : 0 ≤ lastD l := by
  unfold lastD
  have key : ∀ (l : List Tr) (n : Int), n ≤ l.foldl (fun n t => max n t.stop) n := by
    intro l
    induction l with
    | nil => intro n; exact Int.le_refl _
    | cons u l ih => intro n; exact Int.le_trans (Int.le_max_left n u.stop) (ih _)
  exact key l 0
theorem planR_len (holders lost to : List Int) (width k deadline : Int) : (planR holders lost to width k deadline).length ≤ lost.length := by
  unfold planR
  split
  · exact plan_len_le _
  · exact Nat.zero_le _
attribute [local irreducible] WC WL WX POp Then Again Fn NX W1 WA WO QL RP RA Yld LoopAt HC HL HX HN H1 HA HO HQ HB HP A.blk A.grow A.rd A.obj A.mp AgainH CutH
attribute [local irreducible] A.all A.ts planB planR planD planAt lastD
set_option maxHeartbeats 2000000 in
theorem repairInterrupted_fn (x0 x1 x2 x3 : Int) (h0 : i64B x0) (h1 : i64B x1) (h2 : i64B x2) (h3 : i64B x3) (v : Value) (order : List Int) (hob : ∀ x ∈ order, i64B x) (day : Int) (hdb : i64B day) (w : World) (hR : Rd w v (ints order)) :
    Fn Try.prog 7 #[.agg #[.int .i64 x0, .int .i64 x1, .int .i64 x2, .int .i64 x3], v, .int .i64 day] w fun u w' => u = .bool true ∧ Ext w w' := by
  refine enterH (l := [_, _, _]) rfl Try.ntmps7 rfl ?_
  repeat' (first | apply HL.fold | apply HA.fold | apply HL.nil | apply HX.n_then | apply HC.seq | apply HC.region | refine HL.pa ?_ | refine HL.ga rfl ?_ | refine HL.na rfl ?_ | refine HL.nu rfl rfl ?_ | apply HC.block | apply HC.skip | apply HC.exit | apply HC.ret | apply HX.e_block | refine HX.e_other rfl ?_ | apply HX.e_then | apply HX.e_again | apply HX.n_block | apply HX.r_then | apply HX.r_block | apply HX.r_again | refine HC.cond_yes rfl ?_ | refine HC.cond_no rfl ?_ | refine HL.one (H1.ldb rfl (by repeat (first | with_reducible exact mem_hd | with_reducible apply mem_tl)) rfl rfl ?_) | refine HC.cond rfl (fun hc => ?_) (fun hc => ?_) | refine HC.cond_b rfl (fun hc => ?_) (fun hc => ?_))
  refine HL.one (H1.boxAgg (cs := [.int .i64 x0, .int .i64 x1, .int .i64 x2, .int .i64 x3]) rfl rfl (fun b2 => ?_))
  repeat' (first | apply HL.fold | apply HA.fold | apply HL.nil | apply HX.n_then | apply HC.seq | apply HC.region | refine HL.pa ?_ | refine HL.ga rfl ?_ | refine HL.na rfl ?_ | refine HL.nu rfl rfl ?_ | apply HC.block | apply HC.skip | apply HC.exit | apply HC.ret | apply HX.e_block | refine HX.e_other rfl ?_ | apply HX.e_then | apply HX.e_again | apply HX.n_block | apply HX.r_then | apply HX.r_block | apply HX.r_again | refine HC.cond_yes rfl ?_ | refine HC.cond_no rfl ?_ | refine HL.one (H1.ldb rfl (by repeat (first | with_reducible exact mem_hd | with_reducible apply mem_tl)) rfl rfl ?_) | refine HC.cond rfl (fun hc => ?_) (fun hc => ?_) | refine HC.cond_b rfl (fun hc => ?_) (fun hc => ?_))
  refine HL.one (H1.callx (vs := []) rfl rfl (fun w' _ => sane_fn w') ?_)
  repeat' (first | apply HL.fold | apply HA.fold | apply HL.nil | apply HX.n_then | apply HC.seq | apply HC.region | refine HL.pa ?_ | refine HL.ga rfl ?_ | refine HL.na rfl ?_ | refine HL.nu rfl rfl ?_ | apply HC.block | apply HC.skip | apply HC.exit | apply HC.ret | apply HX.e_block | refine HX.e_other rfl ?_ | apply HX.e_then | apply HX.e_again | apply HX.n_block | apply HX.r_then | apply HX.r_block | apply HX.r_again | refine HC.cond_yes rfl ?_ | refine HC.cond_no rfl ?_ | refine HL.one (H1.ldb rfl (by repeat (first | with_reducible exact mem_hd | with_reducible apply mem_tl)) rfl rfl ?_) | refine HC.cond rfl (fun hc => ?_) (fun hc => ?_) | refine HC.cond_b rfl (fun hc => ?_) (fun hc => ?_))
  refine HL.one (H1.ldAgg (vs := [.int .i64 x0, .int .i64 x1, .int .i64 x2, .int .i64 x3]) rfl (by repeat (first | exact mem_hd | apply mem_tl)) rfl (fun i v hv => by rw [show 0 + i = i from Nat.zero_add i]; exact hv) rfl ?_)
  repeat' (first | apply HL.fold | apply HA.fold | apply HL.nil | apply HX.n_then | apply HC.seq | apply HC.region | refine HL.pa ?_ | refine HL.ga rfl ?_ | refine HL.na rfl ?_ | refine HL.nu rfl rfl ?_ | apply HC.block | apply HC.skip | apply HC.exit | apply HC.ret | apply HX.e_block | refine HX.e_other rfl ?_ | apply HX.e_then | apply HX.e_again | apply HX.n_block | apply HX.r_then | apply HX.r_block | apply HX.r_again | refine HC.cond_yes rfl ?_ | refine HC.cond_no rfl ?_ | refine HL.one (H1.ldb rfl (by repeat (first | with_reducible exact mem_hd | with_reducible apply mem_tl)) rfl rfl ?_) | refine HC.cond rfl (fun hc => ?_) (fun hc => ?_) | refine HC.cond_b rfl (fun hc => ?_) (fun hc => ?_))
  refine HL.one (H1.callz (vs := [.agg #[.int .i64 x0, .int .i64 x1, .int .i64 x2, .int .i64 x3], v]) rfl rfl (fun w' hM => make_fn x0 x1 x2 x3 h0 h1 h2 h3 v order hob w' (hM.rd0 hR)) ?_)
  rintro ⟨⟨holders, lost, to, width, k, deadline⟩, ⟨ah, ch⟩, ⟨al, cl⟩, ⟨at_, ct⟩⟩ hg
  dsimp only [List.cons_append, List.nil_append] at hg ⊢
  have hr := hg.right
  have hn9 := hr.n9
  have hl9 := asc_len hr.asc
  have htl := hg.len
  have hsc := surv_count hr.asc
  have hcw := hr.w
  have hck := hr.k
  have hcd := hr.d
  dsimp only at hr hn9 hl9 htl hsc hcw hck hcd
  obtain ⟨wd, rfl⟩ : ∃ n : Nat, width = (n : Int) := ⟨width.toNat, by omega⟩
  obtain ⟨kk, rfl⟩ : ∃ n : Nat, k = (n : Int) := ⟨k.toNat, by omega⟩
  obtain ⟨dl, rfl⟩ : ∃ n : Nat, deadline = (n : Int) := ⟨deadline.toNat, by omega⟩
  simp only [caseV]
  repeat' (first | apply HL.fold | apply HA.fold | apply HL.nil | apply HX.n_then | apply HC.seq | apply HC.region | refine HL.pa ?_ | refine HL.ga rfl ?_ | refine HL.na rfl ?_ | refine HL.nu rfl rfl ?_ | apply HC.block | apply HC.skip | apply HC.exit | apply HC.ret | apply HX.e_block | refine HX.e_other rfl ?_ | apply HX.e_then | apply HX.e_again | apply HX.n_block | apply HX.r_then | apply HX.r_block | apply HX.r_again | refine HC.cond_yes rfl ?_ | refine HC.cond_no rfl ?_ | refine HL.one (H1.ldb rfl (by repeat (first | with_reducible exact mem_hd | with_reducible apply mem_tl)) rfl rfl ?_) | refine HC.cond rfl (fun hc => ?_) (fun hc => ?_) | refine HC.cond_b rfl (fun hc => ?_) (fun hc => ?_))
  refine HL.one (H1.alloc (cs := [.slice none 0 0, .slice none 0 0, .slice none 0 0, .int .i64 0, .int .i64 0, .int .i64 0]) rfl rfl (fun b8 => ?_))
  repeat' (first | apply HL.fold | apply HA.fold | apply HL.nil | apply HX.n_then | apply HC.seq | apply HC.region | refine HL.pa ?_ | refine HL.ga rfl ?_ | refine HL.na rfl ?_ | refine HL.nu rfl rfl ?_ | apply HC.block | apply HC.skip | apply HC.exit | apply HC.ret | apply HX.e_block | refine HX.e_other rfl ?_ | apply HX.e_then | apply HX.e_again | apply HX.n_block | apply HX.r_then | apply HX.r_block | apply HX.r_again | refine HC.cond_yes rfl ?_ | refine HC.cond_no rfl ?_ | refine HL.one (H1.ldb rfl (by repeat (first | with_reducible exact mem_hd | with_reducible apply mem_tl)) rfl rfl ?_) | refine HC.cond rfl (fun hc => ?_) (fun hc => ?_) | refine HC.cond_b rfl (fun hc => ?_) (fun hc => ?_))
  refine HL.one (H1.stAgg (cs := [.slice none 0 0, .slice none 0 0, .slice none 0 0, .int .i64 0, .int .i64 0, .int .i64 0]) (vs := caseV ⟨holders, lost, to, (wd : Int), (kk : Int), (dl : Int)⟩ (ah, ch) (al, cl) (at_, ct)) rfl rfl rfl (by unfold caseV; intro v hv; simp only [List.mem_cons, List.not_mem_nil, or_false] at hv; rcases hv with rfl | rfl | rfl | rfl | rfl | rfl <;> rfl) (by repeat (first | exact Rpl.here | apply Rpl.there)) rfl ?_)
  repeat' (first | apply HL.fold | apply HA.fold | apply HL.nil | apply HX.n_then | apply HC.seq | apply HC.region | refine HL.pa ?_ | refine HL.ga rfl ?_ | refine HL.na rfl ?_ | refine HL.nu rfl rfl ?_ | apply HC.block | apply HC.skip | apply HC.exit | apply HC.ret | apply HX.e_block | refine HX.e_other rfl ?_ | apply HX.e_then | apply HX.e_again | apply HX.n_block | apply HX.r_then | apply HX.r_block | apply HX.r_again | refine HC.cond_yes rfl ?_ | refine HC.cond_no rfl ?_ | refine HL.one (H1.ldb rfl (by repeat (first | with_reducible exact mem_hd | with_reducible apply mem_tl)) rfl rfl ?_) | refine HC.cond rfl (fun hc => ?_) (fun hc => ?_) | refine HC.cond_b rfl (fun hc => ?_) (fun hc => ?_))
  have hgd : GoodD ⟨holders, lost, to, (wd : Int), (kk : Int), 30⟩ := ⟨⟨hr.cu, hr.pos, hr.n9, hr.w, hr.k, by dsimp only; omega, hr.asc⟩, hg.len, hg.cu, hg.off⟩
  simp only [caseV]
  repeat' (first | apply HL.fold | apply HA.fold | apply HL.nil | apply HX.n_then | apply HC.seq | apply HC.region | refine HL.pa ?_ | refine HL.ga rfl ?_ | refine HL.na rfl ?_ | refine HL.nu rfl rfl ?_ | apply HC.block | apply HC.skip | apply HC.exit | apply HC.ret | apply HX.e_block | refine HX.e_other rfl ?_ | apply HX.e_then | apply HX.e_again | apply HX.n_block | apply HX.r_then | apply HX.r_block | apply HX.r_again | refine HC.cond_yes rfl ?_ | refine HC.cond_no rfl ?_ | refine HL.one (H1.ldb rfl (by repeat (first | with_reducible exact mem_hd | with_reducible apply mem_tl)) rfl rfl ?_) | refine HC.cond rfl (fun hc => ?_) (fun hc => ?_) | refine HC.cond_b rfl (fun hc => ?_) (fun hc => ?_))
  refine HL.one (H1.st rfl rfl (by intro _ h; cases h) (by intro _ h; cases h) (by repeat (first | exact Rpl.here | apply Rpl.there)) (by show 5 < 6; decide) ?_)
  repeat' (first | apply HL.fold | apply HA.fold | apply HL.nil | apply HX.n_then | apply HC.seq | apply HC.region | refine HL.pa ?_ | refine HL.ga rfl ?_ | refine HL.na rfl ?_ | refine HL.nu rfl rfl ?_ | apply HC.block | apply HC.skip | apply HC.exit | apply HC.ret | apply HX.e_block | refine HX.e_other rfl ?_ | apply HX.e_then | apply HX.e_again | apply HX.n_block | apply HX.r_then | apply HX.r_block | apply HX.r_again | refine HC.cond_yes rfl ?_ | refine HC.cond_no rfl ?_ | refine HL.one (H1.ldb rfl (by repeat (first | with_reducible exact mem_hd | with_reducible apply mem_tl)) rfl rfl ?_) | refine HC.cond rfl (fun hc => ?_) (fun hc => ?_) | refine HC.cond_b rfl (fun hc => ?_) (fun hc => ?_))
  refine HL.one (H1.ldAgg (vs := [.slice ah holders.length ch, .slice al lost.length cl, .slice at_ to.length ct, .int .i64 (wd : Int), .int .i64 (kk : Int), .int .i64 30]) rfl (by repeat (first | exact mem_hd | apply mem_tl)) rfl (fun i v hv => by rw [show 0 + i = i from Nat.zero_add i]; exact hv) rfl ?_)
  repeat' (first | apply HL.fold | apply HA.fold | apply HL.nil | apply HX.n_then | apply HC.seq | apply HC.region | refine HL.pa ?_ | refine HL.ga rfl ?_ | refine HL.na rfl ?_ | refine HL.nu rfl rfl ?_ | apply HC.block | apply HC.skip | apply HC.exit | apply HC.ret | apply HX.e_block | refine HX.e_other rfl ?_ | apply HX.e_then | apply HX.e_again | apply HX.n_block | apply HX.r_then | apply HX.r_block | apply HX.r_again | refine HC.cond_yes rfl ?_ | refine HC.cond_no rfl ?_ | refine HL.one (H1.ldb rfl (by repeat (first | with_reducible exact mem_hd | with_reducible apply mem_tl)) rfl rfl ?_) | refine HC.cond rfl (fun hc => ?_) (fun hc => ?_) | refine HC.cond_b rfl (fun hc => ?_) (fun hc => ?_))
  refine HL.one (H1.callz1 (An := fun z : List (Option Addr × Nat) × Option Addr × Nat => A.ts z.2.1 z.2.2 (planR holders lost to (wd : Int) (kk : Int) 30) z.1) (vs := [.agg #[.slice ah holders.length ch, .slice al lost.length cl, .slice at_ to.length ct, .int .i64 (wd : Int), .int .i64 (kk : Int), .int .i64 30]]) rfl rfl (fun w' hM => planW_fn ⟨holders, lost, to, (wd : Int), (kk : Int), 30⟩ (ah, ch) (al, cl) (at_, ct) (by dsimp only; omega) (by dsimp only; omega) (by dsimp only; omega) w' (hM.gr (by repeat (first | exact mem_hd | apply mem_tl))) (hM.gr (by repeat (first | exact mem_hd | apply mem_tl))) (hM.gr (by repeat (first | exact mem_hd | apply mem_tl)))) ?_)
  rintro ⟨zs, aP, cP⟩ hz
  dsimp only at hz ⊢
  by_cases hB : planB holders lost to (wd : Int) (kk : Int) 30 = true
  rotate_left
  · rw [if_neg hB]
    repeat' (first | apply HL.fold | apply HA.fold | apply HL.nil | apply HX.n_then | apply HC.seq | apply HC.region | refine HL.pa ?_ | refine HL.ga rfl ?_ | refine HL.na rfl ?_ | refine HL.nu rfl rfl ?_ | apply HC.block | apply HC.skip | apply HC.exit | apply HC.ret | apply HX.e_block | refine HX.e_other rfl ?_ | apply HX.e_then | apply HX.e_again | apply HX.n_block | apply HX.r_then | apply HX.r_block | apply HX.r_again | refine HC.cond_yes rfl ?_ | refine HC.cond_no rfl ?_ | refine HL.one (H1.ldb rfl (by repeat (first | with_reducible exact mem_hd | with_reducible apply mem_tl)) rfl rfl ?_) | refine HC.cond rfl (fun hc => ?_) (fun hc => ?_) | refine HC.cond_b rfl (fun hc => ?_) (fun hc => ?_))
    exact HX.ret1 rfl rfl fun w' hM => ⟨rfl, hM.ext⟩
  have hZ0 : 0 ≤ lastD (planR holders lost to (wd : Int) (kk : Int) 30) := lastD_nonneg2 _
  have hrest := fun {d : Nat} (h : (d : Int) ≤ lastD (planR holders lost to (wd : Int) (kk : Int) 30)) => rest_plan hgd hB h
  obtain ⟨-, -, hP31, hlen31, -⟩ := hrest (d := 0) (by omega)
  have hZ30 : lastD (planR holders lost to (wd : Int) (kk : Int) 30) ≤ 30 := by
    rcases Int.lt_or_le 30 (lastD (planR holders lost to (wd : Int) (kk : Int) 30)) with h | h
    · have := (hrest (d := 31) (by omega)).2.2.2.2; omega
    · exact h
  have hback := fun {d q f : Nat} (hd : d ≤ 31) (hq : q < lost.length) (hf : at' lost q = (f : Int)) => back_day (surv := survS holders lost) (width := wd) (k := kk) (to := to) hr.asc htl hlen31 hd hq hf
  have hL9 : (planR holders lost to (wd : Int) (kk : Int) 30).length = lost.length := by rw [hP31]; exact hlen31
  have hcn := fun (d : Nat) => plan_len_le (surv := survS holders lost) (lost := lost) (to := to) (width := wd) (k := kk) d
  have hmono := fun {d d' : Nat} (h : d ≤ d') => plan_mono (surv := survS holders lost) (lost := lost) (to := to) (width := wd) (k := kk) h
  have hrg := fun (c : Nat) => rest_good hgd c
  rw [if_pos hB]
  rw [← hP31] at hback
  generalize hPl : planR holders lost to (wd : Int) (kk : Int) 30 = l at *
  repeat' (first | apply HL.fold | apply HA.fold | apply HL.nil | apply HX.n_then | apply HC.seq | apply HC.region | refine HL.pa ?_ | refine HL.ga rfl ?_ | refine HL.na rfl ?_ | refine HL.nu rfl rfl ?_ | apply HC.block | apply HC.skip | apply HC.exit | apply HC.ret | apply HX.e_block | refine HX.e_other rfl ?_ | apply HX.e_then | apply HX.e_again | apply HX.n_block | apply HX.r_then | apply HX.r_block | apply HX.r_again | refine HC.cond_yes rfl ?_ | refine HC.cond_no rfl ?_ | refine HL.one (H1.ldb rfl (by repeat (first | with_reducible exact mem_hd | with_reducible apply mem_tl)) rfl rfl ?_) | refine HC.cond rfl (fun hc => ?_) (fun hc => ?_) | refine HC.cond_b rfl (fun hc => ?_) (fun hc => ?_))
  refine HL.rebase fun w1 hM1 => ?_
  have hE1 := hM1.ext
  have q0 : w1.cell? ⟨b8, 0, none⟩ = some (.slice ah holders.length ch) := (hM1.blk (cs := [.slice ah holders.length ch, .slice al lost.length cl, .slice at_ to.length ct, .int .i64 (wd : Int), .int .i64 (kk : Int), .int .i64 30]) (by repeat (first | exact mem_hd | apply mem_tl))).cell rfl
  have q1 : w1.cell? ⟨b8, 1, none⟩ = some (.slice al lost.length cl) := (hM1.blk (cs := [.slice ah holders.length ch, .slice al lost.length cl, .slice at_ to.length ct, .int .i64 (wd : Int), .int .i64 (kk : Int), .int .i64 30]) (by repeat (first | exact mem_hd | apply mem_tl))).cell rfl
  have q2 : w1.cell? ⟨b8, 2, none⟩ = some (.slice at_ to.length ct) := (hM1.blk (cs := [.slice ah holders.length ch, .slice al lost.length cl, .slice at_ to.length ct, .int .i64 (wd : Int), .int .i64 (kk : Int), .int .i64 30]) (by repeat (first | exact mem_hd | apply mem_tl))).cell rfl
  have q3 : w1.cell? ⟨b8, 3, none⟩ = some (.int .i64 (wd : Int)) := (hM1.blk (cs := [.slice ah holders.length ch, .slice al lost.length cl, .slice at_ to.length ct, .int .i64 (wd : Int), .int .i64 (kk : Int), .int .i64 30]) (by repeat (first | exact mem_hd | apply mem_tl))).cell rfl
  have q4 : w1.cell? ⟨b8, 4, none⟩ = some (.int .i64 (kk : Int)) := (hM1.blk (cs := [.slice ah holders.length ch, .slice al lost.length cl, .slice at_ to.length ct, .int .i64 (wd : Int), .int .i64 (kk : Int), .int .i64 30]) (by repeat (first | exact mem_hd | apply mem_tl))).cell rfl
  have hRh : Rd w1 (.slice ah holders.length ch) (ints holders) := hM1.gr (by repeat (first | exact mem_hd | apply mem_tl))
  have hRl : Rd w1 (.slice al lost.length cl) (ints lost) := hM1.gr (by repeat (first | exact mem_hd | apply mem_tl))
  have hRt : Rd w1 (.slice at_ to.length ct) (ints to) := hM1.gr (by repeat (first | exact mem_hd | apply mem_tl))
  have hT1 : RdT w1 (.slice aP l.length cP) l := hM1.ts (by repeat (first | exact mem_hd | apply mem_tl)) hz
  clear hM1
  repeat' (first | apply HL.fold | apply HA.fold | apply HL.nil | apply HX.n_then | apply HC.seq | apply HC.region | refine HL.pa ?_ | refine HL.ga rfl ?_ | refine HL.na rfl ?_ | refine HL.nu rfl rfl ?_ | apply HC.block | apply HC.skip | apply HC.exit | apply HC.ret | apply HX.e_block | refine HX.e_other rfl ?_ | apply HX.e_then | apply HX.e_again | apply HX.n_block | apply HX.r_then | apply HX.r_block | apply HX.r_again | refine HC.cond_yes rfl ?_ | refine HC.cond_no rfl ?_ | refine HL.one (H1.ldb rfl (by repeat (first | with_reducible exact mem_hd | with_reducible apply mem_tl)) rfl rfl ?_) | refine HC.cond rfl (fun hc => ?_) (fun hc => ?_) | refine HC.cond_b rfl (fun hc => ?_) (fun hc => ?_))
  refine HL.one (H1.callx (vs := [.slice aP l.length cP]) rfl rfl (fun w' hM => last_fn _ l (by omega) w' (hT1.ext hM.ext)) ?_)
  repeat' (first | apply HL.fold | apply HA.fold | apply HL.nil | apply HX.n_then | apply HC.seq | apply HC.region | refine HL.pa ?_ | refine HL.ga rfl ?_ | refine HL.na rfl ?_ | refine HL.nu rfl rfl ?_ | apply HC.block | apply HC.skip | apply HC.exit | apply HC.ret | apply HX.e_block | refine HX.e_other rfl ?_ | apply HX.e_then | apply HX.e_again | apply HX.n_block | apply HX.r_then | apply HX.r_block | apply HX.r_again | refine HC.cond_yes rfl ?_ | refine HC.cond_no rfl ?_ | refine HL.one (H1.ldb rfl (by repeat (first | with_reducible exact mem_hd | with_reducible apply mem_tl)) rfl rfl ?_) | refine HC.cond rfl (fun hc => ?_) (fun hc => ?_) | refine HC.cond_b rfl (fun hc => ?_) (fun hc => ?_))
  refine HL.one (H1.call0 rfl rfl (fun w _ => pick_fn day (lastD l + 1) hdb.1 hdb.2 (by omega) w) ?_)
  obtain ⟨d, hde, hdl⟩ : ∃ d : Nat, pickI day (lastD l + 1) = (d : Int) ∧ (d : Int) ≤ lastD l := by
    have := pickI_lt day (n := lastD l + 1) (by omega)
    exact ⟨(pickI day (lastD l + 1)).toNat, by omega, by omega⟩
  rw [hde]
  have hd30 : d ≤ 30 := by omega
  obtain ⟨hB2, hll, -, -, -⟩ := hrest hdl
  have hrg2 := hrg (planAt (survS holders lost) lost to wd kk d).length
  have hnow := fun {q f : Nat} (hq : q < lost.length) (hf : at' lost q = (f : Int)) => hback (d := d) (by omega) hq hf
  have hnxt := fun {q f : Nat} (hq : q < lost.length) (hf : at' lost q = (f : Int)) => hback (d := d + 1) (by omega) hq hf
  have hcL := hcn d
  have hcc := hmono (show d ≤ d + 1 by omega)
  generalize (planAt (survS holders lost) lost to wd kk (d + 1)).length = c1 at *
  generalize (planAt (survS holders lost) lost to wd kk d).length = c0 at *
  have hal : (afterS holders lost l (d : Int)).length = holders.length := by simp [afterS]
  have hal1 : (afterS holders lost l ((d : Int) + 1)).length = holders.length := by simp [afterS]
  repeat' (first | apply HL.fold | apply HA.fold | apply HL.nil | apply HX.n_then | apply HC.seq | apply HC.region | refine HL.pa ?_ | refine HL.ga rfl ?_ | refine HL.na rfl ?_ | refine HL.nu rfl rfl ?_ | apply HC.block | apply HC.skip | apply HC.exit | apply HC.ret | apply HX.e_block | refine HX.e_other rfl ?_ | apply HX.e_then | apply HX.e_again | apply HX.n_block | apply HX.r_then | apply HX.r_block | apply HX.r_again | refine HC.cond_yes rfl ?_ | refine HC.cond_no rfl ?_ | refine HL.one (H1.ldb rfl (by repeat (first | with_reducible exact mem_hd | with_reducible apply mem_tl)) rfl rfl ?_) | refine HC.cond rfl (fun hc => ?_) (fun hc => ?_) | refine HC.cond_b rfl (fun hc => ?_) (fun hc => ?_))
  refine HL.one (H1.ld0 rfl q0 rfl ?_)
  repeat' (first | apply HL.fold | apply HA.fold | apply HL.nil | apply HX.n_then | apply HC.seq | apply HC.region | refine HL.pa ?_ | refine HL.ga rfl ?_ | refine HL.na rfl ?_ | refine HL.nu rfl rfl ?_ | apply HC.block | apply HC.skip | apply HC.exit | apply HC.ret | apply HX.e_block | refine HX.e_other rfl ?_ | apply HX.e_then | apply HX.e_again | apply HX.n_block | apply HX.r_then | apply HX.r_block | apply HX.r_again | refine HC.cond_yes rfl ?_ | refine HC.cond_no rfl ?_ | refine HL.one (H1.ldb rfl (by repeat (first | with_reducible exact mem_hd | with_reducible apply mem_tl)) rfl rfl ?_) | refine HC.cond rfl (fun hc => ?_) (fun hc => ?_) | refine HC.cond_b rfl (fun hc => ?_) (fun hc => ?_))
  refine HL.one (H1.ld0 rfl q1 rfl ?_)
  repeat' (first | apply HL.fold | apply HA.fold | apply HL.nil | apply HX.n_then | apply HC.seq | apply HC.region | refine HL.pa ?_ | refine HL.ga rfl ?_ | refine HL.na rfl ?_ | refine HL.nu rfl rfl ?_ | apply HC.block | apply HC.skip | apply HC.exit | apply HC.ret | apply HX.e_block | refine HX.e_other rfl ?_ | apply HX.e_then | apply HX.e_again | apply HX.n_block | apply HX.r_then | apply HX.r_block | apply HX.r_again | refine HC.cond_yes rfl ?_ | refine HC.cond_no rfl ?_ | refine HL.one (H1.ldb rfl (by repeat (first | with_reducible exact mem_hd | with_reducible apply mem_tl)) rfl rfl ?_) | refine HC.cond rfl (fun hc => ?_) (fun hc => ?_) | refine HC.cond_b rfl (fun hc => ?_) (fun hc => ?_))
  refine HL.one (H1.callz1 (An := fun z : Option Addr × Nat => A.grow 3 1 z.1 z.2 holders.length (ints (afterS holders lost l (d : Int)))) (vs := [.slice ah holders.length ch, .slice al lost.length cl, .slice aP l.length cP, .int .i64 (d : Int)]) rfl rfl (fun w' hM => by
    have := after_fn (.slice ah holders.length ch) (.slice al lost.length cl) (.slice aP l.length cP) holders lost l (d : Int) (by omega) (by omega) (by omega) w' (hM.rd0 hRh) (hM.rd0 hRl) (hT1.ext hM.ext)
    rw [hal] at this
    exact this) ?_)
  rintro ⟨aN, cN⟩ -
  dsimp only
  repeat' (first | apply HL.fold | apply HA.fold | apply HL.nil | apply HX.n_then | apply HC.seq | apply HC.region | refine HL.pa ?_ | refine HL.ga rfl ?_ | refine HL.na rfl ?_ | refine HL.nu rfl rfl ?_ | apply HC.block | apply HC.skip | apply HC.exit | apply HC.ret | apply HX.e_block | refine HX.e_other rfl ?_ | apply HX.e_then | apply HX.e_again | apply HX.n_block | apply HX.r_then | apply HX.r_block | apply HX.r_again | refine HC.cond_yes rfl ?_ | refine HC.cond_no rfl ?_ | refine HL.one (H1.ldb rfl (by repeat (first | with_reducible exact mem_hd | with_reducible apply mem_tl)) rfl rfl ?_) | refine HC.cond rfl (fun hc => ?_) (fun hc => ?_) | refine HC.cond_b rfl (fun hc => ?_) (fun hc => ?_))
  refine HL.one (H1.ld0 rfl q0 rfl ?_)
  repeat' (first | apply HL.fold | apply HA.fold | apply HL.nil | apply HX.n_then | apply HC.seq | apply HC.region | refine HL.pa ?_ | refine HL.ga rfl ?_ | refine HL.na rfl ?_ | refine HL.nu rfl rfl ?_ | apply HC.block | apply HC.skip | apply HC.exit | apply HC.ret | apply HX.e_block | refine HX.e_other rfl ?_ | apply HX.e_then | apply HX.e_again | apply HX.n_block | apply HX.r_then | apply HX.r_block | apply HX.r_again | refine HC.cond_yes rfl ?_ | refine HC.cond_no rfl ?_ | refine HL.one (H1.ldb rfl (by repeat (first | with_reducible exact mem_hd | with_reducible apply mem_tl)) rfl rfl ?_) | refine HC.cond rfl (fun hc => ?_) (fun hc => ?_) | refine HC.cond_b rfl (fun hc => ?_) (fun hc => ?_))
  refine HL.one (H1.ld0 rfl q1 rfl ?_)
  repeat' (first | apply HL.fold | apply HA.fold | apply HL.nil | apply HX.n_then | apply HC.seq | apply HC.region | refine HL.pa ?_ | refine HL.ga rfl ?_ | refine HL.na rfl ?_ | refine HL.nu rfl rfl ?_ | apply HC.block | apply HC.skip | apply HC.exit | apply HC.ret | apply HX.e_block | refine HX.e_other rfl ?_ | apply HX.e_then | apply HX.e_again | apply HX.n_block | apply HX.r_then | apply HX.r_block | apply HX.r_again | refine HC.cond_yes rfl ?_ | refine HC.cond_no rfl ?_ | refine HL.one (H1.ldb rfl (by repeat (first | with_reducible exact mem_hd | with_reducible apply mem_tl)) rfl rfl ?_) | refine HC.cond rfl (fun hc => ?_) (fun hc => ?_) | refine HC.cond_b rfl (fun hc => ?_) (fun hc => ?_))
  refine HL.one (H1.callz1 (An := fun z : Option Addr × Nat => A.grow 3 1 z.1 z.2 holders.length (ints (afterS holders lost l ((d : Int) + 1)))) (vs := [.slice ah holders.length ch, .slice al lost.length cl, .slice aP l.length cP, .int .i64 ((d : Int) + 1)]) rfl rfl (fun w' hM => by
    have := after_fn (.slice ah holders.length ch) (.slice al lost.length cl) (.slice aP l.length cP) holders lost l ((d : Int) + 1) (by omega) (by omega) (by omega) w' (hM.rd0 hRh) (hM.rd0 hRl) (hT1.ext hM.ext)
    rw [hal1] at this
    exact this) ?_)
  rintro ⟨aX, cX⟩ -
  dsimp only
  have hn1 : ∀ f : Nat, f < holders.length → (f : Int) ∉ lost → at' (afterS holders lost l (d : Int)) f = at' holders f ∧ at' (afterS holders lost l ((d : Int) + 1)) f = at' holders f := fun f hf h => by
    rw [after_at hf, after_at hf]; unfold afterI; rw [if_neg h, if_neg h]; exact ⟨rfl, rfl⟩
  have hn2 : ∀ f q : Nat, f < holders.length → q < lost.length → at' lost q = (f : Int) → at' (afterS holders lost l (d : Int)) f = (if q < c0 then at' to q else -1) ∧ at' (afterS holders lost l ((d : Int) + 1)) f = (if q < c1 then at' to q else -1) := fun f q hf hq he => by
    have hin : (f : Int) ∈ lost := he ▸ at_mem hq
    rw [after_at hf, after_at hf]; unfold afterI; rw [if_pos hin, if_pos hin, hnow hq he]
    have := hnxt hq he
    push_cast at this
    rw [this]; exact ⟨rfl, rfl⟩
  have hfL : ∀ f : Nat, f < holders.length → (f : Int) ∉ lost → finI holders lost to f = at' holders f := fun f _ h => fin_held h
  have hfM : ∀ f q : Nat, q < lost.length → at' lost q = (f : Int) → finI holders lost to f = at' to q := fun f q hq he => fin_lost hr.asc hq he
  have hto0 : ∀ q : Nat, q < lost.length → 0 ≤ at' to q := fun q hq => (hg.cu.2 _ (at_mem (show q < to.length by omega))).1
  have hho0 : ∀ f : Nat, f < holders.length → 0 ≤ at' holders f := fun f hf => (hr.cu.2 _ (at_mem hf)).1
  have hfinL := fin_len holders lost to
  generalize afterS holders lost l (d : Int) = now at *
  generalize afterS holders lost l ((d : Int) + 1) = nxt at *
  repeat' (first | apply HL.fold | apply HA.fold | apply HL.nil | apply HX.n_then | apply HC.seq | apply HC.region | refine HL.pa ?_ | refine HL.ga rfl ?_ | refine HL.na rfl ?_ | refine HL.nu rfl rfl ?_ | apply HC.block | apply HC.skip | apply HC.exit | apply HC.ret | apply HX.e_block | refine HX.e_other rfl ?_ | apply HX.e_then | apply HX.e_again | apply HX.n_block | apply HX.r_then | apply HX.r_block | apply HX.r_again | refine HC.cond_yes rfl ?_ | refine HC.cond_no rfl ?_ | refine HL.one (H1.ldb rfl (by repeat (first | with_reducible exact mem_hd | with_reducible apply mem_tl)) rfl rfl ?_) | refine HC.cond rfl (fun hc => ?_) (fun hc => ?_) | refine HC.cond_b rfl (fun hc => ?_) (fun hc => ?_))
  refine HL.one (H1.ld0 rfl q0 rfl ?_)
  repeat' (first | apply HL.fold | apply HA.fold | apply HL.nil | apply HX.n_then | apply HC.seq | apply HC.region | refine HL.pa ?_ | refine HL.ga rfl ?_ | refine HL.na rfl ?_ | refine HL.nu rfl rfl ?_ | apply HC.block | apply HC.skip | apply HC.exit | apply HC.ret | apply HX.e_block | refine HX.e_other rfl ?_ | apply HX.e_then | apply HX.e_again | apply HX.n_block | apply HX.r_then | apply HX.r_block | apply HX.r_again | refine HC.cond_yes rfl ?_ | refine HC.cond_no rfl ?_ | refine HL.one (H1.ldb rfl (by repeat (first | with_reducible exact mem_hd | with_reducible apply mem_tl)) rfl rfl ?_) | refine HC.cond rfl (fun hc => ?_) (fun hc => ?_) | refine HC.cond_b rfl (fun hc => ?_) (fun hc => ?_))
  refine HC.openg (e := 3) (a := aN) (xs := ints now) (by repeat (first | exact mem_hd | apply mem_tl)) (by omega) ?_
  rintro bN rfl
  refine HC.openg (e := 3) (a := aX) (xs := ints nxt) (by repeat (first | exact mem_hd | apply mem_tl)) (by omega) ?_
  rintro bX rfl
  refine HC.cut (α := Nat × Nat × Nat) (fun z => [(7, .bool true), (8, .pointer (some ⟨b8, 0, none⟩)), (9, .slice aP l.length cP), (11, .int .i64 (d : Int)), (12, .slice (some ⟨bN, 0, none⟩) holders.length cN), (13, .slice (some ⟨bX, 0, none⟩) holders.length cX), (14, .pointer (some ⟨z.1, 0, none⟩))])
    (fun z => [A.grow 3 1 (some ⟨z.2.1, 0, none⟩) z.2.2 holders.length (ints now), A.blk z.1 [.slice (some ⟨z.2.1, 0, none⟩) holders.length z.2.2, .slice none 0 0, .slice none 0 0, .int .i64 (wd : Int), .int .i64 (kk : Int), .int .i64 30] 28, A.grow 3 1 (some ⟨bN, 0, none⟩) cN holders.length (ints now), A.grow 3 1 (some ⟨bX, 0, none⟩) cX holders.length (ints nxt)]) (fun _ => True) ?_ ?_
  · have hnl : (ints now).length = holders.length := by rw [ints_len, hal]
    refine HC.anyC ([(⟨b8, 3, none⟩, .int .i64 (wd : Int)), (⟨b8, 4, none⟩, .int .i64 (kk : Int))]) rfl ?_
    refine HB.pa 1 rfl ?_
    refine HB.pa 3 rfl ?_
    refine HB.ld 4 rfl rfl (by repeat (first | exact List.Mem.head _ | apply List.Mem.tail)) ?_
    refine HB.pa 5 rfl ?_
    refine HB.ld 6 rfl rfl (by repeat (first | exact List.Mem.head _ | apply List.Mem.tail)) ?_
    refine HB.all (by repeat (first | exact Keep.nil | refine Keep.blk (by (repeat (first | exact List.Mem.head _ | apply List.Mem.tail)); done) rfl ?_ | refine Keep.grow (by (repeat (first | exact List.Mem.head _ | apply List.Mem.tail)); done) (by assumption) ?_ | refine Keep.base (by assumption) ?_)) [0, 8] (by kernel_rfl) rfl ⟨⟨_, rfl, ?_⟩, ⟨_, rfl, ?_⟩, trivial⟩
    · refine HP.one ?_
      refine H1.lit0 rfl (fun bz => ?_)
      apply HB.fold
      refine HB.all (by repeat (first | exact Keep.nil | refine Keep.blk (by (repeat (first | exact List.Mem.head _ | apply List.Mem.tail)); done) rfl ?_ | refine Keep.grow (by (repeat (first | exact List.Mem.head _ | apply List.Mem.tail)); done) (by assumption) ?_ | refine Keep.base (by assumption) ?_)) [2, 8] (by kernel_rfl) rfl ⟨⟨_, rfl, ?_⟩, ⟨_, rfl, ?_⟩, trivial⟩
      · refine HP.one ?_
        refine H1.app (e := 3) (sz := 1) (m := holders.length) (news := ints now) rfl (by decide) rfl rfl (fun _ _ => by repeat (first | exact Rpl.here | apply Rpl.there)) (by rw [hnl, Nat.mul_one]) (fun w hM j u hu => by rw [add_lit, Nat.zero_add]; exact ownsRow_cell (hM.own (e := 3) (a := some ⟨bN, 0, none⟩) (xs := ints now) (by repeat (first | exact mem_hd | apply mem_tl))) hu) (ints_one _) (by omega) (by decide) rfl (fun a2 c2 ha2 => ?_)
        rw [Nat.zero_add, List.nil_append]
        rw [Nat.zero_add] at ha2
        obtain ⟨bH, rfl⟩ := ha2.resolve_left (by omega)
        apply HB.fold
        refine HB.pa (v := .agg #[.slice (some ⟨bH, 0, none⟩) holders.length c2, .slice none 0 0, .slice none 0 0, .int .i64 (wd : Int), .int .i64 (kk : Int), .int .i64 30]) 7 rfl ?_ (POp.build (cs := [.slice (some ⟨bH, 0, none⟩) holders.length c2, .slice none 0 0, .slice none 0 0, .int .i64 (wd : Int), .int .i64 (kk : Int), .int .i64 30]) rfl rfl)
        refine HB.all (by repeat (first | exact Keep.nil | refine Keep.blk (by (repeat (first | exact List.Mem.head _ | apply List.Mem.tail)); done) rfl ?_ | refine Keep.grow (by (repeat (first | exact List.Mem.head _ | apply List.Mem.tail)); done) (by assumption) ?_ | refine Keep.base (by assumption) ?_)) [8] (by kernel_rfl) rfl ⟨⟨_, rfl, ?_⟩, trivial⟩
        refine HP.one ?_
        refine H1.alloc (cs := [.slice none 0 0, .slice none 0 0, .slice none 0 0, .int .i64 0, .int .i64 0, .int .i64 0]) rfl rfl (fun b14 => ?_)
        apply HB.fold
        refine HB.all (by repeat (first | exact Keep.nil | refine Keep.blk (by (repeat (first | exact List.Mem.head _ | apply List.Mem.tail)); done) rfl ?_ | refine Keep.grow (by (repeat (first | exact List.Mem.head _ | apply List.Mem.tail)); done) (by assumption) ?_ | refine Keep.base (by assumption) ?_)) [9] (by kernel_rfl) rfl ⟨⟨_, rfl, ?_⟩, trivial⟩
        refine HP.one ?_
        refine H1.stAgg (cs := [.slice none 0 0, .slice none 0 0, .slice none 0 0, .int .i64 0, .int .i64 0, .int .i64 0]) (vs := [.slice (some ⟨bH, 0, none⟩) holders.length c2, .slice none 0 0, .slice none 0 0, .int .i64 (wd : Int), .int .i64 (kk : Int), .int .i64 30]) rfl rfl rfl (by intro v hv; simp only [List.mem_cons, List.not_mem_nil, or_false] at hv; rcases hv with rfl | rfl | rfl | rfl | rfl | rfl <;> rfl) (by repeat (first | exact Rpl.here | apply Rpl.there)) rfl ?_
        apply HB.fold
        refine HB.done (by repeat (first | exact Keep.nil | refine Keep.blk (by (repeat (first | exact List.Mem.head _ | apply List.Mem.tail)); done) rfl ?_ | refine Keep.grow (by (repeat (first | exact List.Mem.head _ | apply List.Mem.tail)); done) (by assumption) ?_ | refine Keep.base (by assumption) ?_)) (by kernel_rfl) ?_
        exact HX.cut (b14, bH, c2) trivial (by repeat (first | exact trivial | refine ⟨rfl, ?_⟩)) (by repeat (first | exact Hs.nil _ | (refine Hs.cons (by repeat (first | exact Pick.here | apply Pick.there)) ?_)))
      · refine HP.one ?_
        refine H1.alloc (cs := [.slice none 0 0, .slice none 0 0, .slice none 0 0, .int .i64 0, .int .i64 0, .int .i64 0]) rfl rfl (fun b14 => ?_)
        apply HB.fold
        refine HB.all (by repeat (first | exact Keep.nil | refine Keep.blk (by (repeat (first | exact List.Mem.head _ | apply List.Mem.tail)); done) rfl ?_ | refine Keep.grow (by (repeat (first | exact List.Mem.head _ | apply List.Mem.tail)); done) (by assumption) ?_ | refine Keep.base (by assumption) ?_)) [2] (by kernel_rfl) rfl ⟨⟨_, rfl, ?_⟩, trivial⟩
        refine HP.one ?_
        refine H1.app (e := 3) (sz := 1) (m := holders.length) (news := ints now) rfl (by decide) rfl rfl (fun _ _ => by repeat (first | exact Rpl.here | apply Rpl.there)) (by rw [hnl, Nat.mul_one]) (fun w hM j u hu => by rw [add_lit, Nat.zero_add]; exact ownsRow_cell (hM.own (e := 3) (a := some ⟨bN, 0, none⟩) (xs := ints now) (by repeat (first | exact mem_hd | apply mem_tl))) hu) (ints_one _) (by omega) (by decide) rfl (fun a2 c2 ha2 => ?_)
        rw [Nat.zero_add, List.nil_append]
        rw [Nat.zero_add] at ha2
        obtain ⟨bH, rfl⟩ := ha2.resolve_left (by omega)
        apply HB.fold
        refine HB.pa (v := .agg #[.slice (some ⟨bH, 0, none⟩) holders.length c2, .slice none 0 0, .slice none 0 0, .int .i64 (wd : Int), .int .i64 (kk : Int), .int .i64 30]) 7 rfl ?_ (POp.build (cs := [.slice (some ⟨bH, 0, none⟩) holders.length c2, .slice none 0 0, .slice none 0 0, .int .i64 (wd : Int), .int .i64 (kk : Int), .int .i64 30]) rfl rfl)
        refine HB.all (by repeat (first | exact Keep.nil | refine Keep.blk (by (repeat (first | exact List.Mem.head _ | apply List.Mem.tail)); done) rfl ?_ | refine Keep.grow (by (repeat (first | exact List.Mem.head _ | apply List.Mem.tail)); done) (by assumption) ?_ | refine Keep.base (by assumption) ?_)) [9] (by kernel_rfl) rfl ⟨⟨_, rfl, ?_⟩, trivial⟩
        refine HP.one ?_
        refine H1.stAgg (cs := [.slice none 0 0, .slice none 0 0, .slice none 0 0, .int .i64 0, .int .i64 0, .int .i64 0]) (vs := [.slice (some ⟨bH, 0, none⟩) holders.length c2, .slice none 0 0, .slice none 0 0, .int .i64 (wd : Int), .int .i64 (kk : Int), .int .i64 30]) rfl rfl rfl (by intro v hv; simp only [List.mem_cons, List.not_mem_nil, or_false] at hv; rcases hv with rfl | rfl | rfl | rfl | rfl | rfl <;> rfl) (by repeat (first | exact Rpl.here | apply Rpl.there)) rfl ?_
        apply HB.fold
        refine HB.done (by repeat (first | exact Keep.nil | refine Keep.blk (by (repeat (first | exact List.Mem.head _ | apply List.Mem.tail)); done) rfl ?_ | refine Keep.grow (by (repeat (first | exact List.Mem.head _ | apply List.Mem.tail)); done) (by assumption) ?_ | refine Keep.base (by assumption) ?_)) (by kernel_rfl) ?_
        exact HX.cut (b14, bH, c2) trivial (by repeat (first | exact trivial | refine ⟨rfl, ?_⟩)) (by repeat (first | exact Hs.nil _ | (refine Hs.cons (by repeat (first | exact Pick.here | apply Pick.there)) ?_)))
    · refine HP.one ?_
      refine H1.alloc (cs := [.slice none 0 0, .slice none 0 0, .slice none 0 0, .int .i64 0, .int .i64 0, .int .i64 0]) rfl rfl (fun b14 => ?_)
      apply HB.fold
      refine HB.all (by repeat (first | exact Keep.nil | refine Keep.blk (by (repeat (first | exact List.Mem.head _ | apply List.Mem.tail)); done) rfl ?_ | refine Keep.grow (by (repeat (first | exact List.Mem.head _ | apply List.Mem.tail)); done) (by assumption) ?_ | refine Keep.base (by assumption) ?_)) [0] (by kernel_rfl) rfl ⟨⟨_, rfl, ?_⟩, trivial⟩
      refine HP.one ?_
      refine H1.lit0 rfl (fun bz => ?_)
      apply HB.fold
      refine HB.all (by repeat (first | exact Keep.nil | refine Keep.blk (by (repeat (first | exact List.Mem.head _ | apply List.Mem.tail)); done) rfl ?_ | refine Keep.grow (by (repeat (first | exact List.Mem.head _ | apply List.Mem.tail)); done) (by assumption) ?_ | refine Keep.base (by assumption) ?_)) [2] (by kernel_rfl) rfl ⟨⟨_, rfl, ?_⟩, trivial⟩
      refine HP.one ?_
      refine H1.app (e := 3) (sz := 1) (m := holders.length) (news := ints now) rfl (by decide) rfl rfl (fun _ _ => by repeat (first | exact Rpl.here | apply Rpl.there)) (by rw [hnl, Nat.mul_one]) (fun w hM j u hu => by rw [add_lit, Nat.zero_add]; exact ownsRow_cell (hM.own (e := 3) (a := some ⟨bN, 0, none⟩) (xs := ints now) (by repeat (first | exact mem_hd | apply mem_tl))) hu) (ints_one _) (by omega) (by decide) rfl (fun a2 c2 ha2 => ?_)
      rw [Nat.zero_add, List.nil_append]
      rw [Nat.zero_add] at ha2
      obtain ⟨bH, rfl⟩ := ha2.resolve_left (by omega)
      apply HB.fold
      refine HB.pa (v := .agg #[.slice (some ⟨bH, 0, none⟩) holders.length c2, .slice none 0 0, .slice none 0 0, .int .i64 (wd : Int), .int .i64 (kk : Int), .int .i64 30]) 7 rfl ?_ (POp.build (cs := [.slice (some ⟨bH, 0, none⟩) holders.length c2, .slice none 0 0, .slice none 0 0, .int .i64 (wd : Int), .int .i64 (kk : Int), .int .i64 30]) rfl rfl)
      refine HB.all (by repeat (first | exact Keep.nil | refine Keep.blk (by (repeat (first | exact List.Mem.head _ | apply List.Mem.tail)); done) rfl ?_ | refine Keep.grow (by (repeat (first | exact List.Mem.head _ | apply List.Mem.tail)); done) (by assumption) ?_ | refine Keep.base (by assumption) ?_)) [9] (by kernel_rfl) rfl ⟨⟨_, rfl, ?_⟩, trivial⟩
      refine HP.one ?_
      refine H1.stAgg (cs := [.slice none 0 0, .slice none 0 0, .slice none 0 0, .int .i64 0, .int .i64 0, .int .i64 0]) (vs := [.slice (some ⟨bH, 0, none⟩) holders.length c2, .slice none 0 0, .slice none 0 0, .int .i64 (wd : Int), .int .i64 (kk : Int), .int .i64 30]) rfl rfl rfl (by intro v hv; simp only [List.mem_cons, List.not_mem_nil, or_false] at hv; rcases hv with rfl | rfl | rfl | rfl | rfl | rfl <;> rfl) (by repeat (first | exact Rpl.here | apply Rpl.there)) rfl ?_
      apply HB.fold
      refine HB.done (by repeat (first | exact Keep.nil | refine Keep.blk (by (repeat (first | exact List.Mem.head _ | apply List.Mem.tail)); done) rfl ?_ | refine Keep.grow (by (repeat (first | exact List.Mem.head _ | apply List.Mem.tail)); done) (by assumption) ?_ | refine Keep.base (by assumption) ?_)) (by kernel_rfl) ?_
      exact HX.cut (b14, bH, c2) trivial (by repeat (first | exact trivial | refine ⟨rfl, ?_⟩)) (by repeat (first | exact Hs.nil _ | (refine Hs.cons (by repeat (first | exact Pick.here | apply Pick.there)) ?_)))
  rintro ⟨b14, bH, cH⟩ -
  dsimp only
  repeat' (first | apply HL.fold | apply HA.fold | apply HL.nil | apply HX.n_then | apply HC.seq | apply HC.region | refine HL.pa ?_ | refine HL.ga rfl ?_ | refine HL.na rfl ?_ | refine HL.nu rfl rfl ?_ | apply HC.block | apply HC.skip | apply HC.exit | apply HC.ret | apply HX.e_block | refine HX.e_other rfl ?_ | apply HX.e_then | apply HX.e_again | apply HX.n_block | apply HX.r_then | apply HX.r_block | apply HX.r_again | refine HC.cond_yes rfl ?_ | refine HC.cond_no rfl ?_ | refine HL.one (H1.ldb rfl (by repeat (first | with_reducible exact mem_hd | with_reducible apply mem_tl)) rfl rfl ?_) | refine HC.cond rfl (fun hc => ?_) (fun hc => ?_) | refine HC.cond_b rfl (fun hc => ?_) (fun hc => ?_))
  refine HC.grow0 3 1 ?_
  refine HC.grow0 3 1 ?_
  refine HC.loop (α := Nat × Nat × (Option Addr × Nat) × (Option Addr × Nat)) (fun z => [(7, .bool true), (8, .pointer (some ⟨b8, 0, none⟩)), (9, .slice aP l.length cP), (11, .int .i64 (d : Int)), (12, .slice (some ⟨bN, 0, none⟩) holders.length cN), (13, .slice (some ⟨bX, 0, none⟩) holders.length cX), (14, .pointer (some ⟨b14, 0, none⟩)), (15, .int .i64 (z.2.1 : Int)), (16, .int .i64 (z.1 : Int))])
    (fun z => [A.grow 3 1 (some ⟨bH, 0, none⟩) cH holders.length (row holders.length fun i => zv (if i < z.1 then finI holders lost to i else at' now i)), A.grow 3 1 z.2.2.1.1 z.2.2.1.2 ((lost.take z.2.1).drop c0).length (ints ((lost.take z.2.1).drop c0)), A.grow 3 1 z.2.2.2.1 z.2.2.2.2 ((to.take z.2.1).drop c0).length (ints ((to.take z.2.1).drop c0)),
      A.blk b14 [.slice (some ⟨bH, 0, none⟩) holders.length cH, .slice z.2.2.1.1 ((lost.take z.2.1).drop c0).length z.2.2.1.2, .slice z.2.2.2.1 ((to.take z.2.1).drop c0).length z.2.2.2.2, .int .i64 (wd : Int), .int .i64 (kk : Int), .int .i64 30] 28, A.grow 3 1 (some ⟨bN, 0, none⟩) cN holders.length (ints now), A.grow 3 1 (some ⟨bX, 0, none⟩) cX holders.length (ints nxt)])
    (fun z => z.1 ≤ holders.length ∧ z.2.1 ≤ lost.length ∧ (∀ p, p < z.2.1 → at' lost p < (z.1 : Int)) ∧ (z.2.1 < lost.length → (z.1 : Int) ≤ at' lost z.2.1)) (fun z => holders.length - z.1) (0, 0, (none, 0), (none, 0)) ⟨Nat.zero_le _, Nat.zero_le _, (fun p hp => absurd hp (Nat.not_lt_zero p)), (fun h => (hr.asc 0 h).1.1)⟩ (by repeat (first | exact trivial | refine ⟨rfl, ?_⟩)) ?_ ?_
  · dsimp only
    rw [show (row holders.length fun i => zv (if i < 0 then finI holders lost to i else at' now i)) = ints now from by
      conv => rhs; rw [← range_at now, hal, ints_row]
      apply row_congr; intro i _; rw [if_neg (Nat.not_lt_zero i)]]
    simp only [List.take_zero, List.drop_nil]
    repeat (first | exact Hs.nil _ | (refine Hs.cons (by repeat (first | exact Pick.here | apply Pick.there)) ?_))
  rintro ⟨f, q, ⟨aL, cL⟩, ⟨aT, cT⟩⟩ ⟨hf, hq, hq1, hq2⟩
  dsimp only at hf hq hq1 hq2 ⊢
  have hrowN : ∀ g : Nat → Int, f < holders.length → g f = at' now f → (∀ i, g i = finI holders lost to i) → (row holders.length fun i => zv (if i < f then finI holders lost to i else at' now i)) = (row holders.length fun i => zv (if i < (f + 1) then finI holders lost to i else at' now i)) := fun g hlt hg1 hg2 => by
    apply row_congr
    intro i _
    by_cases e : i = f
    · subst e; rw [if_neg (Nat.lt_irrefl _), if_pos (by omega), ← hg2, hg1]
    · by_cases h : i < f
      · rw [if_pos h, if_pos (by omega)]
      · rw [if_neg h, if_neg (by omega)]
  by_cases hlt : f < holders.length
  · have hNf := ints_get (show f < now.length by omega)
    have hXf := ints_get (show f < nxt.length by omega)
    by_cases h1 : q < lost.length ∧ at' lost q = (f : Int)
    · obtain ⟨h1, h2⟩ := h1
      obtain ⟨e1, e2⟩ := hn2 f q hlt h1 h2
      have hto := hto0 q h1
      have hq3 : ∀ p, p < q + 1 → at' lost p < ((f + 1 : Nat) : Int) := fun p hp => by
        by_cases e : p = q
        · subst e; omega
        · have := hq1 p (by omega); omega
      have hq4 : q + 1 < lost.length → ((f + 1 : Nat) : Int) ≤ at' lost (q + 1) := fun h => by
        have := asc_lt hr.asc (show q < q + 1 by omega) h
        omega
      obtain ⟨bl, ol, rfl, -⟩ := hRl.iat (by intro e; rw [e] at h1; simp at h1)
      obtain ⟨bt, ot, rfl, -⟩ := hRt.iat (by intro e; rw [e] at htl; simp at htl; omega)
      have hcl := hRl.cell (ints_get h1)
      have hct := hRt.cell (ints_get (show q < to.length by omega))
      by_cases h3 : q < c0
      · rw [if_pos h3] at e1
        rw [if_pos (by omega)] at e2
        rw [e1] at hNf
        rw [e2] at hXf
        have hd1 : (lost.take (q + 1)).drop c0 = (lost.take q).drop c0 := by rw [List.drop_eq_nil_of_le (by rw [List.length_take]; omega), List.drop_eq_nil_of_le (by rw [List.length_take]; omega)]
        have hd2 : (to.take (q + 1)).drop c0 = (to.take q).drop c0 := by rw [List.drop_eq_nil_of_le (by rw [List.length_take]; omega), List.drop_eq_nil_of_le (by rw [List.length_take]; omega)]
        have hrow := hrowN (finI holders lost to) hlt (by rw [hfM f q h1 h2, e1]) (fun _ => rfl)
        repeat' (first | apply HL.fold | apply HA.fold | apply HL.nil | apply HX.n_then | apply HC.seq | apply HC.region | refine HL.pa ?_ | refine HL.ga rfl ?_ | refine HL.na rfl ?_ | refine HL.nu rfl rfl ?_ | apply HC.block | apply HC.skip | apply HC.exit | apply HC.ret | apply HX.e_block | refine HX.e_other rfl ?_ | apply HX.e_then | apply HX.e_again | apply HX.n_block | apply HX.r_then | apply HX.r_block | apply HX.r_again | refine HC.cond_yes rfl ?_ | refine HC.cond_no rfl ?_ | refine HL.one (H1.ldb rfl (by repeat (first | with_reducible exact mem_hd | with_reducible apply mem_tl)) rfl rfl ?_) | refine HC.cond rfl (fun hc => ?_) (fun hc => ?_) | refine HC.cond_b rfl (fun hc => ?_) (fun hc => ?_))
        refine HL.one (H1.ld0 rfl q1 rfl ?_)
        repeat' (first | apply HL.fold | apply HA.fold | apply HL.nil | apply HX.n_then | apply HC.seq | apply HC.region | refine HL.pa ?_ | refine HL.ga rfl ?_ | refine HL.na rfl ?_ | refine HL.nu rfl rfl ?_ | apply HC.block | apply HC.skip | apply HC.exit | apply HC.ret | apply HX.e_block | refine HX.e_other rfl ?_ | apply HX.e_then | apply HX.e_again | apply HX.n_block | apply HX.r_then | apply HX.r_block | apply HX.r_again | refine HC.cond_yes rfl ?_ | refine HC.cond_no rfl ?_ | refine HL.one (H1.ldb rfl (by repeat (first | with_reducible exact mem_hd | with_reducible apply mem_tl)) rfl rfl ?_) | refine HC.cond rfl (fun hc => ?_) (fun hc => ?_) | refine HC.cond_b rfl (fun hc => ?_) (fun hc => ?_))
        refine HL.one (H1.ld0 rfl q1 rfl ?_)
        repeat' (first | apply HL.fold | apply HA.fold | apply HL.nil | apply HX.n_then | apply HC.seq | apply HC.region | refine HL.pa ?_ | refine HL.ga rfl ?_ | refine HL.na rfl ?_ | refine HL.nu rfl rfl ?_ | apply HC.block | apply HC.skip | apply HC.exit | apply HC.ret | apply HX.e_block | refine HX.e_other rfl ?_ | apply HX.e_then | apply HX.e_again | apply HX.n_block | apply HX.r_then | apply HX.r_block | apply HX.r_again | refine HC.cond_yes rfl ?_ | refine HC.cond_no rfl ?_ | refine HL.one (H1.ldb rfl (by repeat (first | with_reducible exact mem_hd | with_reducible apply mem_tl)) rfl rfl ?_) | refine HC.cond rfl (fun hc => ?_) (fun hc => ?_) | refine HC.cond_b rfl (fun hc => ?_) (fun hc => ?_))
        refine HL.one (H1.ld0 rfl hcl rfl ?_)
        repeat' (first | apply HL.fold | apply HA.fold | apply HL.nil | apply HX.n_then | apply HC.seq | apply HC.region | refine HL.pa ?_ | refine HL.ga rfl ?_ | refine HL.na rfl ?_ | refine HL.nu rfl rfl ?_ | apply HC.block | apply HC.skip | apply HC.exit | apply HC.ret | apply HX.e_block | refine HX.e_other rfl ?_ | apply HX.e_then | apply HX.e_again | apply HX.n_block | apply HX.r_then | apply HX.r_block | apply HX.r_again | refine HC.cond_yes rfl ?_ | refine HC.cond_no rfl ?_ | refine HL.one (H1.ldb rfl (by repeat (first | with_reducible exact mem_hd | with_reducible apply mem_tl)) rfl rfl ?_) | refine HC.cond rfl (fun hc => ?_) (fun hc => ?_) | refine HC.cond_b rfl (fun hc => ?_) (fun hc => ?_))
        refine HL.one (H1.ld0 rfl q2 rfl ?_)
        repeat' (first | apply HL.fold | apply HA.fold | apply HL.nil | apply HX.n_then | apply HC.seq | apply HC.region | refine HL.pa ?_ | refine HL.ga rfl ?_ | refine HL.na rfl ?_ | refine HL.nu rfl rfl ?_ | apply HC.block | apply HC.skip | apply HC.exit | apply HC.ret | apply HX.e_block | refine HX.e_other rfl ?_ | apply HX.e_then | apply HX.e_again | apply HX.n_block | apply HX.r_then | apply HX.r_block | apply HX.r_again | refine HC.cond_yes rfl ?_ | refine HC.cond_no rfl ?_ | refine HL.one (H1.ldb rfl (by repeat (first | with_reducible exact mem_hd | with_reducible apply mem_tl)) rfl rfl ?_) | refine HC.cond rfl (fun hc => ?_) (fun hc => ?_) | refine HC.cond_b rfl (fun hc => ?_) (fun hc => ?_))
        refine HL.one (H1.ld0 rfl hct rfl ?_)
        repeat' (first | apply HL.fold | apply HA.fold | apply HL.nil | apply HX.n_then | apply HC.seq | apply HC.region | refine HL.pa ?_ | refine HL.ga rfl ?_ | refine HL.na rfl ?_ | refine HL.nu rfl rfl ?_ | apply HC.block | apply HC.skip | apply HC.exit | apply HC.ret | apply HX.e_block | refine HX.e_other rfl ?_ | apply HX.e_then | apply HX.e_again | apply HX.n_block | apply HX.r_then | apply HX.r_block | apply HX.r_again | refine HC.cond_yes rfl ?_ | refine HC.cond_no rfl ?_ | refine HL.one (H1.ldb rfl (by repeat (first | with_reducible exact mem_hd | with_reducible apply mem_tl)) rfl rfl ?_) | refine HC.cond rfl (fun hc => ?_) (fun hc => ?_) | refine HC.cond_b rfl (fun hc => ?_) (fun hc => ?_))
        refine HC.any rfl ?_
        refine HA.pa 0 rfl ?_
        refine HA.pa 1 rfl ?_
        refine HA.pa 2 rfl ?_
        refine HA.all [3] (by kernel_rfl) rfl ⟨⟨_, rfl, ?_⟩, trivial⟩
        refine HO.one ?_
        refine H1.ldg rfl (by repeat (first | exact mem_hd | apply mem_tl)) hNf rfl ?_
        apply HA.fold
        refine HA.pa 4 rfl ?_
        refine HA.pa 5 rfl ?_
        first | refine HA.ga 6 rfl rfl ?_ | refine HA.na 6 rfl rfl ?_ | refine HA.nu 6 rfl rfl ?_
        first | refine HA.ga 7 rfl rfl ?_ | refine HA.na 7 rfl rfl ?_ | refine HA.nu 7 rfl rfl ?_
        first | refine HA.ga 8 rfl rfl ?_ | refine HA.na 8 rfl rfl ?_ | refine HA.nu 8 rfl rfl ?_
        first | refine HA.ga 10 rfl rfl ?_ | refine HA.na 10 rfl rfl ?_ | refine HA.nu 10 rfl rfl ?_
        first | refine HA.ga 11 rfl rfl ?_ | refine HA.na 11 rfl rfl ?_ | refine HA.nu 11 rfl rfl ?_
        first | refine HA.ga 12 rfl rfl ?_ | refine HA.na 12 rfl rfl ?_ | refine HA.nu 12 rfl rfl ?_
        refine HA.all [9, 13] (by kernel_rfl) rfl ⟨⟨_, rfl, ?_⟩, ⟨_, rfl, ?_⟩, trivial⟩
        · refine HO.one_a rfl ?_
          refine H1.ldg rfl (by repeat (first | exact mem_hd | apply mem_tl)) hXf rfl ?_
          apply HA.fold
          refine HA.all [13] (by kernel_rfl) rfl ⟨⟨_, rfl, ?_⟩, trivial⟩
          refine HO.one_a rfl ?_
          refine H1.ldg rfl (by repeat (first | exact mem_hd | apply mem_tl)) hNf rfl ?_
          apply HA.fold
          first | refine HA.ga 14 rfl rfl ?_ | refine HA.na 14 rfl rfl ?_ | refine HA.nu 14 rfl rfl ?_
          refine HA.pa 15 rfl ?_
          refine HA.done (by kernel_rfl) ?_
          repeat' (first | apply HL.fold | apply HA.fold | apply HL.nil | apply HX.n_then | apply HC.seq | apply HC.region | refine HL.pa ?_ | refine HL.ga rfl ?_ | refine HL.na rfl ?_ | refine HL.nu rfl rfl ?_ | apply HC.block | apply HC.skip | apply HC.exit | apply HC.ret | apply HX.e_block | refine HX.e_other rfl ?_ | apply HX.e_then | apply HX.e_again | apply HX.n_block | apply HX.r_then | apply HX.r_block | apply HX.r_again | refine HC.cond_yes rfl ?_ | refine HC.cond_no rfl ?_ | refine HL.one (H1.ldb rfl (by repeat (first | with_reducible exact mem_hd | with_reducible apply mem_tl)) rfl rfl ?_) | refine HC.cond rfl (fun hc => ?_) (fun hc => ?_) | refine HC.cond_b rfl (fun hc => ?_) (fun hc => ?_))
          refine HL.one (H1.ldg rfl (by repeat (first | exact mem_hd | apply mem_tl)) hNf rfl ?_)
          repeat' (first | apply HL.fold | apply HA.fold | apply HL.nil | apply HX.n_then | apply HC.seq | apply HC.region | refine HL.pa ?_ | refine HL.ga rfl ?_ | refine HL.na rfl ?_ | refine HL.nu rfl rfl ?_ | apply HC.block | apply HC.skip | apply HC.exit | apply HC.ret | apply HX.e_block | refine HX.e_other rfl ?_ | apply HX.e_then | apply HX.e_again | apply HX.n_block | apply HX.r_then | apply HX.r_block | apply HX.r_again | refine HC.cond_yes rfl ?_ | refine HC.cond_no rfl ?_ | refine HL.one (H1.ldb rfl (by repeat (first | with_reducible exact mem_hd | with_reducible apply mem_tl)) rfl rfl ?_) | refine HC.cond rfl (fun hc => ?_) (fun hc => ?_) | refine HC.cond_b rfl (fun hc => ?_) (fun hc => ?_))
          exact HX.again (f + 1, q + 1, (aL, cL), (aT, cT)) ⟨by show f + 1 ≤ _; omega, by show q + 1 ≤ _; omega, hq3, hq4⟩ (by show holders.length - (f + 1) < holders.length - f; omega) (by repeat (first | exact trivial | refine ⟨rfl, ?_⟩)) (by dsimp only; rw [hd1, hd2, ← hrow]; repeat (first | exact Hs.nil _ | (refine Hs.cons (by repeat (first | exact Pick.here | apply Pick.there)) ?_)))
        · refine HO.one_a rfl ?_
          refine H1.ldg rfl (by repeat (first | exact mem_hd | apply mem_tl)) hNf rfl ?_
          apply HA.fold
          refine HA.all [9] (by kernel_rfl) rfl ⟨⟨_, rfl, ?_⟩, trivial⟩
          refine HO.one_a rfl ?_
          refine H1.ldg rfl (by repeat (first | exact mem_hd | apply mem_tl)) hXf rfl ?_
          apply HA.fold
          first | refine HA.ga 14 rfl rfl ?_ | refine HA.na 14 rfl rfl ?_ | refine HA.nu 14 rfl rfl ?_
          refine HA.pa 15 rfl ?_
          refine HA.done (by kernel_rfl) ?_
          repeat' (first | apply HL.fold | apply HA.fold | apply HL.nil | apply HX.n_then | apply HC.seq | apply HC.region | refine HL.pa ?_ | refine HL.ga rfl ?_ | refine HL.na rfl ?_ | refine HL.nu rfl rfl ?_ | apply HC.block | apply HC.skip | apply HC.exit | apply HC.ret | apply HX.e_block | refine HX.e_other rfl ?_ | apply HX.e_then | apply HX.e_again | apply HX.n_block | apply HX.r_then | apply HX.r_block | apply HX.r_again | refine HC.cond_yes rfl ?_ | refine HC.cond_no rfl ?_ | refine HL.one (H1.ldb rfl (by repeat (first | with_reducible exact mem_hd | with_reducible apply mem_tl)) rfl rfl ?_) | refine HC.cond rfl (fun hc => ?_) (fun hc => ?_) | refine HC.cond_b rfl (fun hc => ?_) (fun hc => ?_))
          refine HL.one (H1.ldg rfl (by repeat (first | exact mem_hd | apply mem_tl)) hNf rfl ?_)
          repeat' (first | apply HL.fold | apply HA.fold | apply HL.nil | apply HX.n_then | apply HC.seq | apply HC.region | refine HL.pa ?_ | refine HL.ga rfl ?_ | refine HL.na rfl ?_ | refine HL.nu rfl rfl ?_ | apply HC.block | apply HC.skip | apply HC.exit | apply HC.ret | apply HX.e_block | refine HX.e_other rfl ?_ | apply HX.e_then | apply HX.e_again | apply HX.n_block | apply HX.r_then | apply HX.r_block | apply HX.r_again | refine HC.cond_yes rfl ?_ | refine HC.cond_no rfl ?_ | refine HL.one (H1.ldb rfl (by repeat (first | with_reducible exact mem_hd | with_reducible apply mem_tl)) rfl rfl ?_) | refine HC.cond rfl (fun hc => ?_) (fun hc => ?_) | refine HC.cond_b rfl (fun hc => ?_) (fun hc => ?_))
          exact HX.again (f + 1, q + 1, (aL, cL), (aT, cT)) ⟨by show f + 1 ≤ _; omega, by show q + 1 ≤ _; omega, hq3, hq4⟩ (by show holders.length - (f + 1) < holders.length - f; omega) (by repeat (first | exact trivial | refine ⟨rfl, ?_⟩)) (by dsimp only; rw [hd1, hd2, ← hrow]; repeat (first | exact Hs.nil _ | (refine Hs.cons (by repeat (first | exact Pick.here | apply Pick.there)) ?_)))
      · rw [if_neg h3] at e1
        rw [e1] at hNf
        have hd1 : (lost.take (q + 1)).drop c0 = (lost.take q).drop c0 ++ [(f : Int)] := by rw [take_at h1, List.drop_append_of_le_length (by rw [List.length_take]; omega), h2]
        have hd2 : (to.take (q + 1)).drop c0 = (to.take q).drop c0 ++ [at' to q] := by rw [take_at (by omega), List.drop_append_of_le_length (by rw [List.length_take]; omega)]
        have hl1 : ((lost.take q).drop c0).length ≤ 10 := by rw [List.length_drop, List.length_take]; omega
        have hl2 : ((to.take q).drop c0).length ≤ 10 := by rw [List.length_drop, List.length_take]; omega
        have hrow : (row holders.length fun i => zv (if i < f then finI holders lost to i else at' now i)).set f (zv (at' to q)) = (row holders.length fun i => zv (if i < (f + 1) then finI holders lost to i else at' now i)) := by
          rw [row_set]
          apply row_congr
          intro i _
          by_cases e : i = f
          · subst e; rw [if_pos rfl, if_pos (by omega), hfM i q h1 h2]
          · rw [if_neg e]
            by_cases h : i < f
            · rw [if_pos h, if_pos (by omega)]
            · rw [if_neg h, if_neg (by omega)]
        have hd1l : ((lost.take (q + 1)).drop c0).length = ((lost.take q).drop c0).length + 1 := by rw [hd1, List.length_append]; rfl
        have hd2l : ((to.take (q + 1)).drop c0).length = ((to.take q).drop c0).length + 1 := by rw [hd2, List.length_append]; rfl
        have hd1i : ints ((lost.take (q + 1)).drop c0) = ints ((lost.take q).drop c0) ++ [.int .i64 (f : Int)] := by rw [hd1, ints_app]; rfl
        have hd2i : ints ((to.take (q + 1)).drop c0) = ints ((to.take q).drop c0) ++ [.int .i64 (at' to q)] := by rw [hd2, ints_app]; rfl
        generalize (lost.take q).drop c0 = FL at *
        generalize (to.take q).drop c0 = FT at *
        repeat' (first | apply HL.fold | apply HA.fold | apply HL.nil | apply HX.n_then | apply HC.seq | apply HC.region | refine HL.pa ?_ | refine HL.ga rfl ?_ | refine HL.na rfl ?_ | refine HL.nu rfl rfl ?_ | apply HC.block | apply HC.skip | apply HC.exit | apply HC.ret | apply HX.e_block | refine HX.e_other rfl ?_ | apply HX.e_then | apply HX.e_again | apply HX.n_block | apply HX.r_then | apply HX.r_block | apply HX.r_again | refine HC.cond_yes rfl ?_ | refine HC.cond_no rfl ?_ | refine HL.one (H1.ldb rfl (by repeat (first | with_reducible exact mem_hd | with_reducible apply mem_tl)) rfl rfl ?_) | refine HC.cond rfl (fun hc => ?_) (fun hc => ?_) | refine HC.cond_b rfl (fun hc => ?_) (fun hc => ?_))
        refine HL.one (H1.ld0 rfl q1 rfl ?_)
        repeat' (first | apply HL.fold | apply HA.fold | apply HL.nil | apply HX.n_then | apply HC.seq | apply HC.region | refine HL.pa ?_ | refine HL.ga rfl ?_ | refine HL.na rfl ?_ | refine HL.nu rfl rfl ?_ | apply HC.block | apply HC.skip | apply HC.exit | apply HC.ret | apply HX.e_block | refine HX.e_other rfl ?_ | apply HX.e_then | apply HX.e_again | apply HX.n_block | apply HX.r_then | apply HX.r_block | apply HX.r_again | refine HC.cond_yes rfl ?_ | refine HC.cond_no rfl ?_ | refine HL.one (H1.ldb rfl (by repeat (first | with_reducible exact mem_hd | with_reducible apply mem_tl)) rfl rfl ?_) | refine HC.cond rfl (fun hc => ?_) (fun hc => ?_) | refine HC.cond_b rfl (fun hc => ?_) (fun hc => ?_))
        refine HL.one (H1.ld0 rfl q1 rfl ?_)
        repeat' (first | apply HL.fold | apply HA.fold | apply HL.nil | apply HX.n_then | apply HC.seq | apply HC.region | refine HL.pa ?_ | refine HL.ga rfl ?_ | refine HL.na rfl ?_ | refine HL.nu rfl rfl ?_ | apply HC.block | apply HC.skip | apply HC.exit | apply HC.ret | apply HX.e_block | refine HX.e_other rfl ?_ | apply HX.e_then | apply HX.e_again | apply HX.n_block | apply HX.r_then | apply HX.r_block | apply HX.r_again | refine HC.cond_yes rfl ?_ | refine HC.cond_no rfl ?_ | refine HL.one (H1.ldb rfl (by repeat (first | with_reducible exact mem_hd | with_reducible apply mem_tl)) rfl rfl ?_) | refine HC.cond rfl (fun hc => ?_) (fun hc => ?_) | refine HC.cond_b rfl (fun hc => ?_) (fun hc => ?_))
        refine HL.one (H1.ld0 rfl hcl rfl ?_)
        repeat' (first | apply HL.fold | apply HA.fold | apply HL.nil | apply HX.n_then | apply HC.seq | apply HC.region | refine HL.pa ?_ | refine HL.ga rfl ?_ | refine HL.na rfl ?_ | refine HL.nu rfl rfl ?_ | apply HC.block | apply HC.skip | apply HC.exit | apply HC.ret | apply HX.e_block | refine HX.e_other rfl ?_ | apply HX.e_then | apply HX.e_again | apply HX.n_block | apply HX.r_then | apply HX.r_block | apply HX.r_again | refine HC.cond_yes rfl ?_ | refine HC.cond_no rfl ?_ | refine HL.one (H1.ldb rfl (by repeat (first | with_reducible exact mem_hd | with_reducible apply mem_tl)) rfl rfl ?_) | refine HC.cond rfl (fun hc => ?_) (fun hc => ?_) | refine HC.cond_b rfl (fun hc => ?_) (fun hc => ?_))
        refine HL.one (H1.ld0 rfl q2 rfl ?_)
        repeat' (first | apply HL.fold | apply HA.fold | apply HL.nil | apply HX.n_then | apply HC.seq | apply HC.region | refine HL.pa ?_ | refine HL.ga rfl ?_ | refine HL.na rfl ?_ | refine HL.nu rfl rfl ?_ | apply HC.block | apply HC.skip | apply HC.exit | apply HC.ret | apply HX.e_block | refine HX.e_other rfl ?_ | apply HX.e_then | apply HX.e_again | apply HX.n_block | apply HX.r_then | apply HX.r_block | apply HX.r_again | refine HC.cond_yes rfl ?_ | refine HC.cond_no rfl ?_ | refine HL.one (H1.ldb rfl (by repeat (first | with_reducible exact mem_hd | with_reducible apply mem_tl)) rfl rfl ?_) | refine HC.cond rfl (fun hc => ?_) (fun hc => ?_) | refine HC.cond_b rfl (fun hc => ?_) (fun hc => ?_))
        refine HL.one (H1.ld0 rfl hct rfl ?_)
        repeat' (first | apply HL.fold | apply HA.fold | apply HL.nil | apply HX.n_then | apply HC.seq | apply HC.region | refine HL.pa ?_ | refine HL.ga rfl ?_ | refine HL.na rfl ?_ | refine HL.nu rfl rfl ?_ | apply HC.block | apply HC.skip | apply HC.exit | apply HC.ret | apply HX.e_block | refine HX.e_other rfl ?_ | apply HX.e_then | apply HX.e_again | apply HX.n_block | apply HX.r_then | apply HX.r_block | apply HX.r_again | refine HC.cond_yes rfl ?_ | refine HC.cond_no rfl ?_ | refine HL.one (H1.ldb rfl (by repeat (first | with_reducible exact mem_hd | with_reducible apply mem_tl)) rfl rfl ?_) | refine HC.cond rfl (fun hc => ?_) (fun hc => ?_) | refine HC.cond_b rfl (fun hc => ?_) (fun hc => ?_))
        refine HC.any rfl ?_
        refine HA.pa 0 rfl ?_
        refine HA.pa 1 rfl ?_
        refine HA.pa 2 rfl ?_
        refine HA.all [3] (by kernel_rfl) rfl ⟨⟨_, rfl, ?_⟩, trivial⟩
        refine HO.one ?_
        refine H1.ldg rfl (by repeat (first | exact mem_hd | apply mem_tl)) hNf rfl ?_
        apply HA.fold
        refine HA.pa 4 rfl ?_
        refine HA.pa 5 rfl ?_
        first | refine HA.ga 6 rfl rfl ?_ | refine HA.na 6 rfl rfl ?_ | refine HA.nu 6 rfl rfl ?_
        first | refine HA.ga 7 rfl rfl ?_ | refine HA.na 7 rfl rfl ?_ | refine HA.nu 7 rfl rfl ?_
        first | refine HA.ga 8 rfl rfl ?_ | refine HA.na 8 rfl rfl ?_ | refine HA.nu 8 rfl rfl ?_
        first | refine HA.ga 9 rfl rfl ?_ | refine HA.na 9 rfl rfl ?_ | refine HA.nu 9 rfl rfl ?_
        first | refine HA.ga 10 rfl rfl ?_ | refine HA.na 10 rfl rfl ?_ | refine HA.nu 10 rfl rfl ?_
        first | refine HA.ga 11 rfl rfl ?_ | refine HA.na 11 rfl rfl ?_ | refine HA.nu 11 rfl rfl ?_
        first | refine HA.ga 12 rfl rfl ?_ | refine HA.na 12 rfl rfl ?_ | refine HA.nu 12 rfl rfl ?_
        first | refine HA.ga 13 rfl rfl ?_ | refine HA.na 13 rfl rfl ?_ | refine HA.nu 13 rfl rfl ?_
        first | refine HA.ga 14 rfl rfl ?_ | refine HA.na 14 rfl rfl ?_ | refine HA.nu 14 rfl rfl ?_
        refine HA.pa 15 rfl ?_
        refine HA.done (by kernel_rfl) ?_
        repeat' (first | apply HL.fold | apply HA.fold | apply HL.nil | apply HX.n_then | apply HC.seq | apply HC.region | refine HL.pa ?_ | refine HL.ga rfl ?_ | refine HL.na rfl ?_ | refine HL.nu rfl rfl ?_ | apply HC.block | apply HC.skip | apply HC.exit | apply HC.ret | apply HX.e_block | refine HX.e_other rfl ?_ | apply HX.e_then | apply HX.e_again | apply HX.n_block | apply HX.r_then | apply HX.r_block | apply HX.r_again | refine HC.cond_yes rfl ?_ | refine HC.cond_no rfl ?_ | refine HL.one (H1.ldb rfl (by repeat (first | with_reducible exact mem_hd | with_reducible apply mem_tl)) rfl rfl ?_) | refine HC.cond rfl (fun hc => ?_) (fun hc => ?_) | refine HC.cond_b rfl (fun hc => ?_) (fun hc => ?_))
        refine HL.one (H1.ldg rfl (by repeat (first | exact mem_hd | apply mem_tl)) hNf rfl ?_)
        repeat' (first | apply HL.fold | apply HA.fold | apply HL.nil | apply HX.n_then | apply HC.seq | apply HC.region | refine HL.pa ?_ | refine HL.ga rfl ?_ | refine HL.na rfl ?_ | refine HL.nu rfl rfl ?_ | apply HC.block | apply HC.skip | apply HC.exit | apply HC.ret | apply HX.e_block | refine HX.e_other rfl ?_ | apply HX.e_then | apply HX.e_again | apply HX.n_block | apply HX.r_then | apply HX.r_block | apply HX.r_again | refine HC.cond_yes rfl ?_ | refine HC.cond_no rfl ?_ | refine HL.one (H1.ldb rfl (by repeat (first | with_reducible exact mem_hd | with_reducible apply mem_tl)) rfl rfl ?_) | refine HC.cond rfl (fun hc => ?_) (fun hc => ?_) | refine HC.cond_b rfl (fun hc => ?_) (fun hc => ?_))
        refine HL.one (H1.stg rfl rfl (by intro _ h; cases h) (by intro _ h; cases h) (by repeat (first | exact Rpl.here | apply Rpl.there)) (by rw [row_len]; omega) ?_)
        rw [hrow]
        repeat' (first | apply HL.fold | apply HA.fold | apply HL.nil | apply HX.n_then | apply HC.seq | apply HC.region | refine HL.pa ?_ | refine HL.ga rfl ?_ | refine HL.na rfl ?_ | refine HL.nu rfl rfl ?_ | apply HC.block | apply HC.skip | apply HC.exit | apply HC.ret | apply HX.e_block | refine HX.e_other rfl ?_ | apply HX.e_then | apply HX.e_again | apply HX.n_block | apply HX.r_then | apply HX.r_block | apply HX.r_again | refine HC.cond_yes rfl ?_ | refine HC.cond_no rfl ?_ | refine HL.one (H1.ldb rfl (by repeat (first | with_reducible exact mem_hd | with_reducible apply mem_tl)) rfl rfl ?_) | refine HC.cond rfl (fun hc => ?_) (fun hc => ?_) | refine HC.cond_b rfl (fun hc => ?_) (fun hc => ?_))
        refine HL.one (H1.lit (cs := [.int .i64 (f : Int)]) rfl rfl rfl rfl rfl rfl (fun b5 => ?_))
        repeat' (first | apply HL.fold | apply HA.fold | apply HL.nil | apply HX.n_then | apply HC.seq | apply HC.region | refine HL.pa ?_ | refine HL.ga rfl ?_ | refine HL.na rfl ?_ | refine HL.nu rfl rfl ?_ | apply HC.block | apply HC.skip | apply HC.exit | apply HC.ret | apply HX.e_block | refine HX.e_other rfl ?_ | apply HX.e_then | apply HX.e_again | apply HX.n_block | apply HX.r_then | apply HX.r_block | apply HX.r_again | refine HC.cond_yes rfl ?_ | refine HC.cond_no rfl ?_ | refine HL.one (H1.ldb rfl (by repeat (first | with_reducible exact mem_hd | with_reducible apply mem_tl)) rfl rfl ?_) | refine HC.cond rfl (fun hc => ?_) (fun hc => ?_) | refine HC.cond_b rfl (fun hc => ?_) (fun hc => ?_))
        refine HL.one (H1.app1 (u := .int .i64 (f : Int)) rfl rfl (fun _ _ => by repeat (first | exact Rpl.here | apply Rpl.there)) (by repeat (first | exact mem_hd | apply mem_tl)) rfl rfl (by omega) rfl rfl (fun a6 c6 => ?_))
        repeat' (first | apply HL.fold | apply HA.fold | apply HL.nil | apply HX.n_then | apply HC.seq | apply HC.region | refine HL.pa ?_ | refine HL.ga rfl ?_ | refine HL.na rfl ?_ | refine HL.nu rfl rfl ?_ | apply HC.block | apply HC.skip | apply HC.exit | apply HC.ret | apply HX.e_block | refine HX.e_other rfl ?_ | apply HX.e_then | apply HX.e_again | apply HX.n_block | apply HX.r_then | apply HX.r_block | apply HX.r_again | refine HC.cond_yes rfl ?_ | refine HC.cond_no rfl ?_ | refine HL.one (H1.ldb rfl (by repeat (first | with_reducible exact mem_hd | with_reducible apply mem_tl)) rfl rfl ?_) | refine HC.cond rfl (fun hc => ?_) (fun hc => ?_) | refine HC.cond_b rfl (fun hc => ?_) (fun hc => ?_))
        refine HL.one (H1.st rfl rfl (by intro _ h; cases h) (by intro _ h; cases h) (by repeat (first | exact Rpl.here | apply Rpl.there)) (by show 1 < 6; decide) ?_)
        repeat' (first | apply HL.fold | apply HA.fold | apply HL.nil | apply HX.n_then | apply HC.seq | apply HC.region | refine HL.pa ?_ | refine HL.ga rfl ?_ | refine HL.na rfl ?_ | refine HL.nu rfl rfl ?_ | apply HC.block | apply HC.skip | apply HC.exit | apply HC.ret | apply HX.e_block | refine HX.e_other rfl ?_ | apply HX.e_then | apply HX.e_again | apply HX.n_block | apply HX.r_then | apply HX.r_block | apply HX.r_again | refine HC.cond_yes rfl ?_ | refine HC.cond_no rfl ?_ | refine HL.one (H1.ldb rfl (by repeat (first | with_reducible exact mem_hd | with_reducible apply mem_tl)) rfl rfl ?_) | refine HC.cond rfl (fun hc => ?_) (fun hc => ?_) | refine HC.cond_b rfl (fun hc => ?_) (fun hc => ?_))
        refine HL.one (H1.lit (cs := [.int .i64 (at' to q)]) rfl rfl rfl rfl rfl rfl (fun b9 => ?_))
        repeat' (first | apply HL.fold | apply HA.fold | apply HL.nil | apply HX.n_then | apply HC.seq | apply HC.region | refine HL.pa ?_ | refine HL.ga rfl ?_ | refine HL.na rfl ?_ | refine HL.nu rfl rfl ?_ | apply HC.block | apply HC.skip | apply HC.exit | apply HC.ret | apply HX.e_block | refine HX.e_other rfl ?_ | apply HX.e_then | apply HX.e_again | apply HX.n_block | apply HX.r_then | apply HX.r_block | apply HX.r_again | refine HC.cond_yes rfl ?_ | refine HC.cond_no rfl ?_ | refine HL.one (H1.ldb rfl (by repeat (first | with_reducible exact mem_hd | with_reducible apply mem_tl)) rfl rfl ?_) | refine HC.cond rfl (fun hc => ?_) (fun hc => ?_) | refine HC.cond_b rfl (fun hc => ?_) (fun hc => ?_))
        refine HL.one (H1.app1 (u := .int .i64 (at' to q)) rfl rfl (fun _ _ => by repeat (first | exact Rpl.here | apply Rpl.there)) (by repeat (first | exact mem_hd | apply mem_tl)) rfl rfl (by omega) rfl rfl (fun a7 c7 => ?_))
        repeat' (first | apply HL.fold | apply HA.fold | apply HL.nil | apply HX.n_then | apply HC.seq | apply HC.region | refine HL.pa ?_ | refine HL.ga rfl ?_ | refine HL.na rfl ?_ | refine HL.nu rfl rfl ?_ | apply HC.block | apply HC.skip | apply HC.exit | apply HC.ret | apply HX.e_block | refine HX.e_other rfl ?_ | apply HX.e_then | apply HX.e_again | apply HX.n_block | apply HX.r_then | apply HX.r_block | apply HX.r_again | refine HC.cond_yes rfl ?_ | refine HC.cond_no rfl ?_ | refine HL.one (H1.ldb rfl (by repeat (first | with_reducible exact mem_hd | with_reducible apply mem_tl)) rfl rfl ?_) | refine HC.cond rfl (fun hc => ?_) (fun hc => ?_) | refine HC.cond_b rfl (fun hc => ?_) (fun hc => ?_))
        refine HL.one (H1.st rfl rfl (by intro _ h; cases h) (by intro _ h; cases h) (by repeat (first | exact Rpl.here | apply Rpl.there)) (by show 2 < 6; decide) ?_)
        repeat' (first | apply HL.fold | apply HA.fold | apply HL.nil | apply HX.n_then | apply HC.seq | apply HC.region | refine HL.pa ?_ | refine HL.ga rfl ?_ | refine HL.na rfl ?_ | refine HL.nu rfl rfl ?_ | apply HC.block | apply HC.skip | apply HC.exit | apply HC.ret | apply HX.e_block | refine HX.e_other rfl ?_ | apply HX.e_then | apply HX.e_again | apply HX.n_block | apply HX.r_then | apply HX.r_block | apply HX.r_again | refine HC.cond_yes rfl ?_ | refine HC.cond_no rfl ?_ | refine HL.one (H1.ldb rfl (by repeat (first | with_reducible exact mem_hd | with_reducible apply mem_tl)) rfl rfl ?_) | refine HC.cond rfl (fun hc => ?_) (fun hc => ?_) | refine HC.cond_b rfl (fun hc => ?_) (fun hc => ?_))
        exact HX.again (f + 1, q + 1, (some ⟨a6, 0, none⟩, c6), (some ⟨a7, 0, none⟩, c7)) ⟨by show f + 1 ≤ _; omega, by show q + 1 ≤ _; omega, hq3, hq4⟩ (by show holders.length - (f + 1) < holders.length - f; omega) (by repeat (first | exact trivial | refine ⟨rfl, ?_⟩)) (by dsimp only; rw [hd1l, hd2l, hd1i, hd2i]; repeat (first | exact Hs.nil _ | (refine Hs.cons (by repeat (first | exact Pick.here | apply Pick.there)) ?_)))
    · have hnin : (f : Int) ∉ lost := fun h => by
        obtain ⟨p, hp, hpe⟩ := mem_at h
        rcases Nat.lt_trichotomy p q with h2 | h2 | h2
        · have := hq1 p h2; omega
        · subst h2; exact h1 ⟨hp, hpe⟩
        · have := asc_lt hr.asc h2 hp
          have := hq2 (by omega); omega
      obtain ⟨e1, e2⟩ := hn1 f hlt hnin
      have hho := hho0 f hlt
      rw [e1] at hNf
      rw [e2] at hXf
      have hrow := hrowN (finI holders lost to) hlt (by rw [hfL f hlt hnin, e1]) (fun _ => rfl)
      have hq3 : ∀ p, p < q → at' lost p < ((f + 1 : Nat) : Int) := fun p hp => by have := hq1 p hp; omega
      by_cases h3 : q < lost.length
      · have h4 : ¬ at' lost q = (f : Int) := fun e => h1 ⟨h3, e⟩
        have hq4 : q < lost.length → ((f + 1 : Nat) : Int) ≤ at' lost q := fun h => by have := hq2 h; omega
        obtain ⟨bl, ol, rfl, -⟩ := hRl.iat (by intro e; rw [e] at h3; simp at h3)
        have hcl := hRl.cell (ints_get h3)
        repeat' (first | apply HL.fold | apply HA.fold | apply HL.nil | apply HX.n_then | apply HC.seq | apply HC.region | refine HL.pa ?_ | refine HL.ga rfl ?_ | refine HL.na rfl ?_ | refine HL.nu rfl rfl ?_ | apply HC.block | apply HC.skip | apply HC.exit | apply HC.ret | apply HX.e_block | refine HX.e_other rfl ?_ | apply HX.e_then | apply HX.e_again | apply HX.n_block | apply HX.r_then | apply HX.r_block | apply HX.r_again | refine HC.cond_yes rfl ?_ | refine HC.cond_no rfl ?_ | refine HL.one (H1.ldb rfl (by repeat (first | with_reducible exact mem_hd | with_reducible apply mem_tl)) rfl rfl ?_) | refine HC.cond rfl (fun hc => ?_) (fun hc => ?_) | refine HC.cond_b rfl (fun hc => ?_) (fun hc => ?_))
        refine HL.one (H1.ld0 rfl q1 rfl ?_)
        repeat' (first | apply HL.fold | apply HA.fold | apply HL.nil | apply HX.n_then | apply HC.seq | apply HC.region | refine HL.pa ?_ | refine HL.ga rfl ?_ | refine HL.na rfl ?_ | refine HL.nu rfl rfl ?_ | apply HC.block | apply HC.skip | apply HC.exit | apply HC.ret | apply HX.e_block | refine HX.e_other rfl ?_ | apply HX.e_then | apply HX.e_again | apply HX.n_block | apply HX.r_then | apply HX.r_block | apply HX.r_again | refine HC.cond_yes rfl ?_ | refine HC.cond_no rfl ?_ | refine HL.one (H1.ldb rfl (by repeat (first | with_reducible exact mem_hd | with_reducible apply mem_tl)) rfl rfl ?_) | refine HC.cond rfl (fun hc => ?_) (fun hc => ?_) | refine HC.cond_b rfl (fun hc => ?_) (fun hc => ?_))
        refine HL.one (H1.ld0 rfl q1 rfl ?_)
        repeat' (first | apply HL.fold | apply HA.fold | apply HL.nil | apply HX.n_then | apply HC.seq | apply HC.region | refine HL.pa ?_ | refine HL.ga rfl ?_ | refine HL.na rfl ?_ | refine HL.nu rfl rfl ?_ | apply HC.block | apply HC.skip | apply HC.exit | apply HC.ret | apply HX.e_block | refine HX.e_other rfl ?_ | apply HX.e_then | apply HX.e_again | apply HX.n_block | apply HX.r_then | apply HX.r_block | apply HX.r_again | refine HC.cond_yes rfl ?_ | refine HC.cond_no rfl ?_ | refine HL.one (H1.ldb rfl (by repeat (first | with_reducible exact mem_hd | with_reducible apply mem_tl)) rfl rfl ?_) | refine HC.cond rfl (fun hc => ?_) (fun hc => ?_) | refine HC.cond_b rfl (fun hc => ?_) (fun hc => ?_))
        refine HL.one (H1.ld0 rfl hcl rfl ?_)
        repeat' (first | apply HL.fold | apply HA.fold | apply HL.nil | apply HX.n_then | apply HC.seq | apply HC.region | refine HL.pa ?_ | refine HL.ga rfl ?_ | refine HL.na rfl ?_ | refine HL.nu rfl rfl ?_ | apply HC.block | apply HC.skip | apply HC.exit | apply HC.ret | apply HX.e_block | refine HX.e_other rfl ?_ | apply HX.e_then | apply HX.e_again | apply HX.n_block | apply HX.r_then | apply HX.r_block | apply HX.r_again | refine HC.cond_yes rfl ?_ | refine HC.cond_no rfl ?_ | refine HL.one (H1.ldb rfl (by repeat (first | with_reducible exact mem_hd | with_reducible apply mem_tl)) rfl rfl ?_) | refine HC.cond rfl (fun hc => ?_) (fun hc => ?_) | refine HC.cond_b rfl (fun hc => ?_) (fun hc => ?_))
        refine HC.any rfl ?_
        refine HA.pa 0 rfl ?_
        refine HA.pa 1 rfl ?_
        refine HA.pa 2 rfl ?_
        refine HA.all [3] (by kernel_rfl) rfl ⟨⟨_, rfl, ?_⟩, trivial⟩
        refine HO.one ?_
        refine H1.ldg rfl (by repeat (first | exact mem_hd | apply mem_tl)) hNf rfl ?_
        apply HA.fold
        refine HA.pa 4 rfl ?_
        refine HA.pa 5 rfl ?_
        first | refine HA.ga 6 rfl rfl ?_ | refine HA.na 6 rfl rfl ?_ | refine HA.nu 6 rfl rfl ?_
        first | refine HA.ga 7 rfl rfl ?_ | refine HA.na 7 rfl rfl ?_ | refine HA.nu 7 rfl rfl ?_
        first | refine HA.ga 8 rfl rfl ?_ | refine HA.na 8 rfl rfl ?_ | refine HA.nu 8 rfl rfl ?_
        first | refine HA.ga 10 rfl rfl ?_ | refine HA.na 10 rfl rfl ?_ | refine HA.nu 10 rfl rfl ?_
        first | refine HA.ga 11 rfl rfl ?_ | refine HA.na 11 rfl rfl ?_ | refine HA.nu 11 rfl rfl ?_
        first | refine HA.ga 12 rfl rfl ?_ | refine HA.na 12 rfl rfl ?_ | refine HA.nu 12 rfl rfl ?_
        refine HA.all [9, 13] (by kernel_rfl) rfl ⟨⟨_, rfl, ?_⟩, ⟨_, rfl, ?_⟩, trivial⟩
        · refine HO.one_a rfl ?_
          refine H1.ldg rfl (by repeat (first | exact mem_hd | apply mem_tl)) hXf rfl ?_
          apply HA.fold
          refine HA.all [13] (by kernel_rfl) rfl ⟨⟨_, rfl, ?_⟩, trivial⟩
          refine HO.one_a rfl ?_
          refine H1.ldg rfl (by repeat (first | exact mem_hd | apply mem_tl)) hNf rfl ?_
          apply HA.fold
          first | refine HA.ga 14 rfl rfl ?_ | refine HA.na 14 rfl rfl ?_ | refine HA.nu 14 rfl rfl ?_
          refine HA.pa 15 rfl ?_
          refine HA.done (by kernel_rfl) ?_
          repeat' (first | apply HL.fold | apply HA.fold | apply HL.nil | apply HX.n_then | apply HC.seq | apply HC.region | refine HL.pa ?_ | refine HL.ga rfl ?_ | refine HL.na rfl ?_ | refine HL.nu rfl rfl ?_ | apply HC.block | apply HC.skip | apply HC.exit | apply HC.ret | apply HX.e_block | refine HX.e_other rfl ?_ | apply HX.e_then | apply HX.e_again | apply HX.n_block | apply HX.r_then | apply HX.r_block | apply HX.r_again | refine HC.cond_yes rfl ?_ | refine HC.cond_no rfl ?_ | refine HL.one (H1.ldb rfl (by repeat (first | with_reducible exact mem_hd | with_reducible apply mem_tl)) rfl rfl ?_) | refine HC.cond rfl (fun hc => ?_) (fun hc => ?_) | refine HC.cond_b rfl (fun hc => ?_) (fun hc => ?_))
          refine HL.one (H1.ldg rfl (by repeat (first | exact mem_hd | apply mem_tl)) hNf rfl ?_)
          repeat' (first | apply HL.fold | apply HA.fold | apply HL.nil | apply HX.n_then | apply HC.seq | apply HC.region | refine HL.pa ?_ | refine HL.ga rfl ?_ | refine HL.na rfl ?_ | refine HL.nu rfl rfl ?_ | apply HC.block | apply HC.skip | apply HC.exit | apply HC.ret | apply HX.e_block | refine HX.e_other rfl ?_ | apply HX.e_then | apply HX.e_again | apply HX.n_block | apply HX.r_then | apply HX.r_block | apply HX.r_again | refine HC.cond_yes rfl ?_ | refine HC.cond_no rfl ?_ | refine HL.one (H1.ldb rfl (by repeat (first | with_reducible exact mem_hd | with_reducible apply mem_tl)) rfl rfl ?_) | refine HC.cond rfl (fun hc => ?_) (fun hc => ?_) | refine HC.cond_b rfl (fun hc => ?_) (fun hc => ?_))
          exact HX.again (f + 1, q, (aL, cL), (aT, cT)) ⟨by show f + 1 ≤ _; omega, hq, hq3, hq4⟩ (by show holders.length - (f + 1) < holders.length - f; omega) (by repeat (first | exact trivial | refine ⟨rfl, ?_⟩)) (by dsimp only; rw [← hrow]; repeat (first | exact Hs.nil _ | (refine Hs.cons (by repeat (first | exact Pick.here | apply Pick.there)) ?_)))
        · refine HO.one_a rfl ?_
          refine H1.ldg rfl (by repeat (first | exact mem_hd | apply mem_tl)) hNf rfl ?_
          apply HA.fold
          refine HA.all [9] (by kernel_rfl) rfl ⟨⟨_, rfl, ?_⟩, trivial⟩
          refine HO.one_a rfl ?_
          refine H1.ldg rfl (by repeat (first | exact mem_hd | apply mem_tl)) hXf rfl ?_
          apply HA.fold
          first | refine HA.ga 14 rfl rfl ?_ | refine HA.na 14 rfl rfl ?_ | refine HA.nu 14 rfl rfl ?_
          refine HA.pa 15 rfl ?_
          refine HA.done (by kernel_rfl) ?_
          repeat' (first | apply HL.fold | apply HA.fold | apply HL.nil | apply HX.n_then | apply HC.seq | apply HC.region | refine HL.pa ?_ | refine HL.ga rfl ?_ | refine HL.na rfl ?_ | refine HL.nu rfl rfl ?_ | apply HC.block | apply HC.skip | apply HC.exit | apply HC.ret | apply HX.e_block | refine HX.e_other rfl ?_ | apply HX.e_then | apply HX.e_again | apply HX.n_block | apply HX.r_then | apply HX.r_block | apply HX.r_again | refine HC.cond_yes rfl ?_ | refine HC.cond_no rfl ?_ | refine HL.one (H1.ldb rfl (by repeat (first | with_reducible exact mem_hd | with_reducible apply mem_tl)) rfl rfl ?_) | refine HC.cond rfl (fun hc => ?_) (fun hc => ?_) | refine HC.cond_b rfl (fun hc => ?_) (fun hc => ?_))
          refine HL.one (H1.ldg rfl (by repeat (first | exact mem_hd | apply mem_tl)) hNf rfl ?_)
          repeat' (first | apply HL.fold | apply HA.fold | apply HL.nil | apply HX.n_then | apply HC.seq | apply HC.region | refine HL.pa ?_ | refine HL.ga rfl ?_ | refine HL.na rfl ?_ | refine HL.nu rfl rfl ?_ | apply HC.block | apply HC.skip | apply HC.exit | apply HC.ret | apply HX.e_block | refine HX.e_other rfl ?_ | apply HX.e_then | apply HX.e_again | apply HX.n_block | apply HX.r_then | apply HX.r_block | apply HX.r_again | refine HC.cond_yes rfl ?_ | refine HC.cond_no rfl ?_ | refine HL.one (H1.ldb rfl (by repeat (first | with_reducible exact mem_hd | with_reducible apply mem_tl)) rfl rfl ?_) | refine HC.cond rfl (fun hc => ?_) (fun hc => ?_) | refine HC.cond_b rfl (fun hc => ?_) (fun hc => ?_))
          exact HX.again (f + 1, q, (aL, cL), (aT, cT)) ⟨by show f + 1 ≤ _; omega, hq, hq3, hq4⟩ (by show holders.length - (f + 1) < holders.length - f; omega) (by repeat (first | exact trivial | refine ⟨rfl, ?_⟩)) (by dsimp only; rw [← hrow]; repeat (first | exact Hs.nil _ | (refine Hs.cons (by repeat (first | exact Pick.here | apply Pick.there)) ?_)))
      · repeat' (first | apply HL.fold | apply HA.fold | apply HL.nil | apply HX.n_then | apply HC.seq | apply HC.region | refine HL.pa ?_ | refine HL.ga rfl ?_ | refine HL.na rfl ?_ | refine HL.nu rfl rfl ?_ | apply HC.block | apply HC.skip | apply HC.exit | apply HC.ret | apply HX.e_block | refine HX.e_other rfl ?_ | apply HX.e_then | apply HX.e_again | apply HX.n_block | apply HX.r_then | apply HX.r_block | apply HX.r_again | refine HC.cond_yes rfl ?_ | refine HC.cond_no rfl ?_ | refine HL.one (H1.ldb rfl (by repeat (first | with_reducible exact mem_hd | with_reducible apply mem_tl)) rfl rfl ?_) | refine HC.cond rfl (fun hc => ?_) (fun hc => ?_) | refine HC.cond_b rfl (fun hc => ?_) (fun hc => ?_))
        refine HL.one (H1.ld0 rfl q1 rfl ?_)
        repeat' (first | apply HL.fold | apply HA.fold | apply HL.nil | apply HX.n_then | apply HC.seq | apply HC.region | refine HL.pa ?_ | refine HL.ga rfl ?_ | refine HL.na rfl ?_ | refine HL.nu rfl rfl ?_ | apply HC.block | apply HC.skip | apply HC.exit | apply HC.ret | apply HX.e_block | refine HX.e_other rfl ?_ | apply HX.e_then | apply HX.e_again | apply HX.n_block | apply HX.r_then | apply HX.r_block | apply HX.r_again | refine HC.cond_yes rfl ?_ | refine HC.cond_no rfl ?_ | refine HL.one (H1.ldb rfl (by repeat (first | with_reducible exact mem_hd | with_reducible apply mem_tl)) rfl rfl ?_) | refine HC.cond rfl (fun hc => ?_) (fun hc => ?_) | refine HC.cond_b rfl (fun hc => ?_) (fun hc => ?_))
        refine HC.any rfl ?_
        refine HA.pa 0 rfl ?_
        refine HA.pa 1 rfl ?_
        refine HA.pa 2 rfl ?_
        refine HA.all [3] (by kernel_rfl) rfl ⟨⟨_, rfl, ?_⟩, trivial⟩
        refine HO.one ?_
        refine H1.ldg rfl (by repeat (first | exact mem_hd | apply mem_tl)) hNf rfl ?_
        apply HA.fold
        refine HA.pa 4 rfl ?_
        refine HA.pa 5 rfl ?_
        first | refine HA.ga 6 rfl rfl ?_ | refine HA.na 6 rfl rfl ?_ | refine HA.nu 6 rfl rfl ?_
        first | refine HA.ga 7 rfl rfl ?_ | refine HA.na 7 rfl rfl ?_ | refine HA.nu 7 rfl rfl ?_
        first | refine HA.ga 8 rfl rfl ?_ | refine HA.na 8 rfl rfl ?_ | refine HA.nu 8 rfl rfl ?_
        first | refine HA.ga 10 rfl rfl ?_ | refine HA.na 10 rfl rfl ?_ | refine HA.nu 10 rfl rfl ?_
        first | refine HA.ga 11 rfl rfl ?_ | refine HA.na 11 rfl rfl ?_ | refine HA.nu 11 rfl rfl ?_
        first | refine HA.ga 12 rfl rfl ?_ | refine HA.na 12 rfl rfl ?_ | refine HA.nu 12 rfl rfl ?_
        refine HA.all [9, 13] (by kernel_rfl) rfl ⟨⟨_, rfl, ?_⟩, ⟨_, rfl, ?_⟩, trivial⟩
        · refine HO.one_a rfl ?_
          refine H1.ldg rfl (by repeat (first | exact mem_hd | apply mem_tl)) hXf rfl ?_
          apply HA.fold
          refine HA.all [13] (by kernel_rfl) rfl ⟨⟨_, rfl, ?_⟩, trivial⟩
          refine HO.one_a rfl ?_
          refine H1.ldg rfl (by repeat (first | exact mem_hd | apply mem_tl)) hNf rfl ?_
          apply HA.fold
          first | refine HA.ga 14 rfl rfl ?_ | refine HA.na 14 rfl rfl ?_ | refine HA.nu 14 rfl rfl ?_
          refine HA.pa 15 rfl ?_
          refine HA.done (by kernel_rfl) ?_
          repeat' (first | apply HL.fold | apply HA.fold | apply HL.nil | apply HX.n_then | apply HC.seq | apply HC.region | refine HL.pa ?_ | refine HL.ga rfl ?_ | refine HL.na rfl ?_ | refine HL.nu rfl rfl ?_ | apply HC.block | apply HC.skip | apply HC.exit | apply HC.ret | apply HX.e_block | refine HX.e_other rfl ?_ | apply HX.e_then | apply HX.e_again | apply HX.n_block | apply HX.r_then | apply HX.r_block | apply HX.r_again | refine HC.cond_yes rfl ?_ | refine HC.cond_no rfl ?_ | refine HL.one (H1.ldb rfl (by repeat (first | with_reducible exact mem_hd | with_reducible apply mem_tl)) rfl rfl ?_) | refine HC.cond rfl (fun hc => ?_) (fun hc => ?_) | refine HC.cond_b rfl (fun hc => ?_) (fun hc => ?_))
          refine HL.one (H1.ldg rfl (by repeat (first | exact mem_hd | apply mem_tl)) hNf rfl ?_)
          repeat' (first | apply HL.fold | apply HA.fold | apply HL.nil | apply HX.n_then | apply HC.seq | apply HC.region | refine HL.pa ?_ | refine HL.ga rfl ?_ | refine HL.na rfl ?_ | refine HL.nu rfl rfl ?_ | apply HC.block | apply HC.skip | apply HC.exit | apply HC.ret | apply HX.e_block | refine HX.e_other rfl ?_ | apply HX.e_then | apply HX.e_again | apply HX.n_block | apply HX.r_then | apply HX.r_block | apply HX.r_again | refine HC.cond_yes rfl ?_ | refine HC.cond_no rfl ?_ | refine HL.one (H1.ldb rfl (by repeat (first | with_reducible exact mem_hd | with_reducible apply mem_tl)) rfl rfl ?_) | refine HC.cond rfl (fun hc => ?_) (fun hc => ?_) | refine HC.cond_b rfl (fun hc => ?_) (fun hc => ?_))
          exact HX.again (f + 1, q, (aL, cL), (aT, cT)) ⟨by show f + 1 ≤ _; omega, hq, hq3, (fun h => absurd h h3)⟩ (by show holders.length - (f + 1) < holders.length - f; omega) (by repeat (first | exact trivial | refine ⟨rfl, ?_⟩)) (by dsimp only; rw [← hrow]; repeat (first | exact Hs.nil _ | (refine Hs.cons (by repeat (first | exact Pick.here | apply Pick.there)) ?_)))
        · refine HO.one_a rfl ?_
          refine H1.ldg rfl (by repeat (first | exact mem_hd | apply mem_tl)) hNf rfl ?_
          apply HA.fold
          refine HA.all [9] (by kernel_rfl) rfl ⟨⟨_, rfl, ?_⟩, trivial⟩
          refine HO.one_a rfl ?_
          refine H1.ldg rfl (by repeat (first | exact mem_hd | apply mem_tl)) hXf rfl ?_
          apply HA.fold
          first | refine HA.ga 14 rfl rfl ?_ | refine HA.na 14 rfl rfl ?_ | refine HA.nu 14 rfl rfl ?_
          refine HA.pa 15 rfl ?_
          refine HA.done (by kernel_rfl) ?_
          repeat' (first | apply HL.fold | apply HA.fold | apply HL.nil | apply HX.n_then | apply HC.seq | apply HC.region | refine HL.pa ?_ | refine HL.ga rfl ?_ | refine HL.na rfl ?_ | refine HL.nu rfl rfl ?_ | apply HC.block | apply HC.skip | apply HC.exit | apply HC.ret | apply HX.e_block | refine HX.e_other rfl ?_ | apply HX.e_then | apply HX.e_again | apply HX.n_block | apply HX.r_then | apply HX.r_block | apply HX.r_again | refine HC.cond_yes rfl ?_ | refine HC.cond_no rfl ?_ | refine HL.one (H1.ldb rfl (by repeat (first | with_reducible exact mem_hd | with_reducible apply mem_tl)) rfl rfl ?_) | refine HC.cond rfl (fun hc => ?_) (fun hc => ?_) | refine HC.cond_b rfl (fun hc => ?_) (fun hc => ?_))
          refine HL.one (H1.ldg rfl (by repeat (first | exact mem_hd | apply mem_tl)) hNf rfl ?_)
          repeat' (first | apply HL.fold | apply HA.fold | apply HL.nil | apply HX.n_then | apply HC.seq | apply HC.region | refine HL.pa ?_ | refine HL.ga rfl ?_ | refine HL.na rfl ?_ | refine HL.nu rfl rfl ?_ | apply HC.block | apply HC.skip | apply HC.exit | apply HC.ret | apply HX.e_block | refine HX.e_other rfl ?_ | apply HX.e_then | apply HX.e_again | apply HX.n_block | apply HX.r_then | apply HX.r_block | apply HX.r_again | refine HC.cond_yes rfl ?_ | refine HC.cond_no rfl ?_ | refine HL.one (H1.ldb rfl (by repeat (first | with_reducible exact mem_hd | with_reducible apply mem_tl)) rfl rfl ?_) | refine HC.cond rfl (fun hc => ?_) (fun hc => ?_) | refine HC.cond_b rfl (fun hc => ?_) (fun hc => ?_))
          exact HX.again (f + 1, q, (aL, cL), (aT, cT)) ⟨by show f + 1 ≤ _; omega, hq, hq3, (fun h => absurd h h3)⟩ (by show holders.length - (f + 1) < holders.length - f; omega) (by repeat (first | exact trivial | refine ⟨rfl, ?_⟩)) (by dsimp only; rw [← hrow]; repeat (first | exact Hs.nil _ | (refine Hs.cons (by repeat (first | exact Pick.here | apply Pick.there)) ?_)))
  · obtain rfl : f = holders.length := by omega
    have hqL : q = lost.length := by
      by_cases h : q < lost.length
      · have := hq2 h
        have := asc_in hr.asc _ (at_mem h)
        omega
      · omega
    subst hqL
    have hrowE : (row holders.length fun i => zv (if i < holders.length then finI holders lost to i else at' now i)) = ints (finL holders lost to) := by
      unfold finL
      rw [ints_row]
      apply row_congr
      intro i hi
      rw [if_pos hi]
    have htt : to.take lost.length = to := by rw [← htl, List.take_length]
    have hl2 := planR_len (finL holders lost to) (lost.drop c0) (to.drop c0) (wd : Int) (kk : Int) 30
    have hdl2 : (lost.drop c0).length ≤ 9 := by rw [List.length_drop]; omega
    have hdt2 : (to.drop c0).length ≤ 9 := by rw [List.length_drop]; omega
    rw [hrowE, List.take_length, htt]
    repeat' (first | apply HL.fold | apply HA.fold | apply HL.nil | apply HX.n_then | apply HC.seq | apply HC.region | refine HL.pa ?_ | refine HL.ga rfl ?_ | refine HL.na rfl ?_ | refine HL.nu rfl rfl ?_ | apply HC.block | apply HC.skip | apply HC.exit | apply HC.ret | apply HX.e_block | refine HX.e_other rfl ?_ | apply HX.e_then | apply HX.e_again | apply HX.n_block | apply HX.r_then | apply HX.r_block | apply HX.r_again | refine HC.cond_yes rfl ?_ | refine HC.cond_no rfl ?_ | refine HL.one (H1.ldb rfl (by repeat (first | with_reducible exact mem_hd | with_reducible apply mem_tl)) rfl rfl ?_) | refine HC.cond rfl (fun hc => ?_) (fun hc => ?_) | refine HC.cond_b rfl (fun hc => ?_) (fun hc => ?_))
    refine HL.one (H1.ldAgg (vs := [.slice (some ⟨bH, 0, none⟩) holders.length cH, .slice aL (lost.drop c0).length cL, .slice aT (to.drop c0).length cT, .int .i64 (wd : Int), .int .i64 (kk : Int), .int .i64 30]) rfl (by repeat (first | exact mem_hd | apply mem_tl)) rfl (fun i v hv => by rw [show 0 + i = i from Nat.zero_add i]; exact hv) rfl ?_)
    repeat' (first | apply HL.fold | apply HA.fold | apply HL.nil | apply HX.n_then | apply HC.seq | apply HC.region | refine HL.pa ?_ | refine HL.ga rfl ?_ | refine HL.na rfl ?_ | refine HL.nu rfl rfl ?_ | apply HC.block | apply HC.skip | apply HC.exit | apply HC.ret | apply HX.e_block | refine HX.e_other rfl ?_ | apply HX.e_then | apply HX.e_again | apply HX.n_block | apply HX.r_then | apply HX.r_block | apply HX.r_again | refine HC.cond_yes rfl ?_ | refine HC.cond_no rfl ?_ | refine HL.one (H1.ldb rfl (by repeat (first | with_reducible exact mem_hd | with_reducible apply mem_tl)) rfl rfl ?_) | refine HC.cond rfl (fun hc => ?_) (fun hc => ?_) | refine HC.cond_b rfl (fun hc => ?_) (fun hc => ?_))
    refine HL.one (H1.callz1 (An := fun z : List (Option Addr × Nat) × Option Addr × Nat => A.ts z.2.1 z.2.2 (planR (finL holders lost to) (lost.drop c0) (to.drop c0) (wd : Int) (kk : Int) 30) z.1) (vs := [.agg #[.slice (some ⟨bH, 0, none⟩) holders.length cH, .slice aL (lost.drop c0).length cL, .slice aT (to.drop c0).length cT, .int .i64 (wd : Int), .int .i64 (kk : Int), .int .i64 30]]) rfl rfl (fun w' hM => by
      have h8 : Rd w' (.slice (some ⟨bH, 0, none⟩) (finL holders lost to).length cH) (ints (finL holders lost to)) := by rw [hfinL]; exact hM.gr (by repeat (first | exact mem_hd | apply mem_tl))
      have := planW_fn ⟨finL holders lost to, lost.drop c0, to.drop c0, (wd : Int), (kk : Int), 30⟩ (some ⟨bH, 0, none⟩, cH) (aL, cL) (aT, cT) (by dsimp only; omega) (by dsimp only; omega) (by dsimp only; omega) w' h8 (hM.gr (by repeat (first | exact mem_hd | apply mem_tl))) (hM.gr (by repeat (first | exact mem_hd | apply mem_tl)))
      simp only [caseV, hfinL] at this
      exact this) ?_)
    rintro ⟨zs2, aM, cM⟩ hz2
    dsimp only at hz2 ⊢
    rw [if_pos hB2]
    generalize planR (finL holders lost to) (lost.drop c0) (to.drop c0) (wd : Int) (kk : Int) 30 = m at *
    repeat' (first | apply HL.fold | apply HA.fold | apply HL.nil | apply HX.n_then | apply HC.seq | apply HC.region | refine HL.pa ?_ | refine HL.ga rfl ?_ | refine HL.na rfl ?_ | refine HL.nu rfl rfl ?_ | apply HC.block | apply HC.skip | apply HC.exit | apply HC.ret | apply HX.e_block | refine HX.e_other rfl ?_ | apply HX.e_then | apply HX.e_again | apply HX.n_block | apply HX.r_then | apply HX.r_block | apply HX.r_again | refine HC.cond_yes rfl ?_ | refine HC.cond_no rfl ?_ | refine HL.one (H1.ldb rfl (by repeat (first | with_reducible exact mem_hd | with_reducible apply mem_tl)) rfl rfl ?_) | refine HC.cond rfl (fun hc => ?_) (fun hc => ?_) | refine HC.cond_b rfl (fun hc => ?_) (fun hc => ?_))
    refine HL.one (H1.callx (vs := [.slice aM m.length cM]) rfl rfl (fun w' hM => last_fn _ m (by omega) w' (hM.ts (by repeat (first | exact mem_hd | apply mem_tl)) hz2)) ?_)
    repeat' (first | apply HL.fold | apply HA.fold | apply HL.nil | apply HX.n_then | apply HC.seq | apply HC.region | refine HL.pa ?_ | refine HL.ga rfl ?_ | refine HL.na rfl ?_ | refine HL.nu rfl rfl ?_ | apply HC.block | apply HC.skip | apply HC.exit | apply HC.ret | apply HX.e_block | refine HX.e_other rfl ?_ | apply HX.e_then | apply HX.e_again | apply HX.n_block | apply HX.r_then | apply HX.r_block | apply HX.r_again | refine HC.cond_yes rfl ?_ | refine HC.cond_no rfl ?_ | refine HL.one (H1.ldb rfl (by repeat (first | with_reducible exact mem_hd | with_reducible apply mem_tl)) rfl rfl ?_) | refine HC.cond rfl (fun hc => ?_) (fun hc => ?_) | refine HC.cond_b rfl (fun hc => ?_) (fun hc => ?_))
    refine HL.one (H1.callx (vs := [.slice aP l.length cP]) rfl rfl (fun w' hM => last_fn _ l (by omega) w' (hT1.ext hM.ext)) ?_)
    repeat' (first | apply HL.fold | apply HA.fold | apply HL.nil | apply HX.n_then | apply HC.seq | apply HC.region | refine HL.pa ?_ | refine HL.ga rfl ?_ | refine HL.na rfl ?_ | refine HL.nu rfl rfl ?_ | apply HC.block | apply HC.skip | apply HC.exit | apply HC.ret | apply HX.e_block | refine HX.e_other rfl ?_ | apply HX.e_then | apply HX.e_again | apply HX.n_block | apply HX.r_then | apply HX.r_block | apply HX.r_again | refine HC.cond_yes rfl ?_ | refine HC.cond_no rfl ?_ | refine HL.one (H1.ldb rfl (by repeat (first | with_reducible exact mem_hd | with_reducible apply mem_tl)) rfl rfl ?_) | refine HC.cond rfl (fun hc => ?_) (fun hc => ?_) | refine HC.cond_b rfl (fun hc => ?_) (fun hc => ?_))
    rw [decide_eq_true hll]
    exact HX.ret1 rfl rfl fun w' hM => ⟨rfl, hE1.trans hM.ext⟩
end Go.Sx

