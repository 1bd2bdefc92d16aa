/- Chapter 21: the law KnownSpans. -/
import Derived.Test.YtldhccgelcmjoaaXY
namespace Go.Sx
open Go Go.Proofs Go.RowKit
theorem POp.beqT {P : Program} {N : Nat} {ds : List Deferred} {E : Env} {t t' ty : TypeId} {x y : Operand} {b c : Bool} [UTy P t .bool] (hx : Env.ev E x = some (.bool b)) (hy : Env.ev E y = some (.bool c)) (h : b = c) : POp P N ds E (.binOp .eql t x y t') ty (.bool true) := by
  subst h
  have e : (b == b) = true := by cases b <;> rfl
  rw [← e]; exact POp.beql hx hy
def sp0 (f u n : Int) : Rc := ⟨1, n, 1, 0, false, f, u, 0, 3, n, 0, 0, false, 0, ByteArray.mk #[]⟩
def sp1 (f u n : Int) : Rc := ⟨3, n, 1, 0, false, f, u, 5, 0, 0, 0, 0, false, 2, ByteArray.mk #[]⟩
def sp2 (f u n : Int) : Rc := ⟨4, n, 1, 0, false, f, u, 5, 0, 0, 0, 0, false, 0, ByteArray.mk #[]⟩
def sp3 (f u n : Int) : Rc := ⟨5, n, 1, 0, false, f, u, 5, 0, 0, 0, 0, false, 0, ByteArray.mk #[]⟩
def sp4 (f u n : Int) : Rc := ⟨7, n, 1, 0, false, f, u, 5, 0, 0, 4, n, false, 0, ByteArray.mk #[]⟩
def spL (f u n : Int) : List Rc := [sp0 f u n, sp1 f u n, sp2 f u n, sp3 f u n, sp4 f u n]
theorem sp_valid {f u n : Int} (hf : 0 ≤ f ∧ f < 50) (hu : f ≤ u ∧ u < 100) (hn : 1 ≤ n ∧ n ≤ 60) : ∀ r ∈ spL f u n, ValidR r := by
  intro r hr
  simp only [spL, List.mem_cons, List.not_mem_nil, or_false] at hr
  rcases hr with rfl | rfl | rfl | rfl | rfl
  all_goals refine ⟨of_decide_eq_true rfl, of_decide_eq_true rfl, of_decide_eq_true rfl, of_decide_eq_true rfl, ⟨fun _ _ => hu.1, fun h => absurd h (of_decide_eq_true rfl)⟩, fun p hp => ?_, fun i hi hm => ?_⟩
  · change p ∈ [(0, (1 : Int), (1000000 : Int)), (1, 0, 100000), (2, 0, 100000), (4, 1, 1000000), (5, 1, 1000000)] at hp
    simp only [List.mem_cons, List.not_mem_nil, or_false] at hp
    rcases hp with rfl | rfl | rfl | rfl | rfl <;> simp only [Rc.get, sp0] <;> omega
  · rcases ten hi with rfl | rfl | rfl | rfl | rfl | rfl | rfl | rfl | rfl | rfl <;> first | rfl | exact absurd (of_decide_eq_true rfl) hm
  · change p ∈ [(0, (1 : Int), (1000000 : Int)), (1, 0, 100000), (2, 0, 100000), (3, 1, 1000000), (6, 0, 1000000), (9, 1, 1000000)] at hp
    simp only [List.mem_cons, List.not_mem_nil, or_false] at hp
    rcases hp with rfl | rfl | rfl | rfl | rfl | rfl <;> simp only [Rc.get, sp1] <;> omega
  · rcases ten hi with rfl | rfl | rfl | rfl | rfl | rfl | rfl | rfl | rfl | rfl <;> first | rfl | exact absurd (of_decide_eq_true rfl) hm
  · change p ∈ [(0, (1 : Int), (1000000 : Int)), (1, 0, 100000), (2, 0, 100000), (3, 1, 1000000)] at hp
    simp only [List.mem_cons, List.not_mem_nil, or_false] at hp
    rcases hp with rfl | rfl | rfl | rfl <;> simp only [Rc.get, sp2] <;> omega
  · rcases ten hi with rfl | rfl | rfl | rfl | rfl | rfl | rfl | rfl | rfl | rfl <;> first | rfl | exact absurd (of_decide_eq_true rfl) hm
  · change p ∈ [(0, (1 : Int), (1000000 : Int)), (1, 0, 100000), (2, 0, 100000), (3, 0, 1000000)] at hp
    simp only [List.mem_cons, List.not_mem_nil, or_false] at hp
    rcases hp with rfl | rfl | rfl | rfl <;> simp only [Rc.get, sp3] <;> omega
  · rcases ten hi with rfl | rfl | rfl | rfl | rfl | rfl | rfl | rfl | rfl | rfl <;> first | rfl | exact absurd (of_decide_eq_true rfl) hm
  · change p ∈ [(0, (1 : Int), (1000000 : Int)), (1, 0, 100000), (2, 0, 100000), (3, 1, 1000000), (6, 0, 1000000), (7, 0, 63)] at hp
    simp only [List.mem_cons, List.not_mem_nil, or_false] at hp
    rcases hp with rfl | rfl | rfl | rfl | rfl | rfl <;> simp only [Rc.get, sp4] <;> omega
  · rcases ten hi with rfl | rfl | rfl | rfl | rfl | rfl | rfl | rfl | rfl | rfl <;> first | rfl | exact absurd (of_decide_eq_true rfl) hm
theorem top_all {l : List Rc} {day : Int} (hv : ∀ r ∈ l, ValidR r ∧ r.day ≤ day) (hk : ∀ r ∈ l, ∀ s ∈ l, r.kind = s.kind → r = s) (r : Rc) : Top l day r ↔ r ∈ l :=
  ⟨fun h => h.mem, fun h => ⟨h, hv r h, fun s hs _ hp => by
    have e := hk s hs r h (prev_key hp).1
    subst e
    exact prev_irr _ hp⟩⟩
theorem sp_is {f u n : Int} (hf : 0 ≤ f ∧ f < 50) (hu : f ≤ u ∧ u < 100) (hn : 1 ≤ n ∧ n ≤ 60) {k : Nat} {L : List Rc} (h : IsOf (spL f u n) 0 ((k : Int) + 1) L) (hk : k < 8) : L = exB k (spL f u n) := by
  have hv := sp_valid hf hu hn
  have hkind : ∀ r ∈ spL f u n, ∀ s ∈ spL f u n, r.kind = s.kind → r = s := by
    intro r hr s hs
    simp only [spL, List.mem_cons, List.not_mem_nil, or_false] at hr hs
    rcases hr with rfl | rfl | rfl | rfl | rfl <;> rcases hs with rfl | rfl | rfl | rfl | rfl <;> first | exact fun _ => rfl | exact fun h => absurd h (by simp only [sp0, sp1, sp2, sp3, sp4]; decide)
  have hz : ∀ r ∈ spL f u n, r.day = 0 ∧ r.gone = false := by
    intro r hr
    simp only [spL, List.mem_cons, List.not_mem_nil, or_false] at hr
    rcases hr with rfl | rfl | rfl | rfl | rfl <;> exact ⟨rfl, rfl⟩
  have htop := top_all (day := 0) (fun r hr => ⟨hv r hr, by rw [(hz r hr).1]; exact Int.le_refl _⟩) hkind
  refine h.is ?_ fun r => ?_
  · rcases (show k = 0 ∨ k = 1 ∨ k = 2 ∨ k = 3 ∨ k = 4 ∨ k = 5 ∨ k = 6 ∨ k = 7 by omega) with rfl | rfl | rfl | rfl | rfl | rfl | rfl | rfl <;> first | exact List.Pairwise.nil | exact List.pairwise_singleton _ _
  · rw [exB_mem, htop]
    exact ⟨fun h => ⟨⟨h.1, (hz r h.1).2⟩, h.2⟩, fun h => ⟨h.1.1, h.2⟩⟩
theorem numL_one (b : Bool) (x : Int) : numL (if b = true then [x] else []) = if b = true then [x] else [] := by
  cases b
  · exact numL_id List.Pairwise.nil
  · exact numL_id (List.pairwise_singleton _ _)
theorem len_one (b : Bool) (x : Int) : (if b = true then [x] else [] : List Int).length = if b = true then 1 else 0 := by cases b <;> rfl
section
variable (f u n d : Int)
theorem sp_has : (exB 0 (spL f u n)).any (hasB 3 n d) = (decide (f ≤ d) && decide (d ≤ u)) := by
  show (hasB 3 n d (sp0 f u n) || false) = _
  unfold hasB nowB sp0
  simp
theorem sp_cons : (exB 2 (spL f u n)).any (aboutB 5 9 d) = (decide (f ≤ d) && decide (d ≤ u)) := by
  show (aboutB 5 9 d (sp1 f u n) || false) = _
  unfold aboutB nowB sp1
  simp
theorem sp_emb : (embL (exB 3 (spL f u n)) 5 d).length = if (decide (f ≤ d) && decide (d ≤ u)) = true then 1 else 0 := by
  have e : (exB 3 (spL f u n)).filter (embB 5 d) = if (decide (f ≤ d) && decide (d ≤ u)) = true then [sp2 f u n] else [] := by
    show [sp2 f u n].filter (embB 5 d) = _
    rw [List.filter_cons, List.filter_nil]
    unfold embB nowB sp2
    simp
  unfold embL
  rw [e]
  cases (decide (f ≤ d) && decide (d ≤ u))
  · rw [if_neg Bool.false_ne_true, if_neg Bool.false_ne_true]; exact congrArg List.length (numL_id List.Pairwise.nil)
  · rw [if_pos rfl, if_pos rfl]; exact congrArg List.length (numL_id (List.pairwise_singleton _ _))
theorem sp_held : (heldL (exB 4 (spL f u n)) (exB 5 (spL f u n)) 5 d).length = if (decide (f ≤ d) && decide (d ≤ u)) = true then 1 else 0 := by
  have e : (exB 4 (spL f u n)).filter (heldB (exB 5 (spL f u n)) 5 d) = if (decide (f ≤ d) && decide (d ≤ u)) = true then [sp3 f u n] else [] := by
    show [sp3 f u n].filter (heldB [] 5 d) = _
    rw [List.filter_cons, List.filter_nil]
    unfold heldB nowB sp3
    simp
  unfold heldL
  rw [e]
  cases (decide (f ≤ d) && decide (d ≤ u))
  · rw [if_neg Bool.false_ne_true, if_neg Bool.false_ne_true]; exact congrArg List.length (numL_id List.Pairwise.nil)
  · rw [if_pos rfl, if_pos rfl]; exact congrArg List.length (numL_id (List.pairwise_singleton _ _))
theorem sp_hid : (hidL (exB 6 (spL f u n)) 5 4 d).length = if (decide (f ≤ d) && decide (d ≤ u)) = true then 1 else 0 := by
  have e : (exB 6 (spL f u n)).filter (aboutB 5 4 d) = if (decide (f ≤ d) && decide (d ≤ u)) = true then [sp4 f u n] else [] := by
    show [sp4 f u n].filter (aboutB 5 4 d) = _
    rw [List.filter_cons, List.filter_nil]
    unfold aboutB nowB sp4
    simp
  unfold hidL
  rw [e]
  cases (decide (f ≤ d) && decide (d ≤ u))
  · rw [if_neg Bool.false_ne_true, if_neg Bool.false_ne_true]; exact congrArg List.length (numL_id List.Pairwise.nil)
  · rw [if_pos rfl, if_pos rfl]; exact congrArg List.length (numL_id (List.pairwise_singleton _ _))
theorem sp_hid0 : hidL (exB 6 (spL f u n)) 5 9 d = [] := by
  have e : (exB 6 (spL f u n)).filter (aboutB 5 9 d) = [] := by
    show [sp4 f u n].filter (aboutB 5 9 d) = _
    rw [List.filter_cons, List.filter_nil]
    unfold aboutB nowB sp4
    simp
  unfold hidL
  rw [e]; exact numL_id List.Pairwise.nil
theorem sp_has0 : (exB 0 (spL f u n)).any (hasB 4 n d) = false := by
  show (hasB 4 n d (sp0 f u n) || false) = _
  unfold hasB nowB sp0
  simp
theorem sp_held0 : heldL (exB 4 (spL f u n)) (exB 5 (spL f u n)) 6 d = [] := by
  have e : (exB 4 (spL f u n)).filter (heldB (exB 5 (spL f u n)) 6 d) = [] := by
    show [sp3 f u n].filter (heldB [] 6 d) = _
    rw [List.filter_cons, List.filter_nil]
    unfold heldB nowB sp3
    simp
  unfold heldL
  rw [e]; exact numL_id List.Pairwise.nil
end
theorem lit5 (r0 r1 r2 r3 r4 : Rc) : litC (fun i => some (i * 15, 15)) (zeroRow (5 * 15) (rcells rcZ)) [(0, recV r0), (1, recV r1), (2, recV r2), (3, recV r3), (4, recV r4)] = some (rcl [r0, r1, r2, r3, r4]) := by kernel_rfl
attribute [local irreducible] WC WL WX POp Then Again Fn NX W1 WA WO QL RP RA Yld LoopAt HC HL HX HN H1 HA HO HQ HB HP A.blk A.grow A.rd A.obj A.mp AgainH CutH
attribute [local irreducible] A.dfr A.loop bsA embL heldL hidL
set_option maxHeartbeats 4000000 in
theorem knownSpans_fn (x y z t : Int) (hx : i64W x) (hy : i64W y) (hz : i64W z) (ht : i64W t) (w : World) : Fn Try.prog 5 #[zv x, zv y, zv z, zv t] w fun v w' => v = .bool true ∧ Ext w w' := by
  refine enterH (l := [_, _, _, _]) rfl Try.ntmps5 rfl ?_
  repeat' (first | refine HL.pa ?_ (POp.beqT rfl rfl (by first | rfl | decide)) | apply HL.fold | apply HA.fold | apply HL.nil | apply HX.n_then | apply HC.seq | apply HC.region | refine HL.pa ?_ | refine HL.ga rfl ?_ | refine HL.na rfl ?_ | refine HL.nu rfl rfl ?_ | apply HC.block | apply HC.skip | apply HC.exit | apply HC.ret | apply HX.e_block | refine HX.e_other rfl ?_ | apply HX.e_then | apply HX.e_again | apply HX.n_block | apply HX.r_then | apply HX.r_block | apply HX.r_again | refine HC.cond_yes rfl ?_ | refine HC.cond_no rfl ?_ | refine HL.one (H1.ldb rfl memA rfl rfl ?_) | refine HC.cond rfl (fun hc => ?_) (fun hc => ?_) | refine HC.cond_b rfl (fun hc => ?_) (fun hc => ?_))
  refine HL.one (H1.callx (u := .bool true) (vs := []) rfl rfl (fun w' _ => sane21_fn w') ?_)
  repeat' (first | refine HL.pa ?_ (POp.beqT rfl rfl (by first | rfl | decide)) | apply HL.fold | apply HA.fold | apply HL.nil | apply HX.n_then | apply HC.seq | apply HC.region | refine HL.pa ?_ | refine HL.ga rfl ?_ | refine HL.na rfl ?_ | refine HL.nu rfl rfl ?_ | apply HC.block | apply HC.skip | apply HC.exit | apply HC.ret | apply HX.e_block | refine HX.e_other rfl ?_ | apply HX.e_then | apply HX.e_again | apply HX.n_block | apply HX.r_then | apply HX.r_block | apply HX.r_again | refine HC.cond_yes rfl ?_ | refine HC.cond_no rfl ?_ | refine HL.one (H1.ldb rfl memA rfl rfl ?_) | refine HC.cond rfl (fun hc => ?_) (fun hc => ?_) | refine HC.cond_b rfl (fun hc => ?_) (fun hc => ?_))
  refine HL.one (H1.call0 (vs := [zv x, zv 50]) rfl rfl (fun w' _ => pick21_fn x 50 hx.1 hx.2 (by decide) w') ?_)
  have hf := pickI21_lt x (n := 50) (by decide)
  generalize pickI21 x 50 = f at hf ⊢
  repeat' (first | refine HL.pa ?_ (POp.beqT rfl rfl (by first | rfl | decide)) | apply HL.fold | apply HA.fold | apply HL.nil | apply HX.n_then | apply HC.seq | apply HC.region | refine HL.pa ?_ | refine HL.ga rfl ?_ | refine HL.na rfl ?_ | refine HL.nu rfl rfl ?_ | apply HC.block | apply HC.skip | apply HC.exit | apply HC.ret | apply HX.e_block | refine HX.e_other rfl ?_ | apply HX.e_then | apply HX.e_again | apply HX.n_block | apply HX.r_then | apply HX.r_block | apply HX.r_again | refine HC.cond_yes rfl ?_ | refine HC.cond_no rfl ?_ | refine HL.one (H1.ldb rfl memA rfl rfl ?_) | refine HC.cond rfl (fun hc => ?_) (fun hc => ?_) | refine HC.cond_b rfl (fun hc => ?_) (fun hc => ?_))
  refine HL.one (H1.call0 (vs := [zv y, zv 50]) rfl rfl (fun w' _ => pick21_fn y 50 hy.1 hy.2 (by decide) w') ?_)
  have hg := pickI21_lt y (n := 50) (by decide)
  generalize pickI21 y 50 = g at hg ⊢
  repeat' (first | refine HL.pa ?_ (POp.beqT rfl rfl (by first | rfl | decide)) | apply HL.fold | apply HA.fold | apply HL.nil | apply HX.n_then | apply HC.seq | apply HC.region | refine HL.pa ?_ | refine HL.ga rfl ?_ | refine HL.na rfl ?_ | refine HL.nu rfl rfl ?_ | apply HC.block | apply HC.skip | apply HC.exit | apply HC.ret | apply HX.e_block | refine HX.e_other rfl ?_ | apply HX.e_then | apply HX.e_again | apply HX.n_block | apply HX.r_then | apply HX.r_block | apply HX.r_again | refine HC.cond_yes rfl ?_ | refine HC.cond_no rfl ?_ | refine HL.one (H1.ldb rfl memA rfl rfl ?_) | refine HC.cond rfl (fun hc => ?_) (fun hc => ?_) | refine HC.cond_b rfl (fun hc => ?_) (fun hc => ?_))
  refine HL.one (H1.call0 (vs := [zv z, zv 120]) rfl rfl (fun w' _ => pick21_fn z 120 hz.1 hz.2 (by decide) w') ?_)
  have hd := pickI21_lt z (n := 120) (by decide)
  generalize pickI21 z 120 = d0 at hd ⊢
  repeat' (first | refine HL.pa ?_ (POp.beqT rfl rfl (by first | rfl | decide)) | apply HL.fold | apply HA.fold | apply HL.nil | apply HX.n_then | apply HC.seq | apply HC.region | refine HL.pa ?_ | refine HL.ga rfl ?_ | refine HL.na rfl ?_ | refine HL.nu rfl rfl ?_ | apply HC.block | apply HC.skip | apply HC.exit | apply HC.ret | apply HX.e_block | refine HX.e_other rfl ?_ | apply HX.e_then | apply HX.e_again | apply HX.n_block | apply HX.r_then | apply HX.r_block | apply HX.r_again | refine HC.cond_yes rfl ?_ | refine HC.cond_no rfl ?_ | refine HL.one (H1.ldb rfl memA rfl rfl ?_) | refine HC.cond rfl (fun hc => ?_) (fun hc => ?_) | refine HC.cond_b rfl (fun hc => ?_) (fun hc => ?_))
  refine HL.one (H1.call0 (vs := [zv t, zv 60]) rfl rfl (fun w' _ => pick21_fn t 60 ht.1 ht.2 (by decide) w') ?_)
  have hn := pickI21_lt t (n := 60) (by decide)
  generalize pickI21 t 60 = n0 at hn ⊢
  repeat' (first | refine HL.pa ?_ (POp.beqT rfl rfl (by first | rfl | decide)) | apply HL.fold | apply HA.fold | apply HL.nil | apply HX.n_then | apply HC.seq | apply HC.region | refine HL.pa ?_ | refine HL.ga rfl ?_ | refine HL.na rfl ?_ | refine HL.nu rfl rfl ?_ | apply HC.block | apply HC.skip | apply HC.exit | apply HC.ret | apply HX.e_block | refine HX.e_other rfl ?_ | apply HX.e_then | apply HX.e_again | apply HX.n_block | apply HX.r_then | apply HX.r_block | apply HX.r_again | refine HC.cond_yes rfl ?_ | refine HC.cond_no rfl ?_ | refine HL.one (H1.ldb rfl memA rfl rfl ?_) | refine HC.cond rfl (fun hc => ?_) (fun hc => ?_) | refine HC.cond_b rfl (fun hc => ?_) (fun hc => ?_))
  obtain ⟨u, hu⟩ : ∃ u, u = f + g := ⟨_, rfl⟩
  obtain ⟨d, hd'⟩ : ∃ d, d = d0 - 10 := ⟨_, rfl⟩
  obtain ⟨n, hn'⟩ : ∃ n, n = 1 + n0 := ⟨_, rfl⟩
  rw [← hu, ← hd', ← hn']
  have hu2 : f ≤ u ∧ u < 100 := by omega
  have hn2 : 1 ≤ n ∧ n ≤ 60 := by omega
  clear hu hd' hn'
  refine HL.build (cs := rcells (sp0 f u n)) rfl rfl rfl ?_
  repeat' (first | refine HL.pa ?_ (POp.beqT rfl rfl (by first | rfl | decide)) | apply HL.fold | apply HA.fold | apply HL.nil | apply HX.n_then | apply HC.seq | apply HC.region | refine HL.pa ?_ | refine HL.ga rfl ?_ | refine HL.na rfl ?_ | refine HL.nu rfl rfl ?_ | apply HC.block | apply HC.skip | apply HC.exit | apply HC.ret | apply HX.e_block | refine HX.e_other rfl ?_ | apply HX.e_then | apply HX.e_again | apply HX.n_block | apply HX.r_then | apply HX.r_block | apply HX.r_again | refine HC.cond_yes rfl ?_ | refine HC.cond_no rfl ?_ | refine HL.one (H1.ldb rfl memA rfl rfl ?_) | refine HC.cond rfl (fun hc => ?_) (fun hc => ?_) | refine HC.cond_b rfl (fun hc => ?_) (fun hc => ?_))
  refine HL.build (cs := rcells (sp1 f u n)) rfl rfl rfl ?_
  repeat' (first | refine HL.pa ?_ (POp.beqT rfl rfl (by first | rfl | decide)) | apply HL.fold | apply HA.fold | apply HL.nil | apply HX.n_then | apply HC.seq | apply HC.region | refine HL.pa ?_ | refine HL.ga rfl ?_ | refine HL.na rfl ?_ | refine HL.nu rfl rfl ?_ | apply HC.block | apply HC.skip | apply HC.exit | apply HC.ret | apply HX.e_block | refine HX.e_other rfl ?_ | apply HX.e_then | apply HX.e_again | apply HX.n_block | apply HX.r_then | apply HX.r_block | apply HX.r_again | refine HC.cond_yes rfl ?_ | refine HC.cond_no rfl ?_ | refine HL.one (H1.ldb rfl memA rfl rfl ?_) | refine HC.cond rfl (fun hc => ?_) (fun hc => ?_) | refine HC.cond_b rfl (fun hc => ?_) (fun hc => ?_))
  refine HL.build (cs := rcells (sp2 f u n)) rfl rfl rfl ?_
  repeat' (first | refine HL.pa ?_ (POp.beqT rfl rfl (by first | rfl | decide)) | apply HL.fold | apply HA.fold | apply HL.nil | apply HX.n_then | apply HC.seq | apply HC.region | refine HL.pa ?_ | refine HL.ga rfl ?_ | refine HL.na rfl ?_ | refine HL.nu rfl rfl ?_ | apply HC.block | apply HC.skip | apply HC.exit | apply HC.ret | apply HX.e_block | refine HX.e_other rfl ?_ | apply HX.e_then | apply HX.e_again | apply HX.n_block | apply HX.r_then | apply HX.r_block | apply HX.r_again | refine HC.cond_yes rfl ?_ | refine HC.cond_no rfl ?_ | refine HL.one (H1.ldb rfl memA rfl rfl ?_) | refine HC.cond rfl (fun hc => ?_) (fun hc => ?_) | refine HC.cond_b rfl (fun hc => ?_) (fun hc => ?_))
  refine HL.build (cs := rcells (sp3 f u n)) rfl rfl rfl ?_
  repeat' (first | refine HL.pa ?_ (POp.beqT rfl rfl (by first | rfl | decide)) | apply HL.fold | apply HA.fold | apply HL.nil | apply HX.n_then | apply HC.seq | apply HC.region | refine HL.pa ?_ | refine HL.ga rfl ?_ | refine HL.na rfl ?_ | refine HL.nu rfl rfl ?_ | apply HC.block | apply HC.skip | apply HC.exit | apply HC.ret | apply HX.e_block | refine HX.e_other rfl ?_ | apply HX.e_then | apply HX.e_again | apply HX.n_block | apply HX.r_then | apply HX.r_block | apply HX.r_again | refine HC.cond_yes rfl ?_ | refine HC.cond_no rfl ?_ | refine HL.one (H1.ldb rfl memA rfl rfl ?_) | refine HC.cond rfl (fun hc => ?_) (fun hc => ?_) | refine HC.cond_b rfl (fun hc => ?_) (fun hc => ?_))
  refine HL.build (cs := rcells (sp4 f u n)) rfl rfl rfl ?_
  repeat' (first | refine HL.pa ?_ (POp.beqT rfl rfl (by first | rfl | decide)) | apply HL.fold | apply HA.fold | apply HL.nil | apply HX.n_then | apply HC.seq | apply HC.region | refine HL.pa ?_ | refine HL.ga rfl ?_ | refine HL.na rfl ?_ | refine HL.nu rfl rfl ?_ | apply HC.block | apply HC.skip | apply HC.exit | apply HC.ret | apply HX.e_block | refine HX.e_other rfl ?_ | apply HX.e_then | apply HX.e_again | apply HX.n_block | apply HX.r_then | apply HX.r_block | apply HX.r_again | refine HC.cond_yes rfl ?_ | refine HC.cond_no rfl ?_ | refine HL.one (H1.ldb rfl memA rfl rfl ?_) | refine HC.cond rfl (fun hc => ?_) (fun hc => ?_) | refine HC.cond_b rfl (fun hc => ?_) (fun hc => ?_))
  have hsv := sp_valid hf hu2 hn2
  have hL : spL f u n = [sp0 f u n, sp1 f u n, sp2 f u n, sp3 f u n, sp4 f u n] := rfl
  generalize hr0 : sp0 f u n = r0 at hL ⊢
  generalize hr1 : sp1 f u n = r1 at hL ⊢
  generalize hr2 : sp2 f u n = r2 at hL ⊢
  generalize hr3 : sp3 f u n = r3 at hL ⊢
  generalize hr4 : sp4 f u n = r4 at hL ⊢
  clear hr0 hr1 hr2 hr3 hr4
  refine HL.one (H1.lit (zs := rcells rcZ) (pv := [(0, recV r0), (1, recV r1), (2, recV r2), (3, recV r3), (4, recV r4)]) (cs := rcl [r0, r1, r2, r3, r4]) rfl rfl (lit5 r0 r1 r2 r3 r4) rfl rfl rfl (fun bl => ?_))
  rw [← hL]
  repeat' (first | refine HL.pa ?_ (POp.beqT rfl rfl (by first | rfl | decide)) | apply HL.fold | apply HA.fold | apply HL.nil | apply HX.n_then | apply HC.seq | apply HC.region | refine HL.pa ?_ | refine HL.ga rfl ?_ | refine HL.na rfl ?_ | refine HL.nu rfl rfl ?_ | apply HC.block | apply HC.skip | apply HC.exit | apply HC.ret | apply HX.e_block | refine HX.e_other rfl ?_ | apply HX.e_then | apply HX.e_again | apply HX.n_block | apply HX.r_then | apply HX.r_block | apply HX.r_again | refine HC.cond_yes rfl ?_ | refine HC.cond_no rfl ?_ | refine HL.one (H1.ldb rfl memA rfl rfl ?_) | refine HC.cond rfl (fun hc => ?_) (fun hc => ?_) | refine HC.cond_b rfl (fun hc => ?_) (fun hc => ?_))
  refine HL.one (H1.callz1 (α := Nat → Slot) (V := fun q => bsV q) (An := fun q => bsA q) (I := fun q => ∀ i : Nat, i < 8 → IsOf (spL f u n) 0 ((i : Int) + 1) (bsL q i)) (vs := [.slice (some ⟨bl, 0, none⟩) 5 5, zv 0]) rfl rfl (fun w' hM => of_fn (some ⟨bl, 0, none⟩) 5 (spL f u n) (show 5 ≤ 1000000 by decide) (fun r hr => RcOk.of_valid (hsv r hr)) 0 w' (RdR.of_blk (l := spL f u n) (hM.blk memA))) ?_)
  rintro q hq0
  have hq : ∀ i, i < 8 → bsL q i = exB i (spL f u n) := fun i hi => sp_is hf hu2 hn2 (hq0 i hi) hi
  have hlen : ∀ i, i < 8 → (bsL q i).length ≤ 1000000 := fun i hi => by
    rw [hq i hi]
    have := nodup_len (L := exB i (spL f u n)) (l := spL f u n) (by rw [← hq i hi]; exact (hq0 i hi).asc.imp fun h e => by subst e; omega) (fun r hr => (exB_mem.1 hr).1)
    exact Nat.le_trans this (show 5 ≤ 1000000 by decide)
  clear hq0
  repeat' (first | refine HL.pa ?_ (POp.beqT rfl rfl (by first | rfl | decide)) | apply HL.fold | apply HA.fold | apply HL.nil | apply HX.n_then | apply HC.seq | apply HC.region | refine HL.pa ?_ | refine HL.ga rfl ?_ | refine HL.na rfl ?_ | refine HL.nu rfl rfl ?_ | apply HC.block | apply HC.skip | apply HC.exit | apply HC.ret | apply HX.e_block | refine HX.e_other rfl ?_ | apply HX.e_then | apply HX.e_again | apply HX.n_block | apply HX.r_then | apply HX.r_block | apply HX.r_again | refine HC.cond_yes rfl ?_ | refine HC.cond_no rfl ?_ | refine HL.one (H1.ldb rfl memA rfl rfl ?_) | refine HC.cond rfl (fun hc => ?_) (fun hc => ?_) | refine HC.cond_b rfl (fun hc => ?_) (fun hc => ?_))
  refine HL.one (H1.alloc (cs := row 8 fun i => slot (q0 i)) rfl rfl (fun bb => ?_))
  repeat' (first | refine HL.pa ?_ (POp.beqT rfl rfl (by first | rfl | decide)) | apply HL.fold | apply HA.fold | apply HL.nil | apply HX.n_then | apply HC.seq | apply HC.region | refine HL.pa ?_ | refine HL.ga rfl ?_ | refine HL.na rfl ?_ | refine HL.nu rfl rfl ?_ | apply HC.block | apply HC.skip | apply HC.exit | apply HC.ret | apply HX.e_block | refine HX.e_other rfl ?_ | apply HX.e_then | apply HX.e_again | apply HX.n_block | apply HX.r_then | apply HX.r_block | apply HX.r_again | refine HC.cond_yes rfl ?_ | refine HC.cond_no rfl ?_ | refine HL.one (H1.ldb rfl memA rfl rfl ?_) | refine HC.cond rfl (fun hc => ?_) (fun hc => ?_) | refine HC.cond_b rfl (fun hc => ?_) (fun hc => ?_))
  refine HL.one (H1.stAgg (cs := row 8 fun i => slot (q0 i)) (vs := row 8 fun i => slot (q i)) rfl rfl rfl (slot_one q) rplA rfl ?_)
  apply HL.fold
  apply HL.nil
  apply HX.n_then
  apply HC.seq
  refine HC.cut (α := Unit) (fun _ => [(9, .bool true), (2, zv d), (3, zv n), (11, .pointer (some ⟨bb, 0, none⟩)), (12, .bool (decide (f ≤ d) && decide (d ≤ u)))]) (fun _ => [A.blk bb (row 8 fun i => slot (q i)) 30, bsA q]) (fun _ => True) ?_ ?_
  · by_cases h1 : f ≤ d
    · rw [decide_eq_true h1, Bool.true_and]
      repeat' (first | refine HL.pa ?_ (POp.beqT rfl rfl (by first | rfl | decide)) | apply HL.fold | apply HA.fold | apply HL.nil | apply HX.n_then | apply HC.seq | apply HC.region | refine HL.pa ?_ | refine HL.ga rfl ?_ | refine HL.na rfl ?_ | refine HL.nu rfl rfl ?_ | apply HC.block | apply HC.skip | apply HC.exit | apply HC.ret | apply HX.e_block | refine HX.e_other rfl ?_ | apply HX.e_then | apply HX.e_again | apply HX.n_block | apply HX.r_then | apply HX.r_block | apply HX.r_again | refine HC.cond_yes rfl ?_ | refine HC.cond_no rfl ?_ | refine HL.one (H1.ldb rfl memA rfl rfl ?_) | refine HC.cond rfl (fun hc => ?_) (fun hc => ?_) | refine HC.cond_b rfl (fun hc => ?_) (fun hc => ?_))
      exact HX.cut () trivial esA (by repeat (first | exact Hs.nil _ | (refine Hs.cons pickA ?_)))
    · rw [decide_eq_false h1, Bool.false_and]
      repeat' (first | refine HL.pa ?_ (POp.beqT rfl rfl (by first | rfl | decide)) | apply HL.fold | apply HA.fold | apply HL.nil | apply HX.n_then | apply HC.seq | apply HC.region | refine HL.pa ?_ | refine HL.ga rfl ?_ | refine HL.na rfl ?_ | refine HL.nu rfl rfl ?_ | apply HC.block | apply HC.skip | apply HC.exit | apply HC.ret | apply HX.e_block | refine HX.e_other rfl ?_ | apply HX.e_then | apply HX.e_again | apply HX.n_block | apply HX.r_then | apply HX.r_block | apply HX.r_again | refine HC.cond_yes rfl ?_ | refine HC.cond_no rfl ?_ | refine HL.one (H1.ldb rfl memA rfl rfl ?_) | refine HC.cond rfl (fun hc => ?_) (fun hc => ?_) | refine HC.cond_b rfl (fun hc => ?_) (fun hc => ?_))
      exact HX.cut () trivial esA (by repeat (first | exact Hs.nil _ | (refine Hs.cons pickA ?_)))
  rintro - -
  have e1 := sp_has f u n d
  have e2 := sp_cons f u n d
  have e3 := sp_emb f u n d
  have e4 := sp_held f u n d
  have e5 := sp_hid f u n d
  have e6 := sp_hid0 f u n d
  have e7 := sp_has0 f u n d
  have e8 := sp_held0 f u n d
  rw [← hq 0 (by decide)] at e1 e7
  rw [← hq 2 (by decide)] at e2
  rw [← hq 3 (by decide)] at e3
  rw [← hq 4 (by decide), ← hq 5 (by decide)] at e4 e8
  rw [← hq 6 (by decide)] at e5 e6
  have e6' := congrArg List.length e6
  have e8' := congrArg List.length e8
  rw [List.length_nil] at e6' e8'
  generalize (decide (f ≤ d) && decide (d ≤ u)) = nb at e1 e2 e3 e4 e5 ⊢
  clear hq hsv hf hg hd hn hu2 hn2 e6 e8
  cases nb
  · rw [if_neg Bool.false_ne_true] at e3 e4 e5
    repeat' (first | refine HL.pa ?_ (POp.beqT rfl rfl (by first | rfl | decide)) | apply HL.fold | apply HA.fold | apply HL.nil | apply HX.n_then | apply HC.seq | apply HC.region | refine HL.pa ?_ | refine HL.ga rfl ?_ | refine HL.na rfl ?_ | refine HL.nu rfl rfl ?_ | apply HC.block | apply HC.skip | apply HC.exit | apply HC.ret | apply HX.e_block | refine HX.e_other rfl ?_ | apply HX.e_then | apply HX.e_again | apply HX.n_block | apply HX.r_then | apply HX.r_block | apply HX.r_again | refine HC.cond_yes rfl ?_ | refine HC.cond_no rfl ?_ | refine HL.one (H1.ldb rfl memA rfl rfl ?_) | refine HC.cond rfl (fun hc => ?_) (fun hc => ?_) | refine HC.cond_b rfl (fun hc => ?_) (fun hc => ?_))
    refine HL.one (H1.ldAgg (vs := row 8 fun i => slot (q i)) rfl memA rfl (fun i v hv => by rw [Nat.zero_add]; exact hv) rfl ?_)
    repeat' (first | refine HL.pa ?_ (POp.beqT rfl rfl (by first | rfl | decide)) | apply HL.fold | apply HA.fold | apply HL.nil | apply HX.n_then | apply HC.seq | apply HC.region | refine HL.pa ?_ | refine HL.ga rfl ?_ | refine HL.na rfl ?_ | refine HL.nu rfl rfl ?_ | apply HC.block | apply HC.skip | apply HC.exit | apply HC.ret | apply HX.e_block | refine HX.e_other rfl ?_ | apply HX.e_then | apply HX.e_again | apply HX.n_block | apply HX.r_then | apply HX.r_block | apply HX.r_again | refine HC.cond_yes rfl ?_ | refine HC.cond_no rfl ?_ | refine HL.one (H1.ldb rfl memA rfl rfl ?_) | refine HC.cond rfl (fun hc => ?_) (fun hc => ?_) | refine HC.cond_b rfl (fun hc => ?_) (fun hc => ?_))
    refine HL.one (H1.callx (u := .bool false) (vs := [bsV q, zv 3, zv n, zv d]) rfl rfl (fun w' hM => by have h := Has_fn 3 n d w' (hM.base (q := q) memA) (hlen 0 (by decide)); rw [e1] at h; exact h) ?_)
    repeat' (first | refine HL.pa ?_ (POp.beqT rfl rfl (by first | rfl | decide)) | apply HL.fold | apply HA.fold | apply HL.nil | apply HX.n_then | apply HC.seq | apply HC.region | refine HL.pa ?_ | refine HL.ga rfl ?_ | refine HL.na rfl ?_ | refine HL.nu rfl rfl ?_ | apply HC.block | apply HC.skip | apply HC.exit | apply HC.ret | apply HX.e_block | refine HX.e_other rfl ?_ | apply HX.e_then | apply HX.e_again | apply HX.n_block | apply HX.r_then | apply HX.r_block | apply HX.r_again | refine HC.cond_yes rfl ?_ | refine HC.cond_no rfl ?_ | refine HL.one (H1.ldb rfl memA rfl rfl ?_) | refine HC.cond rfl (fun hc => ?_) (fun hc => ?_) | refine HC.cond_b rfl (fun hc => ?_) (fun hc => ?_))
    refine HL.one (H1.ldAgg (vs := row 8 fun i => slot (q i)) rfl memA rfl (fun i v hv => by rw [Nat.zero_add]; exact hv) rfl ?_)
    repeat' (first | refine HL.pa ?_ (POp.beqT rfl rfl (by first | rfl | decide)) | apply HL.fold | apply HA.fold | apply HL.nil | apply HX.n_then | apply HC.seq | apply HC.region | refine HL.pa ?_ | refine HL.ga rfl ?_ | refine HL.na rfl ?_ | refine HL.nu rfl rfl ?_ | apply HC.block | apply HC.skip | apply HC.exit | apply HC.ret | apply HX.e_block | refine HX.e_other rfl ?_ | apply HX.e_then | apply HX.e_again | apply HX.n_block | apply HX.r_then | apply HX.r_block | apply HX.r_again | refine HC.cond_yes rfl ?_ | refine HC.cond_no rfl ?_ | refine HL.one (H1.ldb rfl memA rfl rfl ?_) | refine HC.cond rfl (fun hc => ?_) (fun hc => ?_) | refine HC.cond_b rfl (fun hc => ?_) (fun hc => ?_))
    refine HL.one (H1.callx (u := .bool false) (vs := [bsV q, zv 5, zv 9, zv d]) rfl rfl (fun w' hM => by have h := Consents_fn 5 9 d w' (hM.base (q := q) memA) (hlen 2 (by decide)); rw [e2] at h; exact h) ?_)
    repeat' (first | refine HL.pa ?_ (POp.beqT rfl rfl (by first | rfl | decide)) | apply HL.fold | apply HA.fold | apply HL.nil | apply HX.n_then | apply HC.seq | apply HC.region | refine HL.pa ?_ | refine HL.ga rfl ?_ | refine HL.na rfl ?_ | refine HL.nu rfl rfl ?_ | apply HC.block | apply HC.skip | apply HC.exit | apply HC.ret | apply HX.e_block | refine HX.e_other rfl ?_ | apply HX.e_then | apply HX.e_again | apply HX.n_block | apply HX.r_then | apply HX.r_block | apply HX.r_again | refine HC.cond_yes rfl ?_ | refine HC.cond_no rfl ?_ | refine HL.one (H1.ldb rfl memA rfl rfl ?_) | refine HC.cond rfl (fun hc => ?_) (fun hc => ?_) | refine HC.cond_b rfl (fun hc => ?_) (fun hc => ?_))
    refine HL.one (H1.ldAgg (vs := row 8 fun i => slot (q i)) rfl memA rfl (fun i v hv => by rw [Nat.zero_add]; exact hv) rfl ?_)
    repeat' (first | refine HL.pa ?_ (POp.beqT rfl rfl (by first | rfl | decide)) | apply HL.fold | apply HA.fold | apply HL.nil | apply HX.n_then | apply HC.seq | apply HC.region | refine HL.pa ?_ | refine HL.ga rfl ?_ | refine HL.na rfl ?_ | refine HL.nu rfl rfl ?_ | apply HC.block | apply HC.skip | apply HC.exit | apply HC.ret | apply HX.e_block | refine HX.e_other rfl ?_ | apply HX.e_then | apply HX.e_again | apply HX.n_block | apply HX.r_then | apply HX.r_block | apply HX.r_again | refine HC.cond_yes rfl ?_ | refine HC.cond_no rfl ?_ | refine HL.one (H1.ldb rfl memA rfl rfl ?_) | refine HC.cond rfl (fun hc => ?_) (fun hc => ?_) | refine HC.cond_b rfl (fun hc => ?_) (fun hc => ?_))
    refine HL.one (H1.callz1 (α := Option Addr × Nat) (V := fun z => .slice z.1 (embL (bsL q 3) 5 d).length z.2) (An := fun z => A.grow 3 1 z.1 z.2 (embL (bsL q 3) 5 d).length (ints (embL (bsL q 3) 5 d))) (I := fun _ => True) (vs := [bsV q, zv 5, zv d]) rfl rfl (fun w' hM => Embargoed_fn 5 d w' (hM.base (q := q) memA) (hlen 3 (by decide))) ?_)
    rintro ⟨az, cz⟩ -
    dsimp only
    rw [e3]
    repeat' (first | refine HL.pa ?_ (POp.beqT rfl rfl (by first | rfl | decide)) | apply HL.fold | apply HA.fold | apply HL.nil | apply HX.n_then | apply HC.seq | apply HC.region | refine HL.pa ?_ | refine HL.ga rfl ?_ | refine HL.na rfl ?_ | refine HL.nu rfl rfl ?_ | apply HC.block | apply HC.skip | apply HC.exit | apply HC.ret | apply HX.e_block | refine HX.e_other rfl ?_ | apply HX.e_then | apply HX.e_again | apply HX.n_block | apply HX.r_then | apply HX.r_block | apply HX.r_again | refine HC.cond_yes rfl ?_ | refine HC.cond_no rfl ?_ | refine HL.one (H1.ldb rfl memA rfl rfl ?_) | refine HC.cond rfl (fun hc => ?_) (fun hc => ?_) | refine HC.cond_b rfl (fun hc => ?_) (fun hc => ?_))
    refine HL.one (H1.ldAgg (vs := row 8 fun i => slot (q i)) rfl memA rfl (fun i v hv => by rw [Nat.zero_add]; exact hv) rfl ?_)
    repeat' (first | refine HL.pa ?_ (POp.beqT rfl rfl (by first | rfl | decide)) | apply HL.fold | apply HA.fold | apply HL.nil | apply HX.n_then | apply HC.seq | apply HC.region | refine HL.pa ?_ | refine HL.ga rfl ?_ | refine HL.na rfl ?_ | refine HL.nu rfl rfl ?_ | apply HC.block | apply HC.skip | apply HC.exit | apply HC.ret | apply HX.e_block | refine HX.e_other rfl ?_ | apply HX.e_then | apply HX.e_again | apply HX.n_block | apply HX.r_then | apply HX.r_block | apply HX.r_again | refine HC.cond_yes rfl ?_ | refine HC.cond_no rfl ?_ | refine HL.one (H1.ldb rfl memA rfl rfl ?_) | refine HC.cond rfl (fun hc => ?_) (fun hc => ?_) | refine HC.cond_b rfl (fun hc => ?_) (fun hc => ?_))
    refine HL.one (H1.callz1 (α := Option Addr × Nat) (V := fun z => .slice z.1 (heldL (bsL q 4) (bsL q 5) 5 d).length z.2) (An := fun z => A.grow 3 1 z.1 z.2 (heldL (bsL q 4) (bsL q 5) 5 d).length (ints (heldL (bsL q 4) (bsL q 5) 5 d))) (I := fun _ => True) (vs := [bsV q, zv 5, zv d]) rfl rfl (fun w' hM => Held_fn 5 d w' (hM.base (q := q) memA) (hlen 4 (by decide)) (hlen 5 (by decide))) ?_)
    rintro ⟨az, cz⟩ -
    dsimp only
    rw [e4]
    repeat' (first | refine HL.pa ?_ (POp.beqT rfl rfl (by first | rfl | decide)) | apply HL.fold | apply HA.fold | apply HL.nil | apply HX.n_then | apply HC.seq | apply HC.region | refine HL.pa ?_ | refine HL.ga rfl ?_ | refine HL.na rfl ?_ | refine HL.nu rfl rfl ?_ | apply HC.block | apply HC.skip | apply HC.exit | apply HC.ret | apply HX.e_block | refine HX.e_other rfl ?_ | apply HX.e_then | apply HX.e_again | apply HX.n_block | apply HX.r_then | apply HX.r_block | apply HX.r_again | refine HC.cond_yes rfl ?_ | refine HC.cond_no rfl ?_ | refine HL.one (H1.ldb rfl memA rfl rfl ?_) | refine HC.cond rfl (fun hc => ?_) (fun hc => ?_) | refine HC.cond_b rfl (fun hc => ?_) (fun hc => ?_))
    refine HL.one (H1.ldAgg (vs := row 8 fun i => slot (q i)) rfl memA rfl (fun i v hv => by rw [Nat.zero_add]; exact hv) rfl ?_)
    repeat' (first | refine HL.pa ?_ (POp.beqT rfl rfl (by first | rfl | decide)) | apply HL.fold | apply HA.fold | apply HL.nil | apply HX.n_then | apply HC.seq | apply HC.region | refine HL.pa ?_ | refine HL.ga rfl ?_ | refine HL.na rfl ?_ | refine HL.nu rfl rfl ?_ | apply HC.block | apply HC.skip | apply HC.exit | apply HC.ret | apply HX.e_block | refine HX.e_other rfl ?_ | apply HX.e_then | apply HX.e_again | apply HX.n_block | apply HX.r_then | apply HX.r_block | apply HX.r_again | refine HC.cond_yes rfl ?_ | refine HC.cond_no rfl ?_ | refine HL.one (H1.ldb rfl memA rfl rfl ?_) | refine HC.cond rfl (fun hc => ?_) (fun hc => ?_) | refine HC.cond_b rfl (fun hc => ?_) (fun hc => ?_))
    refine HL.one (H1.callz1 (α := Option Addr × Nat) (V := fun z => .slice z.1 (hidL (bsL q 6) 5 4 d).length z.2) (An := fun z => A.grow 3 1 z.1 z.2 (hidL (bsL q 6) 5 4 d).length (ints (hidL (bsL q 6) 5 4 d))) (I := fun _ => True) (vs := [bsV q, zv 5, zv 4, zv d]) rfl rfl (fun w' hM => Hidden_fn 5 4 d w' (hM.base (q := q) memA) (hlen 6 (by decide))) ?_)
    rintro ⟨az, cz⟩ -
    dsimp only
    rw [e5]
    repeat' (first | refine HL.pa ?_ (POp.beqT rfl rfl (by first | rfl | decide)) | apply HL.fold | apply HA.fold | apply HL.nil | apply HX.n_then | apply HC.seq | apply HC.region | refine HL.pa ?_ | refine HL.ga rfl ?_ | refine HL.na rfl ?_ | refine HL.nu rfl rfl ?_ | apply HC.block | apply HC.skip | apply HC.exit | apply HC.ret | apply HX.e_block | refine HX.e_other rfl ?_ | apply HX.e_then | apply HX.e_again | apply HX.n_block | apply HX.r_then | apply HX.r_block | apply HX.r_again | refine HC.cond_yes rfl ?_ | refine HC.cond_no rfl ?_ | refine HL.one (H1.ldb rfl memA rfl rfl ?_) | refine HC.cond rfl (fun hc => ?_) (fun hc => ?_) | refine HC.cond_b rfl (fun hc => ?_) (fun hc => ?_))
    refine HL.one (H1.ldAgg (vs := row 8 fun i => slot (q i)) rfl memA rfl (fun i v hv => by rw [Nat.zero_add]; exact hv) rfl ?_)
    repeat' (first | refine HL.pa ?_ (POp.beqT rfl rfl (by first | rfl | decide)) | apply HL.fold | apply HA.fold | apply HL.nil | apply HX.n_then | apply HC.seq | apply HC.region | refine HL.pa ?_ | refine HL.ga rfl ?_ | refine HL.na rfl ?_ | refine HL.nu rfl rfl ?_ | apply HC.block | apply HC.skip | apply HC.exit | apply HC.ret | apply HX.e_block | refine HX.e_other rfl ?_ | apply HX.e_then | apply HX.e_again | apply HX.n_block | apply HX.r_then | apply HX.r_block | apply HX.r_again | refine HC.cond_yes rfl ?_ | refine HC.cond_no rfl ?_ | refine HL.one (H1.ldb rfl memA rfl rfl ?_) | refine HC.cond rfl (fun hc => ?_) (fun hc => ?_) | refine HC.cond_b rfl (fun hc => ?_) (fun hc => ?_))
    refine HL.one (H1.callz1 (α := Option Addr × Nat) (V := fun z => .slice z.1 (hidL (bsL q 6) 5 9 d).length z.2) (An := fun z => A.grow 3 1 z.1 z.2 (hidL (bsL q 6) 5 9 d).length (ints (hidL (bsL q 6) 5 9 d))) (I := fun _ => True) (vs := [bsV q, zv 5, zv 9, zv d]) rfl rfl (fun w' hM => Hidden_fn 5 9 d w' (hM.base (q := q) memA) (hlen 6 (by decide))) ?_)
    rintro ⟨az, cz⟩ -
    dsimp only
    rw [e6']
    repeat' (first | refine HL.pa ?_ (POp.beqT rfl rfl (by first | rfl | decide)) | apply HL.fold | apply HA.fold | apply HL.nil | apply HX.n_then | apply HC.seq | apply HC.region | refine HL.pa ?_ | refine HL.ga rfl ?_ | refine HL.na rfl ?_ | refine HL.nu rfl rfl ?_ | apply HC.block | apply HC.skip | apply HC.exit | apply HC.ret | apply HX.e_block | refine HX.e_other rfl ?_ | apply HX.e_then | apply HX.e_again | apply HX.n_block | apply HX.r_then | apply HX.r_block | apply HX.r_again | refine HC.cond_yes rfl ?_ | refine HC.cond_no rfl ?_ | refine HL.one (H1.ldb rfl memA rfl rfl ?_) | refine HC.cond rfl (fun hc => ?_) (fun hc => ?_) | refine HC.cond_b rfl (fun hc => ?_) (fun hc => ?_))
    refine HL.one (H1.ldAgg (vs := row 8 fun i => slot (q i)) rfl memA rfl (fun i v hv => by rw [Nat.zero_add]; exact hv) rfl ?_)
    repeat' (first | refine HL.pa ?_ (POp.beqT rfl rfl (by first | rfl | decide)) | apply HL.fold | apply HA.fold | apply HL.nil | apply HX.n_then | apply HC.seq | apply HC.region | refine HL.pa ?_ | refine HL.ga rfl ?_ | refine HL.na rfl ?_ | refine HL.nu rfl rfl ?_ | apply HC.block | apply HC.skip | apply HC.exit | apply HC.ret | apply HX.e_block | refine HX.e_other rfl ?_ | apply HX.e_then | apply HX.e_again | apply HX.n_block | apply HX.r_then | apply HX.r_block | apply HX.r_again | refine HC.cond_yes rfl ?_ | refine HC.cond_no rfl ?_ | refine HL.one (H1.ldb rfl memA rfl rfl ?_) | refine HC.cond rfl (fun hc => ?_) (fun hc => ?_) | refine HC.cond_b rfl (fun hc => ?_) (fun hc => ?_))
    refine HL.one (H1.callx (u := .bool false) (vs := [bsV q, zv 4, zv n, zv d]) rfl rfl (fun w' hM => by have h := Has_fn 4 n d w' (hM.base (q := q) memA) (hlen 0 (by decide)); rw [e7] at h; exact h) ?_)
    repeat' (first | refine HL.pa ?_ (POp.beqT rfl rfl (by first | rfl | decide)) | apply HL.fold | apply HA.fold | apply HL.nil | apply HX.n_then | apply HC.seq | apply HC.region | refine HL.pa ?_ | refine HL.ga rfl ?_ | refine HL.na rfl ?_ | refine HL.nu rfl rfl ?_ | apply HC.block | apply HC.skip | apply HC.exit | apply HC.ret | apply HX.e_block | refine HX.e_other rfl ?_ | apply HX.e_then | apply HX.e_again | apply HX.n_block | apply HX.r_then | apply HX.r_block | apply HX.r_again | refine HC.cond_yes rfl ?_ | refine HC.cond_no rfl ?_ | refine HL.one (H1.ldb rfl memA rfl rfl ?_) | refine HC.cond rfl (fun hc => ?_) (fun hc => ?_) | refine HC.cond_b rfl (fun hc => ?_) (fun hc => ?_))
    refine HL.one (H1.ldAgg (vs := row 8 fun i => slot (q i)) rfl memA rfl (fun i v hv => by rw [Nat.zero_add]; exact hv) rfl ?_)
    repeat' (first | refine HL.pa ?_ (POp.beqT rfl rfl (by first | rfl | decide)) | apply HL.fold | apply HA.fold | apply HL.nil | apply HX.n_then | apply HC.seq | apply HC.region | refine HL.pa ?_ | refine HL.ga rfl ?_ | refine HL.na rfl ?_ | refine HL.nu rfl rfl ?_ | apply HC.block | apply HC.skip | apply HC.exit | apply HC.ret | apply HX.e_block | refine HX.e_other rfl ?_ | apply HX.e_then | apply HX.e_again | apply HX.n_block | apply HX.r_then | apply HX.r_block | apply HX.r_again | refine HC.cond_yes rfl ?_ | refine HC.cond_no rfl ?_ | refine HL.one (H1.ldb rfl memA rfl rfl ?_) | refine HC.cond rfl (fun hc => ?_) (fun hc => ?_) | refine HC.cond_b rfl (fun hc => ?_) (fun hc => ?_))
    refine HL.one (H1.callz1 (α := Option Addr × Nat) (V := fun z => .slice z.1 (heldL (bsL q 4) (bsL q 5) 6 d).length z.2) (An := fun z => A.grow 3 1 z.1 z.2 (heldL (bsL q 4) (bsL q 5) 6 d).length (ints (heldL (bsL q 4) (bsL q 5) 6 d))) (I := fun _ => True) (vs := [bsV q, zv 6, zv d]) rfl rfl (fun w' hM => Held_fn 6 d w' (hM.base (q := q) memA) (hlen 4 (by decide)) (hlen 5 (by decide))) ?_)
    rintro ⟨az, cz⟩ -
    dsimp only
    rw [e8']
    repeat' (first | refine HL.pa ?_ (POp.beqT rfl rfl (by first | rfl | decide)) | apply HL.fold | apply HA.fold | apply HL.nil | apply HX.n_then | apply HC.seq | apply HC.region | refine HL.pa ?_ | refine HL.ga rfl ?_ | refine HL.na rfl ?_ | refine HL.nu rfl rfl ?_ | apply HC.block | apply HC.skip | apply HC.exit | apply HC.ret | apply HX.e_block | refine HX.e_other rfl ?_ | apply HX.e_then | apply HX.e_again | apply HX.n_block | apply HX.r_then | apply HX.r_block | apply HX.r_again | refine HC.cond_yes rfl ?_ | refine HC.cond_no rfl ?_ | refine HL.one (H1.ldb rfl memA rfl rfl ?_) | refine HC.cond rfl (fun hc => ?_) (fun hc => ?_) | refine HC.cond_b rfl (fun hc => ?_) (fun hc => ?_))
    exact HX.ret1 rfl rfl fun w' hM => ⟨rfl, hM.ext⟩
  · rw [if_pos rfl] at e3 e4 e5
    repeat' (first | refine HL.pa ?_ (POp.beqT rfl rfl (by first | rfl | decide)) | apply HL.fold | apply HA.fold | apply HL.nil | apply HX.n_then | apply HC.seq | apply HC.region | refine HL.pa ?_ | refine HL.ga rfl ?_ | refine HL.na rfl ?_ | refine HL.nu rfl rfl ?_ | apply HC.block | apply HC.skip | apply HC.exit | apply HC.ret | apply HX.e_block | refine HX.e_other rfl ?_ | apply HX.e_then | apply HX.e_again | apply HX.n_block | apply HX.r_then | apply HX.r_block | apply HX.r_again | refine HC.cond_yes rfl ?_ | refine HC.cond_no rfl ?_ | refine HL.one (H1.ldb rfl memA rfl rfl ?_) | refine HC.cond rfl (fun hc => ?_) (fun hc => ?_) | refine HC.cond_b rfl (fun hc => ?_) (fun hc => ?_))
    refine HL.one (H1.ldAgg (vs := row 8 fun i => slot (q i)) rfl memA rfl (fun i v hv => by rw [Nat.zero_add]; exact hv) rfl ?_)
    repeat' (first | refine HL.pa ?_ (POp.beqT rfl rfl (by first | rfl | decide)) | apply HL.fold | apply HA.fold | apply HL.nil | apply HX.n_then | apply HC.seq | apply HC.region | refine HL.pa ?_ | refine HL.ga rfl ?_ | refine HL.na rfl ?_ | refine HL.nu rfl rfl ?_ | apply HC.block | apply HC.skip | apply HC.exit | apply HC.ret | apply HX.e_block | refine HX.e_other rfl ?_ | apply HX.e_then | apply HX.e_again | apply HX.n_block | apply HX.r_then | apply HX.r_block | apply HX.r_again | refine HC.cond_yes rfl ?_ | refine HC.cond_no rfl ?_ | refine HL.one (H1.ldb rfl memA rfl rfl ?_) | refine HC.cond rfl (fun hc => ?_) (fun hc => ?_) | refine HC.cond_b rfl (fun hc => ?_) (fun hc => ?_))
    refine HL.one (H1.callx (u := .bool true) (vs := [bsV q, zv 3, zv n, zv d]) rfl rfl (fun w' hM => by have h := Has_fn 3 n d w' (hM.base (q := q) memA) (hlen 0 (by decide)); rw [e1] at h; exact h) ?_)
    repeat' (first | refine HL.pa ?_ (POp.beqT rfl rfl (by first | rfl | decide)) | apply HL.fold | apply HA.fold | apply HL.nil | apply HX.n_then | apply HC.seq | apply HC.region | refine HL.pa ?_ | refine HL.ga rfl ?_ | refine HL.na rfl ?_ | refine HL.nu rfl rfl ?_ | apply HC.block | apply HC.skip | apply HC.exit | apply HC.ret | apply HX.e_block | refine HX.e_other rfl ?_ | apply HX.e_then | apply HX.e_again | apply HX.n_block | apply HX.r_then | apply HX.r_block | apply HX.r_again | refine HC.cond_yes rfl ?_ | refine HC.cond_no rfl ?_ | refine HL.one (H1.ldb rfl memA rfl rfl ?_) | refine HC.cond rfl (fun hc => ?_) (fun hc => ?_) | refine HC.cond_b rfl (fun hc => ?_) (fun hc => ?_))
    refine HL.one (H1.ldAgg (vs := row 8 fun i => slot (q i)) rfl memA rfl (fun i v hv => by rw [Nat.zero_add]; exact hv) rfl ?_)
    repeat' (first | refine HL.pa ?_ (POp.beqT rfl rfl (by first | rfl | decide)) | apply HL.fold | apply HA.fold | apply HL.nil | apply HX.n_then | apply HC.seq | apply HC.region | refine HL.pa ?_ | refine HL.ga rfl ?_ | refine HL.na rfl ?_ | refine HL.nu rfl rfl ?_ | apply HC.block | apply HC.skip | apply HC.exit | apply HC.ret | apply HX.e_block | refine HX.e_other rfl ?_ | apply HX.e_then | apply HX.e_again | apply HX.n_block | apply HX.r_then | apply HX.r_block | apply HX.r_again | refine HC.cond_yes rfl ?_ | refine HC.cond_no rfl ?_ | refine HL.one (H1.ldb rfl memA rfl rfl ?_) | refine HC.cond rfl (fun hc => ?_) (fun hc => ?_) | refine HC.cond_b rfl (fun hc => ?_) (fun hc => ?_))
    refine HL.one (H1.callx (u := .bool true) (vs := [bsV q, zv 5, zv 9, zv d]) rfl rfl (fun w' hM => by have h := Consents_fn 5 9 d w' (hM.base (q := q) memA) (hlen 2 (by decide)); rw [e2] at h; exact h) ?_)
    repeat' (first | refine HL.pa ?_ (POp.beqT rfl rfl (by first | rfl | decide)) | apply HL.fold | apply HA.fold | apply HL.nil | apply HX.n_then | apply HC.seq | apply HC.region | refine HL.pa ?_ | refine HL.ga rfl ?_ | refine HL.na rfl ?_ | refine HL.nu rfl rfl ?_ | apply HC.block | apply HC.skip | apply HC.exit | apply HC.ret | apply HX.e_block | refine HX.e_other rfl ?_ | apply HX.e_then | apply HX.e_again | apply HX.n_block | apply HX.r_then | apply HX.r_block | apply HX.r_again | refine HC.cond_yes rfl ?_ | refine HC.cond_no rfl ?_ | refine HL.one (H1.ldb rfl memA rfl rfl ?_) | refine HC.cond rfl (fun hc => ?_) (fun hc => ?_) | refine HC.cond_b rfl (fun hc => ?_) (fun hc => ?_))
    refine HL.one (H1.ldAgg (vs := row 8 fun i => slot (q i)) rfl memA rfl (fun i v hv => by rw [Nat.zero_add]; exact hv) rfl ?_)
    repeat' (first | refine HL.pa ?_ (POp.beqT rfl rfl (by first | rfl | decide)) | apply HL.fold | apply HA.fold | apply HL.nil | apply HX.n_then | apply HC.seq | apply HC.region | refine HL.pa ?_ | refine HL.ga rfl ?_ | refine HL.na rfl ?_ | refine HL.nu rfl rfl ?_ | apply HC.block | apply HC.skip | apply HC.exit | apply HC.ret | apply HX.e_block | refine HX.e_other rfl ?_ | apply HX.e_then | apply HX.e_again | apply HX.n_block | apply HX.r_then | apply HX.r_block | apply HX.r_again | refine HC.cond_yes rfl ?_ | refine HC.cond_no rfl ?_ | refine HL.one (H1.ldb rfl memA rfl rfl ?_) | refine HC.cond rfl (fun hc => ?_) (fun hc => ?_) | refine HC.cond_b rfl (fun hc => ?_) (fun hc => ?_))
    refine HL.one (H1.callz1 (α := Option Addr × Nat) (V := fun z => .slice z.1 (embL (bsL q 3) 5 d).length z.2) (An := fun z => A.grow 3 1 z.1 z.2 (embL (bsL q 3) 5 d).length (ints (embL (bsL q 3) 5 d))) (I := fun _ => True) (vs := [bsV q, zv 5, zv d]) rfl rfl (fun w' hM => Embargoed_fn 5 d w' (hM.base (q := q) memA) (hlen 3 (by decide))) ?_)
    rintro ⟨az, cz⟩ -
    dsimp only
    rw [e3]
    repeat' (first | refine HL.pa ?_ (POp.beqT rfl rfl (by first | rfl | decide)) | apply HL.fold | apply HA.fold | apply HL.nil | apply HX.n_then | apply HC.seq | apply HC.region | refine HL.pa ?_ | refine HL.ga rfl ?_ | refine HL.na rfl ?_ | refine HL.nu rfl rfl ?_ | apply HC.block | apply HC.skip | apply HC.exit | apply HC.ret | apply HX.e_block | refine HX.e_other rfl ?_ | apply HX.e_then | apply HX.e_again | apply HX.n_block | apply HX.r_then | apply HX.r_block | apply HX.r_again | refine HC.cond_yes rfl ?_ | refine HC.cond_no rfl ?_ | refine HL.one (H1.ldb rfl memA rfl rfl ?_) | refine HC.cond rfl (fun hc => ?_) (fun hc => ?_) | refine HC.cond_b rfl (fun hc => ?_) (fun hc => ?_))
    refine HL.one (H1.ldAgg (vs := row 8 fun i => slot (q i)) rfl memA rfl (fun i v hv => by rw [Nat.zero_add]; exact hv) rfl ?_)
    repeat' (first | refine HL.pa ?_ (POp.beqT rfl rfl (by first | rfl | decide)) | apply HL.fold | apply HA.fold | apply HL.nil | apply HX.n_then | apply HC.seq | apply HC.region | refine HL.pa ?_ | refine HL.ga rfl ?_ | refine HL.na rfl ?_ | refine HL.nu rfl rfl ?_ | apply HC.block | apply HC.skip | apply HC.exit | apply HC.ret | apply HX.e_block | refine HX.e_other rfl ?_ | apply HX.e_then | apply HX.e_again | apply HX.n_block | apply HX.r_then | apply HX.r_block | apply HX.r_again | refine HC.cond_yes rfl ?_ | refine HC.cond_no rfl ?_ | refine HL.one (H1.ldb rfl memA rfl rfl ?_) | refine HC.cond rfl (fun hc => ?_) (fun hc => ?_) | refine HC.cond_b rfl (fun hc => ?_) (fun hc => ?_))
    refine HL.one (H1.callz1 (α := Option Addr × Nat) (V := fun z => .slice z.1 (heldL (bsL q 4) (bsL q 5) 5 d).length z.2) (An := fun z => A.grow 3 1 z.1 z.2 (heldL (bsL q 4) (bsL q 5) 5 d).length (ints (heldL (bsL q 4) (bsL q 5) 5 d))) (I := fun _ => True) (vs := [bsV q, zv 5, zv d]) rfl rfl (fun w' hM => Held_fn 5 d w' (hM.base (q := q) memA) (hlen 4 (by decide)) (hlen 5 (by decide))) ?_)
    rintro ⟨az, cz⟩ -
    dsimp only
    rw [e4]
    repeat' (first | refine HL.pa ?_ (POp.beqT rfl rfl (by first | rfl | decide)) | apply HL.fold | apply HA.fold | apply HL.nil | apply HX.n_then | apply HC.seq | apply HC.region | refine HL.pa ?_ | refine HL.ga rfl ?_ | refine HL.na rfl ?_ | refine HL.nu rfl rfl ?_ | apply HC.block | apply HC.skip | apply HC.exit | apply HC.ret | apply HX.e_block | refine HX.e_other rfl ?_ | apply HX.e_then | apply HX.e_again | apply HX.n_block | apply HX.r_then | apply HX.r_block | apply HX.r_again | refine HC.cond_yes rfl ?_ | refine HC.cond_no rfl ?_ | refine HL.one (H1.ldb rfl memA rfl rfl ?_) | refine HC.cond rfl (fun hc => ?_) (fun hc => ?_) | refine HC.cond_b rfl (fun hc => ?_) (fun hc => ?_))
    refine HL.one (H1.ldAgg (vs := row 8 fun i => slot (q i)) rfl memA rfl (fun i v hv => by rw [Nat.zero_add]; exact hv) rfl ?_)
    repeat' (first | refine HL.pa ?_ (POp.beqT rfl rfl (by first | rfl | decide)) | apply HL.fold | apply HA.fold | apply HL.nil | apply HX.n_then | apply HC.seq | apply HC.region | refine HL.pa ?_ | refine HL.ga rfl ?_ | refine HL.na rfl ?_ | refine HL.nu rfl rfl ?_ | apply HC.block | apply HC.skip | apply HC.exit | apply HC.ret | apply HX.e_block | refine HX.e_other rfl ?_ | apply HX.e_then | apply HX.e_again | apply HX.n_block | apply HX.r_then | apply HX.r_block | apply HX.r_again | refine HC.cond_yes rfl ?_ | refine HC.cond_no rfl ?_ | refine HL.one (H1.ldb rfl memA rfl rfl ?_) | refine HC.cond rfl (fun hc => ?_) (fun hc => ?_) | refine HC.cond_b rfl (fun hc => ?_) (fun hc => ?_))
    refine HL.one (H1.callz1 (α := Option Addr × Nat) (V := fun z => .slice z.1 (hidL (bsL q 6) 5 4 d).length z.2) (An := fun z => A.grow 3 1 z.1 z.2 (hidL (bsL q 6) 5 4 d).length (ints (hidL (bsL q 6) 5 4 d))) (I := fun _ => True) (vs := [bsV q, zv 5, zv 4, zv d]) rfl rfl (fun w' hM => Hidden_fn 5 4 d w' (hM.base (q := q) memA) (hlen 6 (by decide))) ?_)
    rintro ⟨az, cz⟩ -
    dsimp only
    rw [e5]
    repeat' (first | refine HL.pa ?_ (POp.beqT rfl rfl (by first | rfl | decide)) | apply HL.fold | apply HA.fold | apply HL.nil | apply HX.n_then | apply HC.seq | apply HC.region | refine HL.pa ?_ | refine HL.ga rfl ?_ | refine HL.na rfl ?_ | refine HL.nu rfl rfl ?_ | apply HC.block | apply HC.skip | apply HC.exit | apply HC.ret | apply HX.e_block | refine HX.e_other rfl ?_ | apply HX.e_then | apply HX.e_again | apply HX.n_block | apply HX.r_then | apply HX.r_block | apply HX.r_again | refine HC.cond_yes rfl ?_ | refine HC.cond_no rfl ?_ | refine HL.one (H1.ldb rfl memA rfl rfl ?_) | refine HC.cond rfl (fun hc => ?_) (fun hc => ?_) | refine HC.cond_b rfl (fun hc => ?_) (fun hc => ?_))
    refine HL.one (H1.ldAgg (vs := row 8 fun i => slot (q i)) rfl memA rfl (fun i v hv => by rw [Nat.zero_add]; exact hv) rfl ?_)
    repeat' (first | refine HL.pa ?_ (POp.beqT rfl rfl (by first | rfl | decide)) | apply HL.fold | apply HA.fold | apply HL.nil | apply HX.n_then | apply HC.seq | apply HC.region | refine HL.pa ?_ | refine HL.ga rfl ?_ | refine HL.na rfl ?_ | refine HL.nu rfl rfl ?_ | apply HC.block | apply HC.skip | apply HC.exit | apply HC.ret | apply HX.e_block | refine HX.e_other rfl ?_ | apply HX.e_then | apply HX.e_again | apply HX.n_block | apply HX.r_then | apply HX.r_block | apply HX.r_again | refine HC.cond_yes rfl ?_ | refine HC.cond_no rfl ?_ | refine HL.one (H1.ldb rfl memA rfl rfl ?_) | refine HC.cond rfl (fun hc => ?_) (fun hc => ?_) | refine HC.cond_b rfl (fun hc => ?_) (fun hc => ?_))
    refine HL.one (H1.callz1 (α := Option Addr × Nat) (V := fun z => .slice z.1 (hidL (bsL q 6) 5 9 d).length z.2) (An := fun z => A.grow 3 1 z.1 z.2 (hidL (bsL q 6) 5 9 d).length (ints (hidL (bsL q 6) 5 9 d))) (I := fun _ => True) (vs := [bsV q, zv 5, zv 9, zv d]) rfl rfl (fun w' hM => Hidden_fn 5 9 d w' (hM.base (q := q) memA) (hlen 6 (by decide))) ?_)
    rintro ⟨az, cz⟩ -
    dsimp only
    rw [e6']
    repeat' (first | refine HL.pa ?_ (POp.beqT rfl rfl (by first | rfl | decide)) | apply HL.fold | apply HA.fold | apply HL.nil | apply HX.n_then | apply HC.seq | apply HC.region | refine HL.pa ?_ | refine HL.ga rfl ?_ | refine HL.na rfl ?_ | refine HL.nu rfl rfl ?_ | apply HC.block | apply HC.skip | apply HC.exit | apply HC.ret | apply HX.e_block | refine HX.e_other rfl ?_ | apply HX.e_then | apply HX.e_again | apply HX.n_block | apply HX.r_then | apply HX.r_block | apply HX.r_again | refine HC.cond_yes rfl ?_ | refine HC.cond_no rfl ?_ | refine HL.one (H1.ldb rfl memA rfl rfl ?_) | refine HC.cond rfl (fun hc => ?_) (fun hc => ?_) | refine HC.cond_b rfl (fun hc => ?_) (fun hc => ?_))
    refine HL.one (H1.ldAgg (vs := row 8 fun i => slot (q i)) rfl memA rfl (fun i v hv => by rw [Nat.zero_add]; exact hv) rfl ?_)
    repeat' (first | refine HL.pa ?_ (POp.beqT rfl rfl (by first | rfl | decide)) | apply HL.fold | apply HA.fold | apply HL.nil | apply HX.n_then | apply HC.seq | apply HC.region | refine HL.pa ?_ | refine HL.ga rfl ?_ | refine HL.na rfl ?_ | refine HL.nu rfl rfl ?_ | apply HC.block | apply HC.skip | apply HC.exit | apply HC.ret | apply HX.e_block | refine HX.e_other rfl ?_ | apply HX.e_then | apply HX.e_again | apply HX.n_block | apply HX.r_then | apply HX.r_block | apply HX.r_again | refine HC.cond_yes rfl ?_ | refine HC.cond_no rfl ?_ | refine HL.one (H1.ldb rfl memA rfl rfl ?_) | refine HC.cond rfl (fun hc => ?_) (fun hc => ?_) | refine HC.cond_b rfl (fun hc => ?_) (fun hc => ?_))
    refine HL.one (H1.callx (u := .bool false) (vs := [bsV q, zv 4, zv n, zv d]) rfl rfl (fun w' hM => by have h := Has_fn 4 n d w' (hM.base (q := q) memA) (hlen 0 (by decide)); rw [e7] at h; exact h) ?_)
    repeat' (first | refine HL.pa ?_ (POp.beqT rfl rfl (by first | rfl | decide)) | apply HL.fold | apply HA.fold | apply HL.nil | apply HX.n_then | apply HC.seq | apply HC.region | refine HL.pa ?_ | refine HL.ga rfl ?_ | refine HL.na rfl ?_ | refine HL.nu rfl rfl ?_ | apply HC.block | apply HC.skip | apply HC.exit | apply HC.ret | apply HX.e_block | refine HX.e_other rfl ?_ | apply HX.e_then | apply HX.e_again | apply HX.n_block | apply HX.r_then | apply HX.r_block | apply HX.r_again | refine HC.cond_yes rfl ?_ | refine HC.cond_no rfl ?_ | refine HL.one (H1.ldb rfl memA rfl rfl ?_) | refine HC.cond rfl (fun hc => ?_) (fun hc => ?_) | refine HC.cond_b rfl (fun hc => ?_) (fun hc => ?_))
    refine HL.one (H1.ldAgg (vs := row 8 fun i => slot (q i)) rfl memA rfl (fun i v hv => by rw [Nat.zero_add]; exact hv) rfl ?_)
    repeat' (first | refine HL.pa ?_ (POp.beqT rfl rfl (by first | rfl | decide)) | apply HL.fold | apply HA.fold | apply HL.nil | apply HX.n_then | apply HC.seq | apply HC.region | refine HL.pa ?_ | refine HL.ga rfl ?_ | refine HL.na rfl ?_ | refine HL.nu rfl rfl ?_ | apply HC.block | apply HC.skip | apply HC.exit | apply HC.ret | apply HX.e_block | refine HX.e_other rfl ?_ | apply HX.e_then | apply HX.e_again | apply HX.n_block | apply HX.r_then | apply HX.r_block | apply HX.r_again | refine HC.cond_yes rfl ?_ | refine HC.cond_no rfl ?_ | refine HL.one (H1.ldb rfl memA rfl rfl ?_) | refine HC.cond rfl (fun hc => ?_) (fun hc => ?_) | refine HC.cond_b rfl (fun hc => ?_) (fun hc => ?_))
    refine HL.one (H1.callz1 (α := Option Addr × Nat) (V := fun z => .slice z.1 (heldL (bsL q 4) (bsL q 5) 6 d).length z.2) (An := fun z => A.grow 3 1 z.1 z.2 (heldL (bsL q 4) (bsL q 5) 6 d).length (ints (heldL (bsL q 4) (bsL q 5) 6 d))) (I := fun _ => True) (vs := [bsV q, zv 6, zv d]) rfl rfl (fun w' hM => Held_fn 6 d w' (hM.base (q := q) memA) (hlen 4 (by decide)) (hlen 5 (by decide))) ?_)
    rintro ⟨az, cz⟩ -
    dsimp only
    rw [e8']
    repeat' (first | refine HL.pa ?_ (POp.beqT rfl rfl (by first | rfl | decide)) | apply HL.fold | apply HA.fold | apply HL.nil | apply HX.n_then | apply HC.seq | apply HC.region | refine HL.pa ?_ | refine HL.ga rfl ?_ | refine HL.na rfl ?_ | refine HL.nu rfl rfl ?_ | apply HC.block | apply HC.skip | apply HC.exit | apply HC.ret | apply HX.e_block | refine HX.e_other rfl ?_ | apply HX.e_then | apply HX.e_again | apply HX.n_block | apply HX.r_then | apply HX.r_block | apply HX.r_again | refine HC.cond_yes rfl ?_ | refine HC.cond_no rfl ?_ | refine HL.one (H1.ldb rfl memA rfl rfl ?_) | refine HC.cond rfl (fun hc => ?_) (fun hc => ?_) | refine HC.cond_b rfl (fun hc => ?_) (fun hc => ?_))
    exact HX.ret1 rfl rfl fun w' hM => ⟨rfl, hM.ext⟩
end Go.Sx

