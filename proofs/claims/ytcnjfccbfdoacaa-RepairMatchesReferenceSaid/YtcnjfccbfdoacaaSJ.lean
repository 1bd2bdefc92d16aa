/- The law RepairMatchesReference. -/
import Derived.Test.YtcnjfccbfdoacaaSH
import Derived.Test.YtcnjfccbfdoacaaSF
import Derived.Test.YtcnjfccbfdoacaaSI
namespace Go.Sx
open Go Go.Proofs
section
attribute [local irreducible] WC WL WX POp Then Again Fn NX W1 WA WO QL RP RA Yld LoopAt HC HL HX HN H1 HA HO HQ A.blk A.grow A.rd A.obj AgainH CutH
theorem few0_fn (v : Value) (l : List Int) (w : World) (hR : Rd w v (ints l)) :
    Fn Try.prog 12 #[v] w fun u w' => ∃ z : Option Addr × Nat, True ∧ u = .slice z.1 (l.take 10).length z.2 ∧ Mm w [A.grow 3 1 z.1 z.2 (l.take 10).length (ints (l.take 10))] w' := by
  obtain ⟨a, c, rfl, hc⟩ := hR.isInts
  refine enterH (l := [_]) rfl Try.ntmps12 rfl ?_
  have hk : min l.length 10 ≤ l.length := Nat.min_le_left _ _
  have hk10 : min l.length 10 ≤ 10 := Nat.min_le_right _ _
  have hm : (min (l.length : Int) 10) = ((min l.length 10 : Nat) : Int) := by omega
  have he : (l.take 10) = l.take (min l.length 10) := by
    by_cases h : l.length ≤ 10
    · rw [Nat.min_eq_left h, List.take_of_length_le h, List.take_length]
    · rw [Nat.min_eq_right (by omega)]
  rw [he]
  generalize min l.length 10 = k at *
  have hR' := hR.itake hk
  have hlen : (ints (l.take k)).length = k := by rw [ints_len, List.length_take]; omega
  repeat' (first | apply HL.fold | apply HA.fold | apply HL.nil | apply HX.n_then | apply HC.seq | apply HC.region | refine HL.pa ?_ | refine HL.ga rfl ?_ | refine HL.na rfl ?_ | refine HL.nu rfl rfl ?_ | apply HC.block | apply HC.skip | apply HC.exit | apply HC.ret | apply HX.e_block | refine HX.e_other rfl ?_ | apply HX.e_then | apply HX.e_again | apply HX.n_block | apply HX.r_then | apply HX.r_block | apply HX.r_again | refine HC.cond_yes rfl ?_ | refine HC.cond_no rfl ?_ | refine HL.one (H1.ldb rfl memA rfl rfl ?_) | refine HC.cond rfl (fun hc => ?_) (fun hc => ?_) | refine HC.cond_b rfl (fun hc => ?_) (fun hc => ?_))
  refine HL.one (H1.lit0 rfl (fun b => ?_))
  repeat' (first | apply HL.fold | apply HA.fold | apply HL.nil | apply HX.n_then | apply HC.seq | apply HC.region | refine HL.pa ?_ | refine HL.ga rfl ?_ | refine HL.na rfl ?_ | refine HL.nu rfl rfl ?_ | apply HC.block | apply HC.skip | apply HC.exit | apply HC.ret | apply HX.e_block | refine HX.e_other rfl ?_ | apply HX.e_then | apply HX.e_again | apply HX.n_block | apply HX.r_then | apply HX.r_block | apply HX.r_again | refine HC.cond_yes rfl ?_ | refine HC.cond_no rfl ?_ | refine HL.one (H1.ldb rfl memA rfl rfl ?_) | refine HC.cond rfl (fun hc => ?_) (fun hc => ?_) | refine HC.cond_b rfl (fun hc => ?_) (fun hc => ?_))
  rw [hm]
  refine HL.pa ?_ (POp.cut_hi hR rfl rfl (by omega) (by omega))
  rw [Int.toNat_natCast]
  refine HL.one (H1.appR (vs := ints (l.take k)) rfl rfl (by rw [hlen]; rfl) (fun _ _ => by first | ((repeat (first | with_reducible exact Rpl.here | with_reducible apply Rpl.there)); done) | (repeat (first | exact Rpl.here | apply Rpl.there))) (fun w hM => by rw [hlen]; exact hM.rd0 hR') ?_ (by rw [hlen]; omega) (by decide) rfl (.inl rfl) (fun a2 c2 _ => ?_))
  · intro u hu
    obtain ⟨x, -, rfl⟩ := List.mem_map.1 hu
    rfl
  rw [hlen, Nat.zero_add, List.nil_append]
  repeat' (first | apply HL.fold | apply HA.fold | apply HL.nil | apply HX.n_then | apply HC.seq | apply HC.region | refine HL.pa ?_ | refine HL.ga rfl ?_ | refine HL.na rfl ?_ | refine HL.nu rfl rfl ?_ | apply HC.block | apply HC.skip | apply HC.exit | apply HC.ret | apply HX.e_block | refine HX.e_other rfl ?_ | apply HX.e_then | apply HX.e_again | apply HX.n_block | apply HX.r_then | apply HX.r_block | apply HX.r_again | refine HC.cond_yes rfl ?_ | refine HC.cond_no rfl ?_ | refine HL.one (H1.ldb rfl memA rfl rfl ?_) | refine HC.cond rfl (fun hc => ?_) (fun hc => ?_) | refine HC.cond_b rfl (fun hc => ?_) (fun hc => ?_))
  refine HX.ret1 rfl rfl fun w' hM => ⟨(a2, c2), trivial, ?_, ?_⟩
  · rw [List.length_take, Nat.min_eq_left hk]
  · rw [List.length_take, Nat.min_eq_left hk]; exact hM
end
theorem planR_ok {holders lost to : List Int} {width k deadline : Int} : (planR holders lost to width k deadline).length ≤ lost.length ∧ ∀ t ∈ planR holders lost to width k deadline, i64B t.stop ∧ t.src.length ≤ 9 := by
  by_cases hb : planB holders lost to width k deadline = true
  · have hr : Right holders lost width k deadline := Classical.byContradiction fun h => by
      unfold planB goodB at hb
      rw [rightB_no h] at hb
      simp at hb
    have e : planR holders lost to width k deadline = planAt (survS holders lost) lost to width.toNat k.toNat deadline.toNat := by unfold planR; rw [if_pos hb]; rfl
    rw [e]
    have hd := hr.d
    have hk := hr.k
    have hn := hr.n9
    refine ⟨plan_len_le _, fun t ht => ?_⟩
    have h1 := plan_stop _ t ht
    have h2 := plan_src _ t ht
    exact ⟨⟨by omega, by omega⟩, by omega⟩
  · have e : planR holders lost to width k deadline = [] := by unfold planR; rw [if_neg hb]
    rw [e]
    exact ⟨Nat.zero_le _, fun t ht => absurd ht List.not_mem_nil⟩
attribute [local irreducible] WC WL WX POp Then Again Fn NX W1 WA WO QL RP RA Yld LoopAt HC HL HX HN H1 HA HO HQ HB HP A.blk A.grow A.rd A.obj A.mp AgainH CutH
attribute [local irreducible] A.all A.ts
theorem valid0W_fn (c : CaseP) (zh zl zt : Option Addr × Nat) (t : Value) (l : List Tr) (hh : c.holders.length ≤ 1000000) (hl : c.lost.length ≤ 100000) (ht : l.length ≤ 100000) (w : World) (hR : Rd w (.slice zh.1 c.holders.length zh.2) (ints c.holders)) (hS : Rd w (.slice zl.1 c.lost.length zl.2) (ints c.lost)) (hT : RdT w t l) :
    Fn Try.prog 17 #[.agg (caseV c zh zl zt).toArray, t] w fun x w' => x = .bool (validB c.holders c.lost c.width c.k c.deadline l) ∧ Ext w w' := by
  refine enterH (l := [_, _]) rfl Try.ntmps17 rfl ?_
  repeat' (first | apply HL.fold | apply HA.fold | apply HL.nil | apply HX.n_then | apply HC.seq | apply HC.region | refine HL.pa ?_ | refine HL.ga rfl ?_ | refine HL.na rfl ?_ | refine HL.nu rfl rfl ?_ | apply HC.block | apply HC.skip | apply HC.exit | apply HC.ret | apply HX.e_block | refine HX.e_other rfl ?_ | apply HX.e_then | apply HX.e_again | apply HX.n_block | apply HX.r_then | apply HX.r_block | apply HX.r_again | refine HC.cond_yes rfl ?_ | refine HC.cond_no rfl ?_ | refine HL.one (H1.ldb rfl memA rfl rfl ?_) | refine HC.cond rfl (fun hc => ?_) (fun hc => ?_) | refine HC.cond_b rfl (fun hc => ?_) (fun hc => ?_))
  refine HL.one (H1.boxAgg (cs := caseV c zh zl zt) rfl rfl (fun b1 => ?_))
  unfold caseV
  repeat' (first | apply HL.fold | apply HA.fold | apply HL.nil | apply HX.n_then | apply HC.seq | apply HC.region | refine HL.pa ?_ | refine HL.ga rfl ?_ | refine HL.na rfl ?_ | refine HL.nu rfl rfl ?_ | apply HC.block | apply HC.skip | apply HC.exit | apply HC.ret | apply HX.e_block | refine HX.e_other rfl ?_ | apply HX.e_then | apply HX.e_again | apply HX.n_block | apply HX.r_then | apply HX.r_block | apply HX.r_again | refine HC.cond_yes rfl ?_ | refine HC.cond_no rfl ?_ | refine HL.one (H1.ldb rfl memA rfl rfl ?_) | refine HC.cond rfl (fun hc => ?_) (fun hc => ?_) | refine HC.cond_b rfl (fun hc => ?_) (fun hc => ?_))
  refine HL.one (H1.callx (vs := [.slice zh.1 c.holders.length zh.2, .slice zl.1 c.lost.length zl.2, .int .i64 c.width, .int .i64 c.k, .int .i64 c.deadline, t]) rfl rfl (fun w' hM => valid0_fn _ _ _ c.holders c.lost c.width c.k c.deadline l hh hl ht w' (hM.rd0 hR) (hM.rd0 hS) (hT.ext hM.ext)) ?_)
  repeat' (first | apply HL.fold | apply HA.fold | apply HL.nil | apply HX.n_then | apply HC.seq | apply HC.region | refine HL.pa ?_ | refine HL.ga rfl ?_ | refine HL.na rfl ?_ | refine HL.nu rfl rfl ?_ | apply HC.block | apply HC.skip | apply HC.exit | apply HC.ret | apply HX.e_block | refine HX.e_other rfl ?_ | apply HX.e_then | apply HX.e_again | apply HX.n_block | apply HX.r_then | apply HX.r_block | apply HX.r_again | refine HC.cond_yes rfl ?_ | refine HC.cond_no rfl ?_ | refine HL.one (H1.ldb rfl memA rfl rfl ?_) | refine HC.cond rfl (fun hc => ?_) (fun hc => ?_) | refine HC.cond_b rfl (fun hc => ?_) (fun hc => ?_))
  exact HX.ret1 rfl rfl fun w' hM => ⟨rfl, hM.ext⟩
theorem POp.cut_ha {P : Program} {N : Nat} {ds : List Deferred} {E : Env} {t ty : TypeId} {x hi : Operand} {k' : IntKind} {n : Nat} {e : TypeId} {l c : Nat} {z : Value} {sz bb : Nat} {a : Option Addr} [h : UTy P t (.slice e)] [hi' : ITy P e z sz bb]
    (hx : Env.ev E x = some (.slice a l c)) (hh : Env.ev E hi = some (.int k' (n : Int))) (h2 : n ≤ c) : POp P N ds E (.slice t x none (some hi) none) ty (.slice a n c) := by
  cases a with
  | none => exact POp.cut_hn (n := (n : Int)) hx hh (by omega) (by omega)
  | some ad => exact POp.cut_hs (n := (n : Int)) hx hh (by omega) (by omega)
theorem RdT.cap {w : World} {a : Option Addr} {n c : Nat} {l : List Tr} (h : RdT w (.slice a n c) l) : l.length ≤ c := by
  obtain ⟨a', c', f, h1, h2, -⟩ := h
  cases h1; exact h2
set_option maxHeartbeats 4000000 in
theorem repairMatchesReference_fn (vh vl vt : Value) (holders lost to : List Int) (n0 n1 n2 : Int) (vr : Value) (raw : List Tr) (hraw : ∀ t ∈ raw, i64B t.stop) (x0 x1 x2 x3 : Int) (g0 : i64B x0) (g1 : i64B x1) (g2 : i64B x2) (g3 : i64B x3) (vo : Value) (order : List Int) (hob : ∀ x ∈ order, i64B x)
    (o0 o1 o2 : Int) (k0 : i64B o0) (k1 : i64B o1) (k2 : i64B o2) (day : Int) (gd : i64B day) (w : World) (hH : Rd w vh (ints holders)) (hL : Rd w vl (ints lost)) (hT : Rd w vt (ints to)) (hRr : RdT w vr raw) (hO : Rd w vo (ints order)) :
    Fn Try.prog 3 #[vh, vl, vt, .agg #[.int .i64 n0, .int .i64 n1, .int .i64 n2], vr, .agg #[.int .i64 x0, .int .i64 x1, .int .i64 x2, .int .i64 x3], vo, .agg #[.int .i64 o0, .int .i64 o1, .int .i64 o2], .int .i64 day] w fun u w' => u = .bool true ∧ Ext w w' := by
  obtain ⟨aR, cR, rfl⟩ := hRr.shape
  have hRc := hRr.cap
  obtain ⟨R, hRt, hRlen, hRst⟩ : ∃ R : List Tr, RdT w (.slice aR R.length cR) R ∧ R.length = min raw.length 10 ∧ ∀ t ∈ R, i64B t.stop := ⟨raw.take (min raw.length 10), by rw [show (raw.take (min raw.length 10)).length = min raw.length 10 by rw [List.length_take]; omega]; exact hRr.take (Nat.min_le_left _ _), by rw [List.length_take]; omega, fun t ht => hraw t (List.mem_of_mem_take ht)⟩
  have hmin : min (raw.length : Int) 10 = (R.length : Int) := by omega
  have hR10 : R.length ≤ 10 := by omega
  refine enterH (l := [_, _, _, _, _, _, _, _, _]) rfl Try.ntmps3 rfl ?_
  repeat' (first | apply HL.fold | apply HA.fold | apply HL.nil | apply HX.n_then | apply HC.seq | apply HC.region | refine HL.pa ?_ | refine HL.ga rfl ?_ | refine HL.na rfl ?_ | refine HL.nu rfl rfl ?_ | apply HC.block | apply HC.skip | apply HC.exit | apply HC.ret | apply HX.e_block | refine HX.e_other rfl ?_ | apply HX.e_then | apply HX.e_again | apply HX.n_block | apply HX.r_then | apply HX.r_block | apply HX.r_again | refine HC.cond_yes rfl ?_ | refine HC.cond_no rfl ?_ | refine HL.one (H1.ldb rfl memA rfl rfl ?_) | refine HC.cond rfl (fun hc => ?_) (fun hc => ?_) | refine HC.cond_b rfl (fun hc => ?_) (fun hc => ?_))
  refine HL.one (H1.boxAgg (cs := [.int .i64 n0, .int .i64 n1, .int .i64 n2]) rfl rfl (fun b12 => ?_))
  repeat' (first | apply HL.fold | apply HA.fold | apply HL.nil | apply HX.n_then | apply HC.seq | apply HC.region | refine HL.pa ?_ | refine HL.ga rfl ?_ | refine HL.na rfl ?_ | refine HL.nu rfl rfl ?_ | apply HC.block | apply HC.skip | apply HC.exit | apply HC.ret | apply HX.e_block | refine HX.e_other rfl ?_ | apply HX.e_then | apply HX.e_again | apply HX.n_block | apply HX.r_then | apply HX.r_block | apply HX.r_again | refine HC.cond_yes rfl ?_ | refine HC.cond_no rfl ?_ | refine HL.one (H1.ldb rfl memA rfl rfl ?_) | refine HC.cond rfl (fun hc => ?_) (fun hc => ?_) | refine HC.cond_b rfl (fun hc => ?_) (fun hc => ?_))
  refine HL.one (H1.boxAgg (cs := [.int .i64 x0, .int .i64 x1, .int .i64 x2, .int .i64 x3]) rfl rfl (fun b14 => ?_))
  repeat' (first | apply HL.fold | apply HA.fold | apply HL.nil | apply HX.n_then | apply HC.seq | apply HC.region | refine HL.pa ?_ | refine HL.ga rfl ?_ | refine HL.na rfl ?_ | refine HL.nu rfl rfl ?_ | apply HC.block | apply HC.skip | apply HC.exit | apply HC.ret | apply HX.e_block | refine HX.e_other rfl ?_ | apply HX.e_then | apply HX.e_again | apply HX.n_block | apply HX.r_then | apply HX.r_block | apply HX.r_again | refine HC.cond_yes rfl ?_ | refine HC.cond_no rfl ?_ | refine HL.one (H1.ldb rfl memA rfl rfl ?_) | refine HC.cond rfl (fun hc => ?_) (fun hc => ?_) | refine HC.cond_b rfl (fun hc => ?_) (fun hc => ?_))
  refine HL.one (H1.boxAgg (cs := [.int .i64 o0, .int .i64 o1, .int .i64 o2]) rfl rfl (fun b16 => ?_))
  repeat' (first | apply HL.fold | apply HA.fold | apply HL.nil | apply HX.n_then | apply HC.seq | apply HC.region | refine HL.pa ?_ | refine HL.ga rfl ?_ | refine HL.na rfl ?_ | refine HL.nu rfl rfl ?_ | apply HC.block | apply HC.skip | apply HC.exit | apply HC.ret | apply HX.e_block | refine HX.e_other rfl ?_ | apply HX.e_then | apply HX.e_again | apply HX.n_block | apply HX.r_then | apply HX.r_block | apply HX.r_again | refine HC.cond_yes rfl ?_ | refine HC.cond_no rfl ?_ | refine HL.one (H1.ldb rfl memA rfl rfl ?_) | refine HC.cond rfl (fun hc => ?_) (fun hc => ?_) | refine HC.cond_b rfl (fun hc => ?_) (fun hc => ?_))
  refine HL.one (H1.callx (vs := []) rfl rfl (fun w' _ => sane_fn w') ?_)
  repeat' (first | apply HL.fold | apply HA.fold | apply HL.nil | apply HX.n_then | apply HC.seq | apply HC.region | refine HL.pa ?_ | refine HL.ga rfl ?_ | refine HL.na rfl ?_ | refine HL.nu rfl rfl ?_ | apply HC.block | apply HC.skip | apply HC.exit | apply HC.ret | apply HX.e_block | refine HX.e_other rfl ?_ | apply HX.e_then | apply HX.e_again | apply HX.n_block | apply HX.r_then | apply HX.r_block | apply HX.r_again | refine HC.cond_yes rfl ?_ | refine HC.cond_no rfl ?_ | refine HL.one (H1.ldb rfl memA rfl rfl ?_) | refine HC.cond rfl (fun hc => ?_) (fun hc => ?_) | refine HC.cond_b rfl (fun hc => ?_) (fun hc => ?_))
  rw [hmin]
  refine HL.pa ?_ (POp.cut_ha (n := R.length) rfl rfl (by omega))
  repeat' (first | apply HL.fold | apply HA.fold | apply HL.nil | apply HX.n_then | apply HC.seq | apply HC.region | refine HL.pa ?_ | refine HL.ga rfl ?_ | refine HL.na rfl ?_ | refine HL.nu rfl rfl ?_ | apply HC.block | apply HC.skip | apply HC.exit | apply HC.ret | apply HX.e_block | refine HX.e_other rfl ?_ | apply HX.e_then | apply HX.e_again | apply HX.n_block | apply HX.r_then | apply HX.r_block | apply HX.r_again | refine HC.cond_yes rfl ?_ | refine HC.cond_no rfl ?_ | refine HL.one (H1.ldb rfl memA rfl rfl ?_) | refine HC.cond rfl (fun hc => ?_) (fun hc => ?_) | refine HC.cond_b rfl (fun hc => ?_) (fun hc => ?_))
  refine HL.one (H1.ldAgg (vs := [.int .i64 x0, .int .i64 x1, .int .i64 x2, .int .i64 x3]) rfl memA rfl (fun i v hv => by rw [show 0 + i = i from Nat.zero_add i]; exact hv) rfl ?_)
  repeat' (first | apply HL.fold | apply HA.fold | apply HL.nil | apply HX.n_then | apply HC.seq | apply HC.region | refine HL.pa ?_ | refine HL.ga rfl ?_ | refine HL.na rfl ?_ | refine HL.nu rfl rfl ?_ | apply HC.block | apply HC.skip | apply HC.exit | apply HC.ret | apply HX.e_block | refine HX.e_other rfl ?_ | apply HX.e_then | apply HX.e_again | apply HX.n_block | apply HX.r_then | apply HX.r_block | apply HX.r_again | refine HC.cond_yes rfl ?_ | refine HC.cond_no rfl ?_ | refine HL.one (H1.ldb rfl memA rfl rfl ?_) | refine HC.cond rfl (fun hc => ?_) (fun hc => ?_) | refine HC.cond_b rfl (fun hc => ?_) (fun hc => ?_))
  refine HL.one (H1.callz (vs := [.agg #[.int .i64 x0, .int .i64 x1, .int .i64 x2, .int .i64 x3], vo]) rfl rfl (fun w' hM => make_fn x0 x1 x2 x3 g0 g1 g2 g3 vo order hob w' (hM.rd0 hO)) ?_)
  rintro ⟨c, ch, cl, ct⟩ hg
  dsimp only [List.cons_append, List.nil_append] at hg ⊢
  have hr := hg.right
  have hn9 := hr.n9
  have hl9 := asc_len hr.asc
  have htl := hg.len
  simp only [caseV]
  repeat' (first | apply HL.fold | apply HA.fold | apply HL.nil | apply HX.n_then | apply HC.seq | apply HC.region | refine HL.pa ?_ | refine HL.ga rfl ?_ | refine HL.na rfl ?_ | refine HL.nu rfl rfl ?_ | apply HC.block | apply HC.skip | apply HC.exit | apply HC.ret | apply HX.e_block | refine HX.e_other rfl ?_ | apply HX.e_then | apply HX.e_again | apply HX.n_block | apply HX.r_then | apply HX.r_block | apply HX.r_again | refine HC.cond_yes rfl ?_ | refine HC.cond_no rfl ?_ | refine HL.one (H1.ldb rfl memA rfl rfl ?_) | refine HC.cond rfl (fun hc => ?_) (fun hc => ?_) | refine HC.cond_b rfl (fun hc => ?_) (fun hc => ?_))
  refine HL.one (H1.alloc (cs := [.slice none 0 0, .slice none 0 0, .slice none 0 0, .int .i64 0, .int .i64 0, .int .i64 0]) rfl rfl (fun b20 => ?_))
  repeat' (first | apply HL.fold | apply HA.fold | apply HL.nil | apply HX.n_then | apply HC.seq | apply HC.region | refine HL.pa ?_ | refine HL.ga rfl ?_ | refine HL.na rfl ?_ | refine HL.nu rfl rfl ?_ | apply HC.block | apply HC.skip | apply HC.exit | apply HC.ret | apply HX.e_block | refine HX.e_other rfl ?_ | apply HX.e_then | apply HX.e_again | apply HX.n_block | apply HX.r_then | apply HX.r_block | apply HX.r_again | refine HC.cond_yes rfl ?_ | refine HC.cond_no rfl ?_ | refine HL.one (H1.ldb rfl memA rfl rfl ?_) | refine HC.cond rfl (fun hc => ?_) (fun hc => ?_) | refine HC.cond_b rfl (fun hc => ?_) (fun hc => ?_))
  refine HL.one (H1.stAgg (cs := [.slice none 0 0, .slice none 0 0, .slice none 0 0, .int .i64 0, .int .i64 0, .int .i64 0]) (vs := [.slice ch.1 c.holders.length ch.2, .slice cl.1 c.lost.length cl.2, .slice ct.1 c.to.length ct.2, .int .i64 c.width, .int .i64 c.k, .int .i64 c.deadline]) rfl rfl rfl (by intro v hv; simp only [List.mem_cons, List.not_mem_nil, or_false] at hv; rcases hv with rfl | rfl | rfl | rfl | rfl | rfl <;> rfl) rplA rfl ?_)
  repeat' (first | apply HL.fold | apply HA.fold | apply HL.nil | apply HX.n_then | apply HC.seq | apply HC.region | refine HL.pa ?_ | refine HL.ga rfl ?_ | refine HL.na rfl ?_ | refine HL.nu rfl rfl ?_ | apply HC.block | apply HC.skip | apply HC.exit | apply HC.ret | apply HX.e_block | refine HX.e_other rfl ?_ | apply HX.e_then | apply HX.e_again | apply HX.n_block | apply HX.r_then | apply HX.r_block | apply HX.r_again | refine HC.cond_yes rfl ?_ | refine HC.cond_no rfl ?_ | refine HL.one (H1.ldb rfl memA rfl rfl ?_) | refine HC.cond rfl (fun hc => ?_) (fun hc => ?_) | refine HC.cond_b rfl (fun hc => ?_) (fun hc => ?_))
  obtain ⟨r, hrd⟩ : ∃ r : CaseP, r = ⟨holders.take 10, lost.take 10, to.take 10, n0, n1, n2⟩ := ⟨_, rfl⟩
  have er1 : holders.take 10 = r.holders := by rw [hrd]
  have er2 : lost.take 10 = r.lost := by rw [hrd]
  have er3 : to.take 10 = r.to := by rw [hrd]
  have er4 : n0 = r.width := by rw [hrd]
  have er5 : n1 = r.k := by rw [hrd]
  have er6 : n2 = r.deadline := by rw [hrd]
  have el1 : r.holders.length ≤ 10 := by rw [← er1, List.length_take]; omega
  have el2 : r.lost.length ≤ 10 := by rw [← er2, List.length_take]; omega
  have el3 : r.to.length ≤ 10 := by rw [← er3, List.length_take]; omega
  subst er4 er5 er6
  refine HC.cut (α := ((Option Addr × Nat) × (Option Addr × Nat) × (Option Addr × Nat)) × Nat) (fun z => [(4, .slice aR R.length cR), (8, .int .i64 day), (16, .pointer (some ⟨b16, 0, none⟩)), (19, .bool true), (20, .pointer (some ⟨b20, 0, none⟩)), (21, .pointer (some ⟨z.2, 0, none⟩))])
    (fun z => A.blk b20 [.slice ch.1 c.holders.length ch.2, .slice cl.1 c.lost.length cl.2, .slice ct.1 c.to.length ct.2, .int .i64 c.width, .int .i64 c.k, .int .i64 c.deadline] 28 :: A.blk z.2 [.slice z.1.1.1 r.holders.length z.1.1.2, .slice z.1.2.1.1 r.lost.length z.1.2.1.2, .slice z.1.2.2.1 r.to.length z.1.2.2.2, .int .i64 r.width, .int .i64 r.k, .int .i64 r.deadline] 28 :: [A.grow 3 1 ch.1 ch.2 c.holders.length (ints c.holders), A.grow 3 1 cl.1 cl.2 c.lost.length (ints c.lost), A.grow 3 1 ct.1 ct.2 c.to.length (ints c.to), A.grow 3 1 z.1.1.1 z.1.1.2 r.holders.length (ints r.holders), A.grow 3 1 z.1.2.1.1 z.1.2.1.2 r.lost.length (ints r.lost), A.grow 3 1 z.1.2.2.1 z.1.2.2.2 r.to.length (ints r.to), A.blk b16 [.int .i64 o0, .int .i64 o1, .int .i64 o2] 23]) (fun _ => True) ?_ ?_
  · refine HC.anyC ([(⟨b12, 0, none⟩, .int .i64 r.width), (⟨b12, 1, none⟩, .int .i64 r.k), (⟨b12, 2, none⟩, .int .i64 r.deadline)]) rfl ?_
    refine HB.pa 0 rfl ?_
    refine HB.pa 2 rfl ?_
    refine HB.pa 4 rfl ?_
    refine HB.pa 6 rfl ?_
    refine HB.ld 7 rfl rfl memD ?_
    refine HB.pa 8 rfl ?_
    refine HB.ld 9 rfl rfl memD ?_
    refine HB.pa 10 rfl ?_
    refine HB.ld 11 rfl rfl memD ?_
    refine HB.all (by refine Keep.blk memD rfl (Keep.blk memD rfl (Keep.blk memD rfl Keep.nil))) [1, 13] (by kernel_rfl) rfl ⟨⟨_, rfl, ?_⟩, ⟨_, rfl, ?_⟩, trivial⟩
    · refine HP.one ?_
      refine H1.callz1 (V := fun z : Option Addr × Nat => .slice z.1 r.holders.length z.2) (An := fun z : Option Addr × Nat => A.grow 3 1 z.1 z.2 r.holders.length (ints r.holders)) (I := fun _ => True) (vs := [vh]) rfl rfl (fun w' hM => by rw [← er1]; exact few0_fn _ holders w' (hM.rd0 hH)) ?_
      rintro ⟨aA, cA⟩ -
      apply HB.fold
      refine HB.all (by refine Keep.blk memD rfl (Keep.blk memD rfl (Keep.blk memD rfl Keep.nil))) [3, 13] (by kernel_rfl) rfl ⟨⟨_, rfl, ?_⟩, ⟨_, rfl, ?_⟩, trivial⟩
      · refine HP.one ?_
        refine H1.callz1 (V := fun z : Option Addr × Nat => .slice z.1 r.lost.length z.2) (An := fun z : Option Addr × Nat => A.grow 3 1 z.1 z.2 r.lost.length (ints r.lost)) (I := fun _ => True) (vs := [vl]) rfl rfl (fun w' hM => by rw [← er2]; exact few0_fn _ lost w' (hM.rd0 hL)) ?_
        rintro ⟨aB, cB⟩ -
        apply HB.fold
        refine HB.all (by refine Keep.blk memD rfl (Keep.blk memD rfl (Keep.blk memD rfl Keep.nil))) [5, 13] (by kernel_rfl) rfl ⟨⟨_, rfl, ?_⟩, ⟨_, rfl, ?_⟩, trivial⟩
        · refine HP.one ?_
          refine H1.callz1 (V := fun z : Option Addr × Nat => .slice z.1 r.to.length z.2) (An := fun z : Option Addr × Nat => A.grow 3 1 z.1 z.2 r.to.length (ints r.to)) (I := fun _ => True) (vs := [vt]) rfl rfl (fun w' hM => by rw [← er3]; exact few0_fn _ to w' (hM.rd0 hT)) ?_
          rintro ⟨aC, cC⟩ -
          apply HB.fold
          refine HB.pa (v := .agg #[.slice aA r.holders.length cA, .slice aB r.lost.length cB, .slice aC r.to.length cC, .int .i64 r.width, .int .i64 r.k, .int .i64 r.deadline]) 12 rfl ?_ (POp.build (cs := [.slice aA r.holders.length cA, .slice aB r.lost.length cB, .slice aC r.to.length cC, .int .i64 r.width, .int .i64 r.k, .int .i64 r.deadline]) rfl rfl)
          refine HB.all (by refine Keep.blk memD rfl (Keep.blk memD rfl (Keep.blk memD rfl Keep.nil))) [13] (by kernel_rfl) rfl ⟨⟨_, rfl, ?_⟩, trivial⟩
          refine HP.one ?_
          refine H1.alloc (cs := [.slice none 0 0, .slice none 0 0, .slice none 0 0, .int .i64 0, .int .i64 0, .int .i64 0]) rfl rfl (fun b21 => ?_)
          apply HB.fold
          refine HB.all (by refine Keep.blk memD rfl (Keep.blk memD rfl (Keep.blk memD rfl Keep.nil))) [14] (by kernel_rfl) rfl ⟨⟨_, rfl, ?_⟩, trivial⟩
          refine HP.one ?_
          refine H1.stAgg (cs := [.slice none 0 0, .slice none 0 0, .slice none 0 0, .int .i64 0, .int .i64 0, .int .i64 0]) (vs := [.slice aA r.holders.length cA, .slice aB r.lost.length cB, .slice aC r.to.length cC, .int .i64 r.width, .int .i64 r.k, .int .i64 r.deadline]) rfl rfl rfl (by intro v hv; simp only [List.mem_cons, List.not_mem_nil, or_false] at hv; rcases hv with rfl | rfl | rfl | rfl | rfl | rfl <;> rfl) rplA rfl ?_
          apply HB.fold
          refine HB.done (by refine Keep.blk memD rfl (Keep.blk memD rfl (Keep.blk memD rfl Keep.nil))) (by kernel_rfl) ?_
          exact HX.cut (((aA, cA), (aB, cB), (aC, cC)), b21) trivial esA (by dsimp only; repeat (first | exact Hs.nil _ | (refine Hs.cons pickA ?_)))
        · refine HP.one ?_
          refine H1.alloc (cs := [.slice none 0 0, .slice none 0 0, .slice none 0 0, .int .i64 0, .int .i64 0, .int .i64 0]) rfl rfl (fun b21 => ?_)
          apply HB.fold
          refine HB.all (by refine Keep.blk memD rfl (Keep.blk memD rfl (Keep.blk memD rfl Keep.nil))) [5] (by kernel_rfl) rfl ⟨⟨_, rfl, ?_⟩, trivial⟩
          refine HP.one ?_
          refine H1.callz1 (V := fun z : Option Addr × Nat => .slice z.1 r.to.length z.2) (An := fun z : Option Addr × Nat => A.grow 3 1 z.1 z.2 r.to.length (ints r.to)) (I := fun _ => True) (vs := [vt]) rfl rfl (fun w' hM => by rw [← er3]; exact few0_fn _ to w' (hM.rd0 hT)) ?_
          rintro ⟨aC, cC⟩ -
          apply HB.fold
          refine HB.pa (v := .agg #[.slice aA r.holders.length cA, .slice aB r.lost.length cB, .slice aC r.to.length cC, .int .i64 r.width, .int .i64 r.k, .int .i64 r.deadline]) 12 rfl ?_ (POp.build (cs := [.slice aA r.holders.length cA, .slice aB r.lost.length cB, .slice aC r.to.length cC, .int .i64 r.width, .int .i64 r.k, .int .i64 r.deadline]) rfl rfl)
          refine HB.all (by refine Keep.blk memD rfl (Keep.blk memD rfl (Keep.blk memD rfl Keep.nil))) [14] (by kernel_rfl) rfl ⟨⟨_, rfl, ?_⟩, trivial⟩
          refine HP.one ?_
          refine H1.stAgg (cs := [.slice none 0 0, .slice none 0 0, .slice none 0 0, .int .i64 0, .int .i64 0, .int .i64 0]) (vs := [.slice aA r.holders.length cA, .slice aB r.lost.length cB, .slice aC r.to.length cC, .int .i64 r.width, .int .i64 r.k, .int .i64 r.deadline]) rfl rfl rfl (by intro v hv; simp only [List.mem_cons, List.not_mem_nil, or_false] at hv; rcases hv with rfl | rfl | rfl | rfl | rfl | rfl <;> rfl) rplA rfl ?_
          apply HB.fold
          refine HB.done (by refine Keep.blk memD rfl (Keep.blk memD rfl (Keep.blk memD rfl Keep.nil))) (by kernel_rfl) ?_
          exact HX.cut (((aA, cA), (aB, cB), (aC, cC)), b21) trivial esA (by dsimp only; repeat (first | exact Hs.nil _ | (refine Hs.cons pickA ?_)))
      · refine HP.one ?_
        refine H1.alloc (cs := [.slice none 0 0, .slice none 0 0, .slice none 0 0, .int .i64 0, .int .i64 0, .int .i64 0]) rfl rfl (fun b21 => ?_)
        apply HB.fold
        refine HB.all (by refine Keep.blk memD rfl (Keep.blk memD rfl (Keep.blk memD rfl Keep.nil))) [3] (by kernel_rfl) rfl ⟨⟨_, rfl, ?_⟩, trivial⟩
        refine HP.one ?_
        refine H1.callz1 (V := fun z : Option Addr × Nat => .slice z.1 r.lost.length z.2) (An := fun z : Option Addr × Nat => A.grow 3 1 z.1 z.2 r.lost.length (ints r.lost)) (I := fun _ => True) (vs := [vl]) rfl rfl (fun w' hM => by rw [← er2]; exact few0_fn _ lost w' (hM.rd0 hL)) ?_
        rintro ⟨aB, cB⟩ -
        apply HB.fold
        refine HB.all (by refine Keep.blk memD rfl (Keep.blk memD rfl (Keep.blk memD rfl Keep.nil))) [5] (by kernel_rfl) rfl ⟨⟨_, rfl, ?_⟩, trivial⟩
        refine HP.one ?_
        refine H1.callz1 (V := fun z : Option Addr × Nat => .slice z.1 r.to.length z.2) (An := fun z : Option Addr × Nat => A.grow 3 1 z.1 z.2 r.to.length (ints r.to)) (I := fun _ => True) (vs := [vt]) rfl rfl (fun w' hM => by rw [← er3]; exact few0_fn _ to w' (hM.rd0 hT)) ?_
        rintro ⟨aC, cC⟩ -
        apply HB.fold
        refine HB.pa (v := .agg #[.slice aA r.holders.length cA, .slice aB r.lost.length cB, .slice aC r.to.length cC, .int .i64 r.width, .int .i64 r.k, .int .i64 r.deadline]) 12 rfl ?_ (POp.build (cs := [.slice aA r.holders.length cA, .slice aB r.lost.length cB, .slice aC r.to.length cC, .int .i64 r.width, .int .i64 r.k, .int .i64 r.deadline]) rfl rfl)
        refine HB.all (by refine Keep.blk memD rfl (Keep.blk memD rfl (Keep.blk memD rfl Keep.nil))) [14] (by kernel_rfl) rfl ⟨⟨_, rfl, ?_⟩, trivial⟩
        refine HP.one ?_
        refine H1.stAgg (cs := [.slice none 0 0, .slice none 0 0, .slice none 0 0, .int .i64 0, .int .i64 0, .int .i64 0]) (vs := [.slice aA r.holders.length cA, .slice aB r.lost.length cB, .slice aC r.to.length cC, .int .i64 r.width, .int .i64 r.k, .int .i64 r.deadline]) rfl rfl rfl (by intro v hv; simp only [List.mem_cons, List.not_mem_nil, or_false] at hv; rcases hv with rfl | rfl | rfl | rfl | rfl | rfl <;> rfl) rplA rfl ?_
        apply HB.fold
        refine HB.done (by refine Keep.blk memD rfl (Keep.blk memD rfl (Keep.blk memD rfl Keep.nil))) (by kernel_rfl) ?_
        exact HX.cut (((aA, cA), (aB, cB), (aC, cC)), b21) trivial esA (by dsimp only; repeat (first | exact Hs.nil _ | (refine Hs.cons pickA ?_)))
    · refine HP.one ?_
      refine H1.alloc (cs := [.slice none 0 0, .slice none 0 0, .slice none 0 0, .int .i64 0, .int .i64 0, .int .i64 0]) rfl rfl (fun b21 => ?_)
      apply HB.fold
      refine HB.all (by refine Keep.blk memD rfl (Keep.blk memD rfl (Keep.blk memD rfl Keep.nil))) [1] (by kernel_rfl) rfl ⟨⟨_, rfl, ?_⟩, trivial⟩
      refine HP.one ?_
      refine H1.callz1 (V := fun z : Option Addr × Nat => .slice z.1 r.holders.length z.2) (An := fun z : Option Addr × Nat => A.grow 3 1 z.1 z.2 r.holders.length (ints r.holders)) (I := fun _ => True) (vs := [vh]) rfl rfl (fun w' hM => by rw [← er1]; exact few0_fn _ holders w' (hM.rd0 hH)) ?_
      rintro ⟨aA, cA⟩ -
      apply HB.fold
      refine HB.all (by refine Keep.blk memD rfl (Keep.blk memD rfl (Keep.blk memD rfl Keep.nil))) [3] (by kernel_rfl) rfl ⟨⟨_, rfl, ?_⟩, trivial⟩
      refine HP.one ?_
      refine H1.callz1 (V := fun z : Option Addr × Nat => .slice z.1 r.lost.length z.2) (An := fun z : Option Addr × Nat => A.grow 3 1 z.1 z.2 r.lost.length (ints r.lost)) (I := fun _ => True) (vs := [vl]) rfl rfl (fun w' hM => by rw [← er2]; exact few0_fn _ lost w' (hM.rd0 hL)) ?_
      rintro ⟨aB, cB⟩ -
      apply HB.fold
      refine HB.all (by refine Keep.blk memD rfl (Keep.blk memD rfl (Keep.blk memD rfl Keep.nil))) [5] (by kernel_rfl) rfl ⟨⟨_, rfl, ?_⟩, trivial⟩
      refine HP.one ?_
      refine H1.callz1 (V := fun z : Option Addr × Nat => .slice z.1 r.to.length z.2) (An := fun z : Option Addr × Nat => A.grow 3 1 z.1 z.2 r.to.length (ints r.to)) (I := fun _ => True) (vs := [vt]) rfl rfl (fun w' hM => by rw [← er3]; exact few0_fn _ to w' (hM.rd0 hT)) ?_
      rintro ⟨aC, cC⟩ -
      apply HB.fold
      refine HB.pa (v := .agg #[.slice aA r.holders.length cA, .slice aB r.lost.length cB, .slice aC r.to.length cC, .int .i64 r.width, .int .i64 r.k, .int .i64 r.deadline]) 12 rfl ?_ (POp.build (cs := [.slice aA r.holders.length cA, .slice aB r.lost.length cB, .slice aC r.to.length cC, .int .i64 r.width, .int .i64 r.k, .int .i64 r.deadline]) rfl rfl)
      refine HB.all (by refine Keep.blk memD rfl (Keep.blk memD rfl (Keep.blk memD rfl Keep.nil))) [14] (by kernel_rfl) rfl ⟨⟨_, rfl, ?_⟩, trivial⟩
      refine HP.one ?_
      refine H1.stAgg (cs := [.slice none 0 0, .slice none 0 0, .slice none 0 0, .int .i64 0, .int .i64 0, .int .i64 0]) (vs := [.slice aA r.holders.length cA, .slice aB r.lost.length cB, .slice aC r.to.length cC, .int .i64 r.width, .int .i64 r.k, .int .i64 r.deadline]) rfl rfl rfl (by intro v hv; simp only [List.mem_cons, List.not_mem_nil, or_false] at hv; rcases hv with rfl | rfl | rfl | rfl | rfl | rfl <;> rfl) rplA rfl ?_
      apply HB.fold
      refine HB.done (by refine Keep.blk memD rfl (Keep.blk memD rfl (Keep.blk memD rfl Keep.nil))) (by kernel_rfl) ?_
      exact HX.cut (((aA, cA), (aB, cB), (aC, cC)), b21) trivial esA (by dsimp only; repeat (first | exact Hs.nil _ | (refine Hs.cons pickA ?_)))
  clear hrd er1 er2 er3
  rintro ⟨⟨rh, rl, rt⟩, b21⟩ -
  dsimp only
  repeat' (first | apply HL.fold | apply HA.fold | apply HL.nil | apply HX.n_then | apply HC.seq | apply HC.region | refine HL.pa ?_ | refine HL.ga rfl ?_ | refine HL.na rfl ?_ | refine HL.nu rfl rfl ?_ | apply HC.block | apply HC.skip | apply HC.exit | apply HC.ret | apply HX.e_block | refine HX.e_other rfl ?_ | apply HX.e_then | apply HX.e_again | apply HX.n_block | apply HX.r_then | apply HX.r_block | apply HX.r_again | refine HC.cond_yes rfl ?_ | refine HC.cond_no rfl ?_ | refine HL.one (H1.ldb rfl memA rfl rfl ?_) | refine HC.cond rfl (fun hc => ?_) (fun hc => ?_) | refine HC.cond_b rfl (fun hc => ?_) (fun hc => ?_))
  refine HL.one (H1.ldAgg (vs := [.slice ch.1 c.holders.length ch.2, .slice cl.1 c.lost.length cl.2, .slice ct.1 c.to.length ct.2, .int .i64 c.width, .int .i64 c.k, .int .i64 c.deadline]) rfl memA rfl (fun i v hv => by rw [show 0 + i = i from Nat.zero_add i]; exact hv) rfl ?_)
  repeat' (first | apply HL.fold | apply HA.fold | apply HL.nil | apply HX.n_then | apply HC.seq | apply HC.region | refine HL.pa ?_ | refine HL.ga rfl ?_ | refine HL.na rfl ?_ | refine HL.nu rfl rfl ?_ | apply HC.block | apply HC.skip | apply HC.exit | apply HC.ret | apply HX.e_block | refine HX.e_other rfl ?_ | apply HX.e_then | apply HX.e_again | apply HX.n_block | apply HX.r_then | apply HX.r_block | apply HX.r_again | refine HC.cond_yes rfl ?_ | refine HC.cond_no rfl ?_ | refine HL.one (H1.ldb rfl memA rfl rfl ?_) | refine HC.cond rfl (fun hc => ?_) (fun hc => ?_) | refine HC.cond_b rfl (fun hc => ?_) (fun hc => ?_))
  refine HL.one (H1.ldAgg (vs := [.slice rh.1 r.holders.length rh.2, .slice rl.1 r.lost.length rl.2, .slice rt.1 r.to.length rt.2, .int .i64 r.width, .int .i64 r.k, .int .i64 r.deadline]) rfl memA rfl (fun i v hv => by rw [show 0 + i = i from Nat.zero_add i]; exact hv) rfl ?_)
  repeat' (first | apply HL.fold | apply HA.fold | apply HL.nil | apply HX.n_then | apply HC.seq | apply HC.region | refine HL.pa ?_ | refine HL.ga rfl ?_ | refine HL.na rfl ?_ | refine HL.nu rfl rfl ?_ | apply HC.block | apply HC.skip | apply HC.exit | apply HC.ret | apply HX.e_block | refine HX.e_other rfl ?_ | apply HX.e_then | apply HX.e_again | apply HX.n_block | apply HX.r_then | apply HX.r_block | apply HX.r_again | refine HC.cond_yes rfl ?_ | refine HC.cond_no rfl ?_ | refine HL.one (H1.ldb rfl memA rfl rfl ?_) | refine HC.cond rfl (fun hc => ?_) (fun hc => ?_) | refine HC.cond_b rfl (fun hc => ?_) (fun hc => ?_))
  refine HL.one (H1.lit (cs := [.slice ch.1 c.holders.length ch.2, .slice cl.1 c.lost.length cl.2, .slice ct.1 c.to.length ct.2, .int .i64 c.width, .int .i64 c.k, .int .i64 c.deadline] ++ [.slice rh.1 r.holders.length rh.2, .slice rl.1 r.lost.length rl.2, .slice rt.1 r.to.length rt.2, .int .i64 r.width, .int .i64 r.k, .int .i64 r.deadline]) rfl rfl rfl rfl rfl rfl (fun b56 => ?_))
  repeat' (first | apply HL.fold | apply HA.fold | apply HL.nil | apply HX.n_then | apply HC.seq | apply HC.region | refine HL.pa ?_ | refine HL.ga rfl ?_ | refine HL.na rfl ?_ | refine HL.nu rfl rfl ?_ | apply HC.block | apply HC.skip | apply HC.exit | apply HC.ret | apply HX.e_block | refine HX.e_other rfl ?_ | apply HX.e_then | apply HX.e_again | apply HX.n_block | apply HX.r_then | apply HX.r_block | apply HX.r_again | refine HC.cond_yes rfl ?_ | refine HC.cond_no rfl ?_ | refine HL.one (H1.ldb rfl memA rfl rfl ?_) | refine HC.cond rfl (fun hc => ?_) (fun hc => ?_) | refine HC.cond_b rfl (fun hc => ?_) (fun hc => ?_))
  refine HC.loop (α := Nat) (fun i => [(4, .slice aR R.length cR), (8, .int .i64 day), (16, .pointer (some ⟨b16, 0, none⟩)), (19, .bool true), (56, .slice (some ⟨b56, 0, none⟩) 2 2), (57, .int .i64 2), (58, .int .i64 (i : Int))]) (fun _ => A.blk b56 ([.slice ch.1 c.holders.length ch.2, .slice cl.1 c.lost.length cl.2, .slice ct.1 c.to.length ct.2, .int .i64 c.width, .int .i64 c.k, .int .i64 c.deadline] ++ [.slice rh.1 r.holders.length rh.2, .slice rl.1 r.lost.length rl.2, .slice rt.1 r.to.length rt.2, .int .i64 r.width, .int .i64 r.k, .int .i64 r.deadline]) 28 :: [A.grow 3 1 ch.1 ch.2 c.holders.length (ints c.holders), A.grow 3 1 cl.1 cl.2 c.lost.length (ints c.lost), A.grow 3 1 ct.1 ct.2 c.to.length (ints c.to), A.grow 3 1 rh.1 rh.2 r.holders.length (ints r.holders), A.grow 3 1 rl.1 rl.2 r.lost.length (ints r.lost), A.grow 3 1 rt.1 rt.2 r.to.length (ints r.to), A.blk b16 [.int .i64 o0, .int .i64 o1, .int .i64 o2] 23]) (fun i => i ≤ 2) (fun i => 2 - i) 0 (Nat.zero_le _) esA (by repeat (first | exact Hs.nil _ | (refine Hs.cons pickA ?_))) ?_
  intro i hi
  obtain ⟨L2, hL2⟩ : ∃ l : List Value, l = [.slice ch.1 c.holders.length ch.2, .slice cl.1 c.lost.length cl.2, .slice ct.1 c.to.length ct.2, .int .i64 c.width, .int .i64 c.k, .int .i64 c.deadline] ++ [.slice rh.1 r.holders.length rh.2, .slice rl.1 r.lost.length rl.2, .slice rt.1 r.to.length rt.2, .int .i64 r.width, .int .i64 r.k, .int .i64 r.deadline] := ⟨_, rfl⟩
  rw [← hL2]
  generalize hG : [A.grow 3 1 ch.1 ch.2 c.holders.length (ints c.holders), A.grow 3 1 cl.1 cl.2 c.lost.length (ints c.lost), A.grow 3 1 ct.1 ct.2 c.to.length (ints c.to), A.grow 3 1 rh.1 rh.2 r.holders.length (ints r.holders), A.grow 3 1 rl.1 rl.2 r.lost.length (ints r.lost), A.grow 3 1 rt.1 rt.2 r.to.length (ints r.to), A.blk b16 [.int .i64 o0, .int .i64 o1, .int .i64 o2] 23] = G
  by_cases hi2 : i < 2
  rotate_left
  · repeat' (first | apply HL.fold | apply HA.fold | apply HL.nil | apply HX.n_then | apply HC.seq | apply HC.region | refine HL.pa ?_ | refine HL.ga rfl ?_ | refine HL.na rfl ?_ | refine HL.nu rfl rfl ?_ | apply HC.block | apply HC.skip | apply HC.exit | apply HC.ret | apply HX.e_block | refine HX.e_other rfl ?_ | apply HX.e_then | apply HX.e_again | apply HX.n_block | apply HX.r_then | apply HX.r_block | apply HX.r_again | refine HC.cond_yes rfl ?_ | refine HC.cond_no rfl ?_ | refine HL.one (H1.ldb rfl memA rfl rfl ?_) | refine HC.cond rfl (fun hc => ?_) (fun hc => ?_) | refine HC.cond_b rfl (fun hc => ?_) (fun hc => ?_))
    exact HX.ret1 rfl rfl fun w' hM => ⟨rfl, hM.ext⟩
  obtain ⟨d, zh, zl, zt, hcell, hdh, hdl, hdt, hmh, hml, hmt, hmb⟩ : ∃ (d : CaseP) (zh zl zt : Option Addr × Nat), (∀ j v, ([.slice zh.1 d.holders.length zh.2, .slice zl.1 d.lost.length zl.2, .slice zt.1 d.to.length zt.2, .int .i64 d.width, .int .i64 d.k, .int .i64 d.deadline])[j]? = some v → L2[i * 6 + j]? = some v) ∧ d.holders.length ≤ 10 ∧ d.lost.length ≤ 10 ∧ d.to.length ≤ 10 ∧
      A.grow 3 1 zh.1 zh.2 d.holders.length (ints d.holders) ∈ G ∧ A.grow 3 1 zl.1 zl.2 d.lost.length (ints d.lost) ∈ G ∧ A.grow 3 1 zt.1 zt.2 d.to.length (ints d.to) ∈ G ∧ A.blk b16 [.int .i64 o0, .int .i64 o1, .int .i64 o2] 23 ∈ G := by
    rw [hL2, ← hG]
    rcases (show i = 0 ∨ i = 1 by omega) with rfl | rfl
    · refine ⟨c, ch, cl, ct, fun j v hv => ?_, by omega, by omega, by omega, by repeat (first | exact List.Mem.head _ | apply List.Mem.tail), by repeat (first | exact List.Mem.head _ | apply List.Mem.tail), by repeat (first | exact List.Mem.head _ | apply List.Mem.tail), by repeat (first | exact List.Mem.head _ | apply List.Mem.tail)⟩
      rw [Nat.zero_mul, Nat.zero_add, List.getElem?_append_left (by have := (List.getElem?_eq_some_iff.1 hv).1; exact this)]
      exact hv
    · refine ⟨r, rh, rl, rt, fun j v hv => ?_, by omega, by omega, by omega, by repeat (first | exact List.Mem.head _ | apply List.Mem.tail), by repeat (first | exact List.Mem.head _ | apply List.Mem.tail), by repeat (first | exact List.Mem.head _ | apply List.Mem.tail), by repeat (first | exact List.Mem.head _ | apply List.Mem.tail)⟩
      rw [List.getElem?_append_right (by show 6 ≤ 1 * 6 + j; omega)]
      have h6 : ([.slice rh.1 r.holders.length rh.2, .slice rl.1 r.lost.length rl.2, .slice rt.1 r.to.length rt.2, .int .i64 r.width, .int .i64 r.k, .int .i64 r.deadline] : List Value)[1 * 6 + j - 6]? = some v := by rw [show 1 * 6 + j - 6 = j by omega]; exact hv
      exact h6
  clear hL2 hG
  repeat' (first | apply HL.fold | apply HA.fold | apply HL.nil | apply HX.n_then | apply HC.seq | apply HC.region | refine HL.pa ?_ | refine HL.ga rfl ?_ | refine HL.na rfl ?_ | refine HL.nu rfl rfl ?_ | apply HC.block | apply HC.skip | apply HC.exit | apply HC.ret | apply HX.e_block | refine HX.e_other rfl ?_ | apply HX.e_then | apply HX.e_again | apply HX.n_block | apply HX.r_then | apply HX.r_block | apply HX.r_again | refine HC.cond_yes rfl ?_ | refine HC.cond_no rfl ?_ | refine HL.one (H1.ldb rfl memA rfl rfl ?_) | refine HC.cond rfl (fun hc => ?_) (fun hc => ?_) | refine HC.cond_b rfl (fun hc => ?_) (fun hc => ?_))
  refine HL.one (H1.ldAgg (b := b56) (off := i * 6) (vs := [.slice zh.1 d.holders.length zh.2, .slice zl.1 d.lost.length zl.2, .slice zt.1 d.to.length zt.2, .int .i64 d.width, .int .i64 d.k, .int .i64 d.deadline]) rfl memD rfl hcell rfl ?_)
  repeat' (first | apply HL.fold | apply HA.fold | apply HL.nil | apply HX.n_then | apply HC.seq | apply HC.region | refine HL.pa ?_ | refine HL.ga rfl ?_ | refine HL.na rfl ?_ | refine HL.nu rfl rfl ?_ | apply HC.block | apply HC.skip | apply HC.exit | apply HC.ret | apply HX.e_block | refine HX.e_other rfl ?_ | apply HX.e_then | apply HX.e_again | apply HX.n_block | apply HX.r_then | apply HX.r_block | apply HX.r_again | refine HC.cond_yes rfl ?_ | refine HC.cond_no rfl ?_ | refine HL.one (H1.ldb rfl memA rfl rfl ?_) | refine HC.cond rfl (fun hc => ?_) (fun hc => ?_) | refine HC.cond_b rfl (fun hc => ?_) (fun hc => ?_))
  refine HL.one (H1.alloc (cs := [.slice none 0 0, .slice none 0 0, .slice none 0 0, .int .i64 0, .int .i64 0, .int .i64 0]) rfl rfl (fun b23 => ?_))
  repeat' (first | apply HL.fold | apply HA.fold | apply HL.nil | apply HX.n_then | apply HC.seq | apply HC.region | refine HL.pa ?_ | refine HL.ga rfl ?_ | refine HL.na rfl ?_ | refine HL.nu rfl rfl ?_ | apply HC.block | apply HC.skip | apply HC.exit | apply HC.ret | apply HX.e_block | refine HX.e_other rfl ?_ | apply HX.e_then | apply HX.e_again | apply HX.n_block | apply HX.r_then | apply HX.r_block | apply HX.r_again | refine HC.cond_yes rfl ?_ | refine HC.cond_no rfl ?_ | refine HL.one (H1.ldb rfl memA rfl rfl ?_) | refine HC.cond rfl (fun hc => ?_) (fun hc => ?_) | refine HC.cond_b rfl (fun hc => ?_) (fun hc => ?_))
  refine HL.one (H1.stAgg (cs := [.slice none 0 0, .slice none 0 0, .slice none 0 0, .int .i64 0, .int .i64 0, .int .i64 0]) (vs := [.slice zh.1 d.holders.length zh.2, .slice zl.1 d.lost.length zl.2, .slice zt.1 d.to.length zt.2, .int .i64 d.width, .int .i64 d.k, .int .i64 d.deadline]) rfl rfl rfl (by intro v hv; simp only [List.mem_cons, List.not_mem_nil, or_false] at hv; rcases hv with rfl | rfl | rfl | rfl | rfl | rfl <;> rfl) rplA rfl ?_)
  repeat' (first | apply HL.fold | apply HA.fold | apply HL.nil | apply HX.n_then | apply HC.seq | apply HC.region | refine HL.pa ?_ | refine HL.ga rfl ?_ | refine HL.na rfl ?_ | refine HL.nu rfl rfl ?_ | apply HC.block | apply HC.skip | apply HC.exit | apply HC.ret | apply HX.e_block | refine HX.e_other rfl ?_ | apply HX.e_then | apply HX.e_again | apply HX.n_block | apply HX.r_then | apply HX.r_block | apply HX.r_again | refine HC.cond_yes rfl ?_ | refine HC.cond_no rfl ?_ | refine HL.one (H1.ldb rfl memA rfl rfl ?_) | refine HC.cond rfl (fun hc => ?_) (fun hc => ?_) | refine HC.cond_b rfl (fun hc => ?_) (fun hc => ?_))
  refine HL.one (H1.ldAgg (b := b23) (vs := [.slice zh.1 d.holders.length zh.2, .slice zl.1 d.lost.length zl.2, .slice zt.1 d.to.length zt.2, .int .i64 d.width, .int .i64 d.k, .int .i64 d.deadline]) rfl memD rfl (fun i v hv => by rw [show 0 + i = i from Nat.zero_add i]; exact hv) rfl ?_)
  repeat' (first | apply HL.fold | apply HA.fold | apply HL.nil | apply HX.n_then | apply HC.seq | apply HC.region | refine HL.pa ?_ | refine HL.ga rfl ?_ | refine HL.na rfl ?_ | refine HL.nu rfl rfl ?_ | apply HC.block | apply HC.skip | apply HC.exit | apply HC.ret | apply HX.e_block | refine HX.e_other rfl ?_ | apply HX.e_then | apply HX.e_again | apply HX.n_block | apply HX.r_then | apply HX.r_block | apply HX.r_again | refine HC.cond_yes rfl ?_ | refine HC.cond_no rfl ?_ | refine HL.one (H1.ldb rfl memA rfl rfl ?_) | refine HC.cond rfl (fun hc => ?_) (fun hc => ?_) | refine HC.cond_b rfl (fun hc => ?_) (fun hc => ?_))
  refine HL.one (H1.callz1 (An := fun z : List (Option Addr × Nat) × Option Addr × Nat => A.ts z.2.1 z.2.2 (planR d.holders d.lost d.to d.width d.k d.deadline) z.1) (vs := [.agg (caseV d zh zl zt).toArray]) rfl rfl (fun w' hM => planW_fn d zh zl zt (by omega) (by omega) (by omega) w' (hM.gr (by repeat (first | exact hmh | apply List.Mem.tail))) (hM.gr (by repeat (first | exact hml | apply List.Mem.tail))) (hM.gr (by repeat (first | exact hmt | apply List.Mem.tail)))) ?_)
  rintro ⟨zs, aP, cP⟩ hz
  dsimp only at hz ⊢
  repeat' (first | apply HL.fold | apply HA.fold | apply HL.nil | apply HX.n_then | apply HC.seq | apply HC.region | refine HL.pa ?_ | refine HL.ga rfl ?_ | refine HL.na rfl ?_ | refine HL.nu rfl rfl ?_ | apply HC.block | apply HC.skip | apply HC.exit | apply HC.ret | apply HX.e_block | refine HX.e_other rfl ?_ | apply HX.e_then | apply HX.e_again | apply HX.n_block | apply HX.r_then | apply HX.r_block | apply HX.r_again | refine HC.cond_yes rfl ?_ | refine HC.cond_no rfl ?_ | refine HL.one (H1.ldb rfl memA rfl rfl ?_) | refine HC.cond rfl (fun hc => ?_) (fun hc => ?_) | refine HC.cond_b rfl (fun hc => ?_) (fun hc => ?_))
  refine HL.one (H1.callz1 (V := fun z : List (Option Addr × Nat) × Option Addr × Nat => .tuple #[.slice z.2.1 (planR d.holders d.lost d.to d.width d.k d.deadline).length z.2.2, .int .i64 (if planB d.holders d.lost d.to d.width d.k d.deadline = true then 0 else 190)]) (An := fun z : List (Option Addr × Nat) × Option Addr × Nat => A.ts z.2.1 z.2.2 (planR d.holders d.lost d.to d.width d.k d.deadline) z.1) (I := fun z => z.1.length = (planR d.holders d.lost d.to d.width d.k d.deadline).length) (vs := [.slice zh.1 d.holders.length zh.2, .slice zl.1 d.lost.length zl.2, .slice zt.1 d.to.length zt.2, .int .i64 d.width, .int .i64 d.k, .int .i64 d.deadline]) rfl rfl (fun w' hM => (rplan_fn _ _ _ d.holders d.lost d.to d.width d.k d.deadline (by omega) (by omega) (by omega) w' (hM.gr (by repeat (first | exact hmh | apply List.Mem.tail))) (hM.gr (by repeat (first | exact hml | apply List.Mem.tail))) (hM.gr (by repeat (first | exact hmt | apply List.Mem.tail)))).mono fun x w'' ⟨z, h1, h2, h3⟩ => ⟨z, h1, h2, h3.packI⟩) ?_)
  rintro ⟨zs2, aM, cM⟩ hz2
  dsimp only at hz2 ⊢
  obtain ⟨hPl, hPo⟩ := planR_ok (holders := d.holders) (lost := d.lost) (to := d.to) (width := d.width) (k := d.k) (deadline := d.deadline)
  generalize planR d.holders d.lost d.to d.width d.k d.deadline = P at *
  generalize (if planB d.holders d.lost d.to d.width d.k d.deadline = true then (0 : Int) else 190) = e at *
  have hPs : ∀ t ∈ P, t.src.length ≤ 1000000 := fun t ht => by have := (hPo t ht).2; omega
  have hPst : ∀ t ∈ P, i64B t.stop := fun t ht => (hPo t ht).1
  repeat' (first | apply HL.fold | apply HA.fold | apply HL.nil | apply HX.n_then | apply HC.seq | apply HC.region | refine HL.pa ?_ | refine HL.ga rfl ?_ | refine HL.na rfl ?_ | refine HL.nu rfl rfl ?_ | apply HC.block | apply HC.skip | apply HC.exit | apply HC.ret | apply HX.e_block | refine HX.e_other rfl ?_ | apply HX.e_then | apply HX.e_again | apply HX.n_block | apply HX.r_then | apply HX.r_block | apply HX.r_again | refine HC.cond_yes rfl ?_ | refine HC.cond_no rfl ?_ | refine HL.one (H1.ldb rfl memA rfl rfl ?_) | refine HC.cond rfl (fun hc => ?_) (fun hc => ?_) | refine HC.cond_b rfl (fun hc => ?_) (fun hc => ?_))
  refine HL.one (H1.callx (vs := [.slice aP P.length cP, .slice aM P.length cM]) rfl rfl (fun w' hM => sameList_fn _ _ P P (by omega) (by omega) hPs hPs w' (hM.ts memD hz) (hM.ts memD hz2)) ?_)
  rw [decide_eq_true (rfl : P = P)]
  repeat' (first | apply HL.fold | apply HA.fold | apply HL.nil | apply HX.n_then | apply HC.seq | apply HC.region | refine HL.pa ?_ | refine HL.ga rfl ?_ | refine HL.na rfl ?_ | refine HL.nu rfl rfl ?_ | apply HC.block | apply HC.skip | apply HC.exit | apply HC.ret | apply HX.e_block | refine HX.e_other rfl ?_ | apply HX.e_then | apply HX.e_again | apply HX.n_block | apply HX.r_then | apply HX.r_block | apply HX.r_again | refine HC.cond_yes rfl ?_ | refine HC.cond_no rfl ?_ | refine HL.one (H1.ldb rfl memA rfl rfl ?_) | refine HC.cond rfl (fun hc => ?_) (fun hc => ?_) | refine HC.cond_b rfl (fun hc => ?_) (fun hc => ?_))
  refine HL.one (H1.ldAgg (b := b16) (vs := [.int .i64 o0, .int .i64 o1, .int .i64 o2]) rfl (by repeat (first | exact hmb | apply List.Mem.tail)) rfl (fun i v hv => by rw [show 0 + i = i from Nat.zero_add i]; exact hv) rfl ?_)
  repeat' (first | apply HL.fold | apply HA.fold | apply HL.nil | apply HX.n_then | apply HC.seq | apply HC.region | refine HL.pa ?_ | refine HL.ga rfl ?_ | refine HL.na rfl ?_ | refine HL.nu rfl rfl ?_ | apply HC.block | apply HC.skip | apply HC.exit | apply HC.ret | apply HX.e_block | refine HX.e_other rfl ?_ | apply HX.e_then | apply HX.e_again | apply HX.n_block | apply HX.r_then | apply HX.r_block | apply HX.r_again | refine HC.cond_yes rfl ?_ | refine HC.cond_no rfl ?_ | refine HL.one (H1.ldb rfl memA rfl rfl ?_) | refine HC.cond rfl (fun hc => ?_) (fun hc => ?_) | refine HC.cond_b rfl (fun hc => ?_) (fun hc => ?_))
  refine HL.one (H1.callz1 (An := fun z : List Tr × List (Option Addr × Nat) × Option Addr × Nat × Nat => A.ts z.2.2.1 z.2.2.2.1 z.1 z.2.1) (vs := [.slice aP P.length cP, .agg #[.int .i64 o0, .int .i64 o1, .int .i64 o2]]) rfl rfl (fun w' hM => bent_fn _ P o0 o1 o2 k0 k1 k2 (by omega) hPs hPst w' (hM.ts memD hz)) ?_)
  rintro ⟨m, zm, aB, cB, nb⟩ ⟨hb1, hb2, hb3, hb4, hb5⟩
  dsimp only at hb1 hb2 hb3 hb4 hb5 ⊢
  repeat' (first | apply HL.fold | apply HA.fold | apply HL.nil | apply HX.n_then | apply HC.seq | apply HC.region | refine HL.pa ?_ | refine HL.ga rfl ?_ | refine HL.na rfl ?_ | refine HL.nu rfl rfl ?_ | apply HC.block | apply HC.skip | apply HC.exit | apply HC.ret | apply HX.e_block | refine HX.e_other rfl ?_ | apply HX.e_then | apply HX.e_again | apply HX.n_block | apply HX.r_then | apply HX.r_block | apply HX.r_again | refine HC.cond_yes rfl ?_ | refine HC.cond_no rfl ?_ | refine HL.one (H1.ldb rfl memA rfl rfl ?_) | refine HC.cond rfl (fun hc => ?_) (fun hc => ?_) | refine HC.cond_b rfl (fun hc => ?_) (fun hc => ?_))
  refine HL.one (H1.lit (cs := [.slice aP P.length cP, .slice aB nb cB, .slice aR R.length cR]) rfl rfl rfl rfl rfl rfl (fun b97 => ?_))
  repeat' (first | apply HL.fold | apply HA.fold | apply HL.nil | apply HX.n_then | apply HC.seq | apply HC.region | refine HL.pa ?_ | refine HL.ga rfl ?_ | refine HL.na rfl ?_ | refine HL.nu rfl rfl ?_ | apply HC.block | apply HC.skip | apply HC.exit | apply HC.ret | apply HX.e_block | refine HX.e_other rfl ?_ | apply HX.e_then | apply HX.e_again | apply HX.n_block | apply HX.r_then | apply HX.r_block | apply HX.r_again | refine HC.cond_yes rfl ?_ | refine HC.cond_no rfl ?_ | refine HL.one (H1.ldb rfl memA rfl rfl ?_) | refine HC.cond rfl (fun hc => ?_) (fun hc => ?_) | refine HC.cond_b rfl (fun hc => ?_) (fun hc => ?_))
  refine HC.loop (α := Nat) (fun j => [(4, .slice aR R.length cR), (8, .int .i64 day), (16, .pointer (some ⟨b16, 0, none⟩)), (19, .bool true), (56, .slice (some ⟨b56, 0, none⟩) 2 2), (57, .int .i64 2), (58, .int .i64 (i : Int)), (23, .pointer (some ⟨b23, 0, none⟩)), (97, .slice (some ⟨b97, 0, none⟩) 3 3), (98, .int .i64 3), (99, .int .i64 (j : Int))]) (fun _ => A.blk b97 [.slice aP P.length cP, .slice aB nb cB, .slice aR R.length cR] 24 :: A.ts aB cB m zm :: A.ts aP cP P zs :: A.blk b23 [.slice zh.1 d.holders.length zh.2, .slice zl.1 d.lost.length zl.2, .slice zt.1 d.to.length zt.2, .int .i64 d.width, .int .i64 d.k, .int .i64 d.deadline] 28 :: A.blk b56 L2 28 :: G) (fun j => j ≤ 3) (fun j => 3 - j) 0 (Nat.zero_le _) esA (Hs.cons Pick.here (Hs.cons Pick.here (Hs.cons (Pick.there Pick.here) (Hs.cons (Pick.there Pick.here) (Hs.cons (Pick.there Pick.here) Hs.skip))))) ?_
  intro j hj
  by_cases hj3 : j < 3
  rotate_left
  · repeat' (first | apply HL.fold | apply HA.fold | apply HL.nil | apply HX.n_then | apply HC.seq | apply HC.region | refine HL.pa ?_ | refine HL.ga rfl ?_ | refine HL.na rfl ?_ | refine HL.nu rfl rfl ?_ | apply HC.block | apply HC.skip | apply HC.exit | apply HC.ret | apply HX.e_block | refine HX.e_other rfl ?_ | apply HX.e_then | apply HX.e_again | apply HX.n_block | apply HX.r_then | apply HX.r_block | apply HX.r_again | refine HC.cond_yes rfl ?_ | refine HC.cond_no rfl ?_ | refine HL.one (H1.ldb rfl memA rfl rfl ?_) | refine HC.cond rfl (fun hc => ?_) (fun hc => ?_) | refine HC.cond_b rfl (fun hc => ?_) (fun hc => ?_))
    exact HX.again (i + 1) (by omega) (by omega) esA (Hs.dropI (Hs.dropI (Hs.dropI (Hs.dropI (Hs.refl _)))))
  obtain ⟨V, T, hV, hT100, hTst, hTr⟩ : ∃ (V : Value) (T : List Tr), ([.slice aP P.length cP, .slice aB nb cB, .slice aR R.length cR])[j]? = some V ∧ T.length ≤ 100 ∧ (∀ t ∈ T, i64B t.stop) ∧ ∀ w', Mm w (A.blk b97 [.slice aP P.length cP, .slice aB nb cB, .slice aR R.length cR] 24 :: A.ts aB cB m zm :: A.ts aP cP P zs :: A.blk b23 [.slice zh.1 d.holders.length zh.2, .slice zl.1 d.lost.length zl.2, .slice zt.1 d.to.length zt.2, .int .i64 d.width, .int .i64 d.k, .int .i64 d.deadline] 28 :: A.blk b56 L2 28 :: G) w' → RdT w' V T := by
    rcases (show j = 0 ∨ j = 1 ∨ j = 2 by omega) with rfl | rfl | rfl
    · exact ⟨_, P, rfl, by omega, hPst, fun w' hM => hM.ts memD hz⟩
    · exact ⟨_, m.take nb, rfl, by rw [List.length_take]; omega, fun t ht => hb5 t (List.mem_of_mem_take ht), fun w' hM => (hM.ts memD hb1).take hb3⟩
    · exact ⟨_, R, rfl, by omega, hRst, fun w' hM => hRt.ext hM.ext⟩
  repeat' (first | apply HL.fold | apply HA.fold | apply HL.nil | apply HX.n_then | apply HC.seq | apply HC.region | refine HL.pa ?_ | refine HL.ga rfl ?_ | refine HL.na rfl ?_ | refine HL.nu rfl rfl ?_ | apply HC.block | apply HC.skip | apply HC.exit | apply HC.ret | apply HX.e_block | refine HX.e_other rfl ?_ | apply HX.e_then | apply HX.e_again | apply HX.n_block | apply HX.r_then | apply HX.r_block | apply HX.r_again | refine HC.cond_yes rfl ?_ | refine HC.cond_no rfl ?_ | refine HL.one (H1.ldb rfl memA rfl rfl ?_))
  refine HL.one (H1.ldb rfl (List.Mem.head _) hV rfl ?_)
  repeat' (first | apply HL.fold | apply HA.fold | apply HL.nil | apply HX.n_then | apply HC.seq | apply HC.region | refine HL.pa ?_ | refine HL.ga rfl ?_ | refine HL.na rfl ?_ | refine HL.nu rfl rfl ?_ | apply HC.block | apply HC.skip | apply HC.exit | apply HC.ret | apply HX.e_block | refine HX.e_other rfl ?_ | apply HX.e_then | apply HX.e_again | apply HX.n_block | apply HX.r_then | apply HX.r_block | apply HX.r_again | refine HC.cond_yes rfl ?_ | refine HC.cond_no rfl ?_ | refine HL.one (H1.ldb rfl memA rfl rfl ?_))
  refine HC.cut (α := Unit) (fun _ => [(4, .slice aR R.length cR), (8, .int .i64 day), (16, .pointer (some ⟨b16, 0, none⟩)), (19, .bool true), (56, .slice (some ⟨b56, 0, none⟩) 2 2), (57, .int .i64 2), (58, .int .i64 (i : Int)), (23, .pointer (some ⟨b23, 0, none⟩)), (97, .slice (some ⟨b97, 0, none⟩) 3 3), (98, .int .i64 3), (99, .int .i64 (j : Int)), (29, V), (118, .bool false)]) (fun _ => A.blk b97 [.slice aP P.length cP, .slice aB nb cB, .slice aR R.length cR] 24 :: A.ts aB cB m zm :: A.ts aP cP P zs :: A.blk b23 [.slice zh.1 d.holders.length zh.2, .slice zl.1 d.lost.length zl.2, .slice zt.1 d.to.length zt.2, .int .i64 d.width, .int .i64 d.k, .int .i64 d.deadline] 28 :: A.blk b56 L2 28 :: G) (fun _ => True) ?_ ?_
  · skip
    refine HC.anyC ([(⟨b23, 0, none⟩, .slice zh.1 d.holders.length zh.2), (⟨b23, 1, none⟩, .slice zl.1 d.lost.length zl.2), (⟨b23, 3, none⟩, .int .i64 d.width), (⟨b23, 4, none⟩, .int .i64 d.k), (⟨b23, 5, none⟩, .int .i64 d.deadline)]) rfl ?_
    refine HB.pa 1 rfl ?_
    refine HB.pa 3 rfl ?_
    refine HB.ld 4 rfl rfl memD ?_
    refine HB.pa 5 rfl ?_
    refine HB.ld 6 rfl rfl memD ?_
    refine HB.pa 7 rfl ?_
    refine HB.ld 8 rfl rfl memD ?_
    refine HB.pa 9 rfl ?_
    refine HB.ld 10 rfl rfl memD ?_
    refine HB.pa 11 rfl ?_
    refine HB.ld 12 rfl rfl memD ?_
    refine HB.pa 13 rfl ?_
    refine HB.all (by refine Keep.blk memD rfl (Keep.blk memD rfl (Keep.blk memD rfl (Keep.blk memD rfl (Keep.blk memD rfl Keep.nil))))) [0] (by kernel_rfl) rfl ⟨⟨_, rfl, ?_⟩, trivial⟩
    refine HP.one ?_
    refine H1.ldAgg (b := b23) (vs := [.slice zh.1 d.holders.length zh.2, .slice zl.1 d.lost.length zl.2, .slice zt.1 d.to.length zt.2, .int .i64 d.width, .int .i64 d.k, .int .i64 d.deadline]) rfl memD rfl (fun i v hv => by rw [show 0 + i = i from Nat.zero_add i]; exact hv) rfl ?_
    apply HB.fold
    refine HB.all (by refine Keep.blk memD rfl (Keep.blk memD rfl (Keep.blk memD rfl (Keep.blk memD rfl (Keep.blk memD rfl Keep.nil))))) [2] (by kernel_rfl) rfl ⟨⟨_, rfl, ?_⟩, trivial⟩
    refine HP.one ?_
    refine H1.callx (vs := [.agg (caseV d zh zl zt).toArray, V]) rfl rfl (fun w' hM => valid0W_fn d zh zl zt V T (by omega) (by omega) (by omega) w' (hM.gr (by repeat (first | exact hmh | apply List.Mem.tail))) (hM.gr (by repeat (first | exact hml | apply List.Mem.tail))) (hTr w' hM)) ?_
    apply HB.fold
    refine HB.all (by refine Keep.blk memD rfl (Keep.blk memD rfl (Keep.blk memD rfl (Keep.blk memD rfl (Keep.blk memD rfl Keep.nil))))) [14] (by kernel_rfl) rfl ⟨⟨_, rfl, ?_⟩, trivial⟩
    refine HP.one ?_
    refine H1.callx (vs := [.slice zh.1 d.holders.length zh.2, .slice zl.1 d.lost.length zl.2, .int .i64 d.width, .int .i64 d.k, .int .i64 d.deadline, V]) rfl rfl (fun w' hM => rvalid_fn _ _ V d.holders d.lost d.width d.k d.deadline T (by omega) (by omega) (by omega) w' (hM.gr (by repeat (first | exact hmh | apply List.Mem.tail))) (hM.gr (by repeat (first | exact hml | apply List.Mem.tail))) (hTr w' hM)) ?_
    rw [rvalid_eq hTst]
    apply HB.fold
    refine HB.pa (v := .bool (!(validB d.holders d.lost d.width d.k d.deadline T == validB d.holders d.lost d.width d.k d.deadline T))) 15 rfl ?_ (POp.bneq rfl rfl)
    refine HB.done (by refine Keep.blk memD rfl (Keep.blk memD rfl (Keep.blk memD rfl (Keep.blk memD rfl (Keep.blk memD rfl Keep.nil))))) (by kernel_rfl) ?_
    rw [beq_self_eq_true]
    exact HX.cut () trivial esA (Hs.refl _)
  rintro - -
  repeat' (first | apply HL.fold | apply HA.fold | apply HL.nil | apply HX.n_then | apply HC.seq | apply HC.region | refine HL.pa ?_ | refine HL.ga rfl ?_ | refine HL.na rfl ?_ | refine HL.nu rfl rfl ?_ | apply HC.block | apply HC.skip | apply HC.exit | apply HC.ret | apply HX.e_block | refine HX.e_other rfl ?_ | apply HX.e_then | apply HX.e_again | apply HX.n_block | apply HX.r_then | apply HX.r_block | apply HX.r_again | refine HC.cond_yes rfl ?_ | refine HC.cond_no rfl ?_ | refine HL.one (H1.ldb rfl memA rfl rfl ?_) | refine HC.cond rfl (fun hc => ?_) (fun hc => ?_) | refine HC.cond_b rfl (fun hc => ?_) (fun hc => ?_))
  refine HL.one (H1.call0 (u := .int .i64 (pickI day 9)) (vs := [.int .i64 day, .int .i64 9]) rfl rfl (fun w' _ => pick_fn day 9 gd.1 gd.2 (by decide) w') ?_)
  repeat' (first | apply HL.fold | apply HA.fold | apply HL.nil | apply HX.n_then | apply HC.seq | apply HC.region | refine HL.pa ?_ | refine HL.ga rfl ?_ | refine HL.na rfl ?_ | refine HL.nu rfl rfl ?_ | apply HC.block | apply HC.skip | apply HC.exit | apply HC.ret | apply HX.e_block | refine HX.e_other rfl ?_ | apply HX.e_then | apply HX.e_again | apply HX.n_block | apply HX.r_then | apply HX.r_block | apply HX.r_again | refine HC.cond_yes rfl ?_ | refine HC.cond_no rfl ?_ | refine HL.one (H1.ldb rfl memA rfl rfl ?_) | refine HC.cond rfl (fun hc => ?_) (fun hc => ?_) | refine HC.cond_b rfl (fun hc => ?_) (fun hc => ?_))
  refine HL.one (H1.lit (cs := [.int .i64 day, .int .i64 (pickI day 9)]) rfl rfl rfl rfl rfl rfl (fun b122 => ?_))
  repeat' (first | apply HL.fold | apply HA.fold | apply HL.nil | apply HX.n_then | apply HC.seq | apply HC.region | refine HL.pa ?_ | refine HL.ga rfl ?_ | refine HL.na rfl ?_ | refine HL.nu rfl rfl ?_ | apply HC.block | apply HC.skip | apply HC.exit | apply HC.ret | apply HX.e_block | refine HX.e_other rfl ?_ | apply HX.e_then | apply HX.e_again | apply HX.n_block | apply HX.r_then | apply HX.r_block | apply HX.r_again | refine HC.cond_yes rfl ?_ | refine HC.cond_no rfl ?_ | refine HL.one (H1.ldb rfl memA rfl rfl ?_) | refine HC.cond rfl (fun hc => ?_) (fun hc => ?_) | refine HC.cond_b rfl (fun hc => ?_) (fun hc => ?_))
  refine HC.loop (α := Nat) (fun q => [(4, .slice aR R.length cR), (8, .int .i64 day), (16, .pointer (some ⟨b16, 0, none⟩)), (19, .bool true), (56, .slice (some ⟨b56, 0, none⟩) 2 2), (57, .int .i64 2), (58, .int .i64 (i : Int)), (23, .pointer (some ⟨b23, 0, none⟩)), (97, .slice (some ⟨b97, 0, none⟩) 3 3), (98, .int .i64 3), (99, .int .i64 (j : Int)), (29, V), (122, .slice (some ⟨b122, 0, none⟩) 2 2), (123, .int .i64 2), (124, .int .i64 (q : Int))]) (fun _ => A.blk b122 [.int .i64 day, .int .i64 (pickI day 9)] 3 :: A.blk b97 [.slice aP P.length cP, .slice aB nb cB, .slice aR R.length cR] 24 :: A.ts aB cB m zm :: A.ts aP cP P zs :: A.blk b23 [.slice zh.1 d.holders.length zh.2, .slice zl.1 d.lost.length zl.2, .slice zt.1 d.to.length zt.2, .int .i64 d.width, .int .i64 d.k, .int .i64 d.deadline] 28 :: A.blk b56 L2 28 :: G) (fun q => q ≤ 2) (fun q => 2 - q) 0 (Nat.zero_le _) esA (Hs.refl _) ?_
  intro q hq
  by_cases hq2 : q < 2
  rotate_left
  · repeat' (first | apply HL.fold | apply HA.fold | apply HL.nil | apply HX.n_then | apply HC.seq | apply HC.region | refine HL.pa ?_ | refine HL.ga rfl ?_ | refine HL.na rfl ?_ | refine HL.nu rfl rfl ?_ | apply HC.block | apply HC.skip | apply HC.exit | apply HC.ret | apply HX.e_block | refine HX.e_other rfl ?_ | apply HX.e_then | apply HX.e_again | apply HX.n_block | apply HX.r_then | apply HX.r_block | apply HX.r_again | refine HC.cond_yes rfl ?_ | refine HC.cond_no rfl ?_ | refine HL.one (H1.ldb rfl memA rfl rfl ?_) | refine HC.cond rfl (fun hc => ?_) (fun hc => ?_) | refine HC.cond_b rfl (fun hc => ?_) (fun hc => ?_))
    exact HX.again (j + 1) (by omega) (by omega) esA (Hs.dropI (Hs.refl _))
  obtain ⟨u, hu⟩ : ∃ u : Int, ([.int .i64 day, .int .i64 (pickI day 9)] : List Value)[q]? = some (.int .i64 u) := by
    rcases (show q = 0 ∨ q = 1 by omega) with rfl | rfl
    · exact ⟨_, rfl⟩
    · exact ⟨_, rfl⟩
  have hal : (afterS d.holders d.lost T u).length = d.holders.length := by simp [afterS]
  repeat' (first | apply HL.fold | apply HA.fold | apply HL.nil | apply HX.n_then | apply HC.seq | apply HC.region | refine HL.pa ?_ | refine HL.ga rfl ?_ | refine HL.na rfl ?_ | refine HL.nu rfl rfl ?_ | apply HC.block | apply HC.skip | apply HC.exit | apply HC.ret | apply HX.e_block | refine HX.e_other rfl ?_ | apply HX.e_then | apply HX.e_again | apply HX.n_block | apply HX.r_then | apply HX.r_block | apply HX.r_again | refine HC.cond_yes rfl ?_ | refine HC.cond_no rfl ?_ | refine HL.one (H1.ldb rfl memA rfl rfl ?_))
  refine HL.one (H1.ldb rfl (List.Mem.head _) hu rfl ?_)
  repeat' (first | apply HL.fold | apply HA.fold | apply HL.nil | apply HX.n_then | apply HC.seq | apply HC.region | refine HL.pa ?_ | refine HL.ga rfl ?_ | refine HL.na rfl ?_ | refine HL.nu rfl rfl ?_ | apply HC.block | apply HC.skip | apply HC.exit | apply HC.ret | apply HX.e_block | refine HX.e_other rfl ?_ | apply HX.e_then | apply HX.e_again | apply HX.n_block | apply HX.r_then | apply HX.r_block | apply HX.r_again | refine HC.cond_yes rfl ?_ | refine HC.cond_no rfl ?_ | refine HL.one (H1.ldb rfl memA rfl rfl ?_))
  refine HC.cut (α := Unit) (fun _ => [(4, .slice aR R.length cR), (8, .int .i64 day), (16, .pointer (some ⟨b16, 0, none⟩)), (19, .bool true), (56, .slice (some ⟨b56, 0, none⟩) 2 2), (57, .int .i64 2), (58, .int .i64 (i : Int)), (23, .pointer (some ⟨b23, 0, none⟩)), (97, .slice (some ⟨b97, 0, none⟩) 3 3), (98, .int .i64 3), (99, .int .i64 (j : Int)), (29, V), (122, .slice (some ⟨b122, 0, none⟩) 2 2), (123, .int .i64 2), (124, .int .i64 (q : Int)), (143, .bool false)]) (fun _ => A.blk b122 [.int .i64 day, .int .i64 (pickI day 9)] 3 :: A.blk b97 [.slice aP P.length cP, .slice aB nb cB, .slice aR R.length cR] 24 :: A.ts aB cB m zm :: A.ts aP cP P zs :: A.blk b23 [.slice zh.1 d.holders.length zh.2, .slice zl.1 d.lost.length zl.2, .slice zt.1 d.to.length zt.2, .int .i64 d.width, .int .i64 d.k, .int .i64 d.deadline] 28 :: A.blk b56 L2 28 :: G) (fun _ => True) ?_ ?_
  · skip
    refine HC.anyC ([(⟨b23, 0, none⟩, .slice zh.1 d.holders.length zh.2), (⟨b23, 1, none⟩, .slice zl.1 d.lost.length zl.2)]) rfl ?_
    refine HB.pa 0 rfl ?_
    refine HB.ld 1 rfl rfl memD ?_
    refine HB.pa 2 rfl ?_
    refine HB.ld 3 rfl rfl memD ?_
    refine HB.pa 4 rfl ?_
    refine HB.pa 5 rfl ?_
    refine HB.pa 7 rfl ?_
    refine HB.ld 8 rfl rfl memD ?_
    refine HB.pa 9 rfl ?_
    refine HB.ld 10 rfl rfl memD ?_
    refine HB.pa 11 rfl ?_
    refine HB.pa 12 rfl ?_
    refine HB.all (by refine Keep.blk memD rfl (Keep.blk memD rfl Keep.nil)) [6] (by kernel_rfl) rfl ⟨⟨_, rfl, ?_⟩, trivial⟩
    refine HP.one ?_
    refine H1.callz1 (V := fun z : Option Addr × Nat => .slice z.1 d.holders.length z.2) (An := fun z : Option Addr × Nat => A.grow 3 1 z.1 z.2 d.holders.length (ints (afterS d.holders d.lost T u))) (I := fun _ => True) (vs := [.slice zh.1 d.holders.length zh.2, .slice zl.1 d.lost.length zl.2, V, .int .i64 u]) rfl rfl (fun w' hM => by
        have := after_fn _ _ V d.holders d.lost T u (by omega) (by omega) (by omega) w' (hM.gr (by repeat (first | exact hmh | apply List.Mem.tail))) (hM.gr (by repeat (first | exact hml | apply List.Mem.tail))) (hTr w' hM.tail)
        rw [hal] at this
        exact this) ?_
    rintro ⟨a6, c6⟩ -
    apply HB.fold
    refine HB.all (by refine Keep.blk memD rfl (Keep.blk memD rfl Keep.nil)) [13] (by kernel_rfl) rfl ⟨⟨_, rfl, ?_⟩, trivial⟩
    refine HP.one ?_
    refine H1.callz1 (V := fun z : Option Addr × Nat => .slice z.1 d.holders.length z.2) (An := fun z : Option Addr × Nat => A.grow 3 1 z.1 z.2 d.holders.length (ints (afterS d.holders d.lost T u))) (I := fun _ => True) (vs := [.slice zh.1 d.holders.length zh.2, .slice zl.1 d.lost.length zl.2, V, .int .i64 u]) rfl rfl (fun w' hM => by
        have := rafter_fn _ _ V d.holders d.lost T u (by omega) (by omega) (by omega) w' (hM.gr (by repeat (first | exact hmh | apply List.Mem.tail))) (hM.gr (by repeat (first | exact hml | apply List.Mem.tail))) (hTr w' hM.tail.tail)
        rw [hal] at this
        exact this) ?_
    rintro ⟨a7, c7⟩ -
    apply HB.fold
    refine HB.all (by refine Keep.blk memD rfl (Keep.blk memD rfl Keep.nil)) [14] (by kernel_rfl) rfl ⟨⟨_, rfl, ?_⟩, trivial⟩
    refine HP.one ?_
    refine H1.callx (vs := [.slice a6 d.holders.length c6, .slice a7 d.holders.length c7]) rfl rfl (fun w' hM => same_fn _ _ (afterS d.holders d.lost T u) (afterS d.holders d.lost T u) (by omega) (by omega) w' (hM.gr memD) (hM.gr memD)) ?_
    rw [decide_eq_true (rfl : afterS d.holders d.lost T u = afterS d.holders d.lost T u)]
    apply HB.fold
    refine HB.pa 15 rfl ?_
    refine HB.done (by refine Keep.blk memD rfl (Keep.blk memD rfl Keep.nil)) (by kernel_rfl) ?_
    exact HX.cut () trivial esA (Hs.dropI (Hs.dropI (Hs.refl _)))
  rintro - -
  repeat' (first | apply HL.fold | apply HA.fold | apply HL.nil | apply HX.n_then | apply HC.seq | apply HC.region | refine HL.pa ?_ | refine HL.ga rfl ?_ | refine HL.na rfl ?_ | refine HL.nu rfl rfl ?_ | apply HC.block | apply HC.skip | apply HC.exit | apply HC.ret | apply HX.e_block | refine HX.e_other rfl ?_ | apply HX.e_then | apply HX.e_again | apply HX.n_block | apply HX.r_then | apply HX.r_block | apply HX.r_again | refine HC.cond_yes rfl ?_ | refine HC.cond_no rfl ?_ | refine HL.one (H1.ldb rfl memA rfl rfl ?_) | refine HC.cond rfl (fun hc => ?_) (fun hc => ?_) | refine HC.cond_b rfl (fun hc => ?_) (fun hc => ?_))
  exact HX.again (q + 1) (by omega) (by omega) esA (Hs.refl _)
end Go.Sx

