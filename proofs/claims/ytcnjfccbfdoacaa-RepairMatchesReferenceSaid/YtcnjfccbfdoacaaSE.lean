/- Valid of the reference. -/
import Derived.Test.YtcnjfccbfdoacaaRJ
import Derived.Test.YtcnjfccbfdoacaaR9
namespace Go.Sx
open Go Go.Proofs
section
variable {l : List (Addr × Value)} {w0 : World} {H : List Atom}
variable {P : Program} {N : Nat} {ds : List Deferred} {ol : List Oper} {Q : Post} {E : Env} {fuel : Nat} {listed : Array Bool} {ty : TypeId} {pos : String} {af : Array Edge}
theorem HP.drop_a {op : Op} {d : Option Nat} {i j : Nat} {want b : Bool} (hj : guardE ol E j = some b) (h : HB l P N ds ol fuel (listed.setIfInBounds i true) Q (putE d undef E) w0 H)
    (hb : b = !want := by
      first | with_reducible rfl | assumption | (simp only [Bool.not_true, Bool.not_false]; done) | (simp only [decide_eq_true_eq, decide_eq_false_iff_not, Bool.not_true, Bool.not_false, not_true_eq_false, not_false_eq_true, reduceCtorEq]; first | done | assumption | omega))
    (hd : dOk d N = true := by exact rfl) : HP l P N ds ol fuel listed i ⟨d, op, ty, pos, af, some (j, want)⟩ Q E w0 H := fun w hM a ha => by
  have hy := guardE_spec hj ha
  have hne : ((some (!want) : Option Bool) == some want) = false := by cases want <;> rfl
  simp only [Region.wanted, hy, hb, hne, Bool.false_eq_true, if_false]
  exact h w hM _ (ha.putO hd undef)
end
/-- What the reference asks of transfer i, ahead of its sources. -/
structure RPre (surv lost : List Int) (k deadline : Int) (l : List Tr) (i : Nat) : Prop where
  inL : (tr l i).frag ∈ lost
  new : (tr l i).frag ∉ (l.take i).map Tr.frag
  off : (tr l i).to ∉ surv
  st : 0 ≤ (tr l i).start ∧ (tr l i).start ≤ deadline - 1
  en : IntKind.i64.wrap ((tr l i).stop - 1) = (tr l i).start
  n : ((tr l i).src.length : Int) = k
/-- What it asks of source q of transfer i. -/
structure RStep (surv : List Int) (l : List Tr) (width : Int) (i q : Nat) : Prop where
  inH : at' (tr l i).src q ∈ hasR surv l (tr l i).start
  asc : 0 < q → at' (tr l i).src (q - 1) < at' (tr l i).src q
  cnt : (cntP l (tr l i).start (at' (tr l i).src q) : Int) ≤ width
structure RValidP (holders lost : List Int) (width k deadline : Int) (l : List Tr) : Prop where
  r : Right holders lost width k deadline
  len : l.length = lost.length
  pre : ∀ i, i < l.length → RPre (survS holders lost) lost k deadline l i
  cu : custs (l.map Tr.to)
  src : ∀ i, i < l.length → ∀ q, q < (tr l i).src.length → RStep (survS holders lost) l width i q
noncomputable def rvalidB (holders lost : List Int) (width k deadline : Int) (l : List Tr) : Bool := @decide (RValidP holders lost width k deadline l) (Classical.propDecidable _)
theorem rvalidB_no {holders lost : List Int} {width k deadline : Int} {l : List Tr} (h : ¬ RValidP holders lost width k deadline l) : rvalidB holders lost width k deadline l = false := by unfold rvalidB; exact @decide_eq_false _ (Classical.propDecidable _) h
theorem rvalidB_yes {holders lost : List Int} {width k deadline : Int} {l : List Tr} (h : RValidP holders lost width k deadline l) : rvalidB holders lost width k deadline l = true := by unfold rvalidB; exact @decide_eq_true _ (Classical.propDecidable _) h
theorem hasR_len (surv : List Int) (l : List Tr) (day : Int) : (hasR surv l day).length ≤ 9 := by
  unfold hasR
  rw [List.length_map]
  have := List.length_filter_le (hasP surv l day) (List.range 9)
  rwa [List.length_range] at this
attribute [local irreducible] WC WL WX POp Then Again Fn NX W1 WA WO QL RP RA Yld LoopAt HC HL HX HN H1 HA HO HQ HB HP A.blk A.grow A.rd A.obj A.mp AgainH CutH
set_option maxHeartbeats 4000000 in
theorem rvalid_fn (v u t : Value) (holders lost : List Int) (width k deadline : Int) (l : List Tr) (hh : holders.length ≤ 1000000) (hl : lost.length ≤ 100000) (ht : l.length ≤ 100000) (w : World) (hR : Rd w v (ints holders)) (hS : Rd w u (ints lost)) (hT : RdT w t l) :
    Fn Try.prog 18 #[v, u, .int .i64 width, .int .i64 k, .int .i64 deadline, t] w fun x w' => x = .bool (rvalidB holders lost width k deadline l) ∧ Ext w w' := by
  obtain ⟨a, c, rfl, hc⟩ := hR.isInts
  obtain ⟨a', c', rfl, hc'⟩ := hS.isInts
  obtain ⟨at_, ct, rfl⟩ := hT.shape
  refine enterH (l := [_, _, _, _, _, _]) rfl Try.ntmps18 rfl ?_
  repeat' (first | apply HL.fold | apply HA.fold | apply HL.nil | apply HX.n_then | apply HC.seq | apply HC.region | refine HL.pa ?_ | refine HL.ga rfl ?_ | refine HL.na rfl ?_ | refine HL.nu rfl rfl ?_ | apply HC.block | apply HC.skip | apply HC.exit | apply HC.ret | apply HX.e_block | refine HX.e_other rfl ?_ | apply HX.e_then | apply HX.e_again | apply HX.n_block | apply HX.r_then | apply HX.r_block | apply HX.r_again | refine HC.cond_yes rfl ?_ | refine HC.cond_no rfl ?_ | refine HL.one (H1.ldb rfl memA rfl rfl ?_) | refine HC.cond rfl (fun hc => ?_) (fun hc => ?_) | refine HC.cond_b rfl (fun hc => ?_) (fun hc => ?_))
  refine HL.one (H1.callz1 (vs := [.slice a holders.length c, .slice a' lost.length c', .int .i64 width, .int .i64 k, .int .i64 deadline]) rfl rfl (fun w' hM => rright_fn _ _ holders lost width k deadline hh (by omega) w' (hM.rd0 hR) (hM.rd0 hS)) ?_)
  rintro ⟨asz, csz⟩ -
  dsimp only
  by_cases hr : Right holders lost width k deadline
  rotate_left
  · have hb : rvalidB holders lost width k deadline l = false := rvalidB_no fun h => hr h.r
    rw [rightB_no hr]
    repeat' (first | apply HL.fold | apply HA.fold | apply HL.nil | apply HX.n_then | apply HC.seq | apply HC.region | refine HL.pa ?_ | refine HL.ga rfl ?_ | refine HL.na rfl ?_ | refine HL.nu rfl rfl ?_ | apply HC.block | apply HC.skip | apply HC.exit | apply HC.ret | apply HX.e_block | refine HX.e_other rfl ?_ | apply HX.e_then | apply HX.e_again | apply HX.n_block | apply HX.r_then | apply HX.r_block | apply HX.r_again | refine HC.cond_yes rfl ?_ | refine HC.cond_no rfl ?_ | refine HL.one (H1.ldb rfl memA rfl rfl ?_) | refine HC.cond rfl (fun hc => ?_) (fun hc => ?_) | refine HC.cond_b rfl (fun hc => ?_) (fun hc => ?_))
    exact HX.ret1 rfl rfl fun w' hM => ⟨by rw [hb], hM.ext⟩
  have e : rsurv holders lost width k deadline = survS holders lost := by unfold rsurv; rw [rightB_yes hr]; rfl
  rw [rightB_yes hr, e]
  by_cases hlen : l.length = lost.length
  rotate_left
  · have hb : rvalidB holders lost width k deadline l = false := rvalidB_no fun h => hlen h.len
    repeat' (first | apply HL.fold | apply HA.fold | apply HL.nil | apply HX.n_then | apply HC.seq | apply HC.region | refine HL.pa ?_ | refine HL.ga rfl ?_ | refine HL.na rfl ?_ | refine HL.nu rfl rfl ?_ | apply HC.block | apply HC.skip | apply HC.exit | apply HC.ret | apply HX.e_block | refine HX.e_other rfl ?_ | apply HX.e_then | apply HX.e_again | apply HX.n_block | apply HX.r_then | apply HX.r_block | apply HX.r_again | refine HC.cond_yes rfl ?_ | refine HC.cond_no rfl ?_ | refine HL.one (H1.ldb rfl memA rfl rfl ?_) | refine HC.cond rfl (fun hc => ?_) (fun hc => ?_) | refine HC.cond_b rfl (fun hc => ?_) (fun hc => ?_))
    exact HX.ret1 rfl rfl fun w' hM => ⟨by rw [hb], hM.ext⟩
  have hsl := survS_len holders lost
  have hh9 := hr.n9
  have hd := hr.d
  have hk := hr.k
  have hno1 : ∀ {i : Nat}, i < l.length → ¬ RPre (survS holders lost) lost k deadline l i → rvalidB holders lost width k deadline l = false := fun hi hn => rvalidB_no fun h => hn (h.pre _ hi)
  have hno2 : ∀ {i q : Nat}, i < l.length → q < (tr l i).src.length → ¬ RStep (survS holders lost) l width i q → rvalidB holders lost width k deadline l = false := fun hi hq hn => rvalidB_no fun h => hn (h.src _ hi _ hq)
  have hyes : (∀ i, i < l.length → RPre (survS holders lost) lost k deadline l i) → custs (l.map Tr.to) → (∀ i, i < l.length → ∀ q, q < (tr l i).src.length → RStep (survS holders lost) l width i q) → rvalidB holders lost width k deadline l = true := fun h1 h2 h3 => rvalidB_yes ⟨hr, hlen, h1, h2, h3⟩
  generalize survS holders lost = surv at *
  repeat' (first | apply HL.fold | apply HA.fold | apply HL.nil | apply HX.n_then | apply HC.seq | apply HC.region | refine HL.pa ?_ | refine HL.ga rfl ?_ | refine HL.na rfl ?_ | refine HL.nu rfl rfl ?_ | apply HC.block | apply HC.skip | apply HC.exit | apply HC.ret | apply HX.e_block | refine HX.e_other rfl ?_ | apply HX.e_then | apply HX.e_again | apply HX.n_block | apply HX.r_then | apply HX.r_block | apply HX.r_again | refine HC.cond_yes rfl ?_ | refine HC.cond_no rfl ?_ | refine HL.one (H1.ldb rfl memA rfl rfl ?_) | refine HC.cond rfl (fun hc => ?_) (fun hc => ?_) | refine HC.cond_b rfl (fun hc => ?_) (fun hc => ?_))
  refine HC.grow0 3 1 ?_
  refine HC.grow0 3 1 ?_
  refine HC.loop (α := Nat × (Option Addr × Nat) × (Option Addr × Nat)) (fun z => [(1, .slice a' lost.length c'), (2, .int .i64 width), (3, .int .i64 k), (4, .int .i64 deadline), (5, .slice at_ l.length ct), (14, .slice asz surv.length csz), (15, .slice z.2.1.1 ((l.take z.1).map Tr.frag).length z.2.1.2), (16, .slice z.2.2.1 ((l.take z.1).map Tr.to).length z.2.2.2), (17, .int .i64 (z.1 : Int))])
    (fun z => [A.grow 3 1 z.2.1.1 z.2.1.2 ((l.take z.1).map Tr.frag).length (ints ((l.take z.1).map Tr.frag)), A.grow 3 1 z.2.2.1 z.2.2.2 ((l.take z.1).map Tr.to).length (ints ((l.take z.1).map Tr.to)), A.grow 3 1 asz csz surv.length (ints surv)])
    (fun z => z.1 ≤ l.length ∧ (∀ i, i < z.1 → RPre surv lost k deadline l i)) (fun z => l.length - z.1) (0, (none, 0), (none, 0)) ⟨Nat.zero_le _, (fun i hi => absurd hi (Nat.not_lt_zero i))⟩ esA (by repeat (first | exact Hs.nil _ | (refine Hs.cons pickA ?_))) ?_
  rintro ⟨i, ⟨aF, cF⟩, ⟨aT, cT⟩⟩ ⟨hi, hok⟩
  dsimp only at hi hok ⊢
  have hFl : ((l.take i).map Tr.frag).length = i := by rw [List.length_map, List.length_take]; omega
  have hTl : ((l.take i).map Tr.to).length = i := by rw [List.length_map, List.length_take]; omega
  by_cases hlt : i < l.length
  · have hstepF := map_take Tr.frag hlt
    have hstepT := map_take Tr.to hlt
    have hno := fun hn => hno1 hlt hn
    have hp1 := fun h : RPre surv lost k deadline l i => h.new
    have hp2 : _ → _ → _ → _ → _ → _ → RPre surv lost k deadline l i := RPre.mk
    generalize (l.take i).map Tr.frag = F at *
    generalize (l.take i).map Tr.to = T at *
    obtain ⟨bt, offt, h, rfl, hcl, hsrc⟩ := hT.el hlt
    obtain ⟨ah, ch, rfl, -⟩ := hsrc.isInts
    repeat' (first | apply HL.fold | apply HA.fold | apply HL.nil | apply HX.n_then | apply HC.seq | apply HC.region | refine HL.pa ?_ | refine HL.ga rfl ?_ | refine HL.na rfl ?_ | refine HL.nu rfl rfl ?_ | apply HC.block | apply HC.skip | apply HC.exit | apply HC.ret | apply HX.e_block | refine HX.e_other rfl ?_ | apply HX.e_then | apply HX.e_again | apply HX.n_block | apply HX.r_then | apply HX.r_block | apply HX.r_again | refine HC.cond_yes rfl ?_ | refine HC.cond_no rfl ?_ | refine HL.one (H1.ldb rfl memA rfl rfl ?_) | refine HC.cond rfl (fun hc => ?_) (fun hc => ?_) | refine HC.cond_b rfl (fun hc => ?_) (fun hc => ?_))
    refine HL.one (H1.ldAggw (vs := [.int .i64 (tr l i).frag, .int .i64 (tr l i).to, .slice ah (tr l i).src.length ch, .int .i64 (tr l i).start, .int .i64 (tr l i).stop]) rfl rfl (fun w hM j v hj => cell_ext hM.ext (hcl j v hj)) rfl ?_)
    repeat' (first | apply HL.fold | apply HA.fold | apply HL.nil | apply HX.n_then | apply HC.seq | apply HC.region | refine HL.pa ?_ | refine HL.ga rfl ?_ | refine HL.na rfl ?_ | refine HL.nu rfl rfl ?_ | apply HC.block | apply HC.skip | apply HC.exit | apply HC.ret | apply HX.e_block | refine HX.e_other rfl ?_ | apply HX.e_then | apply HX.e_again | apply HX.n_block | apply HX.r_then | apply HX.r_block | apply HX.r_again | refine HC.cond_yes rfl ?_ | refine HC.cond_no rfl ?_ | refine HL.one (H1.ldb rfl memA rfl rfl ?_) | refine HC.cond rfl (fun hc => ?_) (fun hc => ?_) | refine HC.cond_b rfl (fun hc => ?_) (fun hc => ?_))
    refine HL.one (H1.alloc (cs := tcell trz (.slice none 0 0)) rfl rfl (fun b18 => ?_))
    repeat' (first | apply HL.fold | apply HA.fold | apply HL.nil | apply HX.n_then | apply HC.seq | apply HC.region | refine HL.pa ?_ | refine HL.ga rfl ?_ | refine HL.na rfl ?_ | refine HL.nu rfl rfl ?_ | apply HC.block | apply HC.skip | apply HC.exit | apply HC.ret | apply HX.e_block | refine HX.e_other rfl ?_ | apply HX.e_then | apply HX.e_again | apply HX.n_block | apply HX.r_then | apply HX.r_block | apply HX.r_again | refine HC.cond_yes rfl ?_ | refine HC.cond_no rfl ?_ | refine HL.one (H1.ldb rfl memA rfl rfl ?_) | refine HC.cond rfl (fun hc => ?_) (fun hc => ?_) | refine HC.cond_b rfl (fun hc => ?_) (fun hc => ?_))
    refine HL.one (H1.stAgg (cs := tcell trz (.slice none 0 0)) (vs := [.int .i64 (tr l i).frag, .int .i64 (tr l i).to, .slice ah (tr l i).src.length ch, .int .i64 (tr l i).start, .int .i64 (tr l i).stop]) rfl rfl rfl (by intro v hv; simp only [List.mem_cons, List.not_mem_nil, or_false] at hv; rcases hv with rfl | rfl | rfl | rfl | rfl <;> rfl) rplA rfl ?_)
    repeat' (first | apply HL.fold | apply HA.fold | apply HL.nil | apply HX.n_then | apply HC.seq | apply HC.region | refine HL.pa ?_ | refine HL.ga rfl ?_ | refine HL.na rfl ?_ | refine HL.nu rfl rfl ?_ | apply HC.block | apply HC.skip | apply HC.exit | apply HC.ret | apply HX.e_block | refine HX.e_other rfl ?_ | apply HX.e_then | apply HX.e_again | apply HX.n_block | apply HX.r_then | apply HX.r_block | apply HX.r_again | refine HC.cond_yes rfl ?_ | refine HC.cond_no rfl ?_ | refine HL.one (H1.ldb rfl memA rfl rfl ?_) | refine HC.cond rfl (fun hc => ?_) (fun hc => ?_) | refine HC.cond_b rfl (fun hc => ?_) (fun hc => ?_))
    refine HL.one (H1.call0 (vs := [.slice a' lost.length c', .int .i64 (tr l i).frag]) rfl rfl (fun w' hM => rin_fn _ lost (tr l i).frag (by omega) w' (hM.rd0 hS)) ?_)
    by_cases q1 : (tr l i).frag ∈ lost
    rotate_left
    · have hb := hno fun h => q1 h.inL
      rw [decide_eq_false q1]
      repeat' (first | apply HL.fold | apply HA.fold | apply HL.nil | apply HX.n_then | apply HC.seq | apply HC.region | refine HL.pa ?_ | refine HL.ga rfl ?_ | refine HL.na rfl ?_ | refine HL.nu rfl rfl ?_ | apply HC.block | apply HC.skip | apply HC.exit | apply HC.ret | apply HX.e_block | refine HX.e_other rfl ?_ | apply HX.e_then | apply HX.e_again | apply HX.n_block | apply HX.r_then | apply HX.r_block | apply HX.r_again | refine HC.cond_yes rfl ?_ | refine HC.cond_no rfl ?_ | refine HL.one (H1.ldb rfl memA rfl rfl ?_) | refine HC.cond rfl (fun hc => ?_) (fun hc => ?_) | refine HC.cond_b rfl (fun hc => ?_) (fun hc => ?_))
      exact HX.ret1 rfl rfl fun w' hM => ⟨by rw [hb], hM.ext⟩
    rw [decide_eq_true q1]
    repeat' (first | apply HL.fold | apply HA.fold | apply HL.nil | apply HX.n_then | apply HC.seq | apply HC.region | refine HL.pa ?_ | refine HL.ga rfl ?_ | refine HL.na rfl ?_ | refine HL.nu rfl rfl ?_ | apply HC.block | apply HC.skip | apply HC.exit | apply HC.ret | apply HX.e_block | refine HX.e_other rfl ?_ | apply HX.e_then | apply HX.e_again | apply HX.n_block | apply HX.r_then | apply HX.r_block | apply HX.r_again | refine HC.cond_yes rfl ?_ | refine HC.cond_no rfl ?_ | refine HL.one (H1.ldb rfl memA rfl rfl ?_) | refine HC.cond rfl (fun hc => ?_) (fun hc => ?_) | refine HC.cond_b rfl (fun hc => ?_) (fun hc => ?_))
    refine HL.one (H1.call0 (vs := [.slice aF F.length cF, .int .i64 (tr l i).frag]) rfl rfl (fun w' hM => rin_fn _ F (tr l i).frag (by omega) w' (hM.gr memA)) ?_)
    by_cases q2 : (tr l i).frag ∈ F
    · have hb := hno fun h => hp1 h q2
      rw [decide_eq_true q2]
      repeat' (first | apply HL.fold | apply HA.fold | apply HL.nil | apply HX.n_then | apply HC.seq | apply HC.region | refine HL.pa ?_ | refine HL.ga rfl ?_ | refine HL.na rfl ?_ | refine HL.nu rfl rfl ?_ | apply HC.block | apply HC.skip | apply HC.exit | apply HC.ret | apply HX.e_block | refine HX.e_other rfl ?_ | apply HX.e_then | apply HX.e_again | apply HX.n_block | apply HX.r_then | apply HX.r_block | apply HX.r_again | refine HC.cond_yes rfl ?_ | refine HC.cond_no rfl ?_ | refine HL.one (H1.ldb rfl memA rfl rfl ?_) | refine HC.cond rfl (fun hc => ?_) (fun hc => ?_) | refine HC.cond_b rfl (fun hc => ?_) (fun hc => ?_))
      exact HX.ret1 rfl rfl fun w' hM => ⟨by rw [hb], hM.ext⟩
    rw [decide_eq_false q2]
    repeat' (first | apply HL.fold | apply HA.fold | apply HL.nil | apply HX.n_then | apply HC.seq | apply HC.region | refine HL.pa ?_ | refine HL.ga rfl ?_ | refine HL.na rfl ?_ | refine HL.nu rfl rfl ?_ | apply HC.block | apply HC.skip | apply HC.exit | apply HC.ret | apply HX.e_block | refine HX.e_other rfl ?_ | apply HX.e_then | apply HX.e_again | apply HX.n_block | apply HX.r_then | apply HX.r_block | apply HX.r_again | refine HC.cond_yes rfl ?_ | refine HC.cond_no rfl ?_ | refine HL.one (H1.ldb rfl memA rfl rfl ?_) | refine HC.cond rfl (fun hc => ?_) (fun hc => ?_) | refine HC.cond_b rfl (fun hc => ?_) (fun hc => ?_))
    refine HL.one (H1.call0 (vs := [.slice asz surv.length csz, .int .i64 (tr l i).to]) rfl rfl (fun w' hM => rin_fn _ surv (tr l i).to (by omega) w' (hM.gr memA)) ?_)
    by_cases q3 : (tr l i).to ∈ surv
    · have hb := hno fun h => h.off q3
      rw [decide_eq_true q3]
      repeat' (first | apply HL.fold | apply HA.fold | apply HL.nil | apply HX.n_then | apply HC.seq | apply HC.region | refine HL.pa ?_ | refine HL.ga rfl ?_ | refine HL.na rfl ?_ | refine HL.nu rfl rfl ?_ | apply HC.block | apply HC.skip | apply HC.exit | apply HC.ret | apply HX.e_block | refine HX.e_other rfl ?_ | apply HX.e_then | apply HX.e_again | apply HX.n_block | apply HX.r_then | apply HX.r_block | apply HX.r_again | refine HC.cond_yes rfl ?_ | refine HC.cond_no rfl ?_ | refine HL.one (H1.ldb rfl memA rfl rfl ?_) | refine HC.cond rfl (fun hc => ?_) (fun hc => ?_) | refine HC.cond_b rfl (fun hc => ?_) (fun hc => ?_))
      exact HX.ret1 rfl rfl fun w' hM => ⟨by rw [hb], hM.ext⟩
    rw [decide_eq_false q3]
    repeat' (first | apply HL.fold | apply HA.fold | apply HL.nil | apply HX.n_then | apply HC.seq | apply HC.region | refine HL.pa ?_ | refine HL.ga rfl ?_ | refine HL.na rfl ?_ | refine HL.nu rfl rfl ?_ | apply HC.block | apply HC.skip | apply HC.exit | apply HC.ret | apply HX.e_block | refine HX.e_other rfl ?_ | apply HX.e_then | apply HX.e_again | apply HX.n_block | apply HX.r_then | apply HX.r_block | apply HX.r_again | refine HC.cond_yes rfl ?_ | refine HC.cond_no rfl ?_ | refine HL.one (H1.ldb rfl memA rfl rfl ?_) | refine HC.cond rfl (fun hc => ?_) (fun hc => ?_) | refine HC.cond_b rfl (fun hc => ?_) (fun hc => ?_))
    refine HL.one (H1.call0 rfl rfl (fun w' _ => rwithin_fn (tr l i).start 0 (deadline - 1) w') ?_)
    by_cases q4 : 0 ≤ (tr l i).start ∧ (tr l i).start ≤ deadline - 1
    rotate_left
    · have hb := hno fun h => q4 h.st
      rw [decide_eq_false q4]
      repeat' (first | apply HL.fold | apply HA.fold | apply HL.nil | apply HX.n_then | apply HC.seq | apply HC.region | refine HL.pa ?_ | refine HL.ga rfl ?_ | refine HL.na rfl ?_ | refine HL.nu rfl rfl ?_ | apply HC.block | apply HC.skip | apply HC.exit | apply HC.ret | apply HX.e_block | refine HX.e_other rfl ?_ | apply HX.e_then | apply HX.e_again | apply HX.n_block | apply HX.r_then | apply HX.r_block | apply HX.r_again | refine HC.cond_yes rfl ?_ | refine HC.cond_no rfl ?_ | refine HL.one (H1.ldb rfl memA rfl rfl ?_) | refine HC.cond rfl (fun hc => ?_) (fun hc => ?_) | refine HC.cond_b rfl (fun hc => ?_) (fun hc => ?_))
      exact HX.ret1 rfl rfl fun w' hM => ⟨by rw [hb], hM.ext⟩
    rw [decide_eq_true q4]
    repeat' (first | apply HL.fold | apply HA.fold | apply HL.nil | apply HX.n_then | apply HC.seq | apply HC.region | refine HL.pa ?_ | refine HL.ga rfl ?_ | refine HL.na rfl ?_ | refine HL.nu rfl rfl ?_ | apply HC.block | apply HC.skip | apply HC.exit | apply HC.ret | apply HX.e_block | refine HX.e_other rfl ?_ | apply HX.e_then | apply HX.e_again | apply HX.n_block | apply HX.r_then | apply HX.r_block | apply HX.r_again | refine HC.cond_yes rfl ?_ | refine HC.cond_no rfl ?_ | refine HL.one (H1.ldb rfl memA rfl rfl ?_) | refine HC.cond rfl (fun hc => ?_) (fun hc => ?_) | refine HC.cond_b rfl (fun hc => ?_) (fun hc => ?_))
    refine HL.pa (v := .int .i64 (IntKind.i64.wrap ((tr l i).stop - 1))) ?_ (POp.sub' rfl rfl)
    by_cases q5 : IntKind.i64.wrap ((tr l i).stop - 1) = (tr l i).start
    rotate_left
    · have hb := hno fun h => q5 h.en
      repeat' (first | apply HL.fold | apply HA.fold | apply HL.nil | apply HX.n_then | apply HC.seq | apply HC.region | refine HL.pa ?_ | refine HL.ga rfl ?_ | refine HL.na rfl ?_ | refine HL.nu rfl rfl ?_ | apply HC.block | apply HC.skip | apply HC.exit | apply HC.ret | apply HX.e_block | refine HX.e_other rfl ?_ | apply HX.e_then | apply HX.e_again | apply HX.n_block | apply HX.r_then | apply HX.r_block | apply HX.r_again | refine HC.cond_yes rfl ?_ | refine HC.cond_no rfl ?_ | refine HL.one (H1.ldb rfl memA rfl rfl ?_) | refine HC.cond rfl (fun hc => ?_) (fun hc => ?_) | refine HC.cond_b rfl (fun hc => ?_) (fun hc => ?_))
      exact HX.ret1 rfl rfl fun w' hM => ⟨by rw [hb], hM.ext⟩
    by_cases q6 : ((tr l i).src.length : Int) = k
    rotate_left
    · have hb := hno fun h => q6 h.n
      repeat' (first | apply HL.fold | apply HA.fold | apply HL.nil | apply HX.n_then | apply HC.seq | apply HC.region | refine HL.pa ?_ | refine HL.ga rfl ?_ | refine HL.na rfl ?_ | refine HL.nu rfl rfl ?_ | apply HC.block | apply HC.skip | apply HC.exit | apply HC.ret | apply HX.e_block | refine HX.e_other rfl ?_ | apply HX.e_then | apply HX.e_again | apply HX.n_block | apply HX.r_then | apply HX.r_block | apply HX.r_again | refine HC.cond_yes rfl ?_ | refine HC.cond_no rfl ?_ | refine HL.one (H1.ldb rfl memA rfl rfl ?_) | refine HC.cond rfl (fun hc => ?_) (fun hc => ?_) | refine HC.cond_b rfl (fun hc => ?_) (fun hc => ?_))
      exact HX.ret1 rfl rfl fun w' hM => ⟨by rw [hb], hM.ext⟩
    have hpre := hp2 q1 q2 q3 q4 q5 q6
    repeat' (first | apply HL.fold | apply HA.fold | apply HL.nil | apply HX.n_then | apply HC.seq | apply HC.region | refine HL.pa ?_ | refine HL.ga rfl ?_ | refine HL.na rfl ?_ | refine HL.nu rfl rfl ?_ | apply HC.block | apply HC.skip | apply HC.exit | apply HC.ret | apply HX.e_block | refine HX.e_other rfl ?_ | apply HX.e_then | apply HX.e_again | apply HX.n_block | apply HX.r_then | apply HX.r_block | apply HX.r_again | refine HC.cond_yes rfl ?_ | refine HC.cond_no rfl ?_ | refine HL.one (H1.ldb rfl memA rfl rfl ?_) | refine HC.cond rfl (fun hc => ?_) (fun hc => ?_) | refine HC.cond_b rfl (fun hc => ?_) (fun hc => ?_))
    refine HL.one (H1.lit (cs := [.int .i64 (tr l i).frag]) rfl rfl rfl rfl rfl rfl (fun b3 => ?_))
    repeat' (first | apply HL.fold | apply HA.fold | apply HL.nil | apply HX.n_then | apply HC.seq | apply HC.region | refine HL.pa ?_ | refine HL.ga rfl ?_ | refine HL.na rfl ?_ | refine HL.nu rfl rfl ?_ | apply HC.block | apply HC.skip | apply HC.exit | apply HC.ret | apply HX.e_block | refine HX.e_other rfl ?_ | apply HX.e_then | apply HX.e_again | apply HX.n_block | apply HX.r_then | apply HX.r_block | apply HX.r_again | refine HC.cond_yes rfl ?_ | refine HC.cond_no rfl ?_ | refine HL.one (H1.ldb rfl memA rfl rfl ?_) | refine HC.cond rfl (fun hc => ?_) (fun hc => ?_) | refine HC.cond_b rfl (fun hc => ?_) (fun hc => ?_))
    refine HL.one (H1.app1 (u := .int .i64 (tr l i).frag) rfl rfl (fun _ _ => by first | ((repeat (first | with_reducible exact Rpl.here | with_reducible apply Rpl.there)); done) | (repeat (first | exact Rpl.here | apply Rpl.there))) (by repeat (first | exact mem_hd | apply mem_tl)) rfl rfl (by omega) rfl rfl (fun a4 c4 => ?_))
    repeat' (first | apply HL.fold | apply HA.fold | apply HL.nil | apply HX.n_then | apply HC.seq | apply HC.region | refine HL.pa ?_ | refine HL.ga rfl ?_ | refine HL.na rfl ?_ | refine HL.nu rfl rfl ?_ | apply HC.block | apply HC.skip | apply HC.exit | apply HC.ret | apply HX.e_block | refine HX.e_other rfl ?_ | apply HX.e_then | apply HX.e_again | apply HX.n_block | apply HX.r_then | apply HX.r_block | apply HX.r_again | refine HC.cond_yes rfl ?_ | refine HC.cond_no rfl ?_ | refine HL.one (H1.ldb rfl memA rfl rfl ?_) | refine HC.cond rfl (fun hc => ?_) (fun hc => ?_) | refine HC.cond_b rfl (fun hc => ?_) (fun hc => ?_))
    refine HL.one (H1.lit (cs := [.int .i64 (tr l i).to]) rfl rfl rfl rfl rfl rfl (fun b5 => ?_))
    repeat' (first | apply HL.fold | apply HA.fold | apply HL.nil | apply HX.n_then | apply HC.seq | apply HC.region | refine HL.pa ?_ | refine HL.ga rfl ?_ | refine HL.na rfl ?_ | refine HL.nu rfl rfl ?_ | apply HC.block | apply HC.skip | apply HC.exit | apply HC.ret | apply HX.e_block | refine HX.e_other rfl ?_ | apply HX.e_then | apply HX.e_again | apply HX.n_block | apply HX.r_then | apply HX.r_block | apply HX.r_again | refine HC.cond_yes rfl ?_ | refine HC.cond_no rfl ?_ | refine HL.one (H1.ldb rfl memA rfl rfl ?_) | refine HC.cond rfl (fun hc => ?_) (fun hc => ?_) | refine HC.cond_b rfl (fun hc => ?_) (fun hc => ?_))
    refine HL.one (H1.app1 (u := .int .i64 (tr l i).to) rfl rfl (fun _ _ => by first | ((repeat (first | with_reducible exact Rpl.here | with_reducible apply Rpl.there)); done) | (repeat (first | exact Rpl.here | apply Rpl.there))) (by repeat (first | exact mem_hd | apply mem_tl)) rfl rfl (by omega) rfl rfl (fun a6 c6 => ?_))
    repeat' (first | apply HL.fold | apply HA.fold | apply HL.nil | apply HX.n_then | apply HC.seq | apply HC.region | refine HL.pa ?_ | refine HL.ga rfl ?_ | refine HL.na rfl ?_ | refine HL.nu rfl rfl ?_ | apply HC.block | apply HC.skip | apply HC.exit | apply HC.ret | apply HX.e_block | refine HX.e_other rfl ?_ | apply HX.e_then | apply HX.e_again | apply HX.n_block | apply HX.r_then | apply HX.r_block | apply HX.r_again | refine HC.cond_yes rfl ?_ | refine HC.cond_no rfl ?_ | refine HL.one (H1.ldb rfl memA rfl rfl ?_) | refine HC.cond rfl (fun hc => ?_) (fun hc => ?_) | refine HC.cond_b rfl (fun hc => ?_) (fun hc => ?_))
    refine HX.again (i + 1, (some ⟨a4, 0, none⟩, c4), (some ⟨a6, 0, none⟩, c6)) ⟨by show i + 1 ≤ _; omega, fun j hj => ?_⟩ (by show l.length - (i + 1) < l.length - i; omega) (by dsimp only; rw [hstepF, hstepT, List.length_append, List.length_append]; repeat (first | exact trivial | refine ⟨rfl, ?_⟩)) ?_
    · by_cases e : j = i
      · subst e; exact hpre
      · exact hok j (by dsimp only at hj; omega)
    · dsimp only
      rw [hstepF, hstepT, List.length_append, List.length_append, ints_app, ints_app]
      repeat (first | exact Hs.nil _ | (refine Hs.cons pickA ?_))
  · obtain rfl : i = l.length := by omega
    rw [List.take_length] at hTl ⊢
    repeat' (first | apply HL.fold | apply HA.fold | apply HL.nil | apply HX.n_then | apply HC.seq | apply HC.region | refine HL.pa ?_ | refine HL.ga rfl ?_ | refine HL.na rfl ?_ | refine HL.nu rfl rfl ?_ | apply HC.block | apply HC.skip | apply HC.exit | apply HC.ret | apply HX.e_block | refine HX.e_other rfl ?_ | apply HX.e_then | apply HX.e_again | apply HX.n_block | apply HX.r_then | apply HX.r_block | apply HX.r_again | refine HC.cond_yes rfl ?_ | refine HC.cond_no rfl ?_ | refine HL.one (H1.ldb rfl memA rfl rfl ?_) | refine HC.cond rfl (fun hc => ?_) (fun hc => ?_) | refine HC.cond_b rfl (fun hc => ?_) (fun hc => ?_))
    refine HL.one (H1.callp (α := Bool) (V := fun b => .tuple #[.bool (decide (custs (l.map Tr.to))), .bool b]) (I := fun _ => True) rfl rfl (fun w' hM => (different_fn _ (l.map Tr.to) (by omega) w' (hM.gr memA)).mono fun x w'' ⟨⟨b, h1, _⟩, h3⟩ => ⟨b, trivial, h1, h3⟩) ?_)
    rintro sm -
    by_cases hcu : custs (l.map Tr.to)
    rotate_left
    · have hb : rvalidB holders lost width k deadline l = false := rvalidB_no fun h => hcu h.cu
      rw [decide_eq_false hcu]
      repeat' (first | apply HL.fold | apply HA.fold | apply HL.nil | apply HX.n_then | apply HC.seq | apply HC.region | refine HL.pa ?_ | refine HL.ga rfl ?_ | refine HL.na rfl ?_ | refine HL.nu rfl rfl ?_ | apply HC.block | apply HC.skip | apply HC.exit | apply HC.ret | apply HX.e_block | refine HX.e_other rfl ?_ | apply HX.e_then | apply HX.e_again | apply HX.n_block | apply HX.r_then | apply HX.r_block | apply HX.r_again | refine HC.cond_yes rfl ?_ | refine HC.cond_no rfl ?_ | refine HL.one (H1.ldb rfl memA rfl rfl ?_) | refine HC.cond rfl (fun hc => ?_) (fun hc => ?_) | refine HC.cond_b rfl (fun hc => ?_) (fun hc => ?_))
      exact HX.ret1 rfl rfl fun w' hM => ⟨by rw [hb], hM.ext⟩
    rw [decide_eq_true hcu]
    repeat' (first | apply HL.fold | apply HA.fold | apply HL.nil | apply HX.n_then | apply HC.seq | apply HC.region | refine HL.pa ?_ | refine HL.ga rfl ?_ | refine HL.na rfl ?_ | refine HL.nu rfl rfl ?_ | apply HC.block | apply HC.skip | apply HC.exit | apply HC.ret | apply HX.e_block | refine HX.e_other rfl ?_ | apply HX.e_then | apply HX.e_again | apply HX.n_block | apply HX.r_then | apply HX.r_block | apply HX.r_again | refine HC.cond_yes rfl ?_ | refine HC.cond_no rfl ?_ | refine HL.one (H1.ldb rfl memA rfl rfl ?_) | refine HC.cond rfl (fun hc => ?_) (fun hc => ?_) | refine HC.cond_b rfl (fun hc => ?_) (fun hc => ?_))
    refine HC.loop (α := Nat) (fun i => [(2, .int .i64 width), (5, .slice at_ l.length ct), (14, .slice asz surv.length csz), (21, .int .i64 (i : Int))])
      (fun _ => [A.grow 3 1 asz csz surv.length (ints surv)]) (fun i => i ≤ l.length ∧ ∀ j, j < i → ∀ q, q < (tr l j).src.length → RStep surv l width j q) (fun i => l.length - i) 0 ⟨Nat.zero_le _, fun j hj => absurd hj (Nat.not_lt_zero j)⟩ esA (by repeat (first | exact Hs.nil _ | (refine Hs.cons pickA ?_))) ?_
    rintro i ⟨hi, hok2⟩
    by_cases hlt : i < l.length
    rotate_left
    · obtain rfl : i = l.length := by omega
      have hb := hyes hok hcu hok2
      repeat' (first | apply HL.fold | apply HA.fold | apply HL.nil | apply HX.n_then | apply HC.seq | apply HC.region | refine HL.pa ?_ | refine HL.ga rfl ?_ | refine HL.na rfl ?_ | refine HL.nu rfl rfl ?_ | apply HC.block | apply HC.skip | apply HC.exit | apply HC.ret | apply HX.e_block | refine HX.e_other rfl ?_ | apply HX.e_then | apply HX.e_again | apply HX.n_block | apply HX.r_then | apply HX.r_block | apply HX.r_again | refine HC.cond_yes rfl ?_ | refine HC.cond_no rfl ?_ | refine HL.one (H1.ldb rfl memA rfl rfl ?_) | refine HC.cond rfl (fun hc => ?_) (fun hc => ?_) | refine HC.cond_b rfl (fun hc => ?_) (fun hc => ?_))
      exact HX.ret1 rfl rfl fun w' hM => ⟨by rw [hb], hM.ext⟩
    have hno := fun {q : Nat} (hq : q < (tr l i).src.length) hn => hno2 hlt hq hn
    obtain ⟨bt, offt, rfl, hel⟩ := hT.at (by intro e; rw [e] at hlt; simp at hlt)
    obtain ⟨h, hcl, hsrc⟩ := hel i hlt
    obtain ⟨ah, ch, rfl, -⟩ := hsrc.isInts
    have hsb : (tr l i).src.length ≤ 1000000 := by have := (hok i hlt).n; omega
    repeat' (first | apply HL.fold | apply HA.fold | apply HL.nil | apply HX.n_then | apply HC.seq | apply HC.region | refine HL.pa ?_ | refine HL.ga rfl ?_ | refine HL.na rfl ?_ | refine HL.nu rfl rfl ?_ | apply HC.block | apply HC.skip | apply HC.exit | apply HC.ret | apply HX.e_block | refine HX.e_other rfl ?_ | apply HX.e_then | apply HX.e_again | apply HX.n_block | apply HX.r_then | apply HX.r_block | apply HX.r_again | refine HC.cond_yes rfl ?_ | refine HC.cond_no rfl ?_ | refine HL.one (H1.ldb rfl memA rfl rfl ?_) | refine HC.cond rfl (fun hc => ?_) (fun hc => ?_) | refine HC.cond_b rfl (fun hc => ?_) (fun hc => ?_))
    refine HL.one (H1.ldAggw (vs := [.int .i64 (tr l i).frag, .int .i64 (tr l i).to, .slice ah (tr l i).src.length ch, .int .i64 (tr l i).start, .int .i64 (tr l i).stop]) rfl rfl (fun w hM j v hj => cell_ext hM.ext (hcl j v hj)) rfl ?_)
    repeat' (first | apply HL.fold | apply HA.fold | apply HL.nil | apply HX.n_then | apply HC.seq | apply HC.region | refine HL.pa ?_ | refine HL.ga rfl ?_ | refine HL.na rfl ?_ | refine HL.nu rfl rfl ?_ | apply HC.block | apply HC.skip | apply HC.exit | apply HC.ret | apply HX.e_block | refine HX.e_other rfl ?_ | apply HX.e_then | apply HX.e_again | apply HX.n_block | apply HX.r_then | apply HX.r_block | apply HX.r_again | refine HC.cond_yes rfl ?_ | refine HC.cond_no rfl ?_ | refine HL.one (H1.ldb rfl memA rfl rfl ?_) | refine HC.cond rfl (fun hc => ?_) (fun hc => ?_) | refine HC.cond_b rfl (fun hc => ?_) (fun hc => ?_))
    refine HL.one (H1.alloc (cs := tcell trz (.slice none 0 0)) rfl rfl (fun b22 => ?_))
    repeat' (first | apply HL.fold | apply HA.fold | apply HL.nil | apply HX.n_then | apply HC.seq | apply HC.region | refine HL.pa ?_ | refine HL.ga rfl ?_ | refine HL.na rfl ?_ | refine HL.nu rfl rfl ?_ | apply HC.block | apply HC.skip | apply HC.exit | apply HC.ret | apply HX.e_block | refine HX.e_other rfl ?_ | apply HX.e_then | apply HX.e_again | apply HX.n_block | apply HX.r_then | apply HX.r_block | apply HX.r_again | refine HC.cond_yes rfl ?_ | refine HC.cond_no rfl ?_ | refine HL.one (H1.ldb rfl memA rfl rfl ?_) | refine HC.cond rfl (fun hc => ?_) (fun hc => ?_) | refine HC.cond_b rfl (fun hc => ?_) (fun hc => ?_))
    refine HL.one (H1.stAgg (cs := tcell trz (.slice none 0 0)) (vs := [.int .i64 (tr l i).frag, .int .i64 (tr l i).to, .slice ah (tr l i).src.length ch, .int .i64 (tr l i).start, .int .i64 (tr l i).stop]) rfl rfl rfl (by intro v hv; simp only [List.mem_cons, List.not_mem_nil, or_false] at hv; rcases hv with rfl | rfl | rfl | rfl | rfl <;> rfl) rplA rfl ?_)
    repeat' (first | apply HL.fold | apply HA.fold | apply HL.nil | apply HX.n_then | apply HC.seq | apply HC.region | refine HL.pa ?_ | refine HL.ga rfl ?_ | refine HL.na rfl ?_ | refine HL.nu rfl rfl ?_ | apply HC.block | apply HC.skip | apply HC.exit | apply HC.ret | apply HX.e_block | refine HX.e_other rfl ?_ | apply HX.e_then | apply HX.e_again | apply HX.n_block | apply HX.r_then | apply HX.r_block | apply HX.r_again | refine HC.cond_yes rfl ?_ | refine HC.cond_no rfl ?_ | refine HL.one (H1.ldb rfl memA rfl rfl ?_) | refine HC.cond rfl (fun hc => ?_) (fun hc => ?_) | refine HC.cond_b rfl (fun hc => ?_) (fun hc => ?_))
    refine HL.one (H1.callz1 (vs := [.slice asz surv.length csz, .slice (some ⟨bt, offt, none⟩) l.length ct, .int .i64 (tr l i).start]) rfl rfl (fun w' hM => rhas_fn _ _ surv l (tr l i).start (by omega) (by omega) w' (hM.gr memA) (hT.ext hM.ext)) ?_)
    rintro ⟨aH, cH⟩ -
    dsimp only
    have hHl := hasR_len surv l (tr l i).start
    have hinH := fun {q : Nat} (h : RStep surv l width i q) => h.inH
    have hmk : ∀ {q : Nat}, _ → _ → _ → RStep surv l width i q := RStep.mk
    generalize hasR surv l (tr l i).start = HR at *
    repeat' (first | apply HL.fold | apply HA.fold | apply HL.nil | apply HX.n_then | apply HC.seq | apply HC.region | refine HL.pa ?_ | refine HL.ga rfl ?_ | refine HL.na rfl ?_ | refine HL.nu rfl rfl ?_ | apply HC.block | apply HC.skip | apply HC.exit | apply HC.ret | apply HX.e_block | refine HX.e_other rfl ?_ | apply HX.e_then | apply HX.e_again | apply HX.n_block | apply HX.r_then | apply HX.r_block | apply HX.r_again | refine HC.cond_yes rfl ?_ | refine HC.cond_no rfl ?_ | refine HL.one (H1.ldb rfl memA rfl rfl ?_) | refine HC.cond rfl (fun hc => ?_) (fun hc => ?_) | refine HC.cond_b rfl (fun hc => ?_) (fun hc => ?_))
    refine HC.loop (α := Nat) (fun q => [(2, .int .i64 width), (5, .slice (some ⟨bt, offt, none⟩) l.length ct), (14, .slice asz surv.length csz), (21, .int .i64 (i : Int)), (22, .pointer (some ⟨b22, 0, none⟩)), (23, .slice aH HR.length cH), (24, .int .i64 (q : Int))])
      (fun _ => [A.blk b22 [.int .i64 (tr l i).frag, .int .i64 (tr l i).to, .slice ah (tr l i).src.length ch, .int .i64 (tr l i).start, .int .i64 (tr l i).stop] 52, A.grow 3 1 aH cH HR.length (ints HR), A.grow 3 1 asz csz surv.length (ints surv)]) (fun q => q ≤ (tr l i).src.length ∧ ∀ p, p < q → RStep surv l width i p) (fun q => (tr l i).src.length - q) 0 ⟨Nat.zero_le _, fun j hj => absurd hj (Nat.not_lt_zero j)⟩ esA (by repeat (first | exact Hs.nil _ | (refine Hs.cons pickA ?_))) ?_
    rintro q ⟨hq, hokq⟩
    by_cases hql : q < (tr l i).src.length
    rotate_left
    · have hqe : q = (tr l i).src.length := by omega
      repeat' (first | apply HL.fold | apply HA.fold | apply HL.nil | apply HX.n_then | apply HC.seq | apply HC.region | refine HL.pa ?_ | refine HL.ga rfl ?_ | refine HL.na rfl ?_ | refine HL.nu rfl rfl ?_ | apply HC.block | apply HC.skip | apply HC.exit | apply HC.ret | apply HX.e_block | refine HX.e_other rfl ?_ | apply HX.e_then | apply HX.e_again | apply HX.n_block | apply HX.r_then | apply HX.r_block | apply HX.r_again | refine HC.cond_yes rfl ?_ | refine HC.cond_no rfl ?_ | refine HL.one (H1.ldb rfl memA rfl rfl ?_) | refine HC.cond rfl (fun hc => ?_) (fun hc => ?_) | refine HC.cond_b rfl (fun hc => ?_) (fun hc => ?_))
      refine HX.again (i + 1) ⟨by omega, fun j hj => ?_⟩ (by omega) esA (by repeat (first | exact Hs.nil _ | (refine Hs.cons pickA ?_)))
      by_cases e : j = i
      · subst e; exact fun p hp => hokq p (by omega)
      · exact hok2 j (by omega)
    obtain ⟨bs, offs, rfl, -⟩ := hsrc.iat (by intro e; rw [e] at hql; simp at hql)
    have hgq := ints_get hql
    repeat' (first | apply HL.fold | apply HA.fold | apply HL.nil | apply HX.n_then | apply HC.seq | apply HC.region | refine HL.pa ?_ | refine HL.ga rfl ?_ | refine HL.na rfl ?_ | refine HL.nu rfl rfl ?_ | apply HC.block | apply HC.skip | apply HC.exit | apply HC.ret | apply HX.e_block | refine HX.e_other rfl ?_ | apply HX.e_then | apply HX.e_again | apply HX.n_block | apply HX.r_then | apply HX.r_block | apply HX.r_again | refine HC.cond_yes rfl ?_ | refine HC.cond_no rfl ?_ | refine HL.one (H1.ldb rfl memA rfl rfl ?_))
    refine HC.cut (α := Bool) (fun z => [(2, .int .i64 width), (5, .slice (some ⟨bt, offt, none⟩) l.length ct), (14, .slice asz surv.length csz), (21, .int .i64 (i : Int)), (22, .pointer (some ⟨b22, 0, none⟩)), (23, .slice aH HR.length cH), (24, .int .i64 (q : Int)), (159, .bool z)]) (fun _ => [A.blk b22 [.int .i64 (tr l i).frag, .int .i64 (tr l i).to, .slice (some ⟨bs, offs, none⟩) (tr l i).src.length ch, .int .i64 (tr l i).start, .int .i64 (tr l i).stop] 52, A.grow 3 1 aH cH HR.length (ints HR), A.grow 3 1 asz csz surv.length (ints surv)]) (fun z => z = true ↔ ¬ (at' (tr l i).src q ∈ HR ∧ (0 < q → at' (tr l i).src (q - 1) < at' (tr l i).src q))) ?_ ?_
    · by_cases hin : at' (tr l i).src q ∈ HR
      rotate_left
      · skip
        refine HC.anyC ([(⟨b22, 2, none⟩, .slice (some ⟨bs, offs, none⟩) (tr l i).src.length ch), (⟨bs, offs + q, none⟩, zv (at' (tr l i).src q))]) rfl ?_
        refine HB.pa 0 rfl ?_
        refine HB.pa 1 rfl ?_
        refine HB.ld 2 rfl rfl memD ?_
        refine HB.pa 3 rfl ?_
        refine HB.pa 4 rfl ?_
        refine HB.ld 5 rfl rfl memD ?_
        refine HB.all (by refine Keep.blk memA rfl (Keep.base (hsrc.cell hgq) Keep.nil)) [6] (by kernel_rfl) rfl ⟨⟨_, rfl, ?_⟩, trivial⟩
        refine HP.one ?_
        refine H1.call0 (vs := [.slice aH HR.length cH, .int .i64 (at' (tr l i).src q)]) rfl rfl (fun w' hM => rin_fn _ HR (at' (tr l i).src q) (by omega) w' (hM.gr memA)) ?_
        rw [decide_eq_false hin]
        apply HB.fold
        refine HB.pa 7 rfl ?_
        refine HB.pa 8 rfl ?_
        first | refine HB.ga 9 rfl rfl ?_ | refine HB.na 9 rfl rfl ?_ | refine HB.nu 9 rfl rfl ?_
        first | refine HB.ga 10 rfl rfl ?_ | refine HB.na 10 rfl rfl ?_ | refine HB.nu 10 rfl rfl ?_
        first | refine HB.ga 11 rfl rfl ?_ | refine HB.na 11 rfl rfl ?_ | refine HB.nu 11 rfl rfl ?_
        first | refine HB.ga 12 rfl rfl ?_ | refine HB.na 12 rfl rfl ?_ | refine HB.nu 12 rfl rfl ?_
        first | refine HB.ga 13 rfl rfl ?_ | refine HB.na 13 rfl rfl ?_ | refine HB.nu 13 rfl rfl ?_
        first | refine HB.ga 14 rfl rfl ?_ | refine HB.na 14 rfl rfl ?_ | refine HB.nu 14 rfl rfl ?_
        first | refine HB.ga 15 rfl rfl ?_ | refine HB.na 15 rfl rfl ?_ | refine HB.nu 15 rfl rfl ?_
        first | refine HB.ga 16 rfl rfl ?_ | refine HB.na 16 rfl rfl ?_ | refine HB.nu 16 rfl rfl ?_
        first | refine HB.ga 17 rfl rfl ?_ | refine HB.na 17 rfl rfl ?_ | refine HB.nu 17 rfl rfl ?_
        first | refine HB.ga 18 rfl rfl ?_ | refine HB.na 18 rfl rfl ?_ | refine HB.nu 18 rfl rfl ?_
        first | refine HB.ga 19 rfl rfl ?_ | refine HB.na 19 rfl rfl ?_ | refine HB.nu 19 rfl rfl ?_
        first | refine HB.ga 20 rfl rfl ?_ | refine HB.na 20 rfl rfl ?_ | refine HB.nu 20 rfl rfl ?_
        first | refine HB.ga 21 rfl rfl ?_ | refine HB.na 21 rfl rfl ?_ | refine HB.nu 21 rfl rfl ?_
        first | refine HB.ga 22 rfl rfl ?_ | refine HB.na 22 rfl rfl ?_ | refine HB.nu 22 rfl rfl ?_
        first | refine HB.ga 23 rfl rfl ?_ | refine HB.na 23 rfl rfl ?_ | refine HB.nu 23 rfl rfl ?_
        first | refine HB.ga 24 rfl rfl ?_ | refine HB.na 24 rfl rfl ?_ | refine HB.nu 24 rfl rfl ?_
        refine HB.pa 25 rfl ?_
        refine HB.done (by refine Keep.blk memA rfl (Keep.base (hsrc.cell hgq) Keep.nil)) (by kernel_rfl) ?_
        exact HX.cut true ⟨fun _ h => hin h.1, fun _ => rfl⟩ esA (by repeat (first | exact Hs.nil _ | (refine Hs.cons pickA ?_)))
      by_cases hq0 : 0 < q
      rotate_left
      · skip
        refine HC.anyC ([(⟨b22, 2, none⟩, .slice (some ⟨bs, offs, none⟩) (tr l i).src.length ch), (⟨bs, offs + q, none⟩, zv (at' (tr l i).src q))]) rfl ?_
        refine HB.pa 0 rfl ?_
        refine HB.pa 1 rfl ?_
        refine HB.ld 2 rfl rfl memD ?_
        refine HB.pa 3 rfl ?_
        refine HB.pa 4 rfl ?_
        refine HB.ld 5 rfl rfl memD ?_
        refine HB.all (by refine Keep.blk memA rfl (Keep.base (hsrc.cell hgq) Keep.nil)) [6] (by kernel_rfl) rfl ⟨⟨_, rfl, ?_⟩, trivial⟩
        refine HP.one ?_
        refine H1.call0 (vs := [.slice aH HR.length cH, .int .i64 (at' (tr l i).src q)]) rfl rfl (fun w' hM => rin_fn _ HR (at' (tr l i).src q) (by omega) w' (hM.gr memA)) ?_
        rw [decide_eq_true hin]
        apply HB.fold
        refine HB.pa 7 rfl ?_
        refine HB.pa 8 rfl ?_
        first | refine HB.ga 9 rfl rfl ?_ | refine HB.na 9 rfl rfl ?_ | refine HB.nu 9 rfl rfl ?_
        first | refine HB.ga 10 rfl rfl ?_ | refine HB.na 10 rfl rfl ?_ | refine HB.nu 10 rfl rfl ?_
        first | refine HB.ga 11 rfl rfl ?_ | refine HB.na 11 rfl rfl ?_ | refine HB.nu 11 rfl rfl ?_
        first | refine HB.ga 12 rfl rfl ?_ | refine HB.na 12 rfl rfl ?_ | refine HB.nu 12 rfl rfl ?_
        first | refine HB.ga 13 rfl rfl ?_ | refine HB.na 13 rfl rfl ?_ | refine HB.nu 13 rfl rfl ?_
        first | refine HB.ga 14 rfl rfl ?_ | refine HB.na 14 rfl rfl ?_ | refine HB.nu 14 rfl rfl ?_
        first | refine HB.ga 15 rfl rfl ?_ | refine HB.na 15 rfl rfl ?_ | refine HB.nu 15 rfl rfl ?_
        first | refine HB.ga 16 rfl rfl ?_ | refine HB.na 16 rfl rfl ?_ | refine HB.nu 16 rfl rfl ?_
        first | refine HB.ga 17 rfl rfl ?_ | refine HB.na 17 rfl rfl ?_ | refine HB.nu 17 rfl rfl ?_
        first | refine HB.ga 18 rfl rfl ?_ | refine HB.na 18 rfl rfl ?_ | refine HB.nu 18 rfl rfl ?_
        first | refine HB.ga 19 rfl rfl ?_ | refine HB.na 19 rfl rfl ?_ | refine HB.nu 19 rfl rfl ?_
        first | refine HB.ga 20 rfl rfl ?_ | refine HB.na 20 rfl rfl ?_ | refine HB.nu 20 rfl rfl ?_
        first | refine HB.ga 21 rfl rfl ?_ | refine HB.na 21 rfl rfl ?_ | refine HB.nu 21 rfl rfl ?_
        first | refine HB.ga 22 rfl rfl ?_ | refine HB.na 22 rfl rfl ?_ | refine HB.nu 22 rfl rfl ?_
        first | refine HB.ga 23 rfl rfl ?_ | refine HB.na 23 rfl rfl ?_ | refine HB.nu 23 rfl rfl ?_
        first | refine HB.ga 24 rfl rfl ?_ | refine HB.na 24 rfl rfl ?_ | refine HB.nu 24 rfl rfl ?_
        refine HB.pa 25 rfl ?_
        refine HB.done (by refine Keep.blk memA rfl (Keep.base (hsrc.cell hgq) Keep.nil)) (by kernel_rfl) ?_
        exact HX.cut false ⟨fun h => (by cases h), fun h => absurd ⟨hin, fun h0 => absurd h0 hq0⟩ h⟩ esA (by repeat (first | exact Hs.nil _ | (refine Hs.cons pickA ?_)))
      have hgp := ints_get (show q - 1 < (tr l i).src.length by omega)
      refine HC.anyC ([(⟨b22, 2, none⟩, .slice (some ⟨bs, offs, none⟩) (tr l i).src.length ch), (⟨bs, offs + q, none⟩, zv (at' (tr l i).src q))]) rfl ?_
      refine HB.pa 0 rfl ?_
      refine HB.pa 1 rfl ?_
      refine HB.ld 2 rfl rfl memD ?_
      refine HB.pa 3 rfl ?_
      refine HB.pa 4 rfl ?_
      refine HB.ld 5 rfl rfl memD ?_
      refine HB.all (by refine Keep.blk memA rfl (Keep.base (hsrc.cell hgq) Keep.nil)) [6] (by kernel_rfl) rfl ⟨⟨_, rfl, ?_⟩, trivial⟩
      refine HP.one ?_
      refine H1.call0 (vs := [.slice aH HR.length cH, .int .i64 (at' (tr l i).src q)]) rfl rfl (fun w' hM => rin_fn _ HR (at' (tr l i).src q) (by omega) w' (hM.gr memA)) ?_
      rw [decide_eq_true hin]
      apply HB.fold
      refine HB.pa 7 rfl ?_
      refine HB.pa 8 rfl ?_
      first | refine HB.ga 9 rfl rfl ?_ | refine HB.na 9 rfl rfl ?_ | refine HB.nu 9 rfl rfl ?_
      first | refine HB.ga 10 rfl rfl ?_ | refine HB.na 10 rfl rfl ?_ | refine HB.nu 10 rfl rfl ?_
      first | refine HB.ga 11 rfl rfl ?_ | refine HB.na 11 rfl rfl ?_ | refine HB.nu 11 rfl rfl ?_
      first | refine HB.ga 12 rfl rfl ?_ | refine HB.na 12 rfl rfl ?_ | refine HB.nu 12 rfl rfl ?_
      first | refine HB.ga 14 rfl rfl ?_ | refine HB.na 14 rfl rfl ?_ | refine HB.nu 14 rfl rfl ?_
      refine HB.ga (v := .int .i64 ((q - 1 : Nat) : Int)) 15 rfl rfl ?_ (hp := by rw [show ((q - 1 : Nat) : Int) = (q : Int) - 1 from by omega]; exact POp.sub rfl rfl (by omega) (by omega))
      first | refine HB.ga 18 rfl rfl ?_ | refine HB.na 18 rfl rfl ?_ | refine HB.nu 18 rfl rfl ?_
      first | refine HB.ga 20 rfl rfl ?_ | refine HB.na 20 rfl rfl ?_ | refine HB.nu 20 rfl rfl ?_
      refine HB.all (by refine Keep.blk memA rfl (Keep.base (hsrc.cell hgq) Keep.nil)) [13, 19] (by kernel_rfl) rfl ⟨⟨_, rfl, ?_⟩, ⟨_, rfl, ?_⟩, trivial⟩
      · refine HP.one_a rfl ?_
        refine H1.ldb rfl memA rfl rfl ?_
        apply HB.fold
        first | refine HB.ga 16 rfl rfl ?_ | refine HB.na 16 rfl rfl ?_ | refine HB.nu 16 rfl rfl ?_
        refine HB.all (by refine Keep.blk memA rfl (Keep.base (hsrc.cell hgq) Keep.nil)) [17, 19] (by kernel_rfl) rfl ⟨⟨_, rfl, ?_⟩, ⟨_, rfl, ?_⟩, trivial⟩
        · refine HP.one_a rfl ?_
          refine H1.ldw rfl (fun w hM => (hM.rd0 hsrc).cell hgp) rfl ?_
          apply HB.fold
          refine HB.all (by refine Keep.blk memA rfl (Keep.base (hsrc.cell hgq) Keep.nil)) [19] (by kernel_rfl) rfl ⟨⟨_, rfl, ?_⟩, trivial⟩
          refine HP.one_a rfl ?_
          refine H1.ldb rfl memA rfl rfl ?_
          apply HB.fold
          first | refine HB.ga 21 rfl rfl ?_ | refine HB.na 21 rfl rfl ?_ | refine HB.nu 21 rfl rfl ?_
          refine HB.all (by refine Keep.blk memA rfl (Keep.base (hsrc.cell hgq) Keep.nil)) [22] (by kernel_rfl) rfl ⟨⟨_, rfl, ?_⟩, trivial⟩
          refine HP.one_a rfl ?_
          refine H1.ldw rfl (fun w hM => (hM.rd0 hsrc).cell hgq) rfl ?_
          apply HB.fold
          first | refine HB.ga 23 rfl rfl ?_ | refine HB.na 23 rfl rfl ?_ | refine HB.nu 23 rfl rfl ?_
          first | refine HB.ga 24 rfl rfl ?_ | refine HB.na 24 rfl rfl ?_ | refine HB.nu 24 rfl rfl ?_
          refine HB.pa 25 rfl ?_
          refine HB.done (by refine Keep.blk memA rfl (Keep.base (hsrc.cell hgq) Keep.nil)) (by kernel_rfl) ?_
          exact HX.cut (decide (at' (tr l i).src q ≤ at' (tr l i).src (q - 1))) (by rw [decide_eq_true_eq]; exact ⟨fun h1 h2 => by have := h2.2 hq0; omega, fun h1 => Int.not_lt.1 fun h2 => h1 ⟨hin, fun _ => h2⟩⟩) esA (by repeat (first | exact Hs.nil _ | (refine Hs.cons pickA ?_)))
        · refine HP.one_a rfl ?_
          refine H1.ldb rfl memA rfl rfl ?_
          apply HB.fold
          first | refine HB.ga 21 rfl rfl ?_ | refine HB.na 21 rfl rfl ?_ | refine HB.nu 21 rfl rfl ?_
          refine HB.all (by refine Keep.blk memA rfl (Keep.base (hsrc.cell hgq) Keep.nil)) [17, 22] (by kernel_rfl) rfl ⟨⟨_, rfl, ?_⟩, ⟨_, rfl, ?_⟩, trivial⟩
          · refine HP.one_a rfl ?_
            refine H1.ldw rfl (fun w hM => (hM.rd0 hsrc).cell hgp) rfl ?_
            apply HB.fold
            refine HB.all (by refine Keep.blk memA rfl (Keep.base (hsrc.cell hgq) Keep.nil)) [22] (by kernel_rfl) rfl ⟨⟨_, rfl, ?_⟩, trivial⟩
            refine HP.one_a rfl ?_
            refine H1.ldw rfl (fun w hM => (hM.rd0 hsrc).cell hgq) rfl ?_
            apply HB.fold
            first | refine HB.ga 23 rfl rfl ?_ | refine HB.na 23 rfl rfl ?_ | refine HB.nu 23 rfl rfl ?_
            first | refine HB.ga 24 rfl rfl ?_ | refine HB.na 24 rfl rfl ?_ | refine HB.nu 24 rfl rfl ?_
            refine HB.pa 25 rfl ?_
            refine HB.done (by refine Keep.blk memA rfl (Keep.base (hsrc.cell hgq) Keep.nil)) (by kernel_rfl) ?_
            exact HX.cut (decide (at' (tr l i).src q ≤ at' (tr l i).src (q - 1))) (by rw [decide_eq_true_eq]; exact ⟨fun h1 h2 => by have := h2.2 hq0; omega, fun h1 => Int.not_lt.1 fun h2 => h1 ⟨hin, fun _ => h2⟩⟩) esA (by repeat (first | exact Hs.nil _ | (refine Hs.cons pickA ?_)))
          · refine HP.one_a rfl ?_
            refine H1.ldw rfl (fun w hM => (hM.rd0 hsrc).cell hgq) rfl ?_
            apply HB.fold
            refine HB.all (by refine Keep.blk memA rfl (Keep.base (hsrc.cell hgq) Keep.nil)) [17] (by kernel_rfl) rfl ⟨⟨_, rfl, ?_⟩, trivial⟩
            refine HP.one_a rfl ?_
            refine H1.ldw rfl (fun w hM => (hM.rd0 hsrc).cell hgp) rfl ?_
            apply HB.fold
            first | refine HB.ga 23 rfl rfl ?_ | refine HB.na 23 rfl rfl ?_ | refine HB.nu 23 rfl rfl ?_
            first | refine HB.ga 24 rfl rfl ?_ | refine HB.na 24 rfl rfl ?_ | refine HB.nu 24 rfl rfl ?_
            refine HB.pa 25 rfl ?_
            refine HB.done (by refine Keep.blk memA rfl (Keep.base (hsrc.cell hgq) Keep.nil)) (by kernel_rfl) ?_
            exact HX.cut (decide (at' (tr l i).src q ≤ at' (tr l i).src (q - 1))) (by rw [decide_eq_true_eq]; exact ⟨fun h1 h2 => by have := h2.2 hq0; omega, fun h1 => Int.not_lt.1 fun h2 => h1 ⟨hin, fun _ => h2⟩⟩) esA (by repeat (first | exact Hs.nil _ | (refine Hs.cons pickA ?_)))
      · refine HP.one_a rfl ?_
        refine H1.ldb rfl memA rfl rfl ?_
        apply HB.fold
        first | refine HB.ga 21 rfl rfl ?_ | refine HB.na 21 rfl rfl ?_ | refine HB.nu 21 rfl rfl ?_
        refine HB.all (by refine Keep.blk memA rfl (Keep.base (hsrc.cell hgq) Keep.nil)) [13, 22] (by kernel_rfl) rfl ⟨⟨_, rfl, ?_⟩, ⟨_, rfl, ?_⟩, trivial⟩
        · refine HP.one_a rfl ?_
          refine H1.ldb rfl memA rfl rfl ?_
          apply HB.fold
          first | refine HB.ga 16 rfl rfl ?_ | refine HB.na 16 rfl rfl ?_ | refine HB.nu 16 rfl rfl ?_
          refine HB.all (by refine Keep.blk memA rfl (Keep.base (hsrc.cell hgq) Keep.nil)) [17, 22] (by kernel_rfl) rfl ⟨⟨_, rfl, ?_⟩, ⟨_, rfl, ?_⟩, trivial⟩
          · refine HP.one_a rfl ?_
            refine H1.ldw rfl (fun w hM => (hM.rd0 hsrc).cell hgp) rfl ?_
            apply HB.fold
            refine HB.all (by refine Keep.blk memA rfl (Keep.base (hsrc.cell hgq) Keep.nil)) [22] (by kernel_rfl) rfl ⟨⟨_, rfl, ?_⟩, trivial⟩
            refine HP.one_a rfl ?_
            refine H1.ldw rfl (fun w hM => (hM.rd0 hsrc).cell hgq) rfl ?_
            apply HB.fold
            first | refine HB.ga 23 rfl rfl ?_ | refine HB.na 23 rfl rfl ?_ | refine HB.nu 23 rfl rfl ?_
            first | refine HB.ga 24 rfl rfl ?_ | refine HB.na 24 rfl rfl ?_ | refine HB.nu 24 rfl rfl ?_
            refine HB.pa 25 rfl ?_
            refine HB.done (by refine Keep.blk memA rfl (Keep.base (hsrc.cell hgq) Keep.nil)) (by kernel_rfl) ?_
            exact HX.cut (decide (at' (tr l i).src q ≤ at' (tr l i).src (q - 1))) (by rw [decide_eq_true_eq]; exact ⟨fun h1 h2 => by have := h2.2 hq0; omega, fun h1 => Int.not_lt.1 fun h2 => h1 ⟨hin, fun _ => h2⟩⟩) esA (by repeat (first | exact Hs.nil _ | (refine Hs.cons pickA ?_)))
          · refine HP.one_a rfl ?_
            refine H1.ldw rfl (fun w hM => (hM.rd0 hsrc).cell hgq) rfl ?_
            apply HB.fold
            refine HB.all (by refine Keep.blk memA rfl (Keep.base (hsrc.cell hgq) Keep.nil)) [17] (by kernel_rfl) rfl ⟨⟨_, rfl, ?_⟩, trivial⟩
            refine HP.one_a rfl ?_
            refine H1.ldw rfl (fun w hM => (hM.rd0 hsrc).cell hgp) rfl ?_
            apply HB.fold
            first | refine HB.ga 23 rfl rfl ?_ | refine HB.na 23 rfl rfl ?_ | refine HB.nu 23 rfl rfl ?_
            first | refine HB.ga 24 rfl rfl ?_ | refine HB.na 24 rfl rfl ?_ | refine HB.nu 24 rfl rfl ?_
            refine HB.pa 25 rfl ?_
            refine HB.done (by refine Keep.blk memA rfl (Keep.base (hsrc.cell hgq) Keep.nil)) (by kernel_rfl) ?_
            exact HX.cut (decide (at' (tr l i).src q ≤ at' (tr l i).src (q - 1))) (by rw [decide_eq_true_eq]; exact ⟨fun h1 h2 => by have := h2.2 hq0; omega, fun h1 => Int.not_lt.1 fun h2 => h1 ⟨hin, fun _ => h2⟩⟩) esA (by repeat (first | exact Hs.nil _ | (refine Hs.cons pickA ?_)))
        · refine HP.one_a rfl ?_
          refine H1.ldw rfl (fun w hM => (hM.rd0 hsrc).cell hgq) rfl ?_
          apply HB.fold
          refine HB.all (by refine Keep.blk memA rfl (Keep.base (hsrc.cell hgq) Keep.nil)) [13] (by kernel_rfl) rfl ⟨⟨_, rfl, ?_⟩, trivial⟩
          refine HP.one_a rfl ?_
          refine H1.ldb rfl memA rfl rfl ?_
          apply HB.fold
          first | refine HB.ga 16 rfl rfl ?_ | refine HB.na 16 rfl rfl ?_ | refine HB.nu 16 rfl rfl ?_
          refine HB.all (by refine Keep.blk memA rfl (Keep.base (hsrc.cell hgq) Keep.nil)) [17] (by kernel_rfl) rfl ⟨⟨_, rfl, ?_⟩, trivial⟩
          refine HP.one_a rfl ?_
          refine H1.ldw rfl (fun w hM => (hM.rd0 hsrc).cell hgp) rfl ?_
          apply HB.fold
          first | refine HB.ga 23 rfl rfl ?_ | refine HB.na 23 rfl rfl ?_ | refine HB.nu 23 rfl rfl ?_
          first | refine HB.ga 24 rfl rfl ?_ | refine HB.na 24 rfl rfl ?_ | refine HB.nu 24 rfl rfl ?_
          refine HB.pa 25 rfl ?_
          refine HB.done (by refine Keep.blk memA rfl (Keep.base (hsrc.cell hgq) Keep.nil)) (by kernel_rfl) ?_
          exact HX.cut (decide (at' (tr l i).src q ≤ at' (tr l i).src (q - 1))) (by rw [decide_eq_true_eq]; exact ⟨fun h1 h2 => by have := h2.2 hq0; omega, fun h1 => Int.not_lt.1 fun h2 => h1 ⟨hin, fun _ => h2⟩⟩) esA (by repeat (first | exact Hs.nil _ | (refine Hs.cons pickA ?_)))
    rintro z hz
    cases z with
    | true =>
      have hb := hno hql fun h => hz.1 rfl ⟨hinH h, h.asc⟩
      repeat' (first | apply HL.fold | apply HA.fold | apply HL.nil | apply HX.n_then | apply HC.seq | apply HC.region | refine HL.pa ?_ | refine HL.ga rfl ?_ | refine HL.na rfl ?_ | refine HL.nu rfl rfl ?_ | apply HC.block | apply HC.skip | apply HC.exit | apply HC.ret | apply HX.e_block | refine HX.e_other rfl ?_ | apply HX.e_then | apply HX.e_again | apply HX.n_block | apply HX.r_then | apply HX.r_block | apply HX.r_again | refine HC.cond_yes rfl ?_ | refine HC.cond_no rfl ?_ | refine HL.one (H1.ldb rfl memA rfl rfl ?_) | refine HC.cond rfl (fun hc => ?_) (fun hc => ?_) | refine HC.cond_b rfl (fun hc => ?_) (fun hc => ?_))
      exact HX.ret1 rfl rfl fun w' hM => ⟨by rw [hb], hM.ext⟩
    | false =>
      obtain ⟨hin, hasc⟩ : at' (tr l i).src q ∈ HR ∧ (0 < q → at' (tr l i).src (q - 1) < at' (tr l i).src q) := Classical.byContradiction fun h => by have := hz.2 h; cases this
      obtain ⟨cc, hcc⟩ : ∃ x, x = at' (tr l i).src q := ⟨_, rfl⟩
      have hmk2 : (cntP l (tr l i).start cc : Int) ≤ width → RStep surv l width i q := fun h => hmk hin hasc (by rw [← hcc]; exact h)
      have hno3 : ¬ (cntP l (tr l i).start cc : Int) ≤ width → rvalidB holders lost width k deadline l = false := fun h => hno hql fun h2 => h (by rw [hcc]; exact h2.cnt)
      rw [← hcc] at hgq
      repeat' (first | apply HL.fold | apply HA.fold | apply HL.nil | apply HX.n_then | apply HC.seq | apply HC.region | refine HL.pa ?_ | refine HL.ga rfl ?_ | refine HL.na rfl ?_ | refine HL.nu rfl rfl ?_ | apply HC.block | apply HC.skip | apply HC.exit | apply HC.ret | apply HX.e_block | refine HX.e_other rfl ?_ | apply HX.e_then | apply HX.e_again | apply HX.n_block | apply HX.r_then | apply HX.r_block | apply HX.r_again | refine HC.cond_yes rfl ?_ | refine HC.cond_no rfl ?_ | refine HL.one (H1.ldb rfl memA rfl rfl ?_) | refine HC.cond rfl (fun hc => ?_) (fun hc => ?_) | refine HC.cond_b rfl (fun hc => ?_) (fun hc => ?_))
      refine HC.loop (α := Nat) (fun j => [(2, .int .i64 width), (5, .slice (some ⟨bt, offt, none⟩) l.length ct), (14, .slice asz surv.length csz), (21, .int .i64 (i : Int)), (22, .pointer (some ⟨b22, 0, none⟩)), (23, .slice aH HR.length cH), (24, .int .i64 (q : Int)), (25, .int .i64 ((cntP (l.take j) (tr l i).start cc : Nat) : Int)), (26, .int .i64 (j : Int))])
        (fun _ => [A.blk b22 [.int .i64 (tr l i).frag, .int .i64 (tr l i).to, .slice (some ⟨bs, offs, none⟩) (tr l i).src.length ch, .int .i64 (tr l i).start, .int .i64 (tr l i).stop] 52, A.grow 3 1 aH cH HR.length (ints HR), A.grow 3 1 asz csz surv.length (ints surv)]) (fun j => j ≤ l.length) (fun j => l.length - j) 0 (Nat.zero_le _) esA (by repeat (first | exact Hs.nil _ | (refine Hs.cons pickA ?_))) ?_
      rintro j hj
      by_cases hjl : j < l.length
      · have hcs := cntP_step hjl (tr l i).start cc
        have hcl2 := cntP_len (l.take j) (tr l i).start cc
        rw [List.length_take] at hcl2
        obtain ⟨hv, hclj, hsrcj⟩ := hel j hjl
        have hsbj : (tr l j).src.length ≤ 1000000 := by have := (hok j hjl).n; omega
        generalize cntP (l.take j) (tr l i).start cc = n at *
        repeat' (first | apply HL.fold | apply HA.fold | apply HL.nil | apply HX.n_then | apply HC.seq | apply HC.region | refine HL.pa ?_ | refine HL.ga rfl ?_ | refine HL.na rfl ?_ | refine HL.nu rfl rfl ?_ | apply HC.block | apply HC.skip | apply HC.exit | apply HC.ret | apply HX.e_block | refine HX.e_other rfl ?_ | apply HX.e_then | apply HX.e_again | apply HX.n_block | apply HX.r_then | apply HX.r_block | apply HX.r_again | refine HC.cond_yes rfl ?_ | refine HC.cond_no rfl ?_ | refine HL.one (H1.ldb rfl memA rfl rfl ?_))
        refine HC.cut (α := Bool) (fun z => [(2, .int .i64 width), (5, .slice (some ⟨bt, offt, none⟩) l.length ct), (14, .slice asz surv.length csz), (21, .int .i64 (i : Int)), (22, .pointer (some ⟨b22, 0, none⟩)), (23, .slice aH HR.length cH), (24, .int .i64 (q : Int)), (25, .int .i64 (n : Int)), (26, .int .i64 (j : Int)), (186, .bool z)]) (fun _ => [A.blk b22 [.int .i64 (tr l i).frag, .int .i64 (tr l i).to, .slice (some ⟨bs, offs, none⟩) (tr l i).src.length ch, .int .i64 (tr l i).start, .int .i64 (tr l i).stop] 52, A.grow 3 1 aH cH HR.length (ints HR), A.grow 3 1 asz csz surv.length (ints surv)]) (fun z => z = true ↔ ((tr l j).start = (tr l i).start ∧ cc ∈ (tr l j).src)) ?_ ?_
        · by_cases hss : (tr l j).start = (tr l i).start
          · skip
            refine HC.anyC ([(⟨bt, offt + j * 5 + 3, none⟩, .int .i64 (tr l j).start), (⟨b22, 3, none⟩, .int .i64 (tr l i).start)]) rfl ?_
            refine HB.pa 0 rfl ?_
            refine HB.pa 1 rfl ?_
            refine HB.pa 2 rfl ?_
            refine HB.pa 3 rfl ?_
            refine HB.ld 4 rfl rfl memD ?_
            refine HB.pa 5 rfl ?_
            refine HB.ld 6 rfl rfl memD ?_
            refine HB.pa 7 rfl ?_
            refine HB.pa 8 rfl ?_
            first | refine HB.ga 9 rfl rfl ?_ | refine HB.na 9 rfl rfl ?_ | refine HB.nu 9 rfl rfl ?_
            first | refine HB.ga 10 rfl rfl ?_ | refine HB.na 10 rfl rfl ?_ | refine HB.nu 10 rfl rfl ?_
            first | refine HB.ga 11 rfl rfl ?_ | refine HB.na 11 rfl rfl ?_ | refine HB.nu 11 rfl rfl ?_
            first | refine HB.ga 12 rfl rfl ?_ | refine HB.na 12 rfl rfl ?_ | refine HB.nu 12 rfl rfl ?_
            first | refine HB.ga 14 rfl rfl ?_ | refine HB.na 14 rfl rfl ?_ | refine HB.nu 14 rfl rfl ?_
            first | refine HB.ga 16 rfl rfl ?_ | refine HB.na 16 rfl rfl ?_ | refine HB.nu 16 rfl rfl ?_
            refine HB.all (by refine Keep.base (hclj 3 _ rfl) (Keep.blk memA rfl Keep.nil)) [13, 15] (by kernel_rfl) rfl ⟨⟨_, rfl, ?_⟩, ⟨_, rfl, ?_⟩, trivial⟩
            · refine HP.one_a rfl ?_
              refine H1.ld0 rfl (hclj 2 _ rfl) rfl ?_
              apply HB.fold
              refine HB.all (by refine Keep.base (hclj 3 _ rfl) (Keep.blk memA rfl Keep.nil)) [15] (by kernel_rfl) rfl ⟨⟨_, rfl, ?_⟩, trivial⟩
              refine HP.one_a rfl ?_
              refine H1.ldb rfl memA rfl rfl ?_
              apply HB.fold
              first | refine HB.ga 17 rfl rfl ?_ | refine HB.na 17 rfl rfl ?_ | refine HB.nu 17 rfl rfl ?_
              refine HB.all (by refine Keep.base (hclj 3 _ rfl) (Keep.blk memA rfl Keep.nil)) [18] (by kernel_rfl) rfl ⟨⟨_, rfl, ?_⟩, trivial⟩
              refine HP.one_a rfl ?_
              refine H1.ldw rfl (fun w hM => (hM.rd0 hsrc).cell hgq) rfl ?_
              apply HB.fold
              refine HB.all (by refine Keep.base (hclj 3 _ rfl) (Keep.blk memA rfl Keep.nil)) [19] (by kernel_rfl) rfl ⟨⟨_, rfl, ?_⟩, trivial⟩
              refine HP.one_a rfl ?_
              refine H1.call0 (vs := [hv, .int .i64 cc]) rfl rfl (fun w' hM => rin_fn _ (tr l j).src cc hsbj w' (hM.rd0 hsrcj)) ?_
              apply HB.fold
              refine HB.pa 20 rfl ?_
              refine HB.done (by refine Keep.base (hclj 3 _ rfl) (Keep.blk memA rfl Keep.nil)) (by kernel_rfl) ?_
              exact HX.cut (decide (cc ∈ (tr l j).src)) (by rw [decide_eq_true_eq]; exact ⟨fun h => ⟨hss, h⟩, fun h => h.2⟩) esA (by repeat (first | exact Hs.nil _ | (refine Hs.cons pickA ?_)))
            · refine HP.one_a rfl ?_
              refine H1.ldb rfl memA rfl rfl ?_
              apply HB.fold
              first | refine HB.ga 17 rfl rfl ?_ | refine HB.na 17 rfl rfl ?_ | refine HB.nu 17 rfl rfl ?_
              refine HB.all (by refine Keep.base (hclj 3 _ rfl) (Keep.blk memA rfl Keep.nil)) [13, 18] (by kernel_rfl) rfl ⟨⟨_, rfl, ?_⟩, ⟨_, rfl, ?_⟩, trivial⟩
              · refine HP.one_a rfl ?_
                refine H1.ld0 rfl (hclj 2 _ rfl) rfl ?_
                apply HB.fold
                refine HB.all (by refine Keep.base (hclj 3 _ rfl) (Keep.blk memA rfl Keep.nil)) [18] (by kernel_rfl) rfl ⟨⟨_, rfl, ?_⟩, trivial⟩
                refine HP.one_a rfl ?_
                refine H1.ldw rfl (fun w hM => (hM.rd0 hsrc).cell hgq) rfl ?_
                apply HB.fold
                refine HB.all (by refine Keep.base (hclj 3 _ rfl) (Keep.blk memA rfl Keep.nil)) [19] (by kernel_rfl) rfl ⟨⟨_, rfl, ?_⟩, trivial⟩
                refine HP.one_a rfl ?_
                refine H1.call0 (vs := [hv, .int .i64 cc]) rfl rfl (fun w' hM => rin_fn _ (tr l j).src cc hsbj w' (hM.rd0 hsrcj)) ?_
                apply HB.fold
                refine HB.pa 20 rfl ?_
                refine HB.done (by refine Keep.base (hclj 3 _ rfl) (Keep.blk memA rfl Keep.nil)) (by kernel_rfl) ?_
                exact HX.cut (decide (cc ∈ (tr l j).src)) (by rw [decide_eq_true_eq]; exact ⟨fun h => ⟨hss, h⟩, fun h => h.2⟩) esA (by repeat (first | exact Hs.nil _ | (refine Hs.cons pickA ?_)))
              · refine HP.one_a rfl ?_
                refine H1.ldw rfl (fun w hM => (hM.rd0 hsrc).cell hgq) rfl ?_
                apply HB.fold
                refine HB.all (by refine Keep.base (hclj 3 _ rfl) (Keep.blk memA rfl Keep.nil)) [13] (by kernel_rfl) rfl ⟨⟨_, rfl, ?_⟩, trivial⟩
                refine HP.one_a rfl ?_
                refine H1.ld0 rfl (hclj 2 _ rfl) rfl ?_
                apply HB.fold
                refine HB.all (by refine Keep.base (hclj 3 _ rfl) (Keep.blk memA rfl Keep.nil)) [19] (by kernel_rfl) rfl ⟨⟨_, rfl, ?_⟩, trivial⟩
                refine HP.one_a rfl ?_
                refine H1.call0 (vs := [hv, .int .i64 cc]) rfl rfl (fun w' hM => rin_fn _ (tr l j).src cc hsbj w' (hM.rd0 hsrcj)) ?_
                apply HB.fold
                refine HB.pa 20 rfl ?_
                refine HB.done (by refine Keep.base (hclj 3 _ rfl) (Keep.blk memA rfl Keep.nil)) (by kernel_rfl) ?_
                exact HX.cut (decide (cc ∈ (tr l j).src)) (by rw [decide_eq_true_eq]; exact ⟨fun h => ⟨hss, h⟩, fun h => h.2⟩) esA (by repeat (first | exact Hs.nil _ | (refine Hs.cons pickA ?_)))
          · skip
            refine HC.anyC ([(⟨bt, offt + j * 5 + 3, none⟩, .int .i64 (tr l j).start), (⟨b22, 3, none⟩, .int .i64 (tr l i).start)]) rfl ?_
            refine HB.pa 0 rfl ?_
            refine HB.pa 1 rfl ?_
            refine HB.pa 2 rfl ?_
            refine HB.pa 3 rfl ?_
            refine HB.ld 4 rfl rfl memD ?_
            refine HB.pa 5 rfl ?_
            refine HB.ld 6 rfl rfl memD ?_
            refine HB.pa 7 rfl ?_
            refine HB.pa 8 rfl ?_
            first | refine HB.ga 9 rfl rfl ?_ | refine HB.na 9 rfl rfl ?_ | refine HB.nu 9 rfl rfl ?_
            first | refine HB.ga 10 rfl rfl ?_ | refine HB.na 10 rfl rfl ?_ | refine HB.nu 10 rfl rfl ?_
            first | refine HB.ga 11 rfl rfl ?_ | refine HB.na 11 rfl rfl ?_ | refine HB.nu 11 rfl rfl ?_
            first | refine HB.ga 12 rfl rfl ?_ | refine HB.na 12 rfl rfl ?_ | refine HB.nu 12 rfl rfl ?_
            first | refine HB.ga 13 rfl rfl ?_ | refine HB.na 13 rfl rfl ?_ | refine HB.nu 13 rfl rfl ?_
            first | refine HB.ga 14 rfl rfl ?_ | refine HB.na 14 rfl rfl ?_ | refine HB.nu 14 rfl rfl ?_
            first | refine HB.ga 15 rfl rfl ?_ | refine HB.na 15 rfl rfl ?_ | refine HB.nu 15 rfl rfl ?_
            first | refine HB.ga 16 rfl rfl ?_ | refine HB.na 16 rfl rfl ?_ | refine HB.nu 16 rfl rfl ?_
            first | refine HB.ga 17 rfl rfl ?_ | refine HB.na 17 rfl rfl ?_ | refine HB.nu 17 rfl rfl ?_
            first | refine HB.ga 18 rfl rfl ?_ | refine HB.na 18 rfl rfl ?_ | refine HB.nu 18 rfl rfl ?_
            refine HB.all (by refine Keep.base (hclj 3 _ rfl) (Keep.blk memA rfl Keep.nil)) [19] (by kernel_rfl) rfl ⟨⟨_, rfl, ?_⟩, trivial⟩
            refine HP.drop_a rfl ?_
            refine HB.pa 20 rfl ?_
            refine HB.done (by refine Keep.base (hclj 3 _ rfl) (Keep.blk memA rfl Keep.nil)) (by kernel_rfl) ?_
            exact HX.cut false ⟨fun h => (by cases h), fun h => absurd h.1 hss⟩ esA (by repeat (first | exact Hs.nil _ | (refine Hs.cons pickA ?_)))
        rintro z hz
        cases z with
        | true =>
          have hz' := hz.1 rfl
          repeat' (first | apply HL.fold | apply HA.fold | apply HL.nil | apply HX.n_then | apply HC.seq | apply HC.region | refine HL.pa ?_ | refine HL.ga rfl ?_ | refine HL.na rfl ?_ | refine HL.nu rfl rfl ?_ | apply HC.block | apply HC.skip | apply HC.exit | apply HC.ret | apply HX.e_block | refine HX.e_other rfl ?_ | apply HX.e_then | apply HX.e_again | apply HX.n_block | apply HX.r_then | apply HX.r_block | apply HX.r_again | refine HC.cond_yes rfl ?_ | refine HC.cond_no rfl ?_ | refine HL.one (H1.ldb rfl memA rfl rfl ?_) | refine HC.cond rfl (fun hc => ?_) (fun hc => ?_) | refine HC.cond_b rfl (fun hc => ?_) (fun hc => ?_))
          exact HX.again (j + 1) (by omega) (by omega) (by rw [hcs, if_pos hz']; repeat (first | exact trivial | refine ⟨rfl, ?_⟩)) (by repeat (first | exact Hs.nil _ | (refine Hs.cons pickA ?_)))
        | false =>
          have hz' : ¬ ((tr l j).start = (tr l i).start ∧ cc ∈ (tr l j).src) := fun h => by have := hz.2 h; cases this
          repeat' (first | apply HL.fold | apply HA.fold | apply HL.nil | apply HX.n_then | apply HC.seq | apply HC.region | refine HL.pa ?_ | refine HL.ga rfl ?_ | refine HL.na rfl ?_ | refine HL.nu rfl rfl ?_ | apply HC.block | apply HC.skip | apply HC.exit | apply HC.ret | apply HX.e_block | refine HX.e_other rfl ?_ | apply HX.e_then | apply HX.e_again | apply HX.n_block | apply HX.r_then | apply HX.r_block | apply HX.r_again | refine HC.cond_yes rfl ?_ | refine HC.cond_no rfl ?_ | refine HL.one (H1.ldb rfl memA rfl rfl ?_) | refine HC.cond rfl (fun hc => ?_) (fun hc => ?_) | refine HC.cond_b rfl (fun hc => ?_) (fun hc => ?_))
          exact HX.again (j + 1) (by omega) (by omega) (by rw [hcs, if_neg hz']; repeat (first | exact trivial | refine ⟨rfl, ?_⟩)) (by repeat (first | exact Hs.nil _ | (refine Hs.cons pickA ?_)))
      · obtain rfl : j = l.length := by omega
        rw [List.take_length]
        by_cases hcw : (cntP l (tr l i).start cc : Int) ≤ width
        · have hst := hmk2 hcw
          repeat' (first | apply HL.fold | apply HA.fold | apply HL.nil | apply HX.n_then | apply HC.seq | apply HC.region | refine HL.pa ?_ | refine HL.ga rfl ?_ | refine HL.na rfl ?_ | refine HL.nu rfl rfl ?_ | apply HC.block | apply HC.skip | apply HC.exit | apply HC.ret | apply HX.e_block | refine HX.e_other rfl ?_ | apply HX.e_then | apply HX.e_again | apply HX.n_block | apply HX.r_then | apply HX.r_block | apply HX.r_again | refine HC.cond_yes rfl ?_ | refine HC.cond_no rfl ?_ | refine HL.one (H1.ldb rfl memA rfl rfl ?_) | refine HC.cond rfl (fun hc => ?_) (fun hc => ?_) | refine HC.cond_b rfl (fun hc => ?_) (fun hc => ?_))
          refine HX.again (q + 1) ⟨by omega, fun p hp => ?_⟩ (by omega) esA (by repeat (first | exact Hs.nil _ | (refine Hs.cons pickA ?_)))
          by_cases e : p = q
          · subst e; exact hst
          · exact hokq p (by omega)
        · have hb := hno3 hcw
          repeat' (first | apply HL.fold | apply HA.fold | apply HL.nil | apply HX.n_then | apply HC.seq | apply HC.region | refine HL.pa ?_ | refine HL.ga rfl ?_ | refine HL.na rfl ?_ | refine HL.nu rfl rfl ?_ | apply HC.block | apply HC.skip | apply HC.exit | apply HC.ret | apply HX.e_block | refine HX.e_other rfl ?_ | apply HX.e_then | apply HX.e_again | apply HX.n_block | apply HX.r_then | apply HX.r_block | apply HX.r_again | refine HC.cond_yes rfl ?_ | refine HC.cond_no rfl ?_ | refine HL.one (H1.ldb rfl memA rfl rfl ?_) | refine HC.cond rfl (fun hc => ?_) (fun hc => ?_) | refine HC.cond_b rfl (fun hc => ?_) (fun hc => ?_))
          exact HX.ret1 rfl rfl fun w' hM => ⟨by rw [hb], hM.ext⟩
end Go.Sx

