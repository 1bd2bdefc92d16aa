/- Chapter 27: the law CustodianRefuses: the walk. -/
import Derived.Test.YtionfblneloaiaaGreatDoorYQ
namespace Go.Sx
open Go Go.Proofs Go.RowKit
theorem hwYM {G G2 : Prop} (x : G2) (hwq : Hold G2 → G := by
    intro hQq
    repeat' (first | refine HL.pa ?_ (POp.beq27 rfl rfl (by first | rfl | decide | (rw [decide_eq_decide]; omega))) | refine HL.pa ?_ (POp.pneN rfl rfl) | refine HL.pa ?_ (POp.pnil1 rfl rfl) | refine HL.pa ?_ (POp.pnil0 rfl rfl) | refine HL.pa ?_ (POp.nilCheck rfl) | apply HL.fold | apply HA.fold | apply HL.nil | apply HX.n_then | apply HC.seq | apply HC.region | refine HL.pa ?_ | refine HL.ga rfl ?_ | refine HL.na rfl ?_ | refine HL.nu rfl rfl ?_ | apply HC.block | apply HC.skip | apply HC.exit | apply HC.ret | apply HX.e_block | refine HX.e_other rfl ?_ | apply HX.e_then | apply HX.e_again | apply HX.n_block | apply HX.r_then | apply HX.r_block | apply HX.r_again | refine HC.cond_yes rfl ?_ | refine HC.cond_no rfl ?_ | refine HL.one (H1.ldb rfl memA rfl rfl ?_) | refine HC.cond rfl (fun hc => ?_) (fun hc => ?_) | refine HC.cond_b rfl (fun hc => ?_) (fun hc => ?_))
    exact hQq.get) : G := hwq ⟨x⟩
theorem POp.beq27 {P : Program} {N : Nat} {ds : List Deferred} {E : Env} {t t' ty : TypeId} {x y : Operand} {b c : Bool} [UTy P t .bool] (hx : Env.ev E x = some (.bool b)) (hy : Env.ev E y = some (.bool c)) (h : b = c) : POp P N ds E (.binOp .eql t x y t') ty (.bool true) := by
  subst h
  have e : (b == b) = true := by cases b <;> rfl
  rw [← e]; exact POp.beql hx hy
abbrev a27 : ByteArray := ByteArray.mk #[97]
theorem refuse_plain27 (p : PK) : ∃ (e : Int) (m : PM) (j : Jn) (l : List ByteArray), storeF [] ⟨t00, newK 9000, false⟩ p a27 = (e, m, j) ∧ CClean m j 9000 l ∧ l.length ≤ 1 ∧ (okP p → e = 0) ∧ (¬ okP p → e = 270) := by
  have h0 := cclean0 (N := 9000) (by decide) (by decide)
  by_cases hp : okP p
  · obtain ⟨j, e, h⟩ := h0.store (p := p) (s := a27) hp (by decide) (by
      refine Nat.le_trans (needL_le27 _ fun r hr => ?_) (show 150 * 1 ≤ 9000 by decide)
      rcases List.mem_cons.1 hr with rfl | hr
      · exact recS_le hp (by decide)
      · cases hr)
    exact ⟨0, _, j, _, e, h, Nat.le_refl _, fun _ => rfl, fun h => absurd hp h⟩
  · exact ⟨270, _, _, _, storeF_bad (.inl hp), h0, Nat.zero_le _, fun h => absurd h hp, fun _ => rfl⟩
theorem dropF_bad {m : PM} {j : Jn} {o : Int} (h : ¬ okP (o, 0)) : dropF m j o = (0, 270, m, j) := by unfold dropF; rw [if_pos h]
theorem ansV_long {m : PM} {p : PK} {s : ByteArray} (h : 65536 < s.size) : ansV m p s = .tuple #[.string (ByteArray.mk #[]), zv 270] := by unfold ansV; rw [if_pos h]
theorem zeros27_size (n : Nat) : (ByteArray.mk (List.replicate n (0 : UInt8)).toArray).size = n := by show (List.replicate n (0 : UInt8)).toArray.size = n; rw [List.size_toArray, List.length_replicate]
theorem CClean.dur {m : PM} {j : Jn} {N : Nat} {l : List ByteArray} (h : CClean m j N l) : j.k.dur.length = N := by rw [h.jn.dur, h.jn.len]
theorem getM_mem {m : PM} {x : PK} {s : ByteArray} (h : getM m x = some s) : (x, s) ∈ m := by
  induction m with
  | nil => cases h
  | cons p m ih =>
    obtain ⟨y, u⟩ := p
    have h1 : getM ((y, u) :: m) x = if x = y then some u else getM m x := rfl
    rw [h1] at h
    split at h
    · next e => cases h; rw [e]; exact .head _
    · exact .tail _ (ih h)
attribute [local irreducible] WC WL WX POp Then Again Fn NX W1 WA WO QL RP RA Yld LoopAt HC HL HX HN H1 HA HO HQ HB HP A.blk A.grow A.rd A.obj A.mp AgainH CutH
attribute [local irreducible] A.pm A.mx A.mit sumS newK expB
theorem storeNil_fn (p : PK) (s : ByteArray) (w : World) : Fn Tryz.prog 13 #[.pointer none, zv p.1, zv p.2, .string s] w fun v w' => v = zv 1 ∧ Ext w w' := by
  refine enterH (l := [_, _, _, _]) rfl Tryz.ntmps13 rfl ?_
  refine hwYM ?_
  refine HL.build (cs := [zv p.1, zv p.2]) rfl rfl rfl ?_
  refine hwYM ?_
  refine HL.one (H1.alloc (cs := [zv 0, zv 0]) rfl rfl (fun b9 => ?_))
  refine hwYM ?_
  refine HL.one (H1.stAgg (cs := [zv 0, zv 0]) (vs := [zv p.1, zv p.2]) rfl rfl rfl (by intro v hv; rcases List.mem_cons.1 hv with rfl | hv; rfl; rcases List.mem_cons.1 hv with rfl | hv; rfl; cases hv) rplA rfl ?_)
  refine hwYM ?_
  exact HX.ret1 rfl rfl fun w' hM => ⟨rfl, hM.ext⟩
theorem fetchNil_fn (p : PK) (w : World) : Fn Tryz.prog 26 #[.pointer none, zv p.1, zv p.2] w fun v w' => v = .tuple #[.string (ByteArray.mk #[]), zv 1] ∧ Ext w w' := by
  refine enterH (l := [_, _, _]) rfl Tryz.ntmps26 rfl ?_
  refine hwYM ?_
  exact HX.ret2 rfl rfl rfl fun w' hM => ⟨rfl, hM.ext⟩
theorem answerNil_fn (p : PK) (s : ByteArray) (w : World) : Fn Tryz.prog 14 #[.pointer none, zv p.1, zv p.2, .string s] w fun v w' => v = .tuple #[.string (ByteArray.mk #[]), zv 1] ∧ Ext w w' := by
  refine enterH (l := [_, _, _, _]) rfl Tryz.ntmps14 rfl ?_
  refine hwYM ?_
  exact HX.ret2 rfl rfl rfl fun w' hM => ⟨rfl, hM.ext⟩
theorem dropNil_fn (o : Int) (w : World) : Fn Tryz.prog 21 #[.pointer none, zv o] w fun v w' => v = .tuple #[zv 0, zv 1] ∧ Ext w w' := by
  refine enterH (l := [_, _]) rfl Tryz.ntmps21 rfl ?_
  refine hwYM ?_
  exact HX.ret2 rfl rfl rfl fun w' hM => ⟨rfl, hM.ext⟩
theorem holdsNil_fn (w : World) : Fn Tryz.prog 20 #[.pointer none] w fun v w' => v = .slice none 0 0 ∧ Ext w w' := by
  refine enterH (l := [_]) rfl Tryz.ntmps20 rfl ?_
  refine hwYM ?_
  exact HX.ret1 rfl rfl fun w' hM => ⟨rfl, hM.ext⟩
theorem readAll27_fn {w : World} {bd b1 b2 pc : Nat} {pa : Option Addr} {j : Jn} {m : PM} {l : List ByteArray} (h : CClean m j 9000 l) (hb : Blk w bd (dkC b1 b2 pa pc j.k) 102) (hv : Blk w b2 (ub j.k.vis) 5) :
    Fn Tryz.prog 27 #[.pointer (some ⟨bd, 0, none⟩), zv 0, zv 9000] w fun v w' => v = .tuple #[.string (mkBA j.k.vis), zv 0] ∧ Ext w w' := by
  have h1 := read_fn hb hv h.jn.ok
  rw [h.dur, h.jn.off] at h1
  exact h1
set_option maxHeartbeats 8000000 in
theorem custodianRefuses_fn {w : World} {ea ec : Addr} (hG : RoundG w) (hE : ErrG ea w) (hC : CErrG ec w) (o f n : Int) (hn1 : -9223372036854775808 ≤ n) (hn2 : n ≤ 9223372036854775807) :
    Fn Tryz.prog 6 #[zv o, zv f, zv n] w fun v w' => v = .bool true ∧ Ext w w' := by
  obtain ⟨e, m, j, l, hst, hc, hl, he0, he1⟩ := refuse_plain27 (o, f)
  have h0 := cclean0 (N := 9000) (by decide) (by decide)
  have hpk := pk_lt n (n := 9) (by decide)
  obtain ⟨q, hq⟩ : ∃ q : Nat, pk n 9 = (q : Int) := ⟨(pk n 9).toNat, by omega⟩
  have hq9 : q < 9 := by omega
  have hml : m.length ≤ 1000000 := by have := hc.len; omega
  have hbig : 4096 < (ByteArray.mk (List.replicate (4097 + q) (0 : UInt8)).toArray).size := by rw [zeros27_size]; omega
  have hlong : 65536 < (ByteArray.mk (List.replicate 65537 (0 : UInt8)).toArray).size := by rw [zeros27_size]; decide
  have hsz : ∀ s, getM m (1, 0) = some s → s.size ≤ 100000 := fun s h => Nat.le_trans (hc.sz _ (getM_mem h)) (by decide)
  obtain ⟨vis, hvis⟩ : ∃ vis, vis = mkBA j.k.vis := ⟨_, rfl⟩
  have hcase : (1 ≤ o ∧ o ≤ 1000000 ∧ 0 ≤ f ∧ f < 9 ∧ e = 0) ∨ (¬ 1 ≤ o ∧ e = 270) ∨ (1 ≤ o ∧ ¬ o ≤ 1000000 ∧ e = 270) ∨ (1 ≤ o ∧ o ≤ 1000000 ∧ ¬ 0 ≤ f ∧ e = 270) ∨ (1 ≤ o ∧ o ≤ 1000000 ∧ 0 ≤ f ∧ ¬ f < 9 ∧ e = 270) := by
    by_cases k1 : 1 ≤ o
    · by_cases k2 : o ≤ 1000000
      · by_cases k3 : 0 ≤ f
        · by_cases k4 : f < 9
          · exact .inl ⟨k1, k2, k3, k4, he0 ⟨k1, k2, k3, k4⟩⟩
          · exact .inr (.inr (.inr (.inr ⟨k1, k2, k3, k4, he1 fun h => k4 h.2.2.2⟩)))
        · exact .inr (.inr (.inr (.inl ⟨k1, k2, k3, he1 fun h => k3 h.2.2.1⟩)))
      · exact .inr (.inr (.inl ⟨k1, k2, he1 fun h => k2 h.2.1⟩))
    · exact .inr (.inl ⟨k1, he1 fun h => k1 h.1⟩)
  clear he0 he1
  refine enterH (l := [_, _, _]) rfl Tryz.ntmps6 rfl ?_
  refine hwYM ?_
  refine HL.one (H1.callx (vs := []) rfl rfl (fun w' hM => sane27_fn (hG.ext hM.ext) (hE.ext hM.ext) (hC.ext hM.ext)) ?_)
  refine hwYM ?_
  refine HL.one (H1.callz (α := (Nat × Nat × Nat) × Nat × Nat × Nat × (Option Addr × Nat) × (Option Addr × Nat)) (V := fun z => .tuple #[.pointer (some ⟨z.2.1, 0, none⟩), .pointer (some ⟨z.1.1, 0, none⟩), .bool true])
    (Hn := fun z => cuH z.2.1 z.2.2.1 z.2.2.2.1 z.1.1 z.1.2.1 z.1.2.2 z.2.2.2.2.1.1 z.2.2.2.2.1.2 z.2.2.2.2.2.1 z.2.2.2.2.2.2 [] ⟨t00, newK 9000, false⟩ []) (I := fun _ => True) (vs := [zv 9000]) rfl rfl (fun w' hM => opened_fn (hG.ext hM.ext) (hE.ext hM.ext) (hC.ext hM.ext) 9000 (by decide) (by decide)) ?_)
  rintro ⟨⟨bd, b1, b2⟩, bx, bm, bj, ⟨a, c⟩, ⟨pa, pc⟩⟩ -
  dsimp only
  refine hwYM ?_
  rcases hcase with ⟨k1, k2, k3, k4, rfl⟩ | ⟨k1, rfl⟩ | ⟨k1, k2, rfl⟩ | ⟨k1, k2, k3, rfl⟩ | ⟨k1, k2, k3, k4, rfl⟩
  all_goals
    refine hwYM ?_
    refine HL.one (H1.callk (α := (Option Addr × Nat) × (Option Addr × Nat)) (V := fun _ => zv _) (I := fun _ => True) (H' := fun q => cuH bx bm bj bd b1 b2 q.1.1 q.1.2 q.2.1 q.2.2 m j []) (vs := [_, zv o, zv f, .string a27]) rfl rfl
      (fun w' hM => by
        have h := store_fn (o, f) a27 hG hM (h0.jn.jok (Nat.zero_le _))
        rw [hst] at h
        exact h) ?_)
    rintro ⟨⟨a, c⟩, ⟨pa, pc⟩⟩ -
    dsimp only
    refine hwYM ?_
    refine HL.one (H1.callx (vs := [_, zv 0, zv 9000]) rfl rfl (fun w' hM => readAll27_fn hc (hM.blk (b := bd) memA) (hM.blk (b := b2) memA)) ?_)
    rw [← hvis]
    refine hwYM ?_
    refine HL.one (H1.call0 (vs := [_, _]) rfl rfl (fun w' hM => pick27_fn n 9 hn1 hn2 (by decide) w') ?_)
    rw [hq]
    refine hwYM ?_
    refine HL.one (H1.make (l := 4097 + q) (c := 4097 + q) rfl rfl (by omega) (by omega) rfl (Nat.le_refl _) (by omega) (by omega) rfl (fun b8 => ?_))
    rw [ub_zero]
    refine hwYM ?_
    refine HL.one (H1.bstrC (ys := List.replicate (4097 + q) 0) rfl (by rw [List.length_replicate]) (fun w' hM => blk_rd (e := 5) (hM.blk memA) (by rw [ub_len, List.length_replicate])) rfl ?_)
    refine hwYM ?_
    refine HL.mem (cuH bx bm bj bd b1 b2 a c pa pc m j []) (Hs.refl _).skip ?_
    refine HL.one (H1.callk (α := (Option Addr × Nat) × (Option Addr × Nat)) (V := fun _ => zv 270) (I := fun _ => True) (H' := fun q => cuH bx bm bj bd b1 b2 q.1.1 q.1.2 q.2.1 q.2.2 m j []) (vs := [_, zv 1, zv 0, .string (ByteArray.mk (List.replicate (4097 + q) (0 : UInt8)).toArray)]) rfl rfl
      (fun w' hM => by
        have h := store_fn (1, 0) (ByteArray.mk (List.replicate (4097 + q) (0 : UInt8)).toArray) hG hM (hc.jn.jok (by omega))
        rw [storeF_bad (.inr hbig)] at h
        exact h) ?_)
    rintro ⟨⟨a, c⟩, ⟨pa, pc⟩⟩ -
    dsimp only
    refine hwYM ?_
    refine HL.one (H1.callk (α := Nat × (Option Addr × Nat) × (Option Addr × Nat)) (V := fun _ => .tuple #[zv 0, zv 270]) (I := fun _ => True) (H' := fun q => cuH bx q.1 bj bd b1 b2 q.2.1.1 q.2.1.2 q.2.2.1 q.2.2.2 m j []) (vs := [_, zv 0]) rfl rfl
      (fun w' hM => by
        have h := cdrop_fn 0 hG hM (hc.jn.jok (by omega)) hc.nd hml
        rw [dropF_bad (by decide)] at h
        exact h) ?_)
    rintro ⟨bm, ⟨a, c⟩, ⟨pa, pc⟩⟩ -
    dsimp only
    refine hwYM ?_
    refine HL.one (H1.make (l := 65537) (c := 65537) rfl rfl rfl rfl rfl (Nat.le_refl _) (by decide) (by decide) rfl (fun b8 => ?_))
    rw [ub_zero]
    refine hwYM ?_
    refine HL.one (H1.bstrC (ys := List.replicate 65537 0) rfl (by rw [List.length_replicate]) (fun w' hM => blk_rd (e := 5) (hM.blk memA) (by rw [ub_len, List.length_replicate])) rfl ?_)
    refine hwYM ?_
    refine HL.mem (cuH bx bm bj bd b1 b2 a c pa pc m j []) (Hs.refl _).skip ?_
    refine HL.one (H1.callk (α := Unit) (V := fun _ => .tuple #[.string (ByteArray.mk #[]), zv 270]) (I := fun _ => True) (H' := fun _ => cuH bx bm bj bd b1 b2 a c pa pc m j []) (vs := [_, zv 1, zv 0, .string (ByteArray.mk (List.replicate 65537 (0 : UInt8)).toArray)]) rfl rfl
      (fun w' hM => by
        have h := answer_fn (1, 0) (ByteArray.mk (List.replicate 65537 (0 : UInt8)).toArray) hG hM hsz
        rw [ansV_long hlong] at h
        exact h) ?_)
    rintro - -
    refine hwYM ?_
    refine HL.one (H1.callx (vs := [_, zv 0, zv 9000]) rfl rfl (fun w' hM => readAll27_fn hc (hM.blk (b := bd) memA) (hM.blk (b := b2) memA)) ?_)
    rw [← hvis]
    refine hwYM ?_
    refine HL.one (H1.callx (vs := [.pointer none, zv 1]) rfl rfl (fun w' hM => dropNil_fn 1 w') ?_)
    refine hwYM ?_
    refine HL.one (H1.callx (vs := [.pointer none, zv 1, zv 0]) rfl rfl (fun w' hM => fetchNil_fn (1, 0) w') ?_)
    refine hwYM ?_
    refine HL.one (H1.callx (vs := [.pointer none, zv 1, zv 0, .string (ByteArray.mk #[])]) rfl rfl (fun w' hM => answerNil_fn (1, 0) (ByteArray.mk #[]) w') ?_)
    refine hwYM ?_
    refine HL.one (H1.callx (vs := [.pointer none, zv 1, zv 0, .string (ByteArray.mk #[])]) rfl rfl (fun w' hM => storeNil_fn (1, 0) (ByteArray.mk #[]) w') ?_)
    refine hwYM ?_
    refine HL.one (H1.callx (vs := [.pointer none]) rfl rfl (fun w' hM => holdsNil_fn w') ?_)
    refine hwYM ?_
    exact HX.ret1 rfl rfl fun w' hM => ⟨rfl, hM.ext⟩
end Go.Sx

