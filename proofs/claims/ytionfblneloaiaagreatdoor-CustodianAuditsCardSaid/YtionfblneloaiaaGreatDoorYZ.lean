/- Chapter 27: the law CustodianAudits: the walk. -/
import Derived.Test.YtionfblneloaiaaGreatDoorYT
import Derived.Test.YtionfblneloaiaaGreatDoorDH
namespace Go.Sx
open Go Go.Proofs Go.RowKit
theorem hwYZ {G G2 : Prop} (x : G2) (hwq : Hold G2 → G := by
    intro hQq
    repeat' (first | refine HL.pa ?_ (POp.pneN rfl rfl) | refine HL.pa ?_ (POp.pnil1 rfl rfl) | refine HL.pa ?_ (POp.pnil0 rfl rfl) | refine HL.pa ?_ (POp.nilCheck rfl) | apply HL.fold | apply HA.fold | apply HL.nil | apply HX.n_then | apply HC.seq | apply HC.region | refine HL.pa ?_ | refine HL.ga rfl ?_ | refine HL.na rfl ?_ | refine HL.nu rfl rfl ?_ | apply HC.block | apply HC.skip | apply HC.exit | apply HC.ret | apply HX.e_block | refine HX.e_other rfl ?_ | apply HX.e_then | apply HX.e_again | apply HX.n_block | apply HX.r_then | apply HX.r_block | apply HX.r_again | refine HC.cond_yes rfl ?_ | refine HC.cond_no rfl ?_ | refine HL.one (H1.ldb rfl memA rfl rfl ?_) | refine HC.cond rfl (fun hc => ?_) (fun hc => ?_) | refine HC.cond_b rfl (fun hc => ?_) (fun hc => ?_))
    exact hQq.get) : G := hwq ⟨x⟩
theorem hnYZ {G G2 : Prop} (x : G2) (hwq : Hold G2 → G := by
    intro hQq
    repeat' (first | refine HL.pa ?_ (POp.pneN rfl rfl) | refine HL.pa ?_ (POp.pnil1 rfl rfl) | refine HL.pa ?_ (POp.pnil0 rfl rfl) | refine HL.pa ?_ (POp.nilCheck rfl) | apply HL.fold | apply HA.fold | apply HL.nil | apply HX.n_then | apply HC.seq | apply HC.region | refine HL.pa ?_ | refine HL.ga rfl ?_ | refine HL.na rfl ?_ | refine HL.nu rfl rfl ?_ | apply HC.block | apply HC.skip | apply HC.exit | apply HC.ret | apply HX.e_block | refine HX.e_other rfl ?_ | apply HX.e_then | apply HX.e_again | apply HX.n_block | apply HX.r_then | apply HX.r_block | apply HX.r_again | refine HC.cond_yes rfl ?_ | refine HC.cond_no rfl ?_ | refine HL.one (H1.ldb rfl memA rfl rfl ?_))
    exact hQq.get) : G := hwq ⟨x⟩
/-- What is digested for an answer. -/
def askB (s ch : ByteArray) : ByteArray := (strN ch.size ++ ch) ++ s
theorem askB_size (s ch : ByteArray) (hc : ch.size ≤ 100) : (askB s ch).size ≤ s.size + 110 := by
  have h1 := strN_size (n := ch.size) (by omega)
  unfold askB
  rw [ByteArray.size_append, ByteArray.size_append]
  omega
theorem expB_ask {s ch : ByteArray} (hc : ch.size ≤ 100) : expB s ch = sumS (askB s ch) := by unfold expB; rw [if_neg (by omega)]; rfl
theorem ba_data (a b : ByteArray) : (a ++ b).data.toList = a.data.toList ++ b.data.toList := by rw [ByteArray.data_append, Array.toList_append]
theorem askB_left {s t ch : ByteArray} (h : askB s ch = askB t ch) : s = t := by
  have h1 : (askB s ch).data.toList = (askB t ch).data.toList := congrArg (fun b : ByteArray => b.data.toList) h
  unfold askB at h1
  simp only [ba_data] at h1
  exact ba_ext (List.append_cancel_left h1)
theorem askB_right {s c d : ByteArray} (hc : c.size ≤ 65536) (hd : d.size ≤ 65536) (h : askB s c = askB s d) : c = d := by
  have h1 : (askB s c).data.toList = (askB s d).data.toList := congrArg (fun b : ByteArray => b.data.toList) h
  unfold askB at h1
  have hcl : c.data.toList.length = c.size := by rw [Array.length_toList]; rfl
  have hdl : d.data.toList.length = d.size := by rw [Array.length_toList]; rfl
  simp only [ba_data] at h1
  have h2 := List.append_cancel_right h1
  have e1 : (strN c.size).data.toList = putN c.data.toList.length := by rw [hcl]; simp [strN]
  have e2 : (strN d.size).data.toList = putN d.data.toList.length := by rw [hdl]; simp [strN]
  rw [e1, e2] at h2
  have k1 := decS_putN (r := c.data.toList) (by omega) (s := putN c.data.toList.length ++ c.data.toList) (rest := []) (p := 0) (by rw [List.append_nil]; rfl)
  have k2 := decS_putN (r := d.data.toList) (by omega) (s := putN d.data.toList.length ++ d.data.toList) (rest := []) (p := 0) (by rw [List.append_nil]; rfl)
  rw [h2, k2] at k1
  have k3 := congrArg Prod.fst (Option.some.inj k1)
  exact (ba_ext k3).symm
/-- Two digests agree exactly where two strings do, or two strings are lucky. -/
theorem audit_plain {p q a b : ByteArray} {s t : ByteArray} (ha : a = sumS p) (hb : b = sumS q) (hi : p = q ↔ s = t) : (decide (a = b) == decide (s = t)) = true ∨ (p ≠ q ∧ sumS p = sumS q) := by
  by_cases h1 : s = t
  · have h2 := hi.2 h1
    left
    rw [decide_eq_true h1, decide_eq_true (show a = b by rw [ha, hb, h2])]
    rfl
  · have h2 : ¬ p = q := fun h => h1 (hi.1 h)
    by_cases h3 : sumS p = sumS q
    · exact .inr ⟨h2, h3⟩
    · left
      rw [decide_eq_false h1, decide_eq_false (show ¬ a = b by rw [ha, hb]; exact h3)]
      rfl
theorem ansV_some {m : PM} {p : PK} {s ch : ByteArray} (h : getM m p = some s) (hc : ch.size ≤ 100) : ansV m p ch = .tuple #[.string (sumS (askB s ch)), zv 0] := by
  unfold ansV
  rw [if_neg (by omega), h, ← expB_ask hc]
attribute [local irreducible] WC WL WX POp Then Again Fn NX W1 WA WO QL RP RA Yld LoopAt HC HL HX HN H1 HA HO HQ HB HP A.blk A.grow A.rd A.obj A.mp AgainH CutH
attribute [local irreducible] A.pm A.mx A.mit sumS newK expB askB
theorem refText27_fn (s : ByteArray) (hs : s.size ≤ 65536) (w : World) : Fn Tryz.prog 47 #[.string s] w fun v w' => v = .string (strN s.size ++ s) ∧ Ext w w' := by
  refine enterH (l := [_]) rfl Tryz.ntmps47 rfl ?_
  refine hwYZ ?_
  refine HL.one (H1.callx (vs := [_]) rfl rfl (fun w' _ => refPutString_fn s hs w') ?_)
  refine hwYZ ?_
  exact HX.ret1 rfl rfl fun w' hM => ⟨rfl, hM.ext⟩
theorem asked_fn (s ch : ByteArray) (hs : s.size ≤ 100) (hc : ch.size ≤ 100) (w : World) : Fn Tryz.prog 16 #[.string s, .string ch] w fun v w' => v = .string (askB s ch) ∧ Ext w w' := by
  have hz := strN_size (n := ch.size) (by omega)
  have h1 := ba_append_size (strN ch.size) ch
  refine enterH (l := [_, _]) rfl Tryz.ntmps16 rfl ?_
  refine hwYZ ?_
  refine HL.one (H1.callx (vs := [_]) rfl rfl (fun w' _ => refText27_fn ch (by omega) w') ?_)
  refine hwYZ ?_
  exact HX.ret1 rfl rfl fun w' hM => ⟨by unfold askB; rfl, hM.ext⟩
set_option maxHeartbeats 8000000 in
theorem custodianAudits_fn {w : World} {ea ec : Addr} (hG : RoundG w) (hE : ErrG ea w) (hC : CErrG ec w) (s0 t0 c0 d0 : ByteArray) (hs0 : s0.size ≤ 9223372036854775807) (ht0 : t0.size ≤ 9223372036854775807) (hc0 : c0.size ≤ 9223372036854775807) (hd0 : d0.size ≤ 9223372036854775807) :
    Fn Tryz.prog 3 #[.string s0, .string t0, .string c0, .string d0] w fun v w' => v = .bool true ∧ Ext w w' := by
  obtain ⟨s, hs⟩ : ∃ s, s = cutS 100 s0 := ⟨_, rfl⟩
  obtain ⟨t, ht⟩ : ∃ t, t = cutS 100 t0 := ⟨_, rfl⟩
  obtain ⟨c, hc⟩ : ∃ c, c = cutS 100 c0 := ⟨_, rfl⟩
  obtain ⟨d, hd⟩ : ∃ d, d = cutS 100 d0 := ⟨_, rfl⟩
  have hs1 : s.size ≤ 100 := by rw [hs]; exact cutS_size _ _
  have ht1 : t.size ≤ 100 := by rw [ht]; exact cutS_size _ _
  have hc1 : c.size ≤ 100 := by rw [hc]; exact cutS_size _ _
  have hd1 : d.size ≤ 100 := by rw [hd]; exact cutS_size _ _
  have z1 := askB_size s c hc1
  have z2 := askB_size t c hc1
  have z3 := askB_size s d hd1
  have h0 := cclean0 (N := 4000) (by decide) (by decide)
  have hr3 : ∀ r ∈ [recS (3, 1) s], r.size ≤ 300 := fun r hr => by
    rcases List.mem_cons.1 hr with rfl | hr
    · exact recS_le3 (by decide) (by omega)
    · cases hr
  obtain ⟨j, hst, hc2⟩ := h0.store (p := (3, 1)) (s := s) (by decide) (by omega) (Nat.le_trans (needL_le3 _ hr3) (show 350 * 1 ≤ 4000 by decide))
  have hset : setM [] (3, 1) s = [((3, 1), s)] := rfl
  rw [hset] at hst hc2
  have hget : getM [((3, 1), s)] (3, 1) = some s := rfl
  have a1 := ansV_some hget hc1
  have a2 := ansV_some hget hd1
  have hgs : ∀ u, getM [((3, 1), s)] (3, 1) = some u → u.size ≤ 100000 := fun u h => by rw [hget] at h; cases h; omega
  obtain ⟨p, hp⟩ : ∃ p, p = askB s c := ⟨_, rfl⟩
  obtain ⟨q, hq⟩ : ∃ q, q = askB t c := ⟨_, rfl⟩
  obtain ⟨r, hr⟩ : ∃ r, r = askB s d := ⟨_, rfl⟩
  have hps : p.size ≤ 900000 := by rw [hp]; omega
  have hqs : q.size ≤ 900000 := by rw [hq]; omega
  have hrs : r.size ≤ 900000 := by rw [hr]; omega
  have i1 : p = q ↔ s = t := ⟨fun h => askB_left (by rw [← hp, ← hq]; exact h), fun h => by rw [hp, hq, h]⟩
  have i2 : p = r ↔ c = d := ⟨fun h => askB_right (by omega) (by omega) (by rw [← hp, ← hr]; exact h), fun h => by rw [hp, hr, h]⟩
  obtain ⟨a, ha⟩ : ∃ a, a = sumS p := ⟨_, rfl⟩
  obtain ⟨b, hb⟩ : ∃ b, b = sumS r := ⟨_, rfl⟩
  obtain ⟨g, hg⟩ : ∃ g, g = sumS q := ⟨_, rfl⟩
  have x1 := audit_plain ha hg i1
  have x2 := audit_plain ha hb i2
  rw [← ha, ← hg] at x1
  rw [← ha, ← hb] at x2
  have f1 := fun w' (h : RoundG w') => expected_fn (w := w') t c h (by omega)
  have f2 := fun w' (h : RoundG w') => expected_fn (w := w') s c h (by omega)
  rw [expB_ask hc1, ← hq, ← hg] at f1
  rw [expB_ask hc1, ← hp, ← ha] at f2
  rw [← hp, ← ha] at a1
  rw [← hr, ← hb] at a2
  refine enterH (l := [_, _, _, _]) rfl Tryz.ntmps3 rfl ?_
  refine hwYZ ?_
  refine HL.one (H1.callx (vs := []) rfl rfl (fun w' hM => sane27_fn (hG.ext hM.ext) (hE.ext hM.ext) (hC.ext hM.ext)) ?_)
  refine hwYZ ?_
  refine HL.one (H1.call0 (vs := [_, zv ((100 : Nat) : Int)]) rfl rfl (fun w' _ => cut27_fn s0 100 hs0 w') ?_)
  rw [← hs]
  refine hwYZ ?_
  refine HL.one (H1.call0 (vs := [_, zv ((100 : Nat) : Int)]) rfl rfl (fun w' _ => cut27_fn t0 100 ht0 w') ?_)
  rw [← ht]
  refine hwYZ ?_
  refine HL.one (H1.call0 (vs := [_, zv ((100 : Nat) : Int)]) rfl rfl (fun w' _ => cut27_fn c0 100 hc0 w') ?_)
  rw [← hc]
  refine hwYZ ?_
  refine HL.one (H1.call0 (vs := [_, zv ((100 : Nat) : Int)]) rfl rfl (fun w' _ => cut27_fn d0 100 hd0 w') ?_)
  rw [← hd]
  refine hwYZ ?_
  refine HL.one (H1.callz (α := (Nat × Nat × Nat) × Nat × Nat × Nat × (Option Addr × Nat) × (Option Addr × Nat)) (V := fun z => .tuple #[.pointer (some ⟨z.2.1, 0, none⟩), .pointer (some ⟨z.1.1, 0, none⟩), .bool true])
    (Hn := fun z => cuH z.2.1 z.2.2.1 z.2.2.2.1 z.1.1 z.1.2.1 z.1.2.2 z.2.2.2.2.1.1 z.2.2.2.2.1.2 z.2.2.2.2.2.1 z.2.2.2.2.2.2 [] ⟨t00, newK 4000, false⟩ []) (I := fun _ => True) (vs := [zv 4000]) rfl rfl (fun w' hM => opened_fn (hG.ext hM.ext) (hE.ext hM.ext) (hC.ext hM.ext) 4000 (by decide) (by decide)) ?_)
  rintro ⟨⟨bd, b1, b2⟩, bx, bm, bj, ⟨a9, c9⟩, ⟨pa, pc⟩⟩ -
  dsimp only
  refine hwYZ ?_
  refine HL.one (H1.callk (α := (Option Addr × Nat) × (Option Addr × Nat)) (V := fun _ => zv 0) (I := fun _ => True) (H' := fun q => cuH bx bm bj bd b1 b2 q.1.1 q.1.2 q.2.1 q.2.2 [((3, 1), s)] j []) (vs := [_, zv 3, zv 1, .string s]) rfl rfl
    (fun w' hM => by
      have h := store_fn (3, 1) s hG hM (h0.jn.jok (Nat.zero_le _))
      rw [hst] at h
      exact h) ?_)
  rintro ⟨⟨a9, c9⟩, ⟨pa, pc⟩⟩ -
  dsimp only
  refine hwYZ ?_
  refine HL.one (H1.callk (α := Unit) (V := fun _ => .tuple #[.string a, zv 0]) (I := fun _ => True) (H' := fun _ => cuH bx bm bj bd b1 b2 a9 c9 pa pc [((3, 1), s)] j []) (vs := [_, zv 3, zv 1, .string c]) rfl rfl
    (fun w' hM => by
      have h := answer_fn (3, 1) c hG hM hgs
      rw [a1] at h
      exact h) ?_)
  rintro - -
  refine hwYZ ?_
  refine HL.one (H1.callk (α := Unit) (V := fun _ => .tuple #[.string b, zv 0]) (I := fun _ => True) (H' := fun _ => cuH bx bm bj bd b1 b2 a9 c9 pa pc [((3, 1), s)] j []) (vs := [_, zv 3, zv 1, .string d]) rfl rfl
    (fun w' hM => by
      have h := answer_fn (3, 1) d hG hM hgs
      rw [a2] at h
      exact h) ?_)
  rintro - -
  refine hwYZ ?_
  refine HL.one (H1.callx (vs := [.string t, .string c]) rfl rfl (fun w' hM => f1 w' (hG.ext hM.ext)) ?_)
  refine hwYZ ?_
  refine HL.one (H1.callx (vs := [.string s, .string c]) rfl rfl (fun w' hM => asked_fn s c hs1 hc1 w') ?_)
  rw [← hp]
  refine hwYZ ?_
  refine HL.one (H1.callx (vs := [.string t, .string c]) rfl rfl (fun w' hM => asked_fn t c ht1 hc1 w') ?_)
  rw [← hq]
  refine hwYZ ?_
  refine HL.one (H1.callx (vs := [.string s, .string d]) rfl rfl (fun w' hM => asked_fn s d hs1 hd1 w') ?_)
  rw [← hr]
  refine hnYZ ?_
  refine HL.cut (α := Bool) (fun z => [(0, .string s), (1, .string t), (2, .string c), (3, .string d), (9, .bool true), (13, .string a), (14, zv 0), (15, .string b), (16, zv 0), (17, .string g), (18, .string p), (20, .string r), (21, .bool z)]) (fun _ => []) (fun z => (decide (a = g) == decide (s = t)) = true ∨ z = true) ?_ ?_
  · by_cases hpq : p = q
    · have hpq2 : ¬ ¬ p = q := fun h => h hpq
      refine hwYZ ?_
      exact HX.cut false (x1.imp id fun h => absurd hpq h.1) esA (Hs.nil _)
    · refine hwYZ ?_
      refine HL.one (H1.callx (vs := [.string p]) rfl rfl (fun w' _ => refSum_fn p hps w') ?_)
      rw [← ha]
      refine hwYZ ?_
      refine HL.one (H1.callx (vs := [.string q]) rfl rfl (fun w' _ => refSum_fn q hqs w') ?_)
      rw [← hg]
      refine hwYZ ?_
      exact HX.cut (decide (a = g)) (x1.imp id fun h => decide_eq_true h.2) esA (Hs.nil _)
  intro z1 hz1
  repeat refine HC.seq ?_
  refine HC.cut (α := Bool) (fun z => [(0, .string s), (1, .string t), (2, .string c), (3, .string d), (9, .bool true), (13, .string a), (14, zv 0), (15, .string b), (16, zv 0), (17, .string g), (21, .bool z1), (22, .bool z)]) (fun _ => []) (fun z => (decide (a = b) == decide (c = d)) = true ∨ z = true) ?_ ?_
  · by_cases hpr : p = r
    · have hpr2 : ¬ ¬ p = r := fun h => h hpr
      refine hwYZ ?_
      exact HX.cut false (x2.imp id fun h => absurd hpr h.1) esA (Hs.nil _)
    · refine hwYZ ?_
      refine HL.one (H1.callx (vs := [.string p]) rfl rfl (fun w' _ => refSum_fn p hps w') ?_)
      rw [← ha]
      refine hwYZ ?_
      refine HL.one (H1.callx (vs := [.string r]) rfl rfl (fun w' _ => refSum_fn r hrs w') ?_)
      rw [← hb]
      refine hwYZ ?_
      exact HX.cut (decide (a = b)) (x2.imp id fun h => decide_eq_true h.2) esA (Hs.nil _)
  intro z2 hz2
  obtain ⟨e1, he1⟩ : ∃ e1, e1 = (decide (a = g) == decide (s = t)) := ⟨_, rfl⟩
  obtain ⟨e2, he2⟩ : ∃ e2, e2 = (decide (a = b) == decide (c = d)) := ⟨_, rfl⟩
  rw [← he1] at hz1
  rw [← he2] at hz2
  refine hnYZ ?_
  refine HL.one (H1.callx (vs := [.string s, .string c]) rfl rfl (fun w' hM => f2 w' (hG.ext hM.ext)) ?_)
  refine hnYZ ?_
  rw [← he1]
  cases e1 with
  | true =>
    refine hnYZ ?_
    rw [← he2]
    cases e2 with
    | true =>
      refine hwYZ ?_
      exact HX.ret1 rfl rfl fun w' hM => ⟨rfl, hM.ext⟩
    | false =>
      obtain rfl : z2 = true := hz2.resolve_left Bool.noConfusion
      refine hwYZ ?_
      exact HX.ret1 rfl rfl fun w' hM => ⟨rfl, hM.ext⟩
  | false =>
    obtain rfl : z1 = true := hz1.resolve_left Bool.noConfusion
    refine hnYZ ?_
    rw [← he2]
    cases e2 with
    | true =>
      refine hwYZ ?_
      exact HX.ret1 rfl rfl fun w' hM => ⟨rfl, hM.ext⟩
    | false =>
      obtain rfl : z2 = true := hz2.resolve_left Bool.noConfusion
      refine hwYZ ?_
      exact HX.ret1 rfl rfl fun w' hM => ⟨rfl, hM.ext⟩
end Go.Sx

