/- Chapter 24: the law LineageClosed: the walk. -/
import Derived.Test.YtehehfcmanccjaaGreatDoorQC08
import Derived.Test.YtehehfcmanccjaaGreatDoorRows
import Derived.ProofKit
import Derived.OpenShut
import Derived.LaidMore
import Derived.Lay
import Derived.SevenTiedAt
import Derived.Stop.Joined
import Derived.Deep.Onto
import Derived.Laws.IdiomArrays
import Derived.Carry
import Derived.Test.YtehehfcmanccjaaGreatDoorTie
import Derived.Lib.LaidTab
import Derived.Stop.LaidErr
namespace Go.Sx
open Go Go.Proofs Go.RowKit
theorem hwOD {G G2 : Prop} (x : G2) (hwq : Hold G2 → G := by
    intro hQq
    repeat' (first | refine HL.pa ?_ (POp.nilCheck rfl) | apply HL.fold | apply HA.fold | apply HL.nil | apply HX.n_then | apply HC.seq | apply HC.region | refine HL.pa ?_ | refine HL.ga rfl ?_ | refine HL.na rfl ?_ | refine HL.nu rfl rfl ?_ | apply HC.block | apply HC.skip | apply HC.exit | apply HC.ret | apply HX.e_block | refine HX.e_other rfl ?_ | apply HX.e_then | apply HX.e_again | apply HX.n_block | apply HX.r_then | apply HX.r_block | apply HX.r_again | refine HC.cond_yes rfl ?_ | refine HC.cond_no rfl ?_ | refine HL.one (H1.ldb rfl memA rfl rfl ?_) | refine HC.cond rfl (fun hc => ?_) (fun hc => ?_) | refine HC.cond_b rfl (fun hc => ?_) (fun hc => ?_))
    exact hQq.get) : G := hwq ⟨x⟩
theorem hbOD {G G2 : Prop} (x : G2) (hwq : Hold G2 → G := by
    intro hQq
    repeat' (first | refine HL.pa ?_ (POp.nilCheck rfl) | apply HL.fold | apply HA.fold | apply HL.nil | apply HX.n_then | apply HC.seq | apply HC.region | refine HL.pa ?_ | refine HL.ga rfl ?_ | refine HL.na rfl ?_ | refine HL.nu rfl rfl ?_ | apply HC.skip | apply HC.exit | apply HC.ret | apply HX.e_block | refine HX.e_other rfl ?_ | apply HX.e_then | apply HX.e_again | apply HX.n_block | apply HX.r_then | apply HX.r_block | apply HX.r_again | refine HC.cond_yes rfl ?_ | refine HC.cond_no rfl ?_ | refine HL.one (H1.ldb rfl memA rfl rfl ?_) | refine HC.cond rfl (fun hc => ?_) (fun hc => ?_) | refine HC.cond_b rfl (fun hc => ?_) (fun hc => ?_))
    exact hQq.get) : G := hwq ⟨x⟩
/-- The numbers of the nodes that are chosen. -/
def selL (l : List Nd) (f : Nat → Bool) : Nat → List Int
  | 0 => []
  | k + 1 => if f k = true then selL l f k ++ [(ndAt l k).id] else selL l f k
theorem selL_len (l : List Nd) (f : Nat → Bool) : ∀ k, (selL l f k).length ≤ k
  | 0 => Nat.le_refl _
  | k + 1 => by
    have := selL_len l f k
    show (if _ then _ else _ : List Int).length ≤ _
    split
    · rw [List.length_append, List.length_singleton]; omega
    · omega
theorem selL_yes {l : List Nd} {f : Nat → Bool} {k : Nat} (h : f k = true) : selL l f (k + 1) = selL l f k ++ [(ndAt l k).id] := if_pos h
theorem selL_no {l : List Nd} {f : Nat → Bool} {k : Nat} (h : f k = false) : selL l f (k + 1) = selL l f k := if_neg (by rw [h]; decide)
theorem selL_sub {l : List Nd} {f g : Nat → Bool} (h : ∀ i, f i = true → g i = true) {x : Int} : ∀ {k : Nat}, x ∈ selL l f k → x ∈ selL l g k
  | 0, hx => hx
  | k + 1, hx => by
    by_cases hf : f k = true
    · rw [selL_yes hf] at hx
      rw [selL_yes (h k hf)]
      rcases List.mem_append.1 hx with hx | hx
      · exact List.mem_append_left _ (selL_sub h hx)
      · exact List.mem_append_right _ hx
    · rw [selL_no (by simpa using hf)] at hx
      by_cases hg : g k = true
      · rw [selL_yes hg]; exact List.mem_append_left _ (selL_sub h hx)
      · rw [selL_no (by simpa using hg)]; exact selL_sub h hx
/-- The bit of a number. -/
def bitB (p : Int) (i : Nat) : Bool := decide (p / 2 ^ i % 2 = 1)
theorem derA_mem {l : List Nd} (hv : ValidP l) (f : List Int) {i : Nat} (hi : i < l.length) : (ndAt l i).id ∈ derA l f ↔ (ndAt l i).id ∈ f ∨ ∃ x ∈ (ndAt l i).src, x ∈ derA l f := by
  rw [mem_derA hv, mem_derL hv _ hi, decide_eq_true_eq]
  constructor
  · rintro (h | ⟨x, hx, h⟩)
    · exact .inl h
    · exact .inr ⟨x, hx, (mem_derA hv).2 h⟩
  · rintro (h | ⟨x, hx, h⟩)
    · exact .inl h
    · exact .inr ⟨x, hx, (mem_derA hv).1 h⟩
theorem derA_more {l : List Nd} (hv : ValidP l) {f g : List Int} (h : ∀ x, x ∈ f → x ∈ g) {x : Int} (hx : x ∈ derA l f) : x ∈ derA l g := by
  rw [mem_derA hv] at hx ⊢
  exact derL_more (fun i hi => decide_eq_true (h _ (of_decide_eq_true hi))) hx
theorem derA_again {l : List Nd} (hv : ValidP l) (f : List Int) : derA l (derA l f) = derA l f := by
  conv => lhs; arg 2; rw [derA_eq hv]
  rw [derA_twice hv, derA_eq hv]
theorem any_take {s : List Int} {k : Nat} (hk : k < s.length) (p : Int → Bool) : (s.take (k + 1)).any p = ((s.take k).any p || p (getI s k)) := by
  rw [getI_take hk, List.any_append]; simp
theorem i64W.pick {c n : Int} (hn : 0 < n) (h : n ≤ 1048576) : 0 ≤ pickI21 c n ∧ pickI21 c n < 1048576 := by have := pickI21_lt c hn; omega
attribute [local irreducible] WC WL WX POp Then Again Fn NX W1 WA WO QL RP RA Yld LoopAt HC HL HX HN H1 HA HO HQ HB HP A.blk A.grow A.rd A.obj A.mp AgainH CutH
attribute [local irreducible] A.mq A.mit A.all sumS
theorem hasI24_fn (v : Value) (l : List Int) (n : Int) (hl : l.length ≤ 1000000) (w : World) (hR : Rd w v (ints l)) :
    Fn Tryz.prog 14 #[v, zv n] w fun u w' => u = .bool (decide (n ∈ l)) ∧ Ext w w' := by
  obtain ⟨a, c, rfl, hc⟩ := hR.isInts
  refine enterH (l := [_, _]) rfl Tryz.ntmps14 rfl ?_
  refine hwOD ?_
  refine HC.loop (α := Nat) (fun k => [(0, .slice a l.length c), (1, zv n), (5, zv (k : Int))]) (fun _ => []) (fun k => k ≤ l.length ∧ n ∉ l.take k) (fun k => l.length - k) 0 ⟨Nat.zero_le _, by simp⟩ esA (Hs.refl _) ?_
  rintro k ⟨hk, hI⟩
  by_cases hlt : k < l.length
  · have hn : ((k : Nat) : Int) < (l.length : Int) := by omega
    obtain ⟨b, off, rfl⟩ := rd_addr hR hlt
    have hcl := hR.cell (ints_getI hlt)
    have hm := getI_mem hlt
    have htk := getI_take hlt
    generalize getI l k = x at hcl hm htk
    refine hwOD ?_
    refine HL.one (H1.ld0 rfl hcl rfl ?_)
    by_cases hx : x = n
    · refine hwOD ?_
      exact HX.ret1 rfl rfl fun w' hM => ⟨by rw [decide_eq_true (hx ▸ hm)], hM.ext⟩
    · refine hwOD ?_
      exact HX.again (k + 1) ⟨hlt, by rw [htk]; simp [hI, Ne.symm hx]⟩ (by show l.length - (k + 1) < l.length - k; omega) esA (Hs.refl _)
  have hn : ¬ ((k : Nat) : Int) < (l.length : Int) := by omega
  obtain rfl : k = l.length := by omega
  rw [List.take_length] at hI
  refine hwOD ?_
  exact HX.ret1 rfl rfl fun w' hM => ⟨by rw [decide_eq_false hI], hM.ext⟩
set_option maxHeartbeats 8000000 in
theorem lineageClosed_fn (v : Value) (rows : List (List Int)) (one two : Int) (h1 : i64W one) (h2 : i64W two) (hrow : ∀ y ∈ rows, y.length = 4 ∧ ∀ z ∈ y, i64W z) (w : World) (hG : RoundG w) (hX : RdA 4 w v rows) :
    Fn Tryz.prog 3 #[v, zv one, zv two] w fun u w' => u = .bool true ∧ Ext w w' := by
  refine enterH (l := [_, _, _]) rfl Tryz.ntmps3 rfl ?_
  refine hwOD ?_
  refine HL.one (H1.callx (vs := []) rfl rfl (fun w' hM => sane24_fn w' (hG.ext hM.ext)) ?_)
  refine hwOD ?_
  refine HL.one (H1.callr (vs := [v]) rfl rfl (fun w' hM => made24_fn v rows hrow w' (hX.ext hM.ext)) ?_)
  rintro wa u w1 hMa ⟨⟨vl, vg, U, rfl, hN, hD⟩, hxa⟩
  have hx1 : Ext w w1 := hMa.ext.trans hxa
  have hn20 : madeN rows ≤ 20 := by unfold madeN; omega
  have hok := (madeL_ok rows (madeN rows) (by omega)).valid
  have hlen := madeL_len rows (madeN rows)
  generalize madeL rows (madeN rows) = l at hN hok hlen
  generalize madeN rows = n at hn20 hlen hD
  have hls : ∀ i, i < l.length → (ndAt l i).src.length ≤ 1000000 := fun i hi => by have := (hasN_iff.1 (hok.node i hi)).len; omega
  obtain ⟨al, cl, rfl, -⟩ := hN.shape
  have q1 := i64W.pick (c := one) (n := 1048576) (by decide) (by decide)
  have q2 := i64W.pick (c := two) (n := 1048576) (by decide) (by decide)
  obtain ⟨p1, hp1⟩ : ∃ p1, p1 = pickI21 one 1048576 := ⟨_, rfl⟩
  obtain ⟨p2, hp2⟩ : ∃ p2, p2 = pickI21 two 1048576 := ⟨_, rfl⟩
  rw [← hp1] at q1
  rw [← hp2] at q2
  refine hwOD ?_
  refine HC.grow0 3 1 ?_
  refine HC.grow0 3 1 ?_
  refine HC.loop (α := Nat × (Option Addr × Nat) × (Option Addr × Nat)) (fun q => [(1, zv one), (2, zv two), (7, .bool true), (8, .slice al l.length cl), (10, .slice q.2.1.1 (selL l (bitB p1) q.1).length q.2.1.2), (11, .slice q.2.2.1 (selL l (fun i => bitB p1 i || bitB p2 i) q.1).length q.2.2.2), (12, zv (q.1 : Int))])
    (fun q => [A.grow 3 1 q.2.1.1 q.2.1.2 (selL l (bitB p1) q.1).length (ints (selL l (bitB p1) q.1)), A.grow 3 1 q.2.2.1 q.2.2.2 (selL l (fun i => bitB p1 i || bitB p2 i) q.1).length (ints (selL l (fun i => bitB p1 i || bitB p2 i) q.1))]) (fun q => q.1 ≤ l.length) (fun q => l.length - q.1) (0, (none, 0), (none, 0)) (Nat.zero_le _) esA (Hs.cons Pick.here (Hs.cons Pick.here (Hs.refl _))) ?_
  rintro ⟨k, ⟨aa, ca⟩, ab, cb⟩ hk
  dsimp only at hk ⊢
  by_cases hlt : k < l.length
  · have hn : ((k : Nat) : Int) < (l.length : Int) := by omega
    have hla := selL_len l (bitB p1) k
    have hlb := selL_len l (fun i => bitB p1 i || bitB p2 i) k
    have hd1 : 0 ≤ p1 / 2 ^ k := Int.ediv_nonneg q1.1 (Int.le_of_lt (Int.pow_pos (by decide)))
    have hd2 : 0 ≤ p2 / 2 ^ k := Int.ediv_nonneg q2.1 (Int.le_of_lt (Int.pow_pos (by decide)))
    obtain ⟨b0, off0, rfl, hb⟩ := hN.cell hlt
    have hc0 := hb k hlt 0 (zv (ndAt l k).id) rfl
    clear hb
    have hya := selL_yes (l := l) (f := bitB p1) (k := k)
    have hna := selL_no (l := l) (f := bitB p1) (k := k)
    have hyb := selL_yes (l := l) (f := fun i => bitB p1 i || bitB p2 i) (k := k)
    have hnb := selL_no (l := l) (f := fun i => bitB p1 i || bitB p2 i) (k := k)
    have hb1 : bitB p1 k = decide (p1 / 2 ^ k % 2 = 1) := rfl
    have hb2 : bitB p2 k = decide (p2 / 2 ^ k % 2 = 1) := rfl
    generalize (ndAt l k).id = x at hc0 hya hyb
    refine hwOD ?_
    refine HL.one (H1.call0 (vs := [zv one, zv 1048576]) rfl rfl (fun w' _ => lpick24_fn one 1048576 h1.1 h1.2 (by decide) w') ?_)
    rw [← hp1]
    refine hwOD ?_
    refine HL.pa ?_ (POp.shrI (b := k) rfl rfl rfl (by omega))
    generalize p1 / 2 ^ k = d1 at hd1 hb1
    generalize hd2e : p2 / 2 ^ k = d2 at hd2 hb2
    by_cases hc1 : d1 % 2 = 1
    · rw [decide_eq_true hc1] at hb1
      have ea := hya hb1
      have eb := hyb (by rw [hb1]; rfl)
      have la := congrArg List.length ea
      have lb := congrArg List.length eb
      rw [List.length_append, List.length_singleton] at la lb
      refine hwOD ?_
      refine HL.one (H1.ld0 rfl hc0 rfl ?_)
      refine hwOD ?_
      refine HL.one (H1.lit (cs := [zv x]) rfl rfl rfl rfl rfl rfl (fun b8 => ?_))
      refine hwOD ?_
      refine HL.one (H1.app1 (u := zv x) rfl rfl (fun _ _ => by first | ((repeat (first | with_reducible exact Rpl.here | with_reducible apply Rpl.there)); done) | (repeat (first | exact Rpl.here | apply Rpl.there))) memA rfl rfl (by omega) rfl rfl (fun a2 c2 => ?_))
      rw [ints_snocL, ← ea, ← la]
      refine hwOD ?_
      refine HL.one (H1.ld0 rfl hc0 rfl ?_)
      refine hwOD ?_
      refine HL.one (H1.lit (cs := [zv x]) rfl rfl rfl rfl rfl rfl (fun b9 => ?_))
      refine hwOD ?_
      refine HL.one (H1.app1 (u := zv x) rfl rfl (fun _ _ => by first | ((repeat (first | with_reducible exact Rpl.here | with_reducible apply Rpl.there)); done) | (repeat (first | exact Rpl.here | apply Rpl.there))) memA rfl rfl (by omega) rfl rfl (fun a3 c3 => ?_))
      rw [ints_snocL, ← eb, ← lb]
      refine hwOD ?_
      exact HX.again (k + 1, (some ⟨a2, 0, none⟩, c2), some ⟨a3, 0, none⟩, c3) hlt (by show l.length - (k + 1) < l.length - k; omega) esA (by repeat (first | exact Hs.nil _ | (refine Hs.cons pickA ?_)))
    rw [decide_eq_false hc1] at hb1
    have ea := hna hb1
    refine hwOD ?_
    refine HL.one (H1.call0 (vs := [zv two, zv 1048576]) rfl rfl (fun w' _ => lpick24_fn two 1048576 h2.1 h2.2 (by decide) w') ?_)
    rw [← hp2]
    refine hwOD ?_
    refine HL.pa ?_ ((POp.shrI (b := k) rfl rfl rfl (by omega)).of (congrArg zv hd2e))
    by_cases hc2 : d2 % 2 = 1
    · rw [decide_eq_true hc2] at hb2
      have eb := hyb (by rw [hb2]; simp)
      have lb := congrArg List.length eb
      rw [List.length_append, List.length_singleton] at lb
      rw [← ea]
      refine hwOD ?_
      refine HL.one (H1.ld0 rfl hc0 rfl ?_)
      refine hwOD ?_
      refine HL.one (H1.lit (cs := [zv x]) rfl rfl rfl rfl rfl rfl (fun b9 => ?_))
      refine hwOD ?_
      refine HL.one (H1.app1 (u := zv x) rfl rfl (fun _ _ => by first | ((repeat (first | with_reducible exact Rpl.here | with_reducible apply Rpl.there)); done) | (repeat (first | exact Rpl.here | apply Rpl.there))) memA rfl rfl (by omega) rfl rfl (fun a3 c3 => ?_))
      rw [ints_snocL, ← eb, ← lb]
      refine hwOD ?_
      exact HX.again (k + 1, (aa, ca), some ⟨a3, 0, none⟩, c3) hlt (by show l.length - (k + 1) < l.length - k; omega) esA (by repeat (first | exact Hs.nil _ | (refine Hs.cons pickA ?_)))
    · rw [decide_eq_false hc2] at hb2
      have eb := hnb (by rw [hb1, hb2]; rfl)
      rw [← ea, ← eb]
      refine hwOD ?_
      exact HX.again (k + 1, (aa, ca), ab, cb) hlt (by show l.length - (k + 1) < l.length - k; omega) esA (by repeat (first | exact Hs.nil _ | (refine Hs.cons pickA ?_)))
  have hn : ¬ ((k : Nat) : Int) < (l.length : Int) := by omega
  obtain rfl : k = l.length := by omega
  have hla := selL_len l (bitB p1) l.length
  have hlb := selL_len l (fun i => bitB p1 i || bitB p2 i) l.length
  have hsub : ∀ x, x ∈ selL l (bitB p1) l.length → x ∈ selL l (fun i => bitB p1 i || bitB p2 i) l.length := fun x hx => selL_sub (fun i hi => by rw [hi]; rfl) hx
  generalize selL l (bitB p1) l.length = A1 at hla hsub
  generalize selL l (fun i => bitB p1 i || bitB p2 i) l.length = B1 at hlb hsub
  refine hwOD ?_
  refine HL.one (H1.callz (vs := [_, _]) rfl rfl (fun w' hM => derivedA_fn (f := A1) (by omega) hls (by omega) w' (hN.ext hM.ext) (hM.gr (a := aa) (c := ca) memA)) ?_)
  rintro ⟨ac, cc⟩ -
  dsimp only
  refine hwOD ?_
  refine HL.one (H1.callz (vs := [_, _]) rfl rfl (fun w' hM => derivedA_fn (f := B1) (by omega) hls (by omega) w' (hN.ext hM.ext) (hM.gr (a := ab) (c := cb) memA)) ?_)
  rintro ⟨ae, ce⟩ -
  dsimp only
  have hlc := derA_len l A1
  have hle := derA_len l B1
  have hmore := fun x => derA_more hok hsub (x := x)
  refine hwOD ?_
  refine HC.loop (α := Nat) (fun k => [(7, .bool true), (8, .slice al l.length cl), (10, .slice aa A1.length ca), (13, .slice ac (derA l A1).length cc), (14, .slice ae (derA l B1).length ce), (15, zv (k : Int))]) (fun _ => [A.grow 3 1 ac cc (derA l A1).length (ints (derA l A1)), A.grow 3 1 ae ce (derA l B1).length (ints (derA l B1)), A.grow 3 1 aa ca A1.length (ints A1)]) (fun k => k ≤ l.length) (fun k => l.length - k) 0 (Nat.zero_le _) esA (by repeat (first | exact Hs.nil _ | (refine Hs.cons pickA ?_))) ?_
  intro k hk
  by_cases hlt : k < l.length
  rotate_left
  · have hn : ¬ ((k : Nat) : Int) < (l.length : Int) := by omega
    have hag := derA_again hok A1
    refine hwOD ?_
    refine HL.one (H1.callz (vs := [_, _]) rfl rfl (fun w' hM => by
      have h := derivedA_fn (l := l) (f := derA l A1) (by omega) hls (by omega) w' (hN.ext hM.ext) (hM.gr (a := ac) (c := cc) memA)
      rw [hag] at h
      exact h) ?_)
    rintro ⟨az, cz⟩ -
    dsimp only
    refine hwOD ?_
    refine HL.one (H1.callx (u := .bool true) (vs := [_, _]) rfl rfl (fun w' hM => (SameInts_fn _ _ (derA l A1) (derA l A1) w' (hM.gr (a := az) (c := cz) memA) (hM.gr (a := ac) (c := cc) memA) (by omega)).mono fun v w'' h => ⟨h.1.trans (by rw [decide_eq_true rfl]), h.2⟩) ?_)
    refine hwOD ?_
    exact HX.ret1 rfl rfl fun w' hM => ⟨rfl, hx1.trans hM.ext⟩
  have hn : ((k : Nat) : Int) < (l.length : Int) := by omega
  obtain ⟨b0, off0, rfl, hb⟩ := hN.cell hlt
  have hc0 := hb k hlt 0 (zv (ndAt l k).id) rfl
  have hc3 := hb k hlt 3 (U k) rfl
  have hsx := hN.src k hlt
  have hsl := hls k hlt
  have hmem := derA_mem hok A1 hlt
  have hmr := hmore (ndAt l k).id
  clear hb
  generalize (ndAt l k).id = x at hc0 hmem hmr
  generalize (ndAt l k).src = s at hsx hsl hmem
  generalize U k = uk at hc3 hsx
  obtain ⟨a4, c4, rfl, hcs⟩ := hsx.isInts
  generalize derA l A1 = C at hlc hmem hmr ⊢
  generalize derA l B1 = D1 at hle hmr ⊢
  refine hwOD ?_
  refine HL.one (H1.ld0 rfl hc0 rfl ?_)
  refine hwOD ?_
  refine HL.one (H1.callx (vs := [_, _]) rfl rfl (fun w' hM => hasI24_fn _ A1 x (by omega) w' (hM.gr (a := aa) (c := ca) memA)) ?_)
  refine hbOD ?_
  refine HC.block ?_
  refine HC.loop (α := Nat) (fun j => [(7, .bool true), (8, .slice (some ⟨b0, off0, none⟩) l.length cl), (10, .slice aa A1.length ca), (13, .slice ac C.length cc), (14, .slice ae D1.length ce), (15, zv (k : Int)), (16, .bool (decide (x ∈ A1) || (s.take j).any fun y => decide (y ∈ C))), (17, zv (j : Int))])
    (fun _ => [A.grow 3 1 ac cc C.length (ints C), A.grow 3 1 ae ce D1.length (ints D1), A.grow 3 1 aa ca A1.length (ints A1)]) (fun j => j ≤ s.length) (fun j => s.length - j) 0 (Nat.zero_le _) (by refine ⟨rfl, rfl, rfl, rfl, rfl, rfl, ?_, rfl, trivial⟩; show some (Value.bool _) = some (Value.bool _); rw [List.take_zero]; simp) (by repeat (first | exact Hs.nil _ | (refine Hs.cons pickA ?_))) ?_
  intro j hj
  by_cases hjl : j < s.length
  · have hjn : ((j : Nat) : Int) < (s.length : Int) := by omega
    have hany := any_take hjl fun y => decide (y ∈ C)
    obtain ⟨b4, off4, rfl⟩ := rd_addr hsx hjl
    have hcy := hsx.cell (ints_getI hjl)
    generalize getI s j = y at hany hcy
    generalize ((s.take j).any fun y => decide (y ∈ C)) = r0 at hany ⊢
    refine hwOD ?_
    refine HL.one (H1.ld0 rfl hc3 rfl ?_)
    cases hw0 : (decide (x ∈ A1) || r0) with
    | true =>
      refine hwOD ?_
      exact HX.again (j + 1) hjl (by show s.length - (j + 1) < s.length - j; omega) (by refine ⟨rfl, rfl, rfl, rfl, rfl, rfl, ?_, rfl, trivial⟩; show some (Value.bool _) = some (Value.bool (decide (x ∈ A1) || (s.take (j + 1)).any fun y => decide (y ∈ C))); rw [hany, ← Bool.or_assoc, hw0]; rfl) (by repeat (first | exact Hs.nil _ | (refine Hs.cons pickA ?_)))
    | false =>
      refine hwOD ?_
      refine HL.one (H1.ld0 rfl hc3 rfl ?_)
      refine hwOD ?_
      refine HL.one (H1.ld0 rfl hcy rfl ?_)
      refine hwOD ?_
      refine HL.one (H1.callx (vs := [_, _]) rfl rfl (fun w' hM => hasI24_fn _ C y (by omega) w' (hM.gr (a := ac) (c := cc) memA)) ?_)
      refine hwOD ?_
      exact HX.again (j + 1) hjl (by show s.length - (j + 1) < s.length - j; omega) (by refine ⟨rfl, rfl, rfl, rfl, rfl, rfl, ?_, rfl, trivial⟩; show some (Value.bool _) = some (Value.bool (decide (x ∈ A1) || (s.take (j + 1)).any fun y => decide (y ∈ C))); rw [hany, ← Bool.or_assoc, hw0, Bool.false_or]) (by repeat (first | exact Hs.nil _ | (refine Hs.cons pickA ?_)))
  have hjn : ¬ ((j : Nat) : Int) < (s.length : Int) := by omega
  obtain rfl : j = s.length := by omega
  have hW : (decide (x ∈ A1) || (s.take s.length).any fun y => decide (y ∈ C)) = decide (x ∈ C) := by
    rw [List.take_length, Bool.eq_iff_iff, Bool.or_eq_true, decide_eq_true_eq, decide_eq_true_eq, List.any_eq_true, hmem]
    simp only [decide_eq_true_eq]
  rw [hW]
  refine hwOD ?_
  refine HL.one (H1.ld0 rfl hc3 rfl ?_)
  refine hwOD ?_
  refine HL.one (H1.ld0 rfl hc0 rfl ?_)
  refine hwOD ?_
  refine HL.one (H1.callx (vs := [_, _]) rfl rfl (fun w' hM => hasI24_fn _ C x (by omega) w' (hM.gr (a := ac) (c := cc) memA)) ?_)
  by_cases hxC : x ∈ C
  · rw [decide_eq_true hxC]
    have hxD := hmr hxC
    refine HL.fold ?_
    refine HL.pa ?_ ((POp.bneq rfl rfl).of (show Value.bool (!(true == true)) = .bool false from rfl))
    refine hwOD ?_
    refine HL.one (H1.ld0 rfl hc0 rfl ?_)
    refine hwOD ?_
    refine HL.one (H1.callx (vs := [_, _]) rfl rfl (fun w' hM => hasI24_fn _ D1 x (by omega) w' (hM.gr (a := ae) (c := ce) memA)) ?_)
    rw [decide_eq_true hxD]
    refine hwOD ?_
    exact HX.again (k + 1) hlt (by show l.length - (k + 1) < l.length - k; omega) esA (by repeat (first | exact Hs.nil _ | (refine Hs.cons pickA ?_)))
  · rw [decide_eq_false hxC]
    refine HL.fold ?_
    refine HL.pa ?_ ((POp.bneq rfl rfl).of (show Value.bool (!(false == false)) = .bool false from rfl))
    refine hwOD ?_
    exact HX.again (k + 1) hlt (by show l.length - (k + 1) < l.length - k; omega) esA (by repeat (first | exact Hs.nil _ | (refine Hs.cons pickA ?_)))
end Go.Sx
/- From a function's contract to a row's statement: arguments that are numbers, arrays of numbers, slices of arrays of numbers, records. -/
namespace Go.Sx
open Go Go.ChangeShapes Go.WideShapes Go.ChangeAt Go.RowKit
section
variable {H : Type} {enc : TypeId × Value → H} {P : Program} {w : World} {b : Nat} {sp : Nat → Bool} {hd : Bool}
theorem args_cons {t : TypeId} {ts : List TypeId} {vs : List Value} {ds : List (DataW H)} {ps : List MemPlace} (h : DataW.TrodAll enc P w b sp hd (t :: ts) vs ds ps) :
    ∃ v vs' d ds' p q, vs = v :: vs' ∧ ds = d :: ds' ∧ ps = p ++ q ∧ DataW.Trod enc P w b sp hd t v d p ∧ DataW.TrodAll enc P w b sp hd ts vs' ds' q := by
  cases vs with
  | nil => exact h.elim
  | cons v vs =>
    cases ds with
    | nil => exact h.elim
    | cons d ds =>
      obtain ⟨p, q, h1, h2, h3⟩ := h
      exact ⟨v, vs, d, ds, p, q, rfl, rfl, h3, h1, h2⟩
theorem args_nil {vs : List Value} {ds : List (DataW H)} {ps : List MemPlace} (h : DataW.TrodAll enc P w b sp hd [] vs ds ps) : vs = [] ∧ ds = [] ∧ ps = [] := by
  cases vs with
  | cons v vs => exact h.elim
  | nil => cases ds with
    | cons d ds => exact h.elim
    | nil => exact ⟨rfl, rfl, h⟩
theorem trodAll_ext (hl : laidOutB P = true) {W W' : World} (hx : Below W.heap.size W W') : ∀ {ts : List TypeId} {vs : List Value} {ds : List (DataW H)} {ps : List MemPlace}, (ts.all fun t => P.readableRec t && decide (t < P.types.size)) = true →
    DataW.TrodAll enc P W 0 (fun _ => true) true ts vs ds ps → (∀ p ∈ ps, p.block < W.heap.size) → ∀ sp : Nat → Bool, (∀ p ∈ ps, sp p.block = true) → DataW.TrodAll enc P W' 0 sp true ts vs ds ps
  | [], [], [], _, _, h, _, _, _ => h
  | [], [], _ :: _, _, _, h, _, _, _ => h.elim
  | [], _ :: _, _, _, _, h, _, _, _ => h.elim
  | _ :: _, [], _, _, _, h, _, _, _ => h.elim
  | _ :: _, _ :: _, [], _, _, h, _, _, _ => h.elim
  | t :: ts, v :: vs, d :: ds, ps, ht, h, hlt, sp, hsp => by
    obtain ⟨p, q, h1, h2, rfl⟩ := h
    simp only [List.all_cons, Bool.and_eq_true, decide_eq_true_eq] at ht
    refine ⟨p, q, ?_, trodAll_ext hl hx ht.2 h2 (fun x hx => hlt x (by simp [hx])) sp (fun x hx => hsp x (by simp [hx])), rfl⟩
    exact WideElems.Trod_stays hl ht.1.1 ht.1.2 h1 (fun x hx' => hx.same (hlt x (by simp [hx']))) (fun x hx' => hsp x (by simp [hx']))
end
end Go.Sx
namespace Go.Sx
open Go Go.Proofs Go.ChangeShapes Go.WideShapes Go.ChangeAt Go.RowKit
theorem ints_rowK (f : Nat → Int) (n : Nat) : ints ((List.range n).map f) = row n fun q => zv (f q) := by
  unfold ints row
  rw [List.map_map]; rfl
/-- The call has laid new blocks, and turned no old one. -/
theorem post_ext {H : Type} {enc : TypeId × Value → H} {P : Program} {f : Func} {s : ChangeSpec} {apart fresh handsOn again : Bool} {W W' : World} {args : Array Value} {v : Value} {ds gs : List (DataW H)} {before pa pv : List MemPlace} (hx : Ext W W')
    (hW : DataW.Whole enc P f.params.toList s.vars apart W args.toList ds gs before)
    (hres : ∀ (b : Nat) (sp : Nat → Bool) (hd : Bool), DataW.TrodAll enc P W' b sp hd f.resultTypes.toList (v.resultList f.resultTypes.size) (s.fn H (ds ++ gs)).results [])
    (hargs : ∀ sp : Nat → Bool, (∀ p ∈ before, sp p.block = true) → DataW.TrodAll enc P W' 0 sp true f.params.toList args.toList (s.fn H (ds ++ gs)).args pa)
    (hvars : ∀ sp : Nat → Bool, (∀ p ∈ before, sp p.block = true) → DataW.TrodVars enc P W' sp s.vars (s.fn H (ds ++ gs)).vars pv)
    (hps : before = pa ++ pv)
    (hok : ∀ (j : Nat) (t : TypeId) (r : Value), f.resultTypes[j]? = some t → (v.resultList f.resultTypes.size)[j]? = some r → Value.okWide P W' .any 0 t r) :
    s.post enc P f apart fresh handsOn again W args v W' := by
  have hlt : ∀ p ∈ before, p.block < W.heap.size := fun p hp => hW.lt p hp
  have hold : ∀ p ∈ before, (fun b => decide (b < W.heap.size)) p.block = true := fun p hp => by simpa using hW.lt p hp
  refine ⟨ds, gs, before, [], pa, pv, hW, hres _ _ _, hargs _ hold, hvars _ hold, (World.keptBut_refl W _).congr hx.os hx.output hx.block, fun _ => ?_⟩
  obtain ⟨_, _, _, _, _, hz, hn⟩ := hW
  refine ⟨hok, _, _, ([] ++ pa) ++ pv, ⟨[] ++ pa, pv, trodAll_append (hargs _ (fun _ _ => rfl)) (hres _ _ _), hvars _ (fun _ _ => rfl), rfl, ?_, ?_⟩, ?_⟩
  · intro b off hp
    have hp' : MemPlace.cell b off ∈ before := by rw [hps]; simpa using hp
    rw [World.frozen?_of_block (hx.block b (hlt _ hp'))]
    exact hz b off hp'
  · intro ha
    have := hn ha
    rw [hps] at this
    simpa using this
  · intro p hp _
    rw [hps]
    simpa using hp
theorem i64_of {x : Int} (h : (Lit.int .i64 x).wf = true) : i64W x := by
  simp only [Lit.wf, Bool.and_eq_true, decide_eq_true_eq] at h
  have e1 : IntKind.i64.min = -9223372036854775808 := rfl
  have e2 : IntKind.i64.max = 9223372036854775807 := rfl
  rw [e1, e2] at h
  exact h
theorem ownK : ownKnob Tryz.prog.godebug = none := by kernel_rfl
section
variable {H : Type} {enc : TypeId × Value → H} {P : Program} {W : World} {r : Reach} {b0 b : Nat} {sp : Nat → Bool} {hd : Bool} {v : Value} {d : DataW H} {p : List MemPlace}
theorem spot_none {W : World} {a : Addr} {v : Value} (h : W.cell? a = some v) : a = ⟨a.block, a.off, none⟩ ∧ a.block < W.heap.size := by
  unfold World.cell? at h
  split at h
  · rename_i c e f hc
    split at h
    · cases h
    · rename_i hs
      refine ⟨?_, (Array.getElem?_eq_some_iff.1 hc).1⟩
      cases a with
      | mk b o s => cases s <;> simp_all
  · cases h
def cellInt (W : World) (a : Addr) : Int := match W.cell? a with | some (.int _ z) => z | _ => 0

/-- All cells of a type are numbers. -/
def intCellsB (P : Program) : Nat → TypeId → Bool
  | 0, _ => false
  | n + 1, t => match P.underlying t with
    | some (.int .i64) => Nat.beq (P.cellsOf t) 1
    | some (.array k e) => intCellsB P n e && Nat.beq (P.cellsOf t) (k * P.cellsOf e) && Nat.ble 1 (P.cellsOf e)
    | some (.struct fs) => (fs.toList.all fun f => intCellsB P n f.type) && (List.range (P.cellsOf t)).all fun j => (List.range fs.size).any fun i => match fs[i]? with | some f => Nat.ble f.offset j && Nat.blt j (f.offset + P.cellsOf f.type) | none => false
    | _ => false
theorem intCells : ∀ (n : Nat) (t : TypeId) (cs : List Value) (fuel : Nat) (x : DataW H × List MemPlace), intCellsB P n t = true → DataW.trod enc P W b sp hd fuel t cs = some x → cs.length = P.cellsOf t ∧ ∀ j, j < cs.length → ∃ z, cs[j]? = some (zv z) ∧ i64W z := by
  intro n
  induction n with
  | zero => intro t cs fuel x h; cases h
  | succ n ih =>
    intro t cs fuel x h hf
    simp only [intCellsB] at h
    split at h
    · rename_i ht
      have h1 : P.cellsOf t = 1 := Nat.eq_of_beq_eq_true h
      obtain ⟨z, e, -, hw⟩ := DataW.trod_int ht hf
      subst e
      refine ⟨by rw [h1]; rfl, fun j hj => ?_⟩
      have : j = 0 := by simpa using hj
      subst this
      exact ⟨z, rfl, i64_of hw⟩
    · rename_i k e ht
      rw [Bool.and_eq_true, Bool.and_eq_true] at h
      obtain ⟨⟨h1, h2⟩, h3⟩ := h
      have h2' : P.cellsOf t = k * P.cellsOf e := Nat.eq_of_beq_eq_true h2
      have h3' : 1 ≤ P.cellsOf e := Nat.le_of_ble_eq_true h3
      obtain ⟨xs, m, -, -, hl, hxl, hel⟩ := DataW.trod_array ht hf
      refine ⟨hl, fun j hj => ?_⟩
      rw [h2'] at hl
      have hi : j / P.cellsOf e < k := by
        rw [Nat.div_lt_iff_lt_mul h3']; omega
      have h4 := hel (j / P.cellsOf e) hi
      rw [List.getElem?_eq_getElem (by omega)] at h4
      obtain ⟨hlen, hz⟩ := ih e _ _ _ h1 h4
      have hm := Nat.mod_lt j h3'
      obtain ⟨z, hz, hw⟩ := hz (j % P.cellsOf e) (by rw [hlen]; exact hm)
      refine ⟨z, ?_, hw⟩
      rw [List.getElem?_take, if_pos hm, List.getElem?_drop] at hz
      rw [← hz]
      congr 1
      have := Nat.div_add_mod j (P.cellsOf e)
      rw [Nat.mul_comm] at this
      omega
    · rename_i fs ht
      rw [Bool.and_eq_true, List.all_eq_true, List.all_eq_true] at h
      obtain ⟨h1, h2⟩ := h
      obtain ⟨xs, m, -, -, hl, hxl, hel⟩ := DataW.trod_struct ht hf
      refine ⟨hl, fun j hj => ?_⟩
      have h3 := h2 j (List.mem_range.2 (by omega))
      rw [List.any_eq_true] at h3
      obtain ⟨i, hi, h4⟩ := h3
      have hi' := List.mem_range.1 hi
      cases hfi : fs[i]? with
      | none => rw [hfi] at h4; cases h4
      | some f =>
        rw [hfi] at h4
        simp only [Bool.and_eq_true] at h4
        have h5 : f.offset ≤ j := Nat.le_of_ble_eq_true h4.1
        have h6 : j < f.offset + P.cellsOf f.type := by simpa [Nat.blt_eq] using h4.2
        have h7 := hel i f hfi
        rw [List.getElem?_eq_getElem (by omega)] at h7
        have hmem : f ∈ fs.toList := by
          rw [← Array.getElem?_toList] at hfi
          exact List.mem_of_getElem? hfi
        obtain ⟨hlen, hz⟩ := ih f.type _ _ _ (h1 f hmem) h7
        obtain ⟨z, hz, hw⟩ := hz (j - f.offset) (by rw [hlen]; omega)
        refine ⟨z, ?_, hw⟩
        rw [List.getElem?_take, if_pos (by omega), List.getElem?_drop, show f.offset + (j - f.offset) = j by omega] at hz
        exact hz
    · cases h
/-- A row of numbers. -/
theorem intRow {n : Nat} {t : TypeId} {cs : List Value} {fuel : Nat} {x : DataW H × List MemPlace} (h : intCellsB P n t = true) (hf : DataW.trod enc P W b sp hd fuel t cs = some x) : ∃ zs : List Int, cs = ints zs ∧ zs.length = P.cellsOf t ∧ ∀ z ∈ zs, i64W z := by
  obtain ⟨hl, hz⟩ := intCells n t cs fuel x h hf
  have hch : ∃ g : Nat → Int, ∀ j, j < cs.length → cs[j]? = some (zv (g j)) ∧ i64W (g j) := by
    refine ⟨fun j => if h : j < cs.length then Classical.choose (hz j h) else 0, fun j hj => ?_⟩
    simp only [dif_pos hj]
    exact Classical.choose_spec (hz j hj)
  obtain ⟨g, hg⟩ := hch
  refine ⟨(List.range cs.length).map g, ?_, by simpa using hl, fun z hz => ?_⟩
  · rw [ints_rowK]
    apply List.ext_getElem?
    intro j
    by_cases hj : j < cs.length
    · rw [(hg j hj).1, row_get _ hj]
    · rw [List.getElem?_eq_none (by omega), List.getElem?_eq_none (by rw [row_len]; omega)]
  · obtain ⟨j, hj, rfl⟩ := List.mem_map.1 hz
    exact (hg j (List.mem_range.1 hj)).2
/-- A slice of structs (or arrays) of numbers, read in place: one cell. -/
theorem sl_rows {t e n fuel sz : Nat} {x : DataW H × List MemPlace} (ht : P.underlying t = some (.slice e)) (he : intCellsB P n e = true) (hce : P.cellsOf e = sz) (hsz : 0 < sz) (hf : DataW.trod enc P W b sp hd fuel t [v] = some x) :
    ∃ rows : List (List Int), (∃ (a : Option Addr) (c : Nat), v = .slice a rows.length c ∧ rows.length ≤ c ∧ (rows = [] ∨ ∃ b off, a = some ⟨b, off, none⟩ ∧ b < W.heap.size ∧ ∀ i rw j u, (rows.map ints)[i]? = some rw → rw[j]? = some u → W.cell? ⟨b, off + i * sz + j, none⟩ = some u)) ∧ (∀ r ∈ rows, r.length = sz ∧ ∀ z ∈ r, i64W z) ∧ rows.length ≤ maxLen := by
  rcases DataW.trod_slice ht hf with ⟨h0, -⟩ | ⟨a', n', c, elems, rest, m, -, hcs, -, hb, hlc, hm, hlen, hel, -, -⟩
  · cases h0
    exact ⟨[], ⟨_, _, rfl, Nat.le_refl _, .inl rfl⟩, by simp, Nat.zero_le _⟩
  · cases hcs
    have key : ∀ q, q < n' → ∃ zs : List Int, zs.length = sz ∧ (∀ z ∈ zs, i64W z) ∧ ∀ j u, (ints zs)[j]? = some u → W.cell? ((a'.add (q * sz)).add j) = some u := fun q hq => by
      have h1 := hel q hq
      rw [hce, List.getElem?_eq_getElem (by omega)] at h1
      cases hcl : W.cells? b (a'.add (q * sz)) sz with
      | none => rw [hcl] at h1; cases h1
      | some cs =>
        rw [hcl] at h1
        simp only [Option.bind_some] at h1
        obtain ⟨-, h5, h6⟩ := World.cells?_some hcl
        obtain ⟨zs, rfl, hl, hz⟩ := intRow he h1
        refine ⟨zs, by rw [hl, hce], hz, fun j u hu => ?_⟩
        have hj : j < sz := by
          have := (List.getElem?_eq_some_iff.1 hu).1
          rw [ints_len, hl, hce] at this; exact this
        rw [h6 j hj]; exact hu
    by_cases hn0 : n' = 0
    · subst hn0
      exact ⟨[], ⟨_, _, rfl, Nat.zero_le _, .inl rfl⟩, by simp, Nat.zero_le _⟩
    · have hch : ∃ Z : Nat → List Int, ∀ q, q < n' → (Z q).length = sz ∧ (∀ z ∈ Z q, i64W z) ∧ ∀ j u, (ints (Z q))[j]? = some u → W.cell? ((a'.add (q * sz)).add j) = some u := by
        refine ⟨fun q => if h : q < n' then Classical.choose (key q h) else [], fun q hq => ?_⟩
        simp only [dif_pos hq]
        exact Classical.choose_spec (key q hq)
      obtain ⟨Z, hZ⟩ := hch
      have h0 := hZ 0 (by omega)
      have hz0 := h0.2.2 0 _ (ints_get (by rw [h0.1]; exact hsz))
      rw [Nat.zero_mul, show (a'.add 0).add 0 = a' by simp [Addr.add]] at hz0
      obtain ⟨ha, hblk⟩ := spot_none hz0
      have hadd : ∀ q j, (a'.add (q * sz)).add j = ⟨a'.block, a'.off + q * sz + j, none⟩ := fun q j => by rw [ha, add_lit, add_lit]
      refine ⟨(List.range n').map Z, ⟨some a', c, by simp, by simpa using hlc, .inr ⟨a'.block, a'.off, congrArg some ha, hblk, fun i rw' j u hi hu => ?_⟩⟩, fun r hr => ?_, by simpa using (by omega : n' ≤ maxLen)⟩
      · rw [List.getElem?_map, List.getElem?_map] at hi
        have hin : i < n' := by
          refine Classical.byContradiction fun hn => ?_
          rw [List.getElem?_eq_none (by rw [List.length_range]; omega)] at hi
          cases hi
        rw [List.getElem?_range hin] at hi
        simp only [Option.map_some, Option.some.injEq] at hi
        subst hi
        have := (hZ i hin).2.2 j u hu
        rwa [hadd] at this
      · obtain ⟨q, hq, rfl⟩ := List.mem_map.1 hr
        have := hZ q (List.mem_range.1 hq)
        exact ⟨this.1, this.2.1⟩
end
end Go.Sx
namespace Go.Sx
open Go Go.Proofs Go.ChangeShapes Go.WideShapes Go.ChangeAt Go.RowKit
section
variable {H : Type} {enc : TypeId × Value → H} {W : World} {r : Reach} {b0 b : Nat} {sp : Nat → Bool} {hd : Bool} {v : Value} {d : DataW H} {p : List MemPlace}
theorem open_intK {t : TypeId} {P : Program} (ht : P.underlying t = some (.int .i64)) (hv : Value.okWide P W r b0 t v) (h : DataW.Trod enc P W b sp hd t v d p) : ∃ x : Int, v = zv x ∧ i64W x := by
  obtain ⟨z, rfl⟩ := okWide_int ht hv
  obtain ⟨fuel, hf⟩ := h
  have hf' : DataW.trod enc P W b sp hd fuel t [.int .i64 z] = some (d, p) := hf
  obtain ⟨z', e, -, hw⟩ := DataW.trod_int ht hf'
  cases e
  exact ⟨z, rfl, i64_of hw⟩
set_option maxRecDepth 100000 in
theorem open_rowsK {t e sz : TypeId} (ht : Tryz.prog.underlying t = some (.slice e)) (hi : intCellsB Tryz.prog 3 e = true) (hc : Tryz.prog.cellsOf e = sz) (hsz : 0 < sz) (hv : Value.okWide Tryz.prog W r b0 t v) (h : DataW.Trod enc Tryz.prog W b sp hd t v d p) :
    ∃ rows : List (List Int), RdA sz W v rows ∧ (∀ r ∈ rows, r.length = sz ∧ ∀ z ∈ r, i64W z) ∧ rows.length ≤ maxLen := by
  obtain ⟨fuel, hf⟩ := h
  obtain ⟨a, n, c, rfl⟩ := okWide_slice ht hv
  have hcells : (Value.slice a n c).cells.toList = [Value.slice a n c] := rfl
  rw [hcells] at hf
  exact sl_rows ht hi hc hsz hf
end
end Go.Sx
/- Chapter 24: the laid variables. -/
namespace Go.Sx
open Go Go.Proofs Go.ChangeShapes Go.WideShapes Go.ChangeAt Go.RowKit
def kZ : List Int := kL.map fun x => ((x.toNat : Nat) : Int)
theorem kZ_data : (YtehehfcmanccjaaGreatDoor.Rows.laid_evergreen_digest_round : DataW Unit) = Lib.tabData .u32 kZ := by kernel_rfl
def laid1 : List (String × DataW Unit) := [("evergreen/digest.round", YtehehfcmanccjaaGreatDoor.Rows.laid_evergreen_digest_round)]
theorem laid1_plain {W : World} (h : laidMetH Tryz.prog laid1 W) : laidMet Tryz.prog laid1 W := by
  rwa [MakeChecks.laidMetH_plain _ _ _ (by kernel_rfl)] at h
theorem round_of_laid1 {W : World} (h : laidMetH Tryz.prog laid1 W) : RoundG W := by
  have h1 := laid1_plain h
  have h2 : laidMet Tryz.prog (("evergreen/digest.round", Lib.tabData .u32 kZ) :: []) W := by
    rw [← kZ_data]; exact h1
  have hT := Lib.tabIs_of_head (g := 0) (by kernel_rfl) (by kernel_rfl) Tryz.underlying222 Tryz.underlying114 (by kernel_rfl) (by kernel_rfl) h2
  intro i v hv
  have hlen : kZ.length = 64 := by kernel_rfl
  have hi : i < 64 := by
    have := (List.getElem?_eq_some_iff.1 hv).1
    unfold ws at this
    rw [List.length_map] at this
    exact this
  have hc := hT.cell (g := 0) (by kernel_rfl) i (by rw [hlen]; exact hi)
  rw [hc]
  unfold ws at hv
  rw [List.getElem?_map, List.getElem?_eq_getElem (by exact hi)] at hv
  rw [← hv]
  have hk : i < kL.length := hi
  have : kZ.getD i 0 = ((kL[i].toNat : Nat) : Int) := by unfold kZ; simp [hk]
  rw [this]; rfl
end Go.Sx
