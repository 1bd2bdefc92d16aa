/- Chapter 26: the law JournalDamaged: plain, and the walk. -/
import Derived.Test.YtlihcenahjgnmaaGreatDoorJM
import Derived.Test.YtlihcenahjgnmaaGreatDoorJB
namespace Go.Sx
open Go Go.Proofs Go.RowKit
theorem loadF_recs : ∀ (n : Nat) {s : List UInt8} {t t' : Tp}, s.length - t.size ≤ n → t.size ≤ s.length → loadF s t = some t' → ∃ l', t' = adds t l' ∧ (∀ r ∈ l', r.size ≤ 65536) ∧ 33 * l'.length ≤ s.length - t.size
  | n, s, t, t', hn, hs, h => by
    by_cases h1 : t.size < s.length ∧ s.getD t.size 0 ≠ 0
    · by_cases h2 : s.getD t.size 0 = 1
      · cases hd : decS s (t.size + 1) with
        | none => rw [loadF_none h1 hd] at h; cases h
        | some x =>
          obtain ⟨r, q⟩ := x
          by_cases h3 : q + 32 ≤ s.length ∧ outL t.head (mkBA r) = (s.drop t.size).take (q + 32 - t.size)
          · rw [loadF_step h1 h2 hd h3] at h
            have hol := outL_pos t.head (mkBA r)
            have hol2 := outL_len t.head (mkBA r)
            have hle := congrArg List.length h3.2
            rw [List.length_take, List.length_drop] at hle
            have hrs : (mkBA r).size = r.length := by show r.toArray.size = _; rw [List.size_toArray]
            have hdl := decS_le hd
            match n, hn with
            | 0, hn => omega
            | n + 1, hn =>
              obtain ⟨l', rfl, h4, h5⟩ := loadF_recs n (by show s.length - (t.size + (outL t.head (mkBA r)).length) ≤ n; omega) (by show t.size + (outL t.head (mkBA r)).length ≤ _; omega) h
              have h5' : 33 * l'.length ≤ s.length - (t.size + (outL t.head (mkBA r)).length) := h5
              refine ⟨mkBA r :: l', rfl, fun x hx => ?_, by rw [List.length_cons]; omega⟩
              rcases List.mem_cons.1 hx with rfl | hx
              · omega
              · exact h4 x hx
          · rw [loadF_no h1 hd h3] at h; cases h
      · rw [loadF_bad h1 h2] at h; cases h
    · rw [loadF_end h1] at h
      injection h with h
      exact ⟨[], h.symm, (fun _ h => by cases h), Nat.zero_le _⟩
theorem open_on {k : Dk} {t : Tp} (ho : k.off = false) (hl : k.left = 0) (hlen : k.vis.length = k.dur.length) (hF : loadF k.vis t00 = some t) (hts : t.size ≤ k.vis.length) : ∃ k', openF k = (0, k', some t) := by
  by_cases hz : isZero (k.vis.drop t.size) = true
  · exact ⟨k, openF_zero ho hF hz⟩
  · have hsz : (mkBA (List.replicate (k.vis.length - t.size) 0)).size = k.vis.length - t.size := by
      show (List.replicate (k.vis.length - t.size) (0 : UInt8)).toArray.size = _
      rw [List.size_toArray, List.length_replicate]
    have hw := put_vis (k := k) (off := t.size) (s := mkBA (List.replicate (k.vis.length - t.size) 0)) ho hl (by omega)
    refine ⟨_, openF_clr ho hF hz ?_⟩
    unfold clr
    rw [runOps_ok (show ((DOp.wr _ _).run k).1 = 0 by show (k.write _ _).1 = 0; rw [hw])]
    show (runOps _ (k.write _ _).2).1 = _
    rw [hw]
    rw [runOps_ok (show (DOp.sy.run _).1 = 0 from by show (Dk.sync _).1 = 0; rw [Dk.sync_on rfl])]
    rfl
theorem splice_set {l : List UInt8} {i : Nat} (c : UInt8) (h : i < l.length) : splice l i [c] = l.set i c := by
  unfold splice
  rw [List.set_eq_take_append_cons_drop, if_pos h]
  simp
/-- What is opened behind a byte that was changed. -/
def Dmg (l : List ByteArray) (c : UInt8) (k : Dk) : Prop :=
  openF k = (262, k, none) ∨ ∃ k' l', openF k = (0, k', some (adds t00 l')) ∧ (∀ r ∈ l', r.size ≤ 65536) ∧ l'.length ≤ 200 ∧ ((c = 0 ∧ l'.length < l.length ∧ l' = l.take l'.length) ∨ Coll zero32 l l')
theorem dmg_open {j : Jn} {l : List ByteArray} (h : Clean j 6000 l) (hs : ∀ r ∈ l, r.size ≤ 100) {q : Nat} {c : UInt8} (hq : q < j.t.size) (hne : j.k.vis.getD q 0 ≠ c) (hsz : sizedL l q = false) :
    (j.k.write q (mkBA [c])).1 = 0 ∧ (j.k.write q (mkBA [c])).2.Ok ∧ (j.k.write q (mkBA [c])).2.pend.length ≤ 9000 ∧ Dmg l c (j.k.write q (mkBA [c])).2 := by
  have hlen := h.len
  have hfit := h.fit
  have hts : j.t.size = (outsL zero32 l).length := by rw [h.t, adds0_size]
  have hvis := h.vis
  have hm1 : (mkBA [c]).size = 1 := rfl
  have hdl : j.k.dur.length = 6000 := by rw [h.dur, hlen]
  have hw := put_vis (k := j.k) (off := q) (s := mkBA [c]) h.off h.left (by omega)
  have hok := (DOp.wr q (mkBA [c])).run_ok h.ok (by rw [h.pend]; decide)
  refine ⟨by rw [hw], hok, by rw [hw, h.pend]; show 1 ≤ 9000; decide, ?_⟩
  rw [hw]
  have hv : splice j.k.vis q (mkBA [c]).data.toList = (outsL zero32 l ++ List.replicate (6000 - j.t.size) 0).set q c := by
    rw [mkBA_toList, splice_set c (by omega), hvis]
  rw [hv]
  obtain ⟨V, hV⟩ : ∃ V, V = (outsL zero32 l ++ List.replicate (6000 - j.t.size) (0 : UInt8)).set q c := ⟨_, rfl⟩
  have hVl : V.length = 6000 := by rw [hV, List.length_set, ← hvis, hlen]
  have hd := dmg l t00 (s := V) (Z := List.replicate (6000 - j.t.size) 0) (rel := q) (c := c) (fun r hr => Nat.le_trans (hs r hr) (by decide)) hV (by show q < (outsL zero32 l).length; omega) (by rw [hvis, getD_app_l (by omega)] at hne; exact hne) hsz
  rw [← hV]
  rcases hd with hd | ⟨l', h1, h2⟩
  · exact .inl (openF_bad rfl hd)
  · obtain ⟨l2, e2, h3, h4⟩ := loadF_recs _ (Nat.le_refl _) (Nat.zero_le _) h1
    have hl2 : l2 = l' := by
      have := congrArg Tp.recs e2
      rw [adds0_recs, adds0_recs] at this
      exact this.symm
    subst hl2
    obtain ⟨k', hk'⟩ := open_on (k := ⟨false, 0, j.k.dur, V, j.k.pend ++ [(q, mkBA [c])]⟩) rfl rfl (by show V.length = j.k.dur.length; rw [hVl, hdl]) h1 (loadF_le _ (Nat.le_refl _) (Nat.zero_le _) h1)
    refine .inr ⟨k', l2, hk', h3, ?_, h2⟩
    have h4' : 33 * l2.length ≤ V.length - t00.size := h4
    rw [hVl] at h4'
    have : t00.size = 0 := rfl
    omega
theorem Rd.spre {w : World} {a : Option Addr} {c k : Nat} {l : List ByteArray} (h : Rd w (.slice a l.length c) (strs l)) (hk : k ≤ l.length) : Rd w (.slice a k c) (strs (l.take k)) := by
  obtain ⟨a', c', h1, h2, h3⟩ := h
  have hlen : (strs l).length = l.length := by simp [strs]
  have hlt : (strs (l.take k)).length = k := by simp [strs]; omega
  rw [hlen] at h1 h2
  cases h1
  refine ⟨_, _, by rw [hlt], by rw [hlt]; omega, ?_⟩
  rcases h3 with h3 | ⟨b, off, h4, h5, h6⟩
  · left
    have : l = [] := by simpa [strs] using h3
    subst this; simp [strs]
  · refine .inr ⟨b, off, h4, h5, fun i u hu => h6 i u ?_⟩
    have hi : i < k := by
      have := (List.getElem?_eq_some_iff.1 hu).1
      rwa [hlt] at this
    unfold strs at hu ⊢
    rw [List.map_take, List.getElem?_take_of_lt hi] at hu
    exact hu
theorem headsL_size : ∀ (l : List ByteArray) (h : ByteArray), h.size ≤ 32 → (∀ r ∈ l, r.size ≤ 65536) → ∀ x ∈ headsL h l, x.size ≤ 65600
  | [], _, _, _, _, hx => by cases hx
  | r :: l, h, hh, hl, x, hx => by
    have hx' : x ∈ (mkB 2 ++ h ++ r) :: headsL (chainS h r) l := hx
    rcases List.mem_cons.1 hx' with rfl | hx'
    · rw [ba_append_size, mkB2_size]
      have := hl r (List.mem_cons_self ..)
      omega
    · exact headsL_size l _ (by rw [chainS_size]; exact Nat.le_refl _) (fun r h => hl r (List.mem_cons_of_mem _ h)) x hx'
theorem needL_zero {l : List ByteArray} (h : needL l = 0) : l = [] := by
  cases l with
  | nil => rfl
  | cons r l =>
    have : needL (r :: l) = (33 + (strN r.size).size + r.size) + needL l := rfl
    omega
attribute [local irreducible] WC WL WX POp Then Again Fn NX W1 WA WO QL RP RA Yld LoopAt HC HL HX HN H1 HA HO HQ HB HP A.blk A.grow A.rd A.obj A.mp AgainH CutH
attribute [local irreducible] newK needL few26 size26 sumS
set_option maxHeartbeats 4000000 in
theorem journalDamaged_fn {w : World} {ea : Addr} (hG : RoundG w) (hE : ErrG ea w) (v : Value) (GG : List (List ByteArray)) (hV : Nat → Value) (at' : Int) (c0 : UInt8) (hn1 : -9223372036854775808 ≤ at') (hn2 : at' ≤ 9223372036854775807)
    (hR : RdGS w v GG hV) (hs : ∀ i (hi : i < GG.length), (∀ s ∈ GG[i], s.size ≤ 9223372036854775807) ∧ GG[i].length ≤ 9223372036854775807) (hl : GG.length ≤ 9223372036854775807) :
    Fn Tryz.prog 4 #[v, zv at', b8 c0] w fun v w' => v = .bool true ∧ Ext w w' := by
  have h0 := clean0 (n := 6000) (by decide) (by decide)
  have hrl : ((List.range GG.length).map hV).length = GG.length := by simp
  obtain ⟨a0, cg, rfl, hc0⟩ : ∃ a0 c0, v = .slice a0 GG.length c0 ∧ GG.length ≤ c0 := by
    obtain ⟨a, c, h1, h2, -⟩ := hR.1
    rw [hrl] at h1 h2
    exact ⟨a, c, h1, h2⟩
  refine enterH (l := [_, _, _]) rfl Tryz.ntmps4 rfl ?_
  repeat' (first | refine HL.pa ?_ (POp.pnil1 rfl rfl) | refine HL.pa ?_ (POp.pnil0 rfl rfl) | refine HL.pa ?_ (POp.nilCheck rfl) | apply HL.fold | apply HA.fold | apply HL.nil | apply HX.n_then | apply HC.seq | apply HC.region | refine HL.pa ?_ | refine HL.ga rfl ?_ | refine HL.na rfl ?_ | refine HL.nu rfl rfl ?_ | apply HC.block | apply HC.skip | apply HC.exit | apply HC.ret | apply HX.e_block | refine HX.e_other rfl ?_ | apply HX.e_then | apply HX.e_again | apply HX.n_block | apply HX.r_then | apply HX.r_block | apply HX.r_again | refine HC.cond_yes rfl ?_ | refine HC.cond_no rfl ?_ | refine HL.one (H1.ldb rfl memA rfl rfl ?_) | refine HC.cond rfl (fun hc => ?_) (fun hc => ?_) | refine HC.cond_b rfl (fun hc => ?_) (fun hc => ?_))
  refine HL.one (H1.callx (vs := []) rfl rfl (fun w' hM => sane26_fn (hG.ext hM.ext) (hE.ext hM.ext)) ?_)
  repeat' (first | refine HL.pa ?_ (POp.pnil1 rfl rfl) | refine HL.pa ?_ (POp.pnil0 rfl rfl) | refine HL.pa ?_ (POp.nilCheck rfl) | apply HL.fold | apply HA.fold | apply HL.nil | apply HX.n_then | apply HC.seq | apply HC.region | refine HL.pa ?_ | refine HL.ga rfl ?_ | refine HL.na rfl ?_ | refine HL.nu rfl rfl ?_ | apply HC.block | apply HC.skip | apply HC.exit | apply HC.ret | apply HX.e_block | refine HX.e_other rfl ?_ | apply HX.e_then | apply HX.e_again | apply HX.n_block | apply HX.r_then | apply HX.r_block | apply HX.r_again | refine HC.cond_yes rfl ?_ | refine HC.cond_no rfl ?_ | refine HL.one (H1.ldb rfl memA rfl rfl ?_) | refine HC.cond rfl (fun hc => ?_) (fun hc => ?_) | refine HC.cond_b rfl (fun hc => ?_) (fun hc => ?_))
  refine HL.one (H1.callz (vs := [zv ((6000 : Nat) : Int)]) rfl rfl (fun w' hM => new_fn 6000 (by decide) (by decide) w') ?_)
  rintro ⟨bd, b1, b2⟩ -
  dsimp only
  repeat' (first | refine HL.pa ?_ (POp.pnil1 rfl rfl) | refine HL.pa ?_ (POp.pnil0 rfl rfl) | refine HL.pa ?_ (POp.nilCheck rfl) | apply HL.fold | apply HA.fold | apply HL.nil | apply HX.n_then | apply HC.seq | apply HC.region | refine HL.pa ?_ | refine HL.ga rfl ?_ | refine HL.na rfl ?_ | refine HL.nu rfl rfl ?_ | apply HC.block | apply HC.skip | apply HC.exit | apply HC.ret | apply HX.e_block | refine HX.e_other rfl ?_ | apply HX.e_then | apply HX.e_again | apply HX.n_block | apply HX.r_then | apply HX.r_block | apply HX.r_again | refine HC.cond_yes rfl ?_ | refine HC.cond_no rfl ?_ | refine HL.one (H1.ldb rfl memA rfl rfl ?_) | refine HC.cond rfl (fun hc => ?_) (fun hc => ?_) | refine HC.cond_b rfl (fun hc => ?_) (fun hc => ?_))
  refine HL.one (H1.callk (α := Nat × (Option Addr × Nat) × (Option Addr × Nat)) (V := fun z => .tuple #[.pointer (some ⟨z.1, 0, none⟩), zv 0]) (I := fun _ => True) (H' := fun z => jnlH z.1 bd b1 b2 z.2.1.1 z.2.1.2 z.2.2.1 z.2.2.2 ⟨t00, newK 6000, false⟩ []) (vs := [_]) rfl rfl
    (fun w' hM => jopen_ok (h0.opens (fun _ h => by cases h)) hG hE hM h0.ok (by rw [h0.pend]; exact Nat.zero_le _)) ?_)
  rintro ⟨bj, ⟨a, c⟩, ⟨pa, pc⟩⟩ -
  dsimp only
  repeat' (first | refine HL.pa ?_ (POp.pnil1 rfl rfl) | refine HL.pa ?_ (POp.pnil0 rfl rfl) | refine HL.pa ?_ (POp.nilCheck rfl) | apply HL.fold | apply HA.fold | apply HL.nil | apply HX.n_then | apply HC.seq | apply HC.region | refine HL.pa ?_ | refine HL.ga rfl ?_ | refine HL.na rfl ?_ | refine HL.nu rfl rfl ?_ | apply HC.skip | apply HC.exit | apply HC.ret | apply HX.e_block | refine HX.e_other rfl ?_ | apply HX.e_then | apply HX.e_again | apply HX.n_block | apply HX.r_then | apply HX.r_block | apply HX.r_again | refine HC.cond_yes rfl ?_ | refine HC.cond_no rfl ?_ | refine HL.one (H1.ldb rfl memA rfl rfl ?_) | refine HC.cond rfl (fun hc => ?_) (fun hc => ?_) | refine HC.cond_b rfl (fun hc => ?_) (fun hc => ?_))
  repeat refine HC.seq ?_
  refine HC.cut (α := (Jn × List ByteArray) × (Option Addr × Nat) × (Option Addr × Nat)) (fun _ => [(1, zv at'), (2, b8 c0), (7, .bool true), (8, .pointer (some ⟨bd, 0, none⟩)), (10, .pointer (some ⟨bj, 0, none⟩))])
    (fun z => jnlH bj bd b1 b2 z.2.1.1 z.2.1.2 z.2.2.1 z.2.2.2 z.1.1 []) (fun z => Clean z.1.1 6000 z.1.2 ∧ z.1.2.length ≤ 36 ∧ ∀ r ∈ z.1.2, r.size ≤ 100) ?_ ?_
  rotate_left
  · rintro ⟨⟨j, l⟩, ⟨a, c⟩, ⟨pa, pc⟩⟩ ⟨hc, hll, hrs⟩
    dsimp only at hc hll hrs ⊢
    have hjok := hc.jok (by omega)
    have hrec := hc.recs
    have hsz := hc.size
    have hlenv := hc.len
    have hfit := hc.fit
    have hoff := hc.off
    have hok := hc.ok
    have hdl : j.k.dur.length = 6000 := by rw [hc.dur, hlenv]
    have hms : (mkBA j.k.vis).size = 6000 := by show j.k.vis.toArray.size = 6000; rw [List.size_toArray, hlenv]
    have hmsi : ((mkBA j.k.vis).size : Int) = 6000 := by omega
    repeat' (first | refine HL.pa ?_ (POp.pnil1 rfl rfl) | refine HL.pa ?_ (POp.pnil0 rfl rfl) | refine HL.pa ?_ (POp.nilCheck rfl) | apply HL.fold | apply HA.fold | apply HL.nil | apply HX.n_then | apply HC.seq | apply HC.region | refine HL.pa ?_ | refine HL.ga rfl ?_ | refine HL.na rfl ?_ | refine HL.nu rfl rfl ?_ | apply HC.block | apply HC.skip | apply HC.exit | apply HC.ret | apply HX.e_block | refine HX.e_other rfl ?_ | apply HX.e_then | apply HX.e_again | apply HX.n_block | apply HX.r_then | apply HX.r_block | apply HX.r_again | refine HC.cond_yes rfl ?_ | refine HC.cond_no rfl ?_ | refine HL.one (H1.ldb rfl memA rfl rfl ?_) | refine HC.cond rfl (fun hc => ?_) (fun hc => ?_) | refine HC.cond_b rfl (fun hc => ?_) (fun hc => ?_))
    refine HL.one (H1.callz (α := Option Addr × Nat) (V := fun z => .slice z.1 l.length z.2) (Hn := fun z => [A.grow 9 1 z.1 z.2 l.length (strs l)]) (I := fun _ => True) (vs := [_]) rfl rfl (fun w' hM => by
      have := records2_fn (bj := bj) (bd := bd) (a := a) (c := c) (t := j.t) (br := j.br) (hM.blk memA) (Mm.gr (e := 9) (a := a) (c := c) hM memA) (by rw [hrec]; omega)
      rw [hrec] at this
      exact this) ?_)
    rintro ⟨aw, cw⟩ -
    dsimp only
    repeat' (first | refine HL.pa ?_ (POp.pnil1 rfl rfl) | refine HL.pa ?_ (POp.pnil0 rfl rfl) | refine HL.pa ?_ (POp.nilCheck rfl) | apply HL.fold | apply HA.fold | apply HL.nil | apply HX.n_then | apply HC.seq | apply HC.region | refine HL.pa ?_ | refine HL.ga rfl ?_ | refine HL.na rfl ?_ | refine HL.nu rfl rfl ?_ | apply HC.block | apply HC.skip | apply HC.exit | apply HC.ret | apply HX.e_block | refine HX.e_other rfl ?_ | apply HX.e_then | apply HX.e_again | apply HX.n_block | apply HX.r_then | apply HX.r_block | apply HX.r_again | refine HC.cond_yes rfl ?_ | refine HC.cond_no rfl ?_ | refine HL.one (H1.ldb rfl memA rfl rfl ?_) | refine HC.cond rfl (fun hc => ?_) (fun hc => ?_) | refine HC.cond_b rfl (fun hc => ?_) (fun hc => ?_))
    refine HL.mem (jnlH bj bd b1 b2 a c pa pc j [A.grow 9 1 aw cw l.length (strs l)]) (Hs.cons (Pick.there Pick.here) (Hs.cons (Pick.there Pick.here) (Hs.cons (Pick.there Pick.here) (Hs.cons (Pick.there Pick.here) (Hs.cons (Pick.there Pick.here) (Hs.cons (Pick.there Pick.here) (Hs.refl _))))))) ?_
    refine HL.one (H1.callx (u := zv ((6000 : Int) - (j.t.size : Int))) (vs := [_]) rfl rfl (fun w' hM => by
      have := room2_fn (bj := bj) (bd := bd) (b1 := b1) (b2 := b2) (a := a) (c := c) (pa := pa) (pc := pc) (t := j.t) (k := j.k) (br := j.br) (hM.blk memA) (hM.blk memA) hok (by omega)
      rw [hdl] at this
      exact this) ?_)
    have e6 : (6000 : Int) - ((6000 : Int) - (j.t.size : Int)) = (j.t.size : Int) := by omega
    repeat' (first | refine HL.pa ?_ (POp.pnil1 rfl rfl) | refine HL.pa ?_ (POp.pnil0 rfl rfl) | refine HL.pa ?_ (POp.nilCheck rfl) | apply HL.fold | apply HA.fold | apply HL.nil | apply HX.n_then | apply HC.seq | apply HC.region | refine HL.pa ?_ | refine HL.ga rfl ?_ | refine HL.na rfl ?_ | refine HL.nu rfl rfl ?_ | apply HC.block | apply HC.skip | apply HC.exit | apply HC.ret | apply HX.e_block | refine HX.e_other rfl ?_ | apply HX.e_then | apply HX.e_again | apply HX.n_block | apply HX.r_then | apply HX.r_block | apply HX.r_again | refine HC.cond_yes rfl ?_ | refine HC.cond_no rfl ?_ | refine HL.one (H1.ldb rfl memA rfl rfl ?_) | refine HC.cond rfl (fun hc => ?_) (fun hc => ?_) | refine HC.cond_b rfl (fun hc => ?_) (fun hc => ?_))
    rw [e6]
    by_cases hz0 : j.t.size = 0
    · have hl0 : l = [] := needL_zero (by omega)
      have hll0 : l.length = 0 := by rw [hl0]; rfl
      repeat' (first | refine HL.pa ?_ (POp.pnil1 rfl rfl) | refine HL.pa ?_ (POp.pnil0 rfl rfl) | refine HL.pa ?_ (POp.nilCheck rfl) | apply HL.fold | apply HA.fold | apply HL.nil | apply HX.n_then | apply HC.seq | apply HC.region | refine HL.pa ?_ | refine HL.ga rfl ?_ | refine HL.na rfl ?_ | refine HL.nu rfl rfl ?_ | apply HC.block | apply HC.skip | apply HC.exit | apply HC.ret | apply HX.e_block | refine HX.e_other rfl ?_ | apply HX.e_then | apply HX.e_again | apply HX.n_block | apply HX.r_then | apply HX.r_block | apply HX.r_again | refine HC.cond_yes rfl ?_ | refine HC.cond_no rfl ?_ | refine HL.one (H1.ldb rfl memA rfl rfl ?_) | refine HC.cond rfl (fun hc => ?_) (fun hc => ?_) | refine HC.cond_b rfl (fun hc => ?_) (fun hc => ?_))
      exact HX.ret1 rfl rfl fun w' hM => ⟨by rw [hll0]; rfl, hM.ext⟩
    obtain ⟨q, hq⟩ : ∃ q : Nat, pk at' (j.t.size : Int) = (q : Int) := ⟨(pk at' (j.t.size : Int)).toNat, by have := pk_lt at' (n := (j.t.size : Int)) (by omega); omega⟩
    have hqlt : q < j.t.size := by have := pk_lt at' (n := (j.t.size : Int)) (by omega); omega
    repeat' (first | refine HL.pa ?_ (POp.pnil1 rfl rfl) | refine HL.pa ?_ (POp.pnil0 rfl rfl) | refine HL.pa ?_ (POp.nilCheck rfl) | apply HL.fold | apply HA.fold | apply HL.nil | apply HX.n_then | apply HC.seq | apply HC.region | refine HL.pa ?_ | refine HL.ga rfl ?_ | refine HL.na rfl ?_ | refine HL.nu rfl rfl ?_ | apply HC.block | apply HC.skip | apply HC.exit | apply HC.ret | apply HX.e_block | refine HX.e_other rfl ?_ | apply HX.e_then | apply HX.e_again | apply HX.n_block | apply HX.r_then | apply HX.r_block | apply HX.r_again | refine HC.cond_yes rfl ?_ | refine HC.cond_no rfl ?_ | refine HL.one (H1.ldb rfl memA rfl rfl ?_) | refine HC.cond rfl (fun hc => ?_) (fun hc => ?_) | refine HC.cond_b rfl (fun hc => ?_) (fun hc => ?_))
    refine HL.one (H1.call0 (vs := [_, _]) rfl rfl (fun w' hM => pick26_fn at' (j.t.size : Int) hn1 hn2 (by omega) w') ?_)
    rw [hq]
    repeat' (first | refine HL.pa ?_ (POp.pnil1 rfl rfl) | refine HL.pa ?_ (POp.pnil0 rfl rfl) | refine HL.pa ?_ (POp.nilCheck rfl) | apply HL.fold | apply HA.fold | apply HL.nil | apply HX.n_then | apply HC.seq | apply HC.region | refine HL.pa ?_ | refine HL.ga rfl ?_ | refine HL.na rfl ?_ | refine HL.nu rfl rfl ?_ | apply HC.block | apply HC.skip | apply HC.exit | apply HC.ret | apply HX.e_block | refine HX.e_other rfl ?_ | apply HX.e_then | apply HX.e_again | apply HX.n_block | apply HX.r_then | apply HX.r_block | apply HX.r_again | refine HC.cond_yes rfl ?_ | refine HC.cond_no rfl ?_ | refine HL.one (H1.ldb rfl memA rfl rfl ?_) | refine HC.cond rfl (fun hc => ?_) (fun hc => ?_) | refine HC.cond_b rfl (fun hc => ?_) (fun hc => ?_))
    refine HL.one (H1.callx (u := .bool (sizedL l q)) (vs := [_, _]) rfl rfl (fun w' hM => by
      have := sized26_fn (.slice aw l.length cw) l (q : Int) (by omega) (by omega) (fun s h => Nat.le_trans (hrs s h) (by decide)) (by omega) w' (Mm.gr (e := 9) (a := aw) (c := cw) hM memA)
      rw [sizedZ_eq] at this
      exact this) ?_)
    cases hsd : sizedL l q
    rotate_left
    · repeat' (first | refine HL.pa ?_ (POp.pnil1 rfl rfl) | refine HL.pa ?_ (POp.pnil0 rfl rfl) | refine HL.pa ?_ (POp.nilCheck rfl) | apply HL.fold | apply HA.fold | apply HL.nil | apply HX.n_then | apply HC.seq | apply HC.region | refine HL.pa ?_ | refine HL.ga rfl ?_ | refine HL.na rfl ?_ | refine HL.nu rfl rfl ?_ | apply HC.block | apply HC.skip | apply HC.exit | apply HC.ret | apply HX.e_block | refine HX.e_other rfl ?_ | apply HX.e_then | apply HX.e_again | apply HX.n_block | apply HX.r_then | apply HX.r_block | apply HX.r_again | refine HC.cond_yes rfl ?_ | refine HC.cond_no rfl ?_ | refine HL.one (H1.ldb rfl memA rfl rfl ?_) | refine HC.cond rfl (fun hc => ?_) (fun hc => ?_) | refine HC.cond_b rfl (fun hc => ?_) (fun hc => ?_))
      exact HX.ret1 rfl rfl fun w' hM => ⟨rfl, hM.ext⟩
    repeat' (first | refine HL.pa ?_ (POp.pnil1 rfl rfl) | refine HL.pa ?_ (POp.pnil0 rfl rfl) | refine HL.pa ?_ (POp.nilCheck rfl) | apply HL.fold | apply HA.fold | apply HL.nil | apply HX.n_then | apply HC.seq | apply HC.region | refine HL.pa ?_ | refine HL.ga rfl ?_ | refine HL.na rfl ?_ | refine HL.nu rfl rfl ?_ | apply HC.block | apply HC.skip | apply HC.exit | apply HC.ret | apply HX.e_block | refine HX.e_other rfl ?_ | apply HX.e_then | apply HX.e_again | apply HX.n_block | apply HX.r_then | apply HX.r_block | apply HX.r_again | refine HC.cond_yes rfl ?_ | refine HC.cond_no rfl ?_ | refine HL.one (H1.ldb rfl memA rfl rfl ?_) | refine HC.cond rfl (fun hc => ?_) (fun hc => ?_) | refine HC.cond_b rfl (fun hc => ?_) (fun hc => ?_))
    refine HL.one (H1.callx (u := .string (mkBA j.k.vis)) (vs := [_]) rfl rfl (fun w' hM => by
      have := content26_fn (hM.blk (b := bd) memA) (hM.blk (b := b2) memA) hok
      rw [hoff] at this
      exact this) ?_)
    have hqs : q < (mkBA j.k.vis).size := by omega
    by_cases heq : j.k.vis.getD q 0 = c0
    · have hcq : ((sb (mkBA j.k.vis) q : Nat) : Int) = (c0.toNat : Int) := by show (((j.k.vis.getD q 0).toNat : Nat) : Int) = _; rw [heq]
      repeat' (first | refine HL.pa ?_ (POp.pnil1 rfl rfl) | refine HL.pa ?_ (POp.pnil0 rfl rfl) | refine HL.pa ?_ (POp.nilCheck rfl) | apply HL.fold | apply HA.fold | apply HL.nil | apply HX.n_then | apply HC.seq | apply HC.region | refine HL.pa ?_ | refine HL.ga rfl ?_ | refine HL.na rfl ?_ | refine HL.nu rfl rfl ?_ | apply HC.block | apply HC.skip | apply HC.exit | apply HC.ret | apply HX.e_block | refine HX.e_other rfl ?_ | apply HX.e_then | apply HX.e_again | apply HX.n_block | apply HX.r_then | apply HX.r_block | apply HX.r_again | refine HC.cond_yes rfl ?_ | refine HC.cond_no rfl ?_ | refine HL.one (H1.ldb rfl memA rfl rfl ?_) | refine HC.cond rfl (fun hc => ?_) (fun hc => ?_) | refine HC.cond_b rfl (fun hc => ?_) (fun hc => ?_))
      exact HX.ret1 rfl rfl fun w' hM => ⟨by rw [hms]; rfl, hM.ext⟩
    have hcq : ¬ ((sb (mkBA j.k.vis) q : Nat) : Int) = (c0.toNat : Int) := fun h => heq (UInt8.toNat_inj.1 (by have h2 : (((j.k.vis.getD q 0).toNat : Nat) : Int) = (c0.toNat : Int) := h; omega))
    obtain ⟨hw1, hw2, hw3, hdm⟩ := dmg_open hc hrs hqlt heq hsd
    repeat' (first | refine HL.pa ?_ (POp.pnil1 rfl rfl) | refine HL.pa ?_ (POp.pnil0 rfl rfl) | refine HL.pa ?_ (POp.nilCheck rfl) | apply HL.fold | apply HA.fold | apply HL.nil | apply HX.n_then | apply HC.seq | apply HC.region | refine HL.pa ?_ | refine HL.ga rfl ?_ | refine HL.na rfl ?_ | refine HL.nu rfl rfl ?_ | apply HC.block | apply HC.skip | apply HC.exit | apply HC.ret | apply HX.e_block | refine HX.e_other rfl ?_ | apply HX.e_then | apply HX.e_again | apply HX.n_block | apply HX.r_then | apply HX.r_block | apply HX.r_again | refine HC.cond_yes rfl ?_ | refine HC.cond_no rfl ?_ | refine HL.one (H1.ldb rfl memA rfl rfl ?_) | refine HC.cond rfl (fun hc => ?_) (fun hc => ?_) | refine HC.cond_b rfl (fun hc => ?_) (fun hc => ?_))
    refine HL.one (H1.lit (cs := ub [c0]) rfl rfl rfl rfl rfl rfl (fun b9 => ?_))
    repeat' (first | refine HL.pa ?_ (POp.pnil1 rfl rfl) | refine HL.pa ?_ (POp.pnil0 rfl rfl) | refine HL.pa ?_ (POp.nilCheck rfl) | apply HL.fold | apply HA.fold | apply HL.nil | apply HX.n_then | apply HC.seq | apply HC.region | refine HL.pa ?_ | refine HL.ga rfl ?_ | refine HL.na rfl ?_ | refine HL.nu rfl rfl ?_ | apply HC.block | apply HC.skip | apply HC.exit | apply HC.ret | apply HX.e_block | refine HX.e_other rfl ?_ | apply HX.e_then | apply HX.e_again | apply HX.n_block | apply HX.r_then | apply HX.r_block | apply HX.r_again | refine HC.cond_yes rfl ?_ | refine HC.cond_no rfl ?_ | refine HL.one (H1.ldb rfl memA rfl rfl ?_) | refine HC.cond rfl (fun hc => ?_) (fun hc => ?_) | refine HC.cond_b rfl (fun hc => ?_) (fun hc => ?_))
    refine HL.one (H1.bstrB (ys := [c0]) rfl memA rfl ?_)
    repeat' (first | refine HL.pa ?_ (POp.pnil1 rfl rfl) | refine HL.pa ?_ (POp.pnil0 rfl rfl) | refine HL.pa ?_ (POp.nilCheck rfl) | apply HL.fold | apply HA.fold | apply HL.nil | apply HX.n_then | apply HC.seq | apply HC.region | refine HL.pa ?_ | refine HL.ga rfl ?_ | refine HL.na rfl ?_ | refine HL.nu rfl rfl ?_ | apply HC.block | apply HC.skip | apply HC.exit | apply HC.ret | apply HX.e_block | refine HX.e_other rfl ?_ | apply HX.e_then | apply HX.e_again | apply HX.n_block | apply HX.r_then | apply HX.r_block | apply HX.r_again | refine HC.cond_yes rfl ?_ | refine HC.cond_no rfl ?_ | refine HL.one (H1.ldb rfl memA rfl rfl ?_) | refine HC.cond rfl (fun hc => ?_) (fun hc => ?_) | refine HC.cond_b rfl (fun hc => ?_) (fun hc => ?_))
    refine HL.mem (jnlH bj bd b1 b2 a c pa pc j [A.grow 9 1 aw cw l.length (strs l)]) (Hs.refl _).skip ?_
    have hm1 : (mkBA [c0]).size = 1 := rfl
    refine HL.one (H1.callk (α := Option Addr × Nat) (V := fun _ => zv 0) (I := fun _ => True) (H' := fun z => dkH bd b1 b2 z.1 z.2 (j.k.write q (mkBA [c0])).2 [A.grow 9 1 aw cw l.length (strs l)]) (vs := [_, zv (q : Int), .string (mkBA [c0])]) rfl rfl
      (fun w' hM => by
        have h := write_fn (k := j.k) q (mkBA [c0]) (hM.sub (Hs.cons (Pick.there (Pick.there Pick.here)) (Hs.cons (Pick.there (Pick.there Pick.here)) (Hs.cons (Pick.there (Pick.there Pick.here)) (Hs.cons (Pick.there (Pick.there Pick.here)) (Hs.refl _)))))) hok (by omega) (by omega)
        rw [hw1] at h
        exact h.mono fun v w2 h => by
          obtain ⟨z, h1, h2, h3⟩ := h
          exact ⟨z, h1, h2, h3.sub (Hs.cons Pick.here (Hs.cons Pick.here (Hs.cons Pick.here (Hs.cons Pick.here (Hs.refl _).skip.skip))))⟩) ?_)
    rintro ⟨pa2, pc2⟩ -
    dsimp only
    generalize (j.k.write q (mkBA [c0])).2 = k2 at hw2 hw3 hdm
    repeat' (first | refine HL.pa ?_ (POp.pnil1 rfl rfl) | refine HL.pa ?_ (POp.pnil0 rfl rfl) | refine HL.pa ?_ (POp.nilCheck rfl) | apply HL.fold | apply HA.fold | apply HL.nil | apply HX.n_then | apply HC.seq | apply HC.region | refine HL.pa ?_ | refine HL.ga rfl ?_ | refine HL.na rfl ?_ | refine HL.nu rfl rfl ?_ | apply HC.block | apply HC.skip | apply HC.exit | apply HC.ret | apply HX.e_block | refine HX.e_other rfl ?_ | apply HX.e_then | apply HX.e_again | apply HX.n_block | apply HX.r_then | apply HX.r_block | apply HX.r_again | refine HC.cond_yes rfl ?_ | refine HC.cond_no rfl ?_ | refine HL.one (H1.ldb rfl memA rfl rfl ?_) | refine HC.cond rfl (fun hc => ?_) (fun hc => ?_) | refine HC.cond_b rfl (fun hc => ?_) (fun hc => ?_))
    rcases hdm with hbad | ⟨k3, l', hop, hls, hln, hcase⟩
    · refine HL.one (H1.callk (α := Option Addr × Nat) (V := fun _ => .tuple #[.pointer none, zv 262]) (I := fun _ => True) (H' := fun z => dkH bd b1 b2 z.1 z.2 k2 [A.grow 9 1 aw cw l.length (strs l)]) (vs := [_]) rfl rfl
        (fun w' hM => jopen_no hbad hG hE hM hw2 hw3) ?_)
      rintro ⟨pa3, pc3⟩ -
      dsimp only
      repeat' (first | refine HL.pa ?_ (POp.pnil1 rfl rfl) | refine HL.pa ?_ (POp.pnil0 rfl rfl) | refine HL.pa ?_ (POp.nilCheck rfl) | apply HL.fold | apply HA.fold | apply HL.nil | apply HX.n_then | apply HC.seq | apply HC.region | refine HL.pa ?_ | refine HL.ga rfl ?_ | refine HL.na rfl ?_ | refine HL.nu rfl rfl ?_ | apply HC.block | apply HC.skip | apply HC.exit | apply HC.ret | apply HX.e_block | refine HX.e_other rfl ?_ | apply HX.e_then | apply HX.e_again | apply HX.n_block | apply HX.r_then | apply HX.r_block | apply HX.r_again | refine HC.cond_yes rfl ?_ | refine HC.cond_no rfl ?_ | refine HL.one (H1.ldb rfl memA rfl rfl ?_) | refine HC.cond rfl (fun hc => ?_) (fun hc => ?_) | refine HC.cond_b rfl (fun hc => ?_) (fun hc => ?_))
      exact HX.ret1 rfl rfl fun w' hM => ⟨rfl, hM.ext⟩
    refine HL.one (H1.callk (α := Nat × (Option Addr × Nat) × (Option Addr × Nat)) (V := fun z => .tuple #[.pointer (some ⟨z.1, 0, none⟩), zv 0]) (I := fun _ => True) (H' := fun z => jnlH z.1 bd b1 b2 z.2.1.1 z.2.1.2 z.2.2.1 z.2.2.2 ⟨adds t00 l', k3, false⟩ [A.grow 9 1 aw cw l.length (strs l)]) (vs := [_]) rfl rfl
      (fun w' hM => jopen_ok hop hG hE hM hw2 hw3) ?_)
    rintro ⟨bk, ⟨a3, c3⟩, ⟨pa3, pc3⟩⟩ -
    dsimp only
    have hrec2 := adds0_recs l'
    repeat' (first | refine HL.pa ?_ (POp.pnil1 rfl rfl) | refine HL.pa ?_ (POp.pnil0 rfl rfl) | refine HL.pa ?_ (POp.nilCheck rfl) | apply HL.fold | apply HA.fold | apply HL.nil | apply HX.n_then | apply HC.seq | apply HC.region | refine HL.pa ?_ | refine HL.ga rfl ?_ | refine HL.na rfl ?_ | refine HL.nu rfl rfl ?_ | apply HC.block | apply HC.skip | apply HC.exit | apply HC.ret | apply HX.e_block | refine HX.e_other rfl ?_ | apply HX.e_then | apply HX.e_again | apply HX.n_block | apply HX.r_then | apply HX.r_block | apply HX.r_again | refine HC.cond_yes rfl ?_ | refine HC.cond_no rfl ?_ | refine HL.one (H1.ldb rfl memA rfl rfl ?_) | refine HC.cond rfl (fun hc => ?_) (fun hc => ?_) | refine HC.cond_b rfl (fun hc => ?_) (fun hc => ?_))
    refine HL.cut (α := Option Addr × Nat) (fun z => [(2, b8 c0), (7, .bool true), (13, .slice aw l.length cw), (19, .slice z.1 l'.length z.2)]) (fun z => [A.grow 9 1 z.1 z.2 l'.length (strs l'), A.grow 9 1 aw cw l.length (strs l)]) (fun _ => True) ?_ ?_
    · refine HL.one (H1.callz (α := Option Addr × Nat) (V := fun z => .slice z.1 l'.length z.2) (Hn := fun z => [A.grow 9 1 z.1 z.2 l'.length (strs l')]) (I := fun _ => True) (vs := [_]) rfl rfl (fun w' hM => by
        have := records2_fn (bj := bk) (bd := bd) (a := a3) (c := c3) (t := adds t00 l') (br := false) (hM.blk memA) (Mm.gr (e := 9) (a := a3) (c := c3) hM memA) (by rw [hrec2]; omega)
        rw [hrec2] at this
        exact this) ?_)
      rintro ⟨ax, cx⟩ -
      dsimp only
      repeat' (first | refine HL.pa ?_ (POp.pnil1 rfl rfl) | refine HL.pa ?_ (POp.pnil0 rfl rfl) | refine HL.pa ?_ (POp.nilCheck rfl) | apply HL.fold | apply HA.fold | apply HL.nil | apply HX.n_then | apply HC.seq | apply HC.region | refine HL.pa ?_ | refine HL.ga rfl ?_ | refine HL.na rfl ?_ | refine HL.nu rfl rfl ?_ | apply HC.block | apply HC.skip | apply HC.exit | apply HC.ret | apply HX.e_block | refine HX.e_other rfl ?_ | apply HX.e_then | apply HX.e_again | apply HX.n_block | apply HX.r_then | apply HX.r_block | apply HX.r_again | refine HC.cond_yes rfl ?_ | refine HC.cond_no rfl ?_ | refine HL.one (H1.ldb rfl memA rfl rfl ?_) | refine HC.cond rfl (fun hc => ?_) (fun hc => ?_) | refine HC.cond_b rfl (fun hc => ?_) (fun hc => ?_))
      exact HX.cut (ax, cx) trivial esA (Hs.cons Pick.here (Hs.refl _).skip.skip.skip.skip.skip.skip)
    rintro ⟨ax, cx⟩ -
    dsimp only
    repeat refine HC.seq ?_
    refine HC.cut (α := Bool) (fun bf => [(7, .bool true), (13, .slice aw l.length cw), (19, .slice ax l'.length cx), (20, .bool bf)]) (fun _ => [A.grow 9 1 ax cx l'.length (strs l'), A.grow 9 1 aw cw l.length (strs l)]) (fun bf => bf = false → Coll zero32 l l') ?_ ?_
    · by_cases hc00 : (c0.toNat : Int) = 0
      · by_cases hll2 : l'.length < l.length
        · refine HC.capOfG2 (e := 9) (a := aw) (c := cw) (n := l.length) (xs := strs l) memA fun hcw => ?_
          have hll3 : (l'.length : Int) < (l.length : Int) := by omega
          repeat' (first | refine HL.pa ?_ (POp.pnil1 rfl rfl) | refine HL.pa ?_ (POp.pnil0 rfl rfl) | refine HL.pa ?_ (POp.nilCheck rfl) | apply HL.fold | apply HA.fold | apply HL.nil | apply HX.n_then | apply HC.seq | apply HC.region | refine HL.pa ?_ | refine HL.ga rfl ?_ | refine HL.na rfl ?_ | refine HL.nu rfl rfl ?_ | apply HC.block | apply HC.skip | apply HC.exit | apply HC.ret | apply HX.e_block | refine HX.e_other rfl ?_ | apply HX.e_then | apply HX.e_again | apply HX.n_block | apply HX.r_then | apply HX.r_block | apply HX.r_again | refine HC.cond_yes rfl ?_ | refine HC.cond_no rfl ?_ | refine HL.one (H1.ldb rfl memA rfl rfl ?_) | refine HC.cond rfl (fun hc => ?_) (fun hc => ?_) | refine HC.cond_b rfl (fun hc => ?_) (fun hc => ?_))
          refine HL.pa ?_ (POp.pre_any rfl rfl (by omega) (by omega))
          rw [Int.toNat_natCast]
          repeat' (first | refine HL.pa ?_ (POp.pnil1 rfl rfl) | refine HL.pa ?_ (POp.pnil0 rfl rfl) | refine HL.pa ?_ (POp.nilCheck rfl) | apply HL.fold | apply HA.fold | apply HL.nil | apply HX.n_then | apply HC.seq | apply HC.region | refine HL.pa ?_ | refine HL.ga rfl ?_ | refine HL.na rfl ?_ | refine HL.nu rfl rfl ?_ | apply HC.block | apply HC.skip | apply HC.exit | apply HC.ret | apply HX.e_block | refine HX.e_other rfl ?_ | apply HX.e_then | apply HX.e_again | apply HX.n_block | apply HX.r_then | apply HX.r_block | apply HX.r_again | refine HC.cond_yes rfl ?_ | refine HC.cond_no rfl ?_ | refine HL.one (H1.ldb rfl memA rfl rfl ?_) | refine HC.cond rfl (fun hc => ?_) (fun hc => ?_) | refine HC.cond_b rfl (fun hc => ?_) (fun hc => ?_))
          refine HL.one (H1.callx (u := .bool (decide (l' = l.take l'.length))) (vs := [_, _]) rfl rfl (fun w' hM => same26_fn (.slice ax l'.length cx) (.slice aw l'.length cw) l' (l.take l'.length) (by omega) (by rw [List.length_take]; omega) w' (Mm.gr (e := 9) (a := ax) (c := cx) hM (.head _)) (Rd.spre (Mm.gr (e := 9) (a := aw) (c := cw) hM (.tail _ (.head _))) (by omega))) ?_)
          repeat' (first | refine HL.pa ?_ (POp.pnil1 rfl rfl) | refine HL.pa ?_ (POp.pnil0 rfl rfl) | refine HL.pa ?_ (POp.nilCheck rfl) | apply HL.fold | apply HA.fold | apply HL.nil | apply HX.n_then | apply HC.seq | apply HC.region | refine HL.pa ?_ | refine HL.ga rfl ?_ | refine HL.na rfl ?_ | refine HL.nu rfl rfl ?_ | apply HC.block | apply HC.skip | apply HC.exit | apply HC.ret | apply HX.e_block | refine HX.e_other rfl ?_ | apply HX.e_then | apply HX.e_again | apply HX.n_block | apply HX.r_then | apply HX.r_block | apply HX.r_again | refine HC.cond_yes rfl ?_ | refine HC.cond_no rfl ?_ | refine HL.one (H1.ldb rfl memA rfl rfl ?_) | refine HC.cond rfl (fun hc => ?_) (fun hc => ?_) | refine HC.cond_b rfl (fun hc => ?_) (fun hc => ?_))
          refine HX.cut (decide (l' = l.take l'.length)) (fun h => ?_) esA (Hs.refl _)
          rcases hcase with ⟨-, -, h3⟩ | h3
          · exact absurd h3 (of_decide_eq_false h)
          · exact h3
        · have hll3 : ¬ (l'.length : Int) < (l.length : Int) := by omega
          repeat' (first | refine HL.pa ?_ (POp.pnil1 rfl rfl) | refine HL.pa ?_ (POp.pnil0 rfl rfl) | refine HL.pa ?_ (POp.nilCheck rfl) | apply HL.fold | apply HA.fold | apply HL.nil | apply HX.n_then | apply HC.seq | apply HC.region | refine HL.pa ?_ | refine HL.ga rfl ?_ | refine HL.na rfl ?_ | refine HL.nu rfl rfl ?_ | apply HC.block | apply HC.skip | apply HC.exit | apply HC.ret | apply HX.e_block | refine HX.e_other rfl ?_ | apply HX.e_then | apply HX.e_again | apply HX.n_block | apply HX.r_then | apply HX.r_block | apply HX.r_again | refine HC.cond_yes rfl ?_ | refine HC.cond_no rfl ?_ | refine HL.one (H1.ldb rfl memA rfl rfl ?_) | refine HC.cond rfl (fun hc => ?_) (fun hc => ?_) | refine HC.cond_b rfl (fun hc => ?_) (fun hc => ?_))
          refine HX.cut false (fun _ => ?_) esA (Hs.refl _)
          rcases hcase with ⟨-, h3, -⟩ | h3
          · exact absurd h3 hll2
          · exact h3
      · repeat' (first | refine HL.pa ?_ (POp.pnil1 rfl rfl) | refine HL.pa ?_ (POp.pnil0 rfl rfl) | refine HL.pa ?_ (POp.nilCheck rfl) | apply HL.fold | apply HA.fold | apply HL.nil | apply HX.n_then | apply HC.seq | apply HC.region | refine HL.pa ?_ | refine HL.ga rfl ?_ | refine HL.na rfl ?_ | refine HL.nu rfl rfl ?_ | apply HC.block | apply HC.skip | apply HC.exit | apply HC.ret | apply HX.e_block | refine HX.e_other rfl ?_ | apply HX.e_then | apply HX.e_again | apply HX.n_block | apply HX.r_then | apply HX.r_block | apply HX.r_again | refine HC.cond_yes rfl ?_ | refine HC.cond_no rfl ?_ | refine HL.one (H1.ldb rfl memA rfl rfl ?_) | refine HC.cond rfl (fun hc => ?_) (fun hc => ?_) | refine HC.cond_b rfl (fun hc => ?_) (fun hc => ?_))
        refine HX.cut false (fun _ => ?_) esA (Hs.refl _)
        rcases hcase with ⟨h3, -, -⟩ | h3
        · exact absurd (by rw [h3]; rfl) hc00
        · exact h3
    rintro bf hbf
    cases bf
    rotate_left
    · repeat' (first | refine HL.pa ?_ (POp.pnil1 rfl rfl) | refine HL.pa ?_ (POp.pnil0 rfl rfl) | refine HL.pa ?_ (POp.nilCheck rfl) | apply HL.fold | apply HA.fold | apply HL.nil | apply HX.n_then | apply HC.seq | apply HC.region | refine HL.pa ?_ | refine HL.ga rfl ?_ | refine HL.na rfl ?_ | refine HL.nu rfl rfl ?_ | apply HC.block | apply HC.skip | apply HC.exit | apply HC.ret | apply HX.e_block | refine HX.e_other rfl ?_ | apply HX.e_then | apply HX.e_again | apply HX.n_block | apply HX.r_then | apply HX.r_block | apply HX.r_again | refine HC.cond_yes rfl ?_ | refine HC.cond_no rfl ?_ | refine HL.one (H1.ldb rfl memA rfl rfl ?_) | refine HC.cond rfl (fun hc => ?_) (fun hc => ?_) | refine HC.cond_b rfl (fun hc => ?_) (fun hc => ?_))
      exact HX.ret1 rfl rfl fun w' hM => ⟨rfl, hM.ext⟩
    obtain ⟨i0, xa, xb, hxa, hxb, hxne, hxs⟩ := hbf rfl
    have hi1 : i0 < l.length := by
      have := (List.getElem?_eq_some_iff.1 hxa).1
      rwa [headsL_len] at this
    have hi2 : i0 < l'.length := by
      have := (List.getElem?_eq_some_iff.1 hxb).1
      rwa [headsL_len] at this
    repeat' (first | refine HL.pa ?_ (POp.pnil1 rfl rfl) | refine HL.pa ?_ (POp.pnil0 rfl rfl) | refine HL.pa ?_ (POp.nilCheck rfl) | apply HL.fold | apply HA.fold | apply HL.nil | apply HX.n_then | apply HC.seq | apply HC.region | refine HL.pa ?_ | refine HL.ga rfl ?_ | refine HL.na rfl ?_ | refine HL.nu rfl rfl ?_ | apply HC.block | apply HC.skip | apply HC.exit | apply HC.ret | apply HX.e_block | refine HX.e_other rfl ?_ | apply HX.e_then | apply HX.e_again | apply HX.n_block | apply HX.r_then | apply HX.r_block | apply HX.r_again | refine HC.cond_yes rfl ?_ | refine HC.cond_no rfl ?_ | refine HL.one (H1.ldb rfl memA rfl rfl ?_) | refine HC.cond rfl (fun hc => ?_) (fun hc => ?_) | refine HC.cond_b rfl (fun hc => ?_) (fun hc => ?_))
    refine HL.one (H1.callz (vs := [_]) rfl rfl (fun w' hM => heads26_fn (.slice aw l.length cw) l (fun s h => Nat.le_trans (hrs s h) (by decide)) (by omega) w' (Mm.gr (e := 9) (a := aw) (c := cw) hM memA)) ?_)
    rintro ⟨aa, ca⟩ -
    dsimp only
    repeat' (first | refine HL.pa ?_ (POp.pnil1 rfl rfl) | refine HL.pa ?_ (POp.pnil0 rfl rfl) | refine HL.pa ?_ (POp.nilCheck rfl) | apply HL.fold | apply HA.fold | apply HL.nil | apply HX.n_then | apply HC.seq | apply HC.region | refine HL.pa ?_ | refine HL.ga rfl ?_ | refine HL.na rfl ?_ | refine HL.nu rfl rfl ?_ | apply HC.block | apply HC.skip | apply HC.exit | apply HC.ret | apply HX.e_block | refine HX.e_other rfl ?_ | apply HX.e_then | apply HX.e_again | apply HX.n_block | apply HX.r_then | apply HX.r_block | apply HX.r_again | refine HC.cond_yes rfl ?_ | refine HC.cond_no rfl ?_ | refine HL.one (H1.ldb rfl memA rfl rfl ?_) | refine HC.cond rfl (fun hc => ?_) (fun hc => ?_) | refine HC.cond_b rfl (fun hc => ?_) (fun hc => ?_))
    refine HL.one (H1.callz (vs := [_]) rfl rfl (fun w' hM => heads26_fn (.slice ax l'.length cx) l' (fun s h => Nat.le_trans (hls s h) (by decide)) (by omega) w' (Mm.gr (e := 9) (a := ax) (c := cx) hM (.tail _ (.head _)))) ?_)
    rintro ⟨ab, cb⟩ -
    dsimp only
    repeat' (first | refine HL.pa ?_ (POp.pnil1 rfl rfl) | refine HL.pa ?_ (POp.pnil0 rfl rfl) | refine HL.pa ?_ (POp.nilCheck rfl) | apply HL.fold | apply HA.fold | apply HL.nil | apply HX.n_then | apply HC.seq | apply HC.region | refine HL.pa ?_ | refine HL.ga rfl ?_ | refine HL.na rfl ?_ | refine HL.nu rfl rfl ?_ | apply HC.block | apply HC.skip | apply HC.exit | apply HC.ret | apply HX.e_block | refine HX.e_other rfl ?_ | apply HX.e_then | apply HX.e_again | apply HX.n_block | apply HX.r_then | apply HX.r_block | apply HX.r_again | refine HC.cond_yes rfl ?_ | refine HC.cond_no rfl ?_ | refine HL.one (H1.ldb rfl memA rfl rfl ?_) | refine HC.cond rfl (fun hc => ?_) (fun hc => ?_) | refine HC.cond_b rfl (fun hc => ?_) (fun hc => ?_))
    refine HC.loop (α := Nat) (fun z => [(7, .bool true), (21, .slice aa l.length ca), (22, .slice ab l'.length cb), (23, zv (z : Int))]) (fun _ => [A.grow 9 1 ab cb l'.length (strs (headsL zero32 l')), A.grow 9 1 aa ca l.length (strs (headsL zero32 l))]) (fun z => z ≤ i0) (fun z => i0 - z) 0 (Nat.zero_le _) esA (Hs.cons Pick.here (Hs.cons Pick.here (Hs.refl _).skip.skip)) ?_
    rintro z hz
    have hza : z < (headsL zero32 l).length := by rw [headsL_len]; omega
    have hzb : z < (headsL zero32 l').length := by rw [headsL_len]; omega
    obtain ⟨ya, hya⟩ : ∃ y, (headsL zero32 l)[z]? = some y := ⟨_, List.getElem?_eq_getElem hza⟩
    obtain ⟨yb, hyb⟩ : ∃ y, (headsL zero32 l')[z]? = some y := ⟨_, List.getElem?_eq_getElem hzb⟩
    have hsa := headsL_size l zero32 (by decide) (fun r h => Nat.le_trans (hrs r h) (by decide)) ya (List.mem_of_getElem? hya)
    have hsb := headsL_size l' zero32 (by decide) hls yb (List.mem_of_getElem? hyb)
    have hga : (strs (headsL zero32 l))[z]? = some (.string ya) := by unfold strs; rw [List.getElem?_map, hya]; rfl
    have hgb : (strs (headsL zero32 l'))[z]? = some (.string yb) := by unfold strs; rw [List.getElem?_map, hyb]; rfl
    have hlt1 : (z : Int) < (l.length : Int) := by omega
    have hlt2 : (z : Int) < (l'.length : Int) := by omega
    have hnext : ¬ (ya ≠ yb ∧ sumS ya = sumS yb) → z < i0 := by
      intro h
      rcases Nat.lt_or_ge z i0 with h1 | h1
      · exact h1
      · obtain rfl : z = i0 := by omega
        rw [hya] at hxa; rw [hyb] at hxb
        injection hxa with hxa; injection hxb with hxb
        subst hxa; subst hxb
        exact absurd ⟨hxne, hxs⟩ h
    refine HC.openg (e := 9) (sz := 1) (a := aa) (c := ca) (n := l.length) (xs := strs (headsL zero32 l)) (.tail _ (.head _)) (by omega) ?_
    rintro ga rfl
    refine HC.openg (e := 9) (sz := 1) (a := ab) (c := cb) (n := l'.length) (xs := strs (headsL zero32 l')) (.head _) (by omega) ?_
    rintro gb' rfl
    by_cases hxy : ya = yb
    · have hz2 := hnext fun h => h.1 hxy
      subst hxy
      repeat' (first | refine HL.pa ?_ (POp.pnil1 rfl rfl) | refine HL.pa ?_ (POp.pnil0 rfl rfl) | refine HL.pa ?_ (POp.nilCheck rfl) | apply HL.fold | apply HA.fold | apply HL.nil | apply HX.n_then | apply HC.seq | apply HC.region | refine HL.pa ?_ | refine HL.ga rfl ?_ | refine HL.na rfl ?_ | refine HL.nu rfl rfl ?_ | apply HC.block | apply HC.skip | apply HC.exit | apply HC.ret | apply HX.e_block | refine HX.e_other rfl ?_ | apply HX.e_then | apply HX.e_again | apply HX.n_block | apply HX.r_then | apply HX.r_block | apply HX.r_again | refine HC.cond_yes rfl ?_ | refine HC.cond_no rfl ?_ | refine HL.one (H1.ldb rfl memA rfl rfl ?_) | refine HC.cond rfl (fun hc => ?_) (fun hc => ?_) | refine HC.cond_b rfl (fun hc => ?_) (fun hc => ?_))
      refine HC.quietS [(some 157, [21], []), (some 158, [23], []), (some 159, [157, 158], [0, 1]), (some 160, [159], [2]), (some 161, [22], []), (some 162, [23], []), (some 163, [161, 162], [4, 5]), (some 164, [163], [6]), (some 165, [160, 164], [3, 7]), (some 166, [165], [8]), (some 167, [21, 166], [9]), (some 168, [23, 166], [9]), (some 169, [167, 168, 166], [10, 11, 9]), (some 170, [169, 166], [12, 9]), (some 171, [170, 166], [13, 9, 9]), (some 172, [22, 166], [9]), (some 173, [23, 166], [9]), (some 174, [172, 173, 166], [15, 16, 9]), (some 175, [174, 166], [17, 9]), (some 176, [175, 166], [18, 14, 9]), (some 177, [171, 176, 166], [14, 19, 9]), (some 178, [166, 177], [9, 20])] (by kernel_rfl) (by kernel_rfl) (by kernel_rfl) ?_
      repeat' (first | refine HQ.pa ?_ | refine HQ.ga rfl ?_ | refine HQ.na rfl ?_ | refine HQ.nu rfl ?_ | refine HQ.ldb rfl memA rfl rfl ?_)
      refine HQ.ld rfl (fun w' hM => ownsRow_cell (hM.own (.tail _ (.head _))) hga) rfl ?_
      repeat' (first | refine HQ.pa ?_ | refine HQ.ga rfl ?_ | refine HQ.na rfl ?_ | refine HQ.nu rfl ?_ | refine HQ.ldb rfl memA rfl rfl ?_)
      refine HQ.ld rfl (fun w' hM => ownsRow_cell (hM.own (.head _)) hgb) rfl ?_
      repeat' (first | refine HQ.pa ?_ | refine HQ.ga rfl ?_ | refine HQ.na rfl ?_ | refine HQ.nu rfl ?_ | refine HQ.ldb rfl memA rfl rfl ?_)
      refine HQ.nil ?_
      repeat' (first | refine HL.pa ?_ (POp.pnil1 rfl rfl) | refine HL.pa ?_ (POp.pnil0 rfl rfl) | refine HL.pa ?_ (POp.nilCheck rfl) | apply HL.fold | apply HA.fold | apply HL.nil | apply HX.n_then | apply HC.seq | apply HC.region | refine HL.pa ?_ | refine HL.ga rfl ?_ | refine HL.na rfl ?_ | refine HL.nu rfl rfl ?_ | apply HC.block | apply HC.skip | apply HC.exit | apply HC.ret | apply HX.e_block | refine HX.e_other rfl ?_ | apply HX.e_then | apply HX.e_again | apply HX.n_block | apply HX.r_then | apply HX.r_block | apply HX.r_again | refine HC.cond_yes rfl ?_ | refine HC.cond_no rfl ?_ | refine HL.one (H1.ldb rfl memA rfl rfl ?_) | refine HC.cond rfl (fun hc => ?_) (fun hc => ?_) | refine HC.cond_b rfl (fun hc => ?_) (fun hc => ?_))
      exact HX.again (z + 1) hz2 (by show i0 - (z + 1) < i0 - z; omega) esA (Hs.refl _)
    · repeat' (first | refine HL.pa ?_ (POp.pnil1 rfl rfl) | refine HL.pa ?_ (POp.pnil0 rfl rfl) | refine HL.pa ?_ (POp.nilCheck rfl) | apply HL.fold | apply HA.fold | apply HL.nil | apply HX.n_then | apply HC.seq | apply HC.region | refine HL.pa ?_ | refine HL.ga rfl ?_ | refine HL.na rfl ?_ | refine HL.nu rfl rfl ?_ | apply HC.block | apply HC.skip | apply HC.exit | apply HC.ret | apply HX.e_block | refine HX.e_other rfl ?_ | apply HX.e_then | apply HX.e_again | apply HX.n_block | apply HX.r_then | apply HX.r_block | apply HX.r_again | refine HC.cond_yes rfl ?_ | refine HC.cond_no rfl ?_ | refine HL.one (H1.ldb rfl memA rfl rfl ?_) | refine HC.cond rfl (fun hc => ?_) (fun hc => ?_) | refine HC.cond_b rfl (fun hc => ?_) (fun hc => ?_))
      refine HC.quietS [(some 157, [21], []), (some 158, [23], []), (some 159, [157, 158], [0, 1]), (some 160, [159], [2]), (some 161, [22], []), (some 162, [23], []), (some 163, [161, 162], [4, 5]), (some 164, [163], [6]), (some 165, [160, 164], [3, 7]), (some 166, [165], [8]), (some 167, [21, 166], [9]), (some 168, [23, 166], [9]), (some 169, [167, 168, 166], [10, 11, 9]), (some 170, [169, 166], [12, 9]), (some 171, [170, 166], [13, 9, 9]), (some 172, [22, 166], [9]), (some 173, [23, 166], [9]), (some 174, [172, 173, 166], [15, 16, 9]), (some 175, [174, 166], [17, 9]), (some 176, [175, 166], [18, 14, 9]), (some 177, [171, 176, 166], [14, 19, 9]), (some 178, [166, 177], [9, 20])] (by kernel_rfl) (by kernel_rfl) (by kernel_rfl) ?_
      repeat' (first | refine HQ.pa ?_ | refine HQ.ga rfl ?_ | refine HQ.na rfl ?_ | refine HQ.nu rfl ?_ | refine HQ.ldb rfl memA rfl rfl ?_)
      refine HQ.ld rfl (fun w' hM => ownsRow_cell (hM.own (.tail _ (.head _))) hga) rfl ?_
      repeat' (first | refine HQ.pa ?_ | refine HQ.ga rfl ?_ | refine HQ.na rfl ?_ | refine HQ.nu rfl ?_ | refine HQ.ldb rfl memA rfl rfl ?_)
      refine HQ.ld rfl (fun w' hM => ownsRow_cell (hM.own (.head _)) hgb) rfl ?_
      repeat' (first | refine HQ.pa ?_ | refine HQ.ga rfl ?_ | refine HQ.na rfl ?_ | refine HQ.nu rfl ?_ | refine HQ.ldb rfl memA rfl rfl ?_)
      refine HQ.ld rfl (fun w' hM => ownsRow_cell (hM.own (.tail _ (.head _))) hga) rfl ?_
      repeat' (first | refine HQ.pa ?_ | refine HQ.ga rfl ?_ | refine HQ.na rfl ?_ | refine HQ.nu rfl ?_ | refine HQ.ldb rfl memA rfl rfl ?_)
      refine HQ.call (vs := [.string ya]) rfl rfl (fun w' _ => refSum_fn ya (by omega) w') ?_
      repeat' (first | refine HQ.pa ?_ | refine HQ.ga rfl ?_ | refine HQ.na rfl ?_ | refine HQ.nu rfl ?_ | refine HQ.ldb rfl memA rfl rfl ?_)
      refine HQ.ld rfl (fun w' hM => ownsRow_cell (hM.own (.head _)) hgb) rfl ?_
      repeat' (first | refine HQ.pa ?_ | refine HQ.ga rfl ?_ | refine HQ.na rfl ?_ | refine HQ.nu rfl ?_ | refine HQ.ldb rfl memA rfl rfl ?_)
      refine HQ.call (vs := [.string yb]) rfl rfl (fun w' _ => refSum_fn yb (by omega) w') ?_
      repeat' (first | refine HQ.pa ?_ | refine HQ.ga rfl ?_ | refine HQ.na rfl ?_ | refine HQ.nu rfl ?_ | refine HQ.ldb rfl memA rfl rfl ?_)
      refine HQ.nil ?_
      by_cases hsm : sumS ya = sumS yb
      · repeat' (first | refine HL.pa ?_ (POp.pnil1 rfl rfl) | refine HL.pa ?_ (POp.pnil0 rfl rfl) | refine HL.pa ?_ (POp.nilCheck rfl) | apply HL.fold | apply HA.fold | apply HL.nil | apply HX.n_then | apply HC.seq | apply HC.region | refine HL.pa ?_ | refine HL.ga rfl ?_ | refine HL.na rfl ?_ | refine HL.nu rfl rfl ?_ | apply HC.block | apply HC.skip | apply HC.exit | apply HC.ret | apply HX.e_block | refine HX.e_other rfl ?_ | apply HX.e_then | apply HX.e_again | apply HX.n_block | apply HX.r_then | apply HX.r_block | apply HX.r_again | refine HC.cond_yes rfl ?_ | refine HC.cond_no rfl ?_ | refine HL.one (H1.ldb rfl memA rfl rfl ?_) | refine HC.cond rfl (fun hc => ?_) (fun hc => ?_) | refine HC.cond_b rfl (fun hc => ?_) (fun hc => ?_))
        exact HX.ret1 rfl rfl fun w' hM => ⟨rfl, hM.ext⟩
      · have hz2 := hnext fun h => hsm h.2
        repeat' (first | refine HL.pa ?_ (POp.pnil1 rfl rfl) | refine HL.pa ?_ (POp.pnil0 rfl rfl) | refine HL.pa ?_ (POp.nilCheck rfl) | apply HL.fold | apply HA.fold | apply HL.nil | apply HX.n_then | apply HC.seq | apply HC.region | refine HL.pa ?_ | refine HL.ga rfl ?_ | refine HL.na rfl ?_ | refine HL.nu rfl rfl ?_ | apply HC.block | apply HC.skip | apply HC.exit | apply HC.ret | apply HX.e_block | refine HX.e_other rfl ?_ | apply HX.e_then | apply HX.e_again | apply HX.n_block | apply HX.r_then | apply HX.r_block | apply HX.r_again | refine HC.cond_yes rfl ?_ | refine HC.cond_no rfl ?_ | refine HL.one (H1.ldb rfl memA rfl rfl ?_) | refine HC.cond rfl (fun hc => ?_) (fun hc => ?_) | refine HC.cond_b rfl (fun hc => ?_) (fun hc => ?_))
        exact HX.again (z + 1) hz2 (by show i0 - (z + 1) < i0 - z; omega) esA (Hs.refl _)
  refine HC.block ?_
  refine HC.loop (α := Nat × (Jn × List ByteArray) × (Option Addr × Nat) × (Option Addr × Nat)) (fun z => [(0, .slice a0 GG.length cg), (1, zv at'), (2, b8 c0), (7, .bool true), (8, .pointer (some ⟨bd, 0, none⟩)), (10, .pointer (some ⟨bj, 0, none⟩)), (12, zv (z.1 : Int))])
    (fun z => jnlH bj bd b1 b2 z.2.2.1.1 z.2.2.1.2 z.2.2.2.1 z.2.2.2.2 z.2.1.1 []) (fun z => z.1 ≤ GG.length ∧ z.1 ≤ 6 ∧ Clean z.2.1.1 6000 z.2.1.2 ∧ z.2.1.2.length ≤ 6 * z.1 ∧ (∀ r ∈ z.2.1.2, r.size ≤ 100) ∧ needL z.2.1.2 ≤ 900 * z.1) (fun z => 6 - z.1)
    (0, (⟨t00, newK 6000, false⟩, []), (a, c), (pa, pc)) ⟨Nat.zero_le _, Nat.zero_le _, h0, Nat.le_refl _, (fun _ h => by cases h), by unfold needL; exact Nat.le_refl _⟩ esA (Hs.refl _) ?_
  rintro ⟨i, ⟨j, l⟩, ⟨a, c⟩, ⟨pa, pc⟩⟩ ⟨hi, h8, hc, hll, hrs, hnl⟩
  dsimp only at hi h8 hc hll hrs hnl ⊢
  by_cases hlt : i < GG.length ∧ i < 6
  · obtain ⟨hlt, hl8⟩ := hlt
    obtain ⟨b, off, hab, hcell⟩ : ∃ b off, a0 = some ⟨b, off, none⟩ ∧ w.cell? ⟨b, off + i, none⟩ = some (hV i) := by
      obtain ⟨a', c', h1, h2, h3⟩ := hR.1
      injection h1 with h1 _ _
      subst h1
      rcases h3 with h3 | ⟨b, off, h4, -, h5⟩
      · rw [h3] at hrl; simp at hrl; omega
      · exact ⟨b, off, h4, h5 i (hV i) (by simp [hlt])⟩
    subst hab
    have hsl := hs i hlt
    have hRi := hR.2 i hlt
    generalize GG[i] = gi at hsl hRi
    obtain ⟨G, hGd⟩ : ∃ G, G = few26 gi := ⟨_, rfl⟩
    have hneed := few_need2 gi
    have hlong := few_long2 gi
    have hlen := few26_len gi
    have hsz := few26_size gi
    rw [← hGd] at hneed hlong hlen hsz
    have hjs := hc.size
    obtain ⟨j1, hap, hc1⟩ := hc.app hlong (by rw [outsL_need]; omega)
    have hnapp := needL_app l G
    repeat' (first | refine HL.pa ?_ (POp.pnil1 rfl rfl) | refine HL.pa ?_ (POp.pnil0 rfl rfl) | refine HL.pa ?_ (POp.nilCheck rfl) | apply HL.fold | apply HA.fold | apply HL.nil | apply HX.n_then | apply HC.seq | apply HC.region | refine HL.pa ?_ | refine HL.ga rfl ?_ | refine HL.na rfl ?_ | refine HL.nu rfl rfl ?_ | apply HC.block | apply HC.skip | apply HC.exit | apply HC.ret | apply HX.e_block | refine HX.e_other rfl ?_ | apply HX.e_then | apply HX.e_again | apply HX.n_block | apply HX.r_then | apply HX.r_block | apply HX.r_again | refine HC.cond_yes rfl ?_ | refine HC.cond_no rfl ?_ | refine HL.one (H1.ldb rfl memA rfl rfl ?_) | refine HC.cond rfl (fun hc => ?_) (fun hc => ?_) | refine HC.cond_b rfl (fun hc => ?_) (fun hc => ?_))
    refine HL.one (H1.ld0 rfl hcell rfl ?_)
    repeat' (first | refine HL.pa ?_ (POp.pnil1 rfl rfl) | refine HL.pa ?_ (POp.pnil0 rfl rfl) | refine HL.pa ?_ (POp.nilCheck rfl) | apply HL.fold | apply HA.fold | apply HL.nil | apply HX.n_then | apply HC.seq | apply HC.region | refine HL.pa ?_ | refine HL.ga rfl ?_ | refine HL.na rfl ?_ | refine HL.nu rfl rfl ?_ | apply HC.block | apply HC.skip | apply HC.exit | apply HC.ret | apply HX.e_block | refine HX.e_other rfl ?_ | apply HX.e_then | apply HX.e_again | apply HX.n_block | apply HX.r_then | apply HX.r_block | apply HX.r_again | refine HC.cond_yes rfl ?_ | refine HC.cond_no rfl ?_ | refine HL.one (H1.ldb rfl memA rfl rfl ?_) | refine HC.cond rfl (fun hc => ?_) (fun hc => ?_) | refine HC.cond_b rfl (fun hc => ?_) (fun hc => ?_))
    refine HL.one (H1.callz (vs := [_]) rfl rfl (fun w' hM => few26_fn (hV i) gi hsl.1 hsl.2 w' (hRi.ext hM.ext)) ?_)
    rw [← hGd]
    rintro ⟨a9, c9⟩ -
    dsimp only
    repeat' (first | refine HL.pa ?_ (POp.pnil1 rfl rfl) | refine HL.pa ?_ (POp.pnil0 rfl rfl) | refine HL.pa ?_ (POp.nilCheck rfl) | apply HL.fold | apply HA.fold | apply HL.nil | apply HX.n_then | apply HC.seq | apply HC.region | refine HL.pa ?_ | refine HL.ga rfl ?_ | refine HL.na rfl ?_ | refine HL.nu rfl rfl ?_ | apply HC.block | apply HC.skip | apply HC.exit | apply HC.ret | apply HX.e_block | refine HX.e_other rfl ?_ | apply HX.e_then | apply HX.e_again | apply HX.n_block | apply HX.r_then | apply HX.r_block | apply HX.r_again | refine HC.cond_yes rfl ?_ | refine HC.cond_no rfl ?_ | refine HL.one (H1.ldb rfl memA rfl rfl ?_) | refine HC.cond rfl (fun hc => ?_) (fun hc => ?_) | refine HC.cond_b rfl (fun hc => ?_) (fun hc => ?_))
    refine HL.mem (jnlH bj bd b1 b2 a c pa pc j [A.grow 9 1 a9 c9 G.length (strs G)]) (Hs.cons (Pick.there Pick.here) (Hs.cons (Pick.there Pick.here) (Hs.cons (Pick.there Pick.here) (Hs.cons (Pick.there Pick.here) (Hs.cons (Pick.there Pick.here) (Hs.cons (Pick.there Pick.here) (Hs.refl _))))))) ?_
    refine HL.one (H1.callk (α := (Option Addr × Nat) × (Option Addr × Nat)) (V := fun _ => zv 0) (I := fun _ => True) (H' := fun q => jnlH bj bd b1 b2 q.1.1 q.1.2 q.2.1 q.2.2 j1 [A.grow 9 1 a9 c9 G.length (strs G)]) (vs := [_, _]) rfl rfl
      (fun w' hM => appendG_fn hap hG hM (.head _) (hc.jok (by omega)) (by omega) (fun _ => by rw [outsL_need]; omega)) ?_)
    rintro ⟨⟨a2, c2⟩, ⟨pa2, pc2⟩⟩ -
    dsimp only
    repeat' (first | refine HL.pa ?_ (POp.pnil1 rfl rfl) | refine HL.pa ?_ (POp.pnil0 rfl rfl) | refine HL.pa ?_ (POp.nilCheck rfl) | apply HL.fold | apply HA.fold | apply HL.nil | apply HX.n_then | apply HC.seq | apply HC.region | refine HL.pa ?_ | refine HL.ga rfl ?_ | refine HL.na rfl ?_ | refine HL.nu rfl rfl ?_ | apply HC.block | apply HC.skip | apply HC.exit | apply HC.ret | apply HX.e_block | refine HX.e_other rfl ?_ | apply HX.e_then | apply HX.e_again | apply HX.n_block | apply HX.r_then | apply HX.r_block | apply HX.r_again | refine HC.cond_yes rfl ?_ | refine HC.cond_no rfl ?_ | refine HL.one (H1.ldb rfl memA rfl rfl ?_) | refine HC.cond rfl (fun hc => ?_) (fun hc => ?_) | refine HC.cond_b rfl (fun hc => ?_) (fun hc => ?_))
    refine HX.again (i + 1, (j1, l ++ G), (a2, c2), (pa2, pc2)) ⟨hlt, hl8, hc1, ?_, ?_, ?_⟩ (by show 6 - (i + 1) < 6 - i; omega) esA (Hs.cons Pick.here (Hs.cons Pick.here (Hs.cons Pick.here (Hs.cons Pick.here (Hs.cons Pick.here (Hs.cons Pick.here (Hs.refl _).skip))))))
    · show (l ++ G).length ≤ 6 * (i + 1)
      rw [List.length_append]; omega
    · show ∀ r ∈ l ++ G, r.size ≤ 100
      intro r hr
      rcases List.mem_append.1 hr with hr | hr
      · exact hrs r hr
      · exact hsz r hr
    · show needL (l ++ G) ≤ 900 * (i + 1)
      omega
  · by_cases hin : i < GG.length
    · have hn8 : ¬ i < 6 := fun h => hlt ⟨hin, h⟩
      repeat' (first | refine HL.pa ?_ (POp.pnil1 rfl rfl) | refine HL.pa ?_ (POp.pnil0 rfl rfl) | refine HL.pa ?_ (POp.nilCheck rfl) | apply HL.fold | apply HA.fold | apply HL.nil | apply HX.n_then | apply HC.seq | apply HC.region | refine HL.pa ?_ | refine HL.ga rfl ?_ | refine HL.na rfl ?_ | refine HL.nu rfl rfl ?_ | apply HC.block | apply HC.skip | apply HC.exit | apply HC.ret | apply HX.e_block | refine HX.e_other rfl ?_ | apply HX.e_then | apply HX.e_again | apply HX.n_block | apply HX.r_then | apply HX.r_block | apply HX.r_again | refine HC.cond_yes rfl ?_ | refine HC.cond_no rfl ?_ | refine HL.one (H1.ldb rfl memA rfl rfl ?_) | refine HC.cond rfl (fun hc => ?_) (fun hc => ?_) | refine HC.cond_b rfl (fun hc => ?_) (fun hc => ?_))
      exact HX.cut ((j, l), (a, c), (pa, pc)) ⟨hc, by show l.length ≤ 36; omega, hrs⟩ esA (Hs.refl _)
    · repeat' (first | refine HL.pa ?_ (POp.pnil1 rfl rfl) | refine HL.pa ?_ (POp.pnil0 rfl rfl) | refine HL.pa ?_ (POp.nilCheck rfl) | apply HL.fold | apply HA.fold | apply HL.nil | apply HX.n_then | apply HC.seq | apply HC.region | refine HL.pa ?_ | refine HL.ga rfl ?_ | refine HL.na rfl ?_ | refine HL.nu rfl rfl ?_ | apply HC.block | apply HC.skip | apply HC.exit | apply HC.ret | apply HX.e_block | refine HX.e_other rfl ?_ | apply HX.e_then | apply HX.e_again | apply HX.n_block | apply HX.r_then | apply HX.r_block | apply HX.r_again | refine HC.cond_yes rfl ?_ | refine HC.cond_no rfl ?_ | refine HL.one (H1.ldb rfl memA rfl rfl ?_) | refine HC.cond rfl (fun hc => ?_) (fun hc => ?_) | refine HC.cond_b rfl (fun hc => ?_) (fun hc => ?_))
      exact HX.cut ((j, l), (a, c), (pa, pc)) ⟨hc, by show l.length ≤ 36; omega, hrs⟩ esA (Hs.refl _)
end Go.Sx

