/- Chapter 26: the law JournalSurvives: the walk. -/
import Derived.Test.YtlihcenahjgnmaaGreatDoorKF
import Derived.Test.YtlihcenahjgnmaaGreatDoorKC
import Derived.Test.YtlihcenahjgnmaaGreatDoorJB
import Derived.Test.YtlihcenahjgnmaaGreatDoorHl
namespace Go.Sx
open Go Go.Proofs Go.RowKit
theorem strs_len2 (l : List ByteArray) : (strs l).length = l.length := by simp [strs]
theorem strs_one2 (l : List ByteArray) : ∀ u ∈ strs l, u.oneCell' = true := by
  intro u hu
  obtain ⟨s, -, rfl⟩ := List.mem_map.1 hu
  rfl
theorem strs_app2 (l m : List ByteArray) : strs l ++ strs m = strs (l ++ m) := by simp [strs]
/-- append of a slice of the call's own that is read, onto a literal. -/
theorem H1.appR3 {P : Program} {r : Option Nat} {N : Nat} {ds : List Deferred} {Q : Post} {E : Env} {w0 : World} {H : List Atom} {next : Act → World → Prop} {g : Option (Nat × Bool)} {d : Nat} {t ty : TypeId} {pos : String} {af : Array Edge} {x y : Operand}
    {e : TypeId} {z : Value} {bb n m c c2 : Nat} {a ao : Option Addr} {xs vs : List Value} {H' : Option Addr → Nat → List Atom} [h : UTy P t (.slice e)] [hi : ITy P e z 1 bb] (hzs : z.cells.size = 1) (hvn : vs.length = m)
    (hx : Env.ev E x = some (.slice a n c)) (hy : Env.ev E y = some (.slice ao m c2)) (hr : ∀ a' c', Rpl (A.grow e 1 a c n xs) (A.grow e 1 a' c' (n + m) (xs ++ vs)) H (H' a' c'))
    (hR : ∀ w, Mm w0 H w → Rd w (.slice ao m c2) vs) (h1 : ∀ u ∈ vs, u.oneCell' = true) (hnm : n + m ≤ 1000000) (hb : bb ≤ 1000) (hd : Nat.blt d N = true)
    (ha0 : n = 0 ∨ ∃ b, a = some ⟨b, 0, none⟩) (hn : ∀ a' c', (n + m = 0 ∨ ∃ b, a' = some ⟨b, 0, none⟩) → HN N ds next ((d, .slice a' (n + m) c') :: E) w0 (H' a' c')) :
    H1 P r N ds next ⟨some d, .call ⟨.builtin .append, #[x, y], #[t, t]⟩, ty, pos, af, g⟩ Q E w0 H := by
  subst hvn
  exact H1.appR hzs hx hy hr hR h1 hnm hb hd ha0 hn
/-- One of two slices of the call's own. -/
def Of2 (a : Option Addr) (c : Nat) (l : List ByteArray) (p q : Option Addr × Nat × List ByteArray) : Prop := (a, c, l) = p ∨ (a, c, l) = q
def gS (p : Option Addr × Nat × List ByteArray) : Atom := A.grow 9 1 p.1 p.2.1 p.2.2.length (strs p.2.2)
theorem Of2.rd {w0 w : World} {H : List Atom} {a : Option Addr} {c : Nat} {l : List ByteArray} {p q : Option Addr × Nat × List ByteArray} (h : Of2 a c l p q) (hM : Mm w0 H w) (hp : gS p ∈ H) (hq : gS q ∈ H) : Rd w (.slice a l.length c) (strs l) := by
  rcases h with rfl | rfl
  · exact Mm.gr (e := 9) hM hp
  · exact Mm.gr (e := 9) hM hq
structure SurvI (GG : List (List ByteArray)) (N i : Nat) (j : Jn) (l1 l2 : List ByteArray) : Prop where
  le : i ≤ GG.length
  le8 : i ≤ 8
  cln : i < GG.length ∧ i < 8 → Clean j N l1
  len1 : l1.length ≤ 6 * i
  len2 : l2.length ≤ 6 * i
  sz1 : ∀ r ∈ l1, r.size ≤ 100
  sz2 : ∀ r ∈ l2, r.size ≤ 100
  ends : Ends N l1 l2 j.k
attribute [local irreducible] WC WL WX POp Then Again Fn NX W1 WA WO QL RP RA Yld LoopAt HC HL HX HN H1 HA HO HQ HB HP A.blk A.grow A.rd A.obj A.mp AgainH CutH
attribute [local irreducible] newK needL few26 size26
set_option maxHeartbeats 4000000 in
theorem journalSurvives_fn {w : World} {ea : Addr} (hG : RoundG w) (hE : ErrG ea w) (n cut torn : Int) (v vk : Value) (GG : List (List ByteArray)) (hV : Nat → Value) (K : List Int) (hn1 : -9223372036854775808 ≤ n) (hn2 : n ≤ 9223372036854775807)
    (hc1 : -9223372036854775808 ≤ cut) (hc2 : cut ≤ 9223372036854775807) (ht1 : -9223372036854775808 ≤ torn) (ht2 : torn ≤ 9223372036854775807)
    (hR : RdGS w v GG hV) (hs : ∀ i (hi : i < GG.length), (∀ s ∈ GG[i], s.size ≤ 9223372036854775807) ∧ GG[i].length ≤ 9223372036854775807) (hl : GG.length ≤ 9223372036854775807) (hK : Rd w vk (ints K)) (hKl : K.length ≤ 9223372036854775807) :
    Fn Tryz.prog 5 #[zv n, v, zv cut, vk, zv torn] w fun v w' => v = .bool true ∧ Ext w w' := by
  obtain ⟨N, hN⟩ : ∃ N, N = size26 n := ⟨_, rfl⟩
  have hNb := size26_b n
  rw [← hN] at hNb
  have h0 := clean0 (n := N) hNb.1 (by omega)
  have hrl : ((List.range GG.length).map hV).length = GG.length := by simp
  obtain ⟨a0, c0, rfl, hc0⟩ : ∃ a0 c0, v = .slice a0 GG.length c0 ∧ GG.length ≤ c0 := by
    obtain ⟨a, c, h1, h2, -⟩ := hR.1
    rw [hrl] at h1 h2
    exact ⟨a, c, h1, h2⟩
  obtain ⟨ak, ck, rfl, hck⟩ : ∃ ak ck, vk = .slice ak K.length ck ∧ K.length ≤ ck := by
    obtain ⟨a, c, h1, h2, -⟩ := hK
    rw [ints_len] at h1 h2
    exact ⟨a, c, h1, h2⟩
  refine enterH (l := [_, _, _, _, _]) rfl Tryz.ntmps5 rfl ?_
  repeat' (first | refine HL.pa ?_ (POp.pneN rfl rfl) | refine HL.pa ?_ (POp.pnil1 rfl rfl) | refine HL.pa ?_ (POp.pnil0 rfl rfl) | refine HL.pa ?_ (POp.nilCheck rfl) | apply HL.fold | apply HA.fold | apply HL.nil | apply HX.n_then | apply HC.seq | apply HC.region | refine HL.pa ?_ | refine HL.ga rfl ?_ | refine HL.na rfl ?_ | refine HL.nu rfl rfl ?_ | apply HC.block | apply HC.skip | apply HC.exit | apply HC.ret | apply HX.e_block | refine HX.e_other rfl ?_ | apply HX.e_then | apply HX.e_again | apply HX.n_block | apply HX.r_then | apply HX.r_block | apply HX.r_again | refine HC.cond_yes rfl ?_ | refine HC.cond_no rfl ?_ | refine HL.one (H1.ldb rfl memA rfl rfl ?_) | refine HC.cond rfl (fun hc => ?_) (fun hc => ?_) | refine HC.cond_b rfl (fun hc => ?_) (fun hc => ?_))
  refine HL.one (H1.callx (vs := []) rfl rfl (fun w' hM => sane26_fn (hG.ext hM.ext) (hE.ext hM.ext)) ?_)
  repeat' (first | refine HL.pa ?_ (POp.pneN rfl rfl) | refine HL.pa ?_ (POp.pnil1 rfl rfl) | refine HL.pa ?_ (POp.pnil0 rfl rfl) | refine HL.pa ?_ (POp.nilCheck rfl) | apply HL.fold | apply HA.fold | apply HL.nil | apply HX.n_then | apply HC.seq | apply HC.region | refine HL.pa ?_ | refine HL.ga rfl ?_ | refine HL.na rfl ?_ | refine HL.nu rfl rfl ?_ | apply HC.block | apply HC.skip | apply HC.exit | apply HC.ret | apply HX.e_block | refine HX.e_other rfl ?_ | apply HX.e_then | apply HX.e_again | apply HX.n_block | apply HX.r_then | apply HX.r_block | apply HX.r_again | refine HC.cond_yes rfl ?_ | refine HC.cond_no rfl ?_ | refine HL.one (H1.ldb rfl memA rfl rfl ?_) | refine HC.cond rfl (fun hc => ?_) (fun hc => ?_) | refine HC.cond_b rfl (fun hc => ?_) (fun hc => ?_))
  refine HL.one (H1.call0 (vs := [_]) rfl rfl (fun w' hM => size26_fn n hn1 hn2 w') ?_)
  rw [← hN]
  repeat' (first | refine HL.pa ?_ (POp.pneN rfl rfl) | refine HL.pa ?_ (POp.pnil1 rfl rfl) | refine HL.pa ?_ (POp.pnil0 rfl rfl) | refine HL.pa ?_ (POp.nilCheck rfl) | apply HL.fold | apply HA.fold | apply HL.nil | apply HX.n_then | apply HC.seq | apply HC.region | refine HL.pa ?_ | refine HL.ga rfl ?_ | refine HL.na rfl ?_ | refine HL.nu rfl rfl ?_ | apply HC.block | apply HC.skip | apply HC.exit | apply HC.ret | apply HX.e_block | refine HX.e_other rfl ?_ | apply HX.e_then | apply HX.e_again | apply HX.n_block | apply HX.r_then | apply HX.r_block | apply HX.r_again | refine HC.cond_yes rfl ?_ | refine HC.cond_no rfl ?_ | refine HL.one (H1.ldb rfl memA rfl rfl ?_) | refine HC.cond rfl (fun hc => ?_) (fun hc => ?_) | refine HC.cond_b rfl (fun hc => ?_) (fun hc => ?_))
  refine HL.one (H1.callz (vs := [zv (N : Int)]) rfl rfl (fun w' hM => new_fn N hNb.1 (by omega) w') ?_)
  rintro ⟨bd, b1, b2⟩ -
  dsimp only
  repeat' (first | refine HL.pa ?_ (POp.pneN rfl rfl) | refine HL.pa ?_ (POp.pnil1 rfl rfl) | refine HL.pa ?_ (POp.pnil0 rfl rfl) | refine HL.pa ?_ (POp.nilCheck rfl) | apply HL.fold | apply HA.fold | apply HL.nil | apply HX.n_then | apply HC.seq | apply HC.region | refine HL.pa ?_ | refine HL.ga rfl ?_ | refine HL.na rfl ?_ | refine HL.nu rfl rfl ?_ | apply HC.block | apply HC.skip | apply HC.exit | apply HC.ret | apply HX.e_block | refine HX.e_other rfl ?_ | apply HX.e_then | apply HX.e_again | apply HX.n_block | apply HX.r_then | apply HX.r_block | apply HX.r_again | refine HC.cond_yes rfl ?_ | refine HC.cond_no rfl ?_ | refine HL.one (H1.ldb rfl memA rfl rfl ?_) | refine HC.cond rfl (fun hc => ?_) (fun hc => ?_) | refine HC.cond_b rfl (fun hc => ?_) (fun hc => ?_))
  refine HL.one (H1.callk (α := Nat × (Option Addr × Nat) × (Option Addr × Nat)) (V := fun z => .tuple #[.pointer (some ⟨z.1, 0, none⟩), zv 0]) (I := fun _ => True) (H' := fun z => jnlH z.1 bd b1 b2 z.2.1.1 z.2.1.2 z.2.2.1 z.2.2.2 ⟨t00, newK N, false⟩ []) (vs := [_]) rfl rfl
    (fun w' hM => jopen_ok (h0.opens (fun _ h => by cases h)) hG hE hM h0.ok (by rw [h0.pend]; exact Nat.zero_le _)) ?_)
  rintro ⟨bj, ⟨a, c⟩, ⟨pa, pc⟩⟩ -
  dsimp only
  repeat' (first | refine HL.pa ?_ (POp.pneN rfl rfl) | refine HL.pa ?_ (POp.pnil1 rfl rfl) | refine HL.pa ?_ (POp.pnil0 rfl rfl) | refine HL.pa ?_ (POp.nilCheck rfl) | apply HL.fold | apply HA.fold | apply HL.nil | apply HX.n_then | apply HC.seq | apply HC.region | refine HL.pa ?_ | refine HL.ga rfl ?_ | refine HL.na rfl ?_ | refine HL.nu rfl rfl ?_ | apply HC.skip | apply HC.exit | apply HC.ret | apply HX.e_block | refine HX.e_other rfl ?_ | apply HX.e_then | apply HX.e_again | apply HX.n_block | apply HX.r_then | apply HX.r_block | apply HX.r_again | refine HC.cond_yes rfl ?_ | refine HC.cond_no rfl ?_ | refine HL.one (H1.ldb rfl memA rfl rfl ?_) | refine HC.cond rfl (fun hc => ?_) (fun hc => ?_) | refine HC.cond_b rfl (fun hc => ?_) (fun hc => ?_))
  repeat refine HC.seq ?_
  refine HC.cut (α := Dk × (Option Addr × Nat × List ByteArray) × (Option Addr × Nat × List ByteArray) × (Option Addr × Nat × List ByteArray) × (Option Addr × Nat × List ByteArray) × (Option Addr × Nat))
    (fun z => [(3, .slice ak K.length ck), (4, zv torn), (11, .bool true), (12, .pointer (some ⟨bd, 0, none⟩)), (16, .slice z.2.2.2.1.1 z.2.2.2.1.2.2.length z.2.2.2.1.2.1), (17, .slice z.2.2.2.2.1.1 z.2.2.2.2.1.2.2.length z.2.2.2.2.1.2.1)])
    (fun z => dkH bd b1 b2 z.2.2.2.2.2.1 z.2.2.2.2.2.2 z.1 [gS z.2.1, gS z.2.2.1])
    (fun z => Ends N z.2.2.2.1.2.2 z.2.2.2.2.1.2.2 z.1 ∧ Of2 z.2.2.2.1.1 z.2.2.2.1.2.1 z.2.2.2.1.2.2 z.2.1 z.2.2.1 ∧ Of2 z.2.2.2.2.1.1 z.2.2.2.2.1.2.1 z.2.2.2.2.1.2.2 z.2.1 z.2.2.1 ∧ (z.2.2.2.1.2.2.length ≤ 48 ∧ ∀ r ∈ z.2.2.2.1.2.2, r.size ≤ 100) ∧ z.2.2.2.2.1.2.2.length ≤ 48 ∧ ∀ r ∈ z.2.2.2.2.1.2.2, r.size ≤ 100) ?_ ?_
  rotate_left
  · rintro ⟨k, p, q, ⟨a1, c1, l1⟩, ⟨a2, c2, l2⟩, ⟨pa, pc⟩⟩ ⟨hen, ho1, ho2, ⟨hl1, hs1⟩, hl2, hs2⟩
    dsimp only at hen ho1 ho2 hl1 hs1 hl2 hs2 ⊢
    have hm20 : min (K.length : Int) 20 = ((min K.length 20 : Nat) : Int) := by omega
    obtain ⟨K2, hK2⟩ : ∃ K2, K2 = K.take (min K.length 20) := ⟨_, rfl⟩
    have hK2l : K2.length = min K.length 20 := by rw [hK2, List.length_take]; omega
    obtain ⟨l3, k3, hl3, hop, hcl, hok3, hp3⟩ := hen.opens (fun r h => Nat.le_trans (hs1 r h) (by decide)) (fun r h => Nat.le_trans (hs2 r h) (by decide)) hNb.1 (by omega) K2 torn
    repeat' (first | refine HL.pa ?_ (POp.pneN rfl rfl) | refine HL.pa ?_ (POp.pnil1 rfl rfl) | refine HL.pa ?_ (POp.pnil0 rfl rfl) | refine HL.pa ?_ (POp.nilCheck rfl) | apply HL.fold | apply HA.fold | apply HL.nil | apply HX.n_then | apply HC.seq | apply HC.region | refine HL.pa ?_ | refine HL.ga rfl ?_ | refine HL.na rfl ?_ | refine HL.nu rfl rfl ?_ | apply HC.block | apply HC.skip | apply HC.exit | apply HC.ret | apply HX.e_block | refine HX.e_other rfl ?_ | apply HX.e_then | apply HX.e_again | apply HX.n_block | apply HX.r_then | apply HX.r_block | apply HX.r_again | refine HC.cond_yes rfl ?_ | refine HC.cond_no rfl ?_ | refine HL.one (H1.ldb rfl memA rfl rfl ?_) | refine HC.cond rfl (fun hc => ?_) (fun hc => ?_) | refine HC.cond_b rfl (fun hc => ?_) (fun hc => ?_))
    refine HL.pa ?_ (POp.pre_any rfl rfl (by omega) (by omega))
    rw [hm20, Int.toNat_natCast, ← hK2l]
    repeat' (first | refine HL.pa ?_ (POp.pneN rfl rfl) | refine HL.pa ?_ (POp.pnil1 rfl rfl) | refine HL.pa ?_ (POp.pnil0 rfl rfl) | refine HL.pa ?_ (POp.nilCheck rfl) | apply HL.fold | apply HA.fold | apply HL.nil | apply HX.n_then | apply HC.seq | apply HC.region | refine HL.pa ?_ | refine HL.ga rfl ?_ | refine HL.na rfl ?_ | refine HL.nu rfl rfl ?_ | apply HC.block | apply HC.skip | apply HC.exit | apply HC.ret | apply HX.e_block | refine HX.e_other rfl ?_ | apply HX.e_then | apply HX.e_again | apply HX.n_block | apply HX.r_then | apply HX.r_block | apply HX.r_again | refine HC.cond_yes rfl ?_ | refine HC.cond_no rfl ?_ | refine HL.one (H1.ldb rfl memA rfl rfl ?_) | refine HC.cond rfl (fun hc => ?_) (fun hc => ?_) | refine HC.cond_b rfl (fun hc => ?_) (fun hc => ?_))
    refine HL.one (H1.callk (α := Unit) (V := fun _ => zv 0) (I := fun _ => True) (H' := fun _ => dkH bd b1 b2 pa pc (k.crash K2 torn) [gS p, gS q]) (vs := [_, _, _]) rfl rfl
      (fun w' hM => (crash_fn K2 torn ht1 ht2 hM hen.ok hen.fits (by omega) (fun w2 hM2 => by
        have := (hK.ext hM2.ext).ipre (k := K2.length) (by omega)
        rw [hK2l, ← hK2] at this
        rw [hK2l]
        exact this)).mono fun v w2 h => ⟨(), trivial, h⟩) ?_)
    rintro - -
    generalize k.crash K2 torn = k2 at hop hok3 hp3
    repeat' (first | refine HL.pa ?_ (POp.pneN rfl rfl) | refine HL.pa ?_ (POp.pnil1 rfl rfl) | refine HL.pa ?_ (POp.pnil0 rfl rfl) | refine HL.pa ?_ (POp.nilCheck rfl) | apply HL.fold | apply HA.fold | apply HL.nil | apply HX.n_then | apply HC.seq | apply HC.region | refine HL.pa ?_ | refine HL.ga rfl ?_ | refine HL.na rfl ?_ | refine HL.nu rfl rfl ?_ | apply HC.block | apply HC.skip | apply HC.exit | apply HC.ret | apply HX.e_block | refine HX.e_other rfl ?_ | apply HX.e_then | apply HX.e_again | apply HX.n_block | apply HX.r_then | apply HX.r_block | apply HX.r_again | refine HC.cond_yes rfl ?_ | refine HC.cond_no rfl ?_ | refine HL.one (H1.ldb rfl memA rfl rfl ?_) | refine HC.cond rfl (fun hc => ?_) (fun hc => ?_) | refine HC.cond_b rfl (fun hc => ?_) (fun hc => ?_))
    refine HL.one (H1.callk (α := Nat × (Option Addr × Nat) × (Option Addr × Nat)) (V := fun z => .tuple #[.pointer (some ⟨z.1, 0, none⟩), zv 0]) (I := fun _ => True) (H' := fun z => jnlH z.1 bd b1 b2 z.2.1.1 z.2.1.2 z.2.2.1 z.2.2.2 ⟨adds t00 l3, k3, false⟩ [gS p, gS q]) (vs := [_]) rfl rfl
      (fun w' hM => jopen_ok hop hG hE hM hok3 (by rw [hp3]; exact Nat.zero_le _)) ?_)
    rintro ⟨bk, ⟨a3, c3⟩, ⟨pa3, pc3⟩⟩ -
    dsimp only
    have hrec := adds0_recs l3
    have hl3l : l3.length ≤ 48 := by
      rcases hl3 with rfl | rfl
      · exact hl1
      · exact hl2
    repeat' (first | refine HL.pa ?_ (POp.pneN rfl rfl) | refine HL.pa ?_ (POp.pnil1 rfl rfl) | refine HL.pa ?_ (POp.pnil0 rfl rfl) | refine HL.pa ?_ (POp.nilCheck rfl) | apply HL.fold | apply HA.fold | apply HL.nil | apply HX.n_then | apply HC.seq | apply HC.region | refine HL.pa ?_ | refine HL.ga rfl ?_ | refine HL.na rfl ?_ | refine HL.nu rfl rfl ?_ | apply HC.block | apply HC.skip | apply HC.exit | apply HC.ret | apply HX.e_block | refine HX.e_other rfl ?_ | apply HX.e_then | apply HX.e_again | apply HX.n_block | apply HX.r_then | apply HX.r_block | apply HX.r_again | refine HC.cond_yes rfl ?_ | refine HC.cond_no rfl ?_ | refine HL.one (H1.ldb rfl memA rfl rfl ?_) | refine HC.cond rfl (fun hc => ?_) (fun hc => ?_) | refine HC.cond_b rfl (fun hc => ?_) (fun hc => ?_))
    refine HL.one (H1.callz (α := Option Addr × Nat) (V := fun z => .slice z.1 l3.length z.2) (Hn := fun z => [A.grow 9 1 z.1 z.2 l3.length (strs l3)]) (I := fun _ => True) (vs := [_]) rfl rfl (fun w' hM => by
      have := records2_fn (bj := bk) (bd := bd) (a := a3) (c := c3) (t := adds t00 l3) (br := false) (hM.blk memA) (Mm.gr (e := 9) (a := a3) (c := c3) hM memA) (by rw [hrec]; omega)
      rw [hrec] at this
      exact this) ?_)
    rintro ⟨ax, cx⟩ -
    dsimp only
    repeat' (first | refine HL.pa ?_ (POp.pneN rfl rfl) | refine HL.pa ?_ (POp.pnil1 rfl rfl) | refine HL.pa ?_ (POp.pnil0 rfl rfl) | refine HL.pa ?_ (POp.nilCheck rfl) | apply HL.fold | apply HA.fold | apply HL.nil | apply HX.n_then | apply HC.seq | apply HC.region | refine HL.pa ?_ | refine HL.ga rfl ?_ | refine HL.na rfl ?_ | refine HL.nu rfl rfl ?_ | apply HC.block | apply HC.skip | apply HC.exit | apply HC.ret | apply HX.e_block | refine HX.e_other rfl ?_ | apply HX.e_then | apply HX.e_again | apply HX.n_block | apply HX.r_then | apply HX.r_block | apply HX.r_again | refine HC.cond_yes rfl ?_ | refine HC.cond_no rfl ?_ | refine HL.one (H1.ldb rfl memA rfl rfl ?_) | refine HC.cond rfl (fun hc => ?_) (fun hc => ?_) | refine HC.cond_b rfl (fun hc => ?_) (fun hc => ?_))
    refine HL.one (H1.callx (u := .bool (decide (l3 = l1))) (vs := [_, _]) rfl rfl (fun w' hM =>
      same26_fn (.slice ax l3.length cx) (.slice a1 l1.length c1) l3 l1 (by omega) (by omega) w' (Mm.gr (e := 9) (a := ax) (c := cx) hM (.head _)) (ho1.rd hM memA memA)) ?_)
    by_cases h31 : l3 = l1
    · rw [decide_eq_true h31]
      repeat' (first | refine HL.pa ?_ (POp.pneN rfl rfl) | refine HL.pa ?_ (POp.pnil1 rfl rfl) | refine HL.pa ?_ (POp.pnil0 rfl rfl) | refine HL.pa ?_ (POp.nilCheck rfl) | apply HL.fold | apply HA.fold | apply HL.nil | apply HX.n_then | apply HC.seq | apply HC.region | refine HL.pa ?_ | refine HL.ga rfl ?_ | refine HL.na rfl ?_ | refine HL.nu rfl rfl ?_ | apply HC.block | apply HC.skip | apply HC.exit | apply HC.ret | apply HX.e_block | refine HX.e_other rfl ?_ | apply HX.e_then | apply HX.e_again | apply HX.n_block | apply HX.r_then | apply HX.r_block | apply HX.r_again | refine HC.cond_yes rfl ?_ | refine HC.cond_no rfl ?_ | refine HL.one (H1.ldb rfl memA rfl rfl ?_) | refine HC.cond rfl (fun hc => ?_) (fun hc => ?_) | refine HC.cond_b rfl (fun hc => ?_) (fun hc => ?_))
      exact HX.ret1 rfl rfl fun w' hM => ⟨rfl, hM.ext⟩
    · have h32 : l3 = l2 := hl3.resolve_left h31
      rw [decide_eq_false h31]
      repeat' (first | refine HL.pa ?_ (POp.pneN rfl rfl) | refine HL.pa ?_ (POp.pnil1 rfl rfl) | refine HL.pa ?_ (POp.pnil0 rfl rfl) | refine HL.pa ?_ (POp.nilCheck rfl) | apply HL.fold | apply HA.fold | apply HL.nil | apply HX.n_then | apply HC.seq | apply HC.region | refine HL.pa ?_ | refine HL.ga rfl ?_ | refine HL.na rfl ?_ | refine HL.nu rfl rfl ?_ | apply HC.block | apply HC.skip | apply HC.exit | apply HC.ret | apply HX.e_block | refine HX.e_other rfl ?_ | apply HX.e_then | apply HX.e_again | apply HX.n_block | apply HX.r_then | apply HX.r_block | apply HX.r_again | refine HC.cond_yes rfl ?_ | refine HC.cond_no rfl ?_ | refine HL.one (H1.ldb rfl memA rfl rfl ?_) | refine HC.cond rfl (fun hc => ?_) (fun hc => ?_) | refine HC.cond_b rfl (fun hc => ?_) (fun hc => ?_))
      refine HL.one (H1.callz (α := Option Addr × Nat) (V := fun z => .slice z.1 l3.length z.2) (Hn := fun z => [A.grow 9 1 z.1 z.2 l3.length (strs l3)]) (I := fun _ => True) (vs := [_]) rfl rfl (fun w' hM => by
        have := records2_fn (bj := bk) (bd := bd) (a := a3) (c := c3) (t := adds t00 l3) (br := false) (hM.blk memA) (Mm.gr (e := 9) (a := a3) (c := c3) hM memA) (by rw [hrec]; omega)
        rw [hrec] at this
        exact this) ?_)
      rintro ⟨ay, cy⟩ -
      dsimp only
      repeat' (first | refine HL.pa ?_ (POp.pneN rfl rfl) | refine HL.pa ?_ (POp.pnil1 rfl rfl) | refine HL.pa ?_ (POp.pnil0 rfl rfl) | refine HL.pa ?_ (POp.nilCheck rfl) | apply HL.fold | apply HA.fold | apply HL.nil | apply HX.n_then | apply HC.seq | apply HC.region | refine HL.pa ?_ | refine HL.ga rfl ?_ | refine HL.na rfl ?_ | refine HL.nu rfl rfl ?_ | apply HC.block | apply HC.skip | apply HC.exit | apply HC.ret | apply HX.e_block | refine HX.e_other rfl ?_ | apply HX.e_then | apply HX.e_again | apply HX.n_block | apply HX.r_then | apply HX.r_block | apply HX.r_again | refine HC.cond_yes rfl ?_ | refine HC.cond_no rfl ?_ | refine HL.one (H1.ldb rfl memA rfl rfl ?_) | refine HC.cond rfl (fun hc => ?_) (fun hc => ?_) | refine HC.cond_b rfl (fun hc => ?_) (fun hc => ?_))
      refine HL.one (H1.callx (u := .bool (decide (l3 = l2))) (vs := [_, _]) rfl rfl (fun w' hM =>
        same26_fn (.slice ay l3.length cy) (.slice a2 l2.length c2) l3 l2 (by omega) (by omega) w' (Mm.gr (e := 9) (a := ay) (c := cy) hM (.head _)) (ho2.rd hM memA memA)) ?_)
      rw [decide_eq_true h32]
      repeat' (first | refine HL.pa ?_ (POp.pneN rfl rfl) | refine HL.pa ?_ (POp.pnil1 rfl rfl) | refine HL.pa ?_ (POp.pnil0 rfl rfl) | refine HL.pa ?_ (POp.nilCheck rfl) | apply HL.fold | apply HA.fold | apply HL.nil | apply HX.n_then | apply HC.seq | apply HC.region | refine HL.pa ?_ | refine HL.ga rfl ?_ | refine HL.na rfl ?_ | refine HL.nu rfl rfl ?_ | apply HC.block | apply HC.skip | apply HC.exit | apply HC.ret | apply HX.e_block | refine HX.e_other rfl ?_ | apply HX.e_then | apply HX.e_again | apply HX.n_block | apply HX.r_then | apply HX.r_block | apply HX.r_again | refine HC.cond_yes rfl ?_ | refine HC.cond_no rfl ?_ | refine HL.one (H1.ldb rfl memA rfl rfl ?_) | refine HC.cond rfl (fun hc => ?_) (fun hc => ?_) | refine HC.cond_b rfl (fun hc => ?_) (fun hc => ?_))
      exact HX.ret1 rfl rfl fun w' hM => ⟨rfl, hM.ext⟩
  refine HC.block ?_
  refine HC.grow0 9 1 (HC.grow0 9 1 ?_)
  refine HC.loop (α := Nat × Jn × (Option Addr × Nat × List ByteArray) × (Option Addr × Nat × List ByteArray) × (Option Addr × Nat × List ByteArray) × (Option Addr × Nat × List ByteArray) × (Option Addr × Nat) × (Option Addr × Nat))
    (fun z => [(1, .slice a0 GG.length c0), (2, zv cut), (3, .slice ak K.length ck), (4, zv torn), (11, .bool true), (12, .pointer (some ⟨bd, 0, none⟩)), (14, .pointer (some ⟨bj, 0, none⟩)), (16, .slice z.2.2.2.2.1.1 z.2.2.2.2.1.2.2.length z.2.2.2.2.1.2.1), (17, .slice z.2.2.2.2.2.1.1 z.2.2.2.2.2.1.2.2.length z.2.2.2.2.2.1.2.1), (18, zv (z.1 : Int))])
    (fun z => jnlH bj bd b1 b2 z.2.2.2.2.2.2.1.1 z.2.2.2.2.2.2.1.2 z.2.2.2.2.2.2.2.1 z.2.2.2.2.2.2.2.2 z.2.1 [gS z.2.2.1, gS z.2.2.2.1])
    (fun z => SurvI GG N z.1 z.2.1 z.2.2.2.2.1.2.2 z.2.2.2.2.2.1.2.2 ∧ Of2 z.2.2.2.2.1.1 z.2.2.2.2.1.2.1 z.2.2.2.2.1.2.2 z.2.2.1 z.2.2.2.1 ∧ Of2 z.2.2.2.2.2.1.1 z.2.2.2.2.2.1.2.1 z.2.2.2.2.2.1.2.2 z.2.2.1 z.2.2.2.1)
    (fun z => 8 - z.1) (0, ⟨t00, newK N, false⟩, (none, 0, []), (none, 0, []), (none, 0, []), (none, 0, []), (a, c), (pa, pc))
    ⟨⟨Nat.zero_le _, Nat.zero_le _, fun _ => h0, Nat.zero_le _, Nat.zero_le _, (fun _ h => by cases h), (fun _ h => by cases h), h0.half.ends⟩, .inl rfl, .inl rfl⟩ esA (Hs.cons (Pick.there (Pick.there Pick.here)) (Hs.cons (Pick.there (Pick.there Pick.here)) (Hs.cons (Pick.there (Pick.there Pick.here)) (Hs.cons (Pick.there (Pick.there Pick.here)) (Hs.cons (Pick.there (Pick.there Pick.here)) (Hs.cons (Pick.there (Pick.there Pick.here)) (Hs.refl _))))))) ?_
  rintro ⟨i, j, p, q, ⟨a1, c1, l1⟩, ⟨a2, c2, l2⟩, ⟨a, c⟩, ⟨pa, pc⟩⟩ ⟨hI, ho1, ho2⟩
  dsimp only at hI ho1 ho2 ⊢
  have hi := hI.le
  have h8 := hI.le8
  by_cases hlt : i < GG.length ∧ i < 8
  rotate_left
  · by_cases hin : i < GG.length
    · have hn8 : ¬ i < 8 := fun h => hlt ⟨hin, h⟩
      repeat' (first | refine HL.pa ?_ (POp.pneN rfl rfl) | refine HL.pa ?_ (POp.pnil1 rfl rfl) | refine HL.pa ?_ (POp.pnil0 rfl rfl) | refine HL.pa ?_ (POp.nilCheck rfl) | apply HL.fold | apply HA.fold | apply HL.nil | apply HX.n_then | apply HC.seq | apply HC.region | refine HL.pa ?_ | refine HL.ga rfl ?_ | refine HL.na rfl ?_ | refine HL.nu rfl rfl ?_ | apply HC.block | apply HC.skip | apply HC.exit | apply HC.ret | apply HX.e_block | refine HX.e_other rfl ?_ | apply HX.e_then | apply HX.e_again | apply HX.n_block | apply HX.r_then | apply HX.r_block | apply HX.r_again | refine HC.cond_yes rfl ?_ | refine HC.cond_no rfl ?_ | refine HL.one (H1.ldb rfl memA rfl rfl ?_) | refine HC.cond rfl (fun hc => ?_) (fun hc => ?_) | refine HC.cond_b rfl (fun hc => ?_) (fun hc => ?_))
      exact HX.cut (j.k, p, q, (a1, c1, l1), (a2, c2, l2), (pa, pc)) ⟨hI.ends, ho1, ho2, ⟨Nat.le_trans hI.len1 (by omega), hI.sz1⟩, Nat.le_trans hI.len2 (by omega), hI.sz2⟩ esA (Hs.refl _).skip.skip
    · repeat' (first | refine HL.pa ?_ (POp.pneN rfl rfl) | refine HL.pa ?_ (POp.pnil1 rfl rfl) | refine HL.pa ?_ (POp.pnil0 rfl rfl) | refine HL.pa ?_ (POp.nilCheck rfl) | apply HL.fold | apply HA.fold | apply HL.nil | apply HX.n_then | apply HC.seq | apply HC.region | refine HL.pa ?_ | refine HL.ga rfl ?_ | refine HL.na rfl ?_ | refine HL.nu rfl rfl ?_ | apply HC.block | apply HC.skip | apply HC.exit | apply HC.ret | apply HX.e_block | refine HX.e_other rfl ?_ | apply HX.e_then | apply HX.e_again | apply HX.n_block | apply HX.r_then | apply HX.r_block | apply HX.r_again | refine HC.cond_yes rfl ?_ | refine HC.cond_no rfl ?_ | refine HL.one (H1.ldb rfl memA rfl rfl ?_) | refine HC.cond rfl (fun hc => ?_) (fun hc => ?_) | refine HC.cond_b rfl (fun hc => ?_) (fun hc => ?_))
      exact HX.cut (j.k, p, q, (a1, c1, l1), (a2, c2, l2), (pa, pc)) ⟨hI.ends, ho1, ho2, ⟨Nat.le_trans hI.len1 (by omega), hI.sz1⟩, Nat.le_trans hI.len2 (by omega), hI.sz2⟩ esA (Hs.refl _).skip.skip
  obtain ⟨hlt, hl8⟩ := hlt
  have hc := hI.cln ⟨hlt, hl8⟩
  have hll := hI.len1
  have hrs := hI.sz1
  clear ho1 ho2 hI
  obtain ⟨b, off, hab, hcell⟩ : ∃ b off, a0 = some ⟨b, off, none⟩ ∧ w.cell? ⟨b, off + i, none⟩ = some (hV i) := by
    obtain ⟨a', c', h1, h2, h3⟩ := hR.1
    injection h1 with h1 _ _
    subst h1
    rcases h3 with h3 | ⟨b, off, h4, -, h5⟩
    · rw [h3] at hrl; simp at hrl; omega
    · exact ⟨b, off, h4, h5 i (hV i) (by simp [hlt])⟩
  subst hab
  have hsl := hs i hlt
  have hRi := hR.2 i hlt
  generalize GG[i] = gi at hsl hRi
  obtain ⟨G, hGd⟩ : ∃ G, G = few26 gi := ⟨_, rfl⟩
  have hneed := few_need2 gi
  have hlong := few_long2 gi
  have hlen := few26_len gi
  have hsz := few26_size gi
  rw [← hGd] at hneed hlong hlen hsz
  have hrec := hc.recs
  repeat' (first | refine HL.pa ?_ (POp.pneN rfl rfl) | refine HL.pa ?_ (POp.pnil1 rfl rfl) | refine HL.pa ?_ (POp.pnil0 rfl rfl) | refine HL.pa ?_ (POp.nilCheck rfl) | apply HL.fold | apply HA.fold | apply HL.nil | apply HX.n_then | apply HC.seq | apply HC.region | refine HL.pa ?_ | refine HL.ga rfl ?_ | refine HL.na rfl ?_ | refine HL.nu rfl rfl ?_ | apply HC.block | apply HC.skip | apply HC.exit | apply HC.ret | apply HX.e_block | refine HX.e_other rfl ?_ | apply HX.e_then | apply HX.e_again | apply HX.n_block | apply HX.r_then | apply HX.r_block | apply HX.r_again | refine HC.cond_yes rfl ?_ | refine HC.cond_no rfl ?_ | refine HL.one (H1.ldb rfl memA rfl rfl ?_) | refine HC.cond rfl (fun hc => ?_) (fun hc => ?_) | refine HC.cond_b rfl (fun hc => ?_) (fun hc => ?_))
  refine HL.one (H1.callz (α := Option Addr × Nat) (V := fun z => .slice z.1 l1.length z.2) (Hn := fun z => [A.grow 9 1 z.1 z.2 l1.length (strs l1)]) (I := fun _ => True) (vs := [_]) rfl rfl (fun w' hM => by
    have := records2_fn (bj := bj) (bd := bd) (a := a) (c := c) (t := j.t) (br := j.br) (hM.blk memA) (Mm.gr (e := 9) (a := a) (c := c) hM memA) (by rw [hrec]; omega)
    rw [hrec] at this
    exact this) ?_)
  rintro ⟨ax, cx⟩ -
  dsimp only
  repeat' (first | refine HL.pa ?_ (POp.pneN rfl rfl) | refine HL.pa ?_ (POp.pnil1 rfl rfl) | refine HL.pa ?_ (POp.pnil0 rfl rfl) | refine HL.pa ?_ (POp.nilCheck rfl) | apply HL.fold | apply HA.fold | apply HL.nil | apply HX.n_then | apply HC.seq | apply HC.region | refine HL.pa ?_ | refine HL.ga rfl ?_ | refine HL.na rfl ?_ | refine HL.nu rfl rfl ?_ | apply HC.block | apply HC.skip | apply HC.exit | apply HC.ret | apply HX.e_block | refine HX.e_other rfl ?_ | apply HX.e_then | apply HX.e_again | apply HX.n_block | apply HX.r_then | apply HX.r_block | apply HX.r_again | refine HC.cond_yes rfl ?_ | refine HC.cond_no rfl ?_ | refine HL.one (H1.ldb rfl memA rfl rfl ?_) | refine HC.cond rfl (fun hc => ?_) (fun hc => ?_) | refine HC.cond_b rfl (fun hc => ?_) (fun hc => ?_))
  refine HC.sub [(1, .slice (some ⟨b, off, none⟩) GG.length c0), (2, zv cut), (3, .slice ak K.length ck), (4, zv torn), (11, .bool true), (12, .pointer (some ⟨bd, 0, none⟩)), (14, .pointer (some ⟨bj, 0, none⟩)), (16, .slice ax l1.length cx), (18, zv (i : Int))] (jnlH bj bd b1 b2 a c pa pc j [A.grow 9 1 ax cx l1.length (strs l1)]) ?_ esA (Hs.cons (Pick.there Pick.here) (Hs.cons (Pick.there Pick.here) (Hs.cons (Pick.there Pick.here) (Hs.cons (Pick.there Pick.here) (Hs.cons (Pick.there Pick.here) (Hs.cons (Pick.there Pick.here) (Hs.cons Pick.here (Hs.nil _)))))))) 
  refine HC.cut (α := Option Addr × Nat) (fun z => [(1, .slice (some ⟨b, off, none⟩) GG.length c0), (2, zv cut), (3, .slice ak K.length ck), (4, zv torn), (11, .bool true), (12, .pointer (some ⟨bd, 0, none⟩)), (14, .pointer (some ⟨bj, 0, none⟩)), (16, .slice ax l1.length cx), (17, .slice z.1 (l1 ++ G).length z.2), (18, zv (i : Int))]) (fun z => jnlH bj bd b1 b2 a c pa pc j [A.grow 9 1 z.1 z.2 (l1 ++ G).length (strs (l1 ++ G)), A.grow 9 1 ax cx l1.length (strs l1)]) (fun _ => True) ?_ ?_
  · refine HC.anyC ([(⟨b, off + i, none⟩, hV i)]) rfl ?_
    refine HB.pa 1 rfl ?_
    refine HB.pa 3 rfl ?_
    refine HB.pa 4 rfl ?_
    refine HB.pa 5 rfl ?_
    refine HB.ld 6 rfl rfl memD ?_
    refine HB.all (by (exact Keep.base hcell Keep.nil)) [0] (by kernel_rfl) rfl ⟨⟨_, rfl, ?_⟩, trivial⟩
    refine HP.one ?_
    refine H1.lit0 rfl (fun b9 => ?_)
    apply HB.fold
    refine HB.all (by (exact Keep.base hcell Keep.nil)) [2] (by kernel_rfl) rfl ⟨⟨_, rfl, ?_⟩, trivial⟩
    refine HP.one ?_
    refine H1.appR3 (n := 0) (m := l1.length) (vs := strs l1) rfl (strs_len2 l1) rfl rfl (fun _ _ => by first | ((repeat (first | with_reducible exact Rpl.here | with_reducible apply Rpl.there)); done) | (repeat (first | exact Rpl.here | apply Rpl.there))) (fun w' hM => Mm.gr (e := 9) (a := ax) (c := cx) hM memA) (strs_one2 l1) (by omega) (by decide) rfl (.inl rfl) (fun a3 c3 ha3 => ?_)
    rw [Nat.zero_add, List.nil_append]
    apply HB.fold
    refine HB.all (by (exact Keep.base hcell Keep.nil)) [7] (by kernel_rfl) rfl ⟨⟨_, rfl, ?_⟩, trivial⟩
    refine HP.one ?_
    refine H1.callz (vs := [_]) rfl rfl (fun w' hM => few26_fn (hV i) gi hsl.1 hsl.2 w' (hRi.ext hM.ext)) ?_
    rw [← hGd]
    rintro ⟨a9, c9⟩ -
    dsimp only
    apply HB.fold
    refine HB.all (by (exact Keep.base hcell Keep.nil)) [8] (by kernel_rfl) rfl ⟨⟨_, rfl, ?_⟩, trivial⟩
    refine HP.one ?_
    refine H1.appR3 (n := l1.length) (m := G.length) (xs := strs l1) (vs := strs G) rfl (strs_len2 G) rfl rfl (fun _ _ => by first | ((repeat (first | with_reducible exact Rpl.here | with_reducible apply Rpl.there)); done) | (repeat (first | exact Rpl.here | apply Rpl.there))) (fun w' hM => Mm.gr (e := 9) (a := a9) (c := c9) hM memA) (strs_one2 G) (by omega) (by decide) rfl (by rw [Nat.zero_add] at ha3; exact ha3) (fun a4 c4 _ => ?_)
    rw [strs_app2, ← List.length_append]
    apply HB.fold
    refine HB.pa 9 rfl ?_
    refine HB.done (by (exact Keep.base hcell Keep.nil)) (by kernel_rfl) ?_
    repeat' (first | refine HL.pa ?_ (POp.pneN rfl rfl) | refine HL.pa ?_ (POp.pnil1 rfl rfl) | refine HL.pa ?_ (POp.pnil0 rfl rfl) | refine HL.pa ?_ (POp.nilCheck rfl) | apply HL.fold | apply HA.fold | apply HL.nil | apply HX.n_then | apply HC.seq | apply HC.region | refine HL.pa ?_ | refine HL.ga rfl ?_ | refine HL.na rfl ?_ | refine HL.nu rfl rfl ?_ | apply HC.block | apply HC.skip | apply HC.exit | apply HC.ret | apply HX.e_block | refine HX.e_other rfl ?_ | apply HX.e_then | apply HX.e_again | apply HX.n_block | apply HX.r_then | apply HX.r_block | apply HX.r_again | refine HC.cond_yes rfl ?_ | refine HC.cond_no rfl ?_ | refine HL.one (H1.ldb rfl memA rfl rfl ?_) | refine HC.cond rfl (fun hc => ?_) (fun hc => ?_) | refine HC.cond_b rfl (fun hc => ?_) (fun hc => ?_))
    exact HX.cut (a4, c4) trivial esA (by repeat (first | exact Hs.nil _ | (refine Hs.cons pickA ?_)))
  rintro ⟨aw, cw⟩ -
  dsimp only
  obtain ⟨last, hlast⟩ : ∃ last, last = decide (i + 1 = GG.length ∨ i = 7) := ⟨_, rfl⟩
  repeat refine HC.seq ?_
  refine HC.cut (α := Unit) (fun _ => [(1, .slice (some ⟨b, off, none⟩) GG.length c0), (2, zv cut), (3, .slice ak K.length ck), (4, zv torn), (11, .bool true), (12, .pointer (some ⟨bd, 0, none⟩)), (14, .pointer (some ⟨bj, 0, none⟩)), (16, .slice ax l1.length cx), (17, .slice aw (l1 ++ G).length cw), (18, zv (i : Int)), (19, .bool last)]) (fun _ => jnlH bj bd b1 b2 a c pa pc j [A.grow 9 1 aw cw (l1 ++ G).length (strs (l1 ++ G)), A.grow 9 1 ax cx l1.length (strs l1)]) (fun _ => True) ?_ ?_
  · by_cases hA : (i : Int) = (GG.length : Int) - 1
    · obtain rfl : last = true := by rw [hlast]; exact decide_eq_true (.inl (by omega))
      repeat' (first | refine HL.pa ?_ (POp.pneN rfl rfl) | refine HL.pa ?_ (POp.pnil1 rfl rfl) | refine HL.pa ?_ (POp.pnil0 rfl rfl) | refine HL.pa ?_ (POp.nilCheck rfl) | apply HL.fold | apply HA.fold | apply HL.nil | apply HX.n_then | apply HC.seq | apply HC.region | refine HL.pa ?_ | refine HL.ga rfl ?_ | refine HL.na rfl ?_ | refine HL.nu rfl rfl ?_ | apply HC.block | apply HC.skip | apply HC.exit | apply HC.ret | apply HX.e_block | refine HX.e_other rfl ?_ | apply HX.e_then | apply HX.e_again | apply HX.n_block | apply HX.r_then | apply HX.r_block | apply HX.r_again | refine HC.cond_yes rfl ?_ | refine HC.cond_no rfl ?_ | refine HL.one (H1.ldb rfl memA rfl rfl ?_) | refine HC.cond rfl (fun hc => ?_) (fun hc => ?_) | refine HC.cond_b rfl (fun hc => ?_) (fun hc => ?_))
      exact HX.cut () trivial esA (Hs.refl _)
    · have e7 : last = decide ((i : Int) = 7) := by rw [hlast]; exact decide_eq_decide.2 (by omega)
      rw [e7]
      repeat' (first | refine HL.pa ?_ (POp.pneN rfl rfl) | refine HL.pa ?_ (POp.pnil1 rfl rfl) | refine HL.pa ?_ (POp.pnil0 rfl rfl) | refine HL.pa ?_ (POp.nilCheck rfl) | apply HL.fold | apply HA.fold | apply HL.nil | apply HX.n_then | apply HC.seq | apply HC.region | refine HL.pa ?_ | refine HL.ga rfl ?_ | refine HL.na rfl ?_ | refine HL.nu rfl rfl ?_ | apply HC.block | apply HC.skip | apply HC.exit | apply HC.ret | apply HX.e_block | refine HX.e_other rfl ?_ | apply HX.e_then | apply HX.e_again | apply HX.n_block | apply HX.r_then | apply HX.r_block | apply HX.r_again | refine HC.cond_yes rfl ?_ | refine HC.cond_no rfl ?_ | refine HL.one (H1.ldb rfl memA rfl rfl ?_) | refine HC.cond rfl (fun hc => ?_) (fun hc => ?_) | refine HC.cond_b rfl (fun hc => ?_) (fun hc => ?_))
      exact HX.cut () trivial esA (Hs.refl _)
  rintro - -
  repeat' (first | refine HL.pa ?_ (POp.pneN rfl rfl) | refine HL.pa ?_ (POp.pnil1 rfl rfl) | refine HL.pa ?_ (POp.pnil0 rfl rfl) | refine HL.pa ?_ (POp.nilCheck rfl) | apply HL.fold | apply HA.fold | apply HL.nil | apply HX.n_then | apply HC.seq | apply HC.region | refine HL.pa ?_ | refine HL.ga rfl ?_ | refine HL.na rfl ?_ | refine HL.nu rfl rfl ?_ | apply HC.block | apply HC.skip | apply HC.exit | apply HC.ret | apply HX.e_block | refine HX.e_other rfl ?_ | apply HX.e_then | apply HX.e_again | apply HX.n_block | apply HX.r_then | apply HX.r_block | apply HX.r_again | refine HC.cond_yes rfl ?_ | refine HC.cond_no rfl ?_ | refine HL.one (H1.ldb rfl memA rfl rfl ?_))
  repeat refine HC.seq ?_
  refine HC.cut (α := Dk) (fun _ => [(1, .slice (some ⟨b, off, none⟩) GG.length c0), (2, zv cut), (3, .slice ak K.length ck), (4, zv torn), (11, .bool true), (12, .pointer (some ⟨bd, 0, none⟩)), (14, .pointer (some ⟨bj, 0, none⟩)), (16, .slice ax l1.length cx), (17, .slice aw (l1 ++ G).length cw), (18, zv (i : Int)), (19, .bool last)]) (fun k => jnlH bj bd b1 b2 a c pa pc ⟨j.t, k, j.br⟩ [A.grow 9 1 aw cw (l1 ++ G).length (strs (l1 ++ G)), A.grow 9 1 ax cx l1.length (strs l1)]) (fun k => Half k N l1 ∧ (last = false → Clean ⟨j.t, k, j.br⟩ N l1)) ?_ ?_
  · cases last with
    | false =>
      repeat' (first | refine HL.pa ?_ (POp.pneN rfl rfl) | refine HL.pa ?_ (POp.pnil1 rfl rfl) | refine HL.pa ?_ (POp.pnil0 rfl rfl) | refine HL.pa ?_ (POp.nilCheck rfl) | apply HL.fold | apply HA.fold | apply HL.nil | apply HX.n_then | apply HC.seq | apply HC.region | refine HL.pa ?_ | refine HL.ga rfl ?_ | refine HL.na rfl ?_ | refine HL.nu rfl rfl ?_ | apply HC.block | apply HC.skip | apply HC.exit | apply HC.ret | apply HX.e_block | refine HX.e_other rfl ?_ | apply HX.e_then | apply HX.e_again | apply HX.n_block | apply HX.r_then | apply HX.r_block | apply HX.r_again | refine HC.cond_yes rfl ?_ | refine HC.cond_no rfl ?_ | refine HL.one (H1.ldb rfl memA rfl rfl ?_) | refine HC.cond rfl (fun hc => ?_) (fun hc => ?_) | refine HC.cond_b rfl (fun hc => ?_) (fun hc => ?_))
      exact HX.cut j.k ⟨hc.half, fun _ => hc⟩ esA (Hs.refl _)
    | true =>
      obtain ⟨m, hm, hm3⟩ : ∃ m : Nat, 1 + pk cut 3 = (m : Int) ∧ m ≤ 3 := ⟨(1 + pk cut 3).toNat, by have := pk_lt cut (n := 3) (by decide); omega⟩
      have hcut := cut_ok2 hc.ok hc.off m (by omega)
      repeat' (first | refine HL.pa ?_ (POp.pneN rfl rfl) | refine HL.pa ?_ (POp.pnil1 rfl rfl) | refine HL.pa ?_ (POp.pnil0 rfl rfl) | refine HL.pa ?_ (POp.nilCheck rfl) | apply HL.fold | apply HA.fold | apply HL.nil | apply HX.n_then | apply HC.seq | apply HC.region | refine HL.pa ?_ | refine HL.ga rfl ?_ | refine HL.na rfl ?_ | refine HL.nu rfl rfl ?_ | apply HC.block | apply HC.skip | apply HC.exit | apply HC.ret | apply HX.e_block | refine HX.e_other rfl ?_ | apply HX.e_then | apply HX.e_again | apply HX.n_block | apply HX.r_then | apply HX.r_block | apply HX.r_again | refine HC.cond_yes rfl ?_ | refine HC.cond_no rfl ?_ | refine HL.one (H1.ldb rfl memA rfl rfl ?_) | refine HC.cond rfl (fun hc => ?_) (fun hc => ?_) | refine HC.cond_b rfl (fun hc => ?_) (fun hc => ?_))
      refine HL.one (H1.call0 (vs := [_, zv 3]) rfl rfl (fun w' hM => pick26_fn cut 3 hc1 hc2 (by decide) w') ?_)
      repeat' (first | refine HL.pa ?_ (POp.pneN rfl rfl) | refine HL.pa ?_ (POp.pnil1 rfl rfl) | refine HL.pa ?_ (POp.pnil0 rfl rfl) | refine HL.pa ?_ (POp.nilCheck rfl) | apply HL.fold | apply HA.fold | apply HL.nil | apply HX.n_then | apply HC.seq | apply HC.region | refine HL.pa ?_ | refine HL.ga rfl ?_ | refine HL.na rfl ?_ | refine HL.nu rfl rfl ?_ | apply HC.block | apply HC.skip | apply HC.exit | apply HC.ret | apply HX.e_block | refine HX.e_other rfl ?_ | apply HX.e_then | apply HX.e_again | apply HX.n_block | apply HX.r_then | apply HX.r_block | apply HX.r_again | refine HC.cond_yes rfl ?_ | refine HC.cond_no rfl ?_ | refine HL.one (H1.ldb rfl memA rfl rfl ?_) | refine HC.cond rfl (fun hc => ?_) (fun hc => ?_) | refine HC.cond_b rfl (fun hc => ?_) (fun hc => ?_))
      rw [hm]
      refine HL.one (H1.callk (α := Unit) (V := fun _ => zv 0) (I := fun _ => True) (H' := fun _ => jnlH bj bd b1 b2 a c pa pc ⟨j.t, (j.k.cut m).2, j.br⟩ [A.grow 9 1 aw cw (l1 ++ G).length (strs (l1 ++ G)), A.grow 9 1 ax cx l1.length (strs l1)]) (vs := [_, zv (m : Int)]) rfl rfl
        (fun w' hM => (cut_fn (k := j.k) m (hM.sub (Hs.cons (Pick.there (Pick.there Pick.here)) (Hs.cons (Pick.there (Pick.there Pick.here)) (Hs.cons (Pick.there (Pick.there Pick.here)) (Hs.cons (Pick.there (Pick.there Pick.here)) (Hs.refl _))))))).mono fun v w2 h => ⟨(), trivial, by rw [h.1, hcut.2.2.2.2.1], h.2.sub (Hs.cons (Pick.there (Pick.there (Pick.there (Pick.there Pick.here)))) (Hs.cons (Pick.there (Pick.there (Pick.there (Pick.there Pick.here)))) (Hs.refl _)))⟩) ?_)
      rintro - -
      repeat' (first | refine HL.pa ?_ (POp.pneN rfl rfl) | refine HL.pa ?_ (POp.pnil1 rfl rfl) | refine HL.pa ?_ (POp.pnil0 rfl rfl) | refine HL.pa ?_ (POp.nilCheck rfl) | apply HL.fold | apply HA.fold | apply HL.nil | apply HX.n_then | apply HC.seq | apply HC.region | refine HL.pa ?_ | refine HL.ga rfl ?_ | refine HL.na rfl ?_ | refine HL.nu rfl rfl ?_ | apply HC.block | apply HC.skip | apply HC.exit | apply HC.ret | apply HX.e_block | refine HX.e_other rfl ?_ | apply HX.e_then | apply HX.e_again | apply HX.n_block | apply HX.r_then | apply HX.r_block | apply HX.r_again | refine HC.cond_yes rfl ?_ | refine HC.cond_no rfl ?_ | refine HL.one (H1.ldb rfl memA rfl rfl ?_) | refine HC.cond rfl (fun hc => ?_) (fun hc => ?_) | refine HC.cond_b rfl (fun hc => ?_) (fun hc => ?_))
      exact HX.cut (j.k.cut m).2 ⟨hc.half.cut m (by omega), fun h => by cases h⟩ esA (Hs.refl _)
  rintro k ⟨hhk, hcl⟩
  obtain ⟨e, j2, hap, hcase⟩ := surv_step (j := ⟨j.t, k, j.br⟩) (G := G) hc.t hc.br hhk hcl hlong
  have hjok : JOk ⟨j.t, k, j.br⟩ := ⟨hhk.ok, by show k.pend.length ≤ 9000; rw [hhk.pend]; exact Nat.zero_le _, by show j.t.size ≤ k.dur.length; rw [hhk.dur, hhk.len]; exact hc.fit, by show j.t.recs.length ≤ 90000; rw [hrec]; omega, by show j.t.head.size ≤ 32; rw [hc.t]; exact adds_head _ _ (Nat.le_refl _)⟩
  have hlg : (l1 ++ G).length ≤ 6 * (i + 1) := by rw [List.length_append]; omega
  have hsg : ∀ r ∈ l1 ++ G, r.size ≤ 100 := by
    intro r hr
    rcases List.mem_append.1 hr with hr | hr
    · exact hrs r hr
    · exact hsz r hr
  have hnl : i + 1 < GG.length ∧ i + 1 < 8 → last = false := fun h => by rw [hlast]; exact decide_eq_false (by omega)
  repeat' (first | refine HL.pa ?_ (POp.pneN rfl rfl) | refine HL.pa ?_ (POp.pnil1 rfl rfl) | refine HL.pa ?_ (POp.pnil0 rfl rfl) | refine HL.pa ?_ (POp.nilCheck rfl) | apply HL.fold | apply HA.fold | apply HL.nil | apply HX.n_then | apply HC.seq | apply HC.region | refine HL.pa ?_ | refine HL.ga rfl ?_ | refine HL.na rfl ?_ | refine HL.nu rfl rfl ?_ | apply HC.block | apply HC.skip | apply HC.exit | apply HC.ret | apply HX.e_block | refine HX.e_other rfl ?_ | apply HX.e_then | apply HX.e_again | apply HX.n_block | apply HX.r_then | apply HX.r_block | apply HX.r_again | refine HC.cond_yes rfl ?_ | refine HC.cond_no rfl ?_ | refine HL.one (H1.ldb rfl memA rfl rfl ?_) | refine HC.cond rfl (fun hc => ?_) (fun hc => ?_) | refine HC.cond_b rfl (fun hc => ?_) (fun hc => ?_))
  refine HL.one (H1.ld0 rfl hcell rfl ?_)
  repeat' (first | refine HL.pa ?_ (POp.pneN rfl rfl) | refine HL.pa ?_ (POp.pnil1 rfl rfl) | refine HL.pa ?_ (POp.pnil0 rfl rfl) | refine HL.pa ?_ (POp.nilCheck rfl) | apply HL.fold | apply HA.fold | apply HL.nil | apply HX.n_then | apply HC.seq | apply HC.region | refine HL.pa ?_ | refine HL.ga rfl ?_ | refine HL.na rfl ?_ | refine HL.nu rfl rfl ?_ | apply HC.block | apply HC.skip | apply HC.exit | apply HC.ret | apply HX.e_block | refine HX.e_other rfl ?_ | apply HX.e_then | apply HX.e_again | apply HX.n_block | apply HX.r_then | apply HX.r_block | apply HX.r_again | refine HC.cond_yes rfl ?_ | refine HC.cond_no rfl ?_ | refine HL.one (H1.ldb rfl memA rfl rfl ?_) | refine HC.cond rfl (fun hc => ?_) (fun hc => ?_) | refine HC.cond_b rfl (fun hc => ?_) (fun hc => ?_))
  refine HL.one (H1.callz (vs := [_]) rfl rfl (fun w' hM => few26_fn (hV i) gi hsl.1 hsl.2 w' (hRi.ext hM.ext)) ?_)
  rw [← hGd]
  rintro ⟨a9, c9⟩ -
  dsimp only
  repeat' (first | refine HL.pa ?_ (POp.pneN rfl rfl) | refine HL.pa ?_ (POp.pnil1 rfl rfl) | refine HL.pa ?_ (POp.pnil0 rfl rfl) | refine HL.pa ?_ (POp.nilCheck rfl) | apply HL.fold | apply HA.fold | apply HL.nil | apply HX.n_then | apply HC.seq | apply HC.region | refine HL.pa ?_ | refine HL.ga rfl ?_ | refine HL.na rfl ?_ | refine HL.nu rfl rfl ?_ | apply HC.block | apply HC.skip | apply HC.exit | apply HC.ret | apply HX.e_block | refine HX.e_other rfl ?_ | apply HX.e_then | apply HX.e_again | apply HX.n_block | apply HX.r_then | apply HX.r_block | apply HX.r_again | refine HC.cond_yes rfl ?_ | refine HC.cond_no rfl ?_ | refine HL.one (H1.ldb rfl memA rfl rfl ?_) | refine HC.cond rfl (fun hc => ?_) (fun hc => ?_) | refine HC.cond_b rfl (fun hc => ?_) (fun hc => ?_))
  refine HL.mem (jnlH bj bd b1 b2 a c pa pc ⟨j.t, k, j.br⟩ [A.grow 9 1 a9 c9 G.length (strs G), A.grow 9 1 aw cw (l1 ++ G).length (strs (l1 ++ G)), A.grow 9 1 ax cx l1.length (strs l1)]) (Hs.cons (Pick.there Pick.here) (Hs.cons (Pick.there Pick.here) (Hs.cons (Pick.there Pick.here) (Hs.cons (Pick.there Pick.here) (Hs.cons (Pick.there Pick.here) (Hs.cons (Pick.there Pick.here) (Hs.refl _))))))) ?_
  refine HL.one (H1.callk (α := (Option Addr × Nat) × (Option Addr × Nat)) (V := fun _ => zv e) (I := fun _ => True) (H' := fun q => jnlH bj bd b1 b2 q.1.1 q.1.2 q.2.1 q.2.2 j2 [A.grow 9 1 a9 c9 G.length (strs G), A.grow 9 1 aw cw (l1 ++ G).length (strs (l1 ++ G)), A.grow 9 1 ax cx l1.length (strs l1)]) (vs := [_, _]) rfl rfl
    (fun w' hM => appendG_fn hap hG hM (.head _) hjok (by omega) (fun _ => by rw [outsL_need]; omega)) ?_)
  rintro ⟨⟨a', c'⟩, ⟨pa', pc'⟩⟩ -
  dsimp only
  rcases hcase with ⟨rfl, hen, hcn⟩ | ⟨rfl, hen, hcn⟩ | ⟨rfl, hla, hen⟩
  · repeat' (first | refine HL.pa ?_ (POp.pneN rfl rfl) | refine HL.pa ?_ (POp.pnil1 rfl rfl) | refine HL.pa ?_ (POp.pnil0 rfl rfl) | refine HL.pa ?_ (POp.nilCheck rfl) | apply HL.fold | apply HA.fold | apply HL.nil | apply HX.n_then | apply HC.seq | apply HC.region | refine HL.pa ?_ | refine HL.ga rfl ?_ | refine HL.na rfl ?_ | refine HL.nu rfl rfl ?_ | apply HC.block | apply HC.skip | apply HC.exit | apply HC.ret | apply HX.e_block | refine HX.e_other rfl ?_ | apply HX.e_then | apply HX.e_again | apply HX.n_block | apply HX.r_then | apply HX.r_block | apply HX.r_again | refine HC.cond_yes rfl ?_ | refine HC.cond_no rfl ?_ | refine HL.one (H1.ldb rfl memA rfl rfl ?_) | refine HC.cond rfl (fun hc => ?_) (fun hc => ?_) | refine HC.cond_b rfl (fun hc => ?_) (fun hc => ?_))
    exact HX.again (i + 1, j2, (aw, cw, l1 ++ G), (ax, cx, l1), (aw, cw, l1 ++ G), (aw, cw, l1 ++ G), (a', c'), (pa', pc')) ⟨⟨hlt, hl8, fun h => hcn (hnl h), hlg, hlg, hsg, hsg, hen⟩, .inl rfl, .inl rfl⟩ (by show 8 - (i + 1) < 8 - i; omega) esA (by repeat (first | exact Hs.nil _ | (refine Hs.cons pickA ?_)))
  · have hll2 : l1.length ≤ 6 * (i + 1) := by omega
    repeat' (first | refine HL.pa ?_ (POp.pneN rfl rfl) | refine HL.pa ?_ (POp.pnil1 rfl rfl) | refine HL.pa ?_ (POp.pnil0 rfl rfl) | refine HL.pa ?_ (POp.nilCheck rfl) | apply HL.fold | apply HA.fold | apply HL.nil | apply HX.n_then | apply HC.seq | apply HC.region | refine HL.pa ?_ | refine HL.ga rfl ?_ | refine HL.na rfl ?_ | refine HL.nu rfl rfl ?_ | apply HC.block | apply HC.skip | apply HC.exit | apply HC.ret | apply HX.e_block | refine HX.e_other rfl ?_ | apply HX.e_then | apply HX.e_again | apply HX.n_block | apply HX.r_then | apply HX.r_block | apply HX.r_again | refine HC.cond_yes rfl ?_ | refine HC.cond_no rfl ?_ | refine HL.one (H1.ldb rfl memA rfl rfl ?_) | refine HC.cond rfl (fun hc => ?_) (fun hc => ?_) | refine HC.cond_b rfl (fun hc => ?_) (fun hc => ?_))
    exact HX.again (i + 1, j2, (aw, cw, l1 ++ G), (ax, cx, l1), (ax, cx, l1), (ax, cx, l1), (a', c'), (pa', pc')) ⟨⟨hlt, hl8, fun h => hcn (hnl h), hll2, hll2, hrs, hrs, hen⟩, .inr rfl, .inr rfl⟩ (by show 8 - (i + 1) < 8 - i; omega) esA (by repeat (first | exact Hs.nil _ | (refine Hs.cons pickA ?_)))
  · have hll2 : l1.length ≤ 6 * (i + 1) := by omega
    subst hla
    repeat' (first | refine HL.pa ?_ (POp.pneN rfl rfl) | refine HL.pa ?_ (POp.pnil1 rfl rfl) | refine HL.pa ?_ (POp.pnil0 rfl rfl) | refine HL.pa ?_ (POp.nilCheck rfl) | apply HL.fold | apply HA.fold | apply HL.nil | apply HX.n_then | apply HC.seq | apply HC.region | refine HL.pa ?_ | refine HL.ga rfl ?_ | refine HL.na rfl ?_ | refine HL.nu rfl rfl ?_ | apply HC.block | apply HC.skip | apply HC.exit | apply HC.ret | apply HX.e_block | refine HX.e_other rfl ?_ | apply HX.e_then | apply HX.e_again | apply HX.n_block | apply HX.r_then | apply HX.r_block | apply HX.r_again | refine HC.cond_yes rfl ?_ | refine HC.cond_no rfl ?_ | refine HL.one (H1.ldb rfl memA rfl rfl ?_) | refine HC.cond rfl (fun hc => ?_) (fun hc => ?_) | refine HC.cond_b rfl (fun hc => ?_) (fun hc => ?_))
    exact HX.again (i + 1, j2, (aw, cw, l1 ++ G), (ax, cx, l1), (ax, cx, l1), (aw, cw, l1 ++ G), (a', c'), (pa', pc')) ⟨⟨hlt, hl8, (fun h => absurd (hnl h) Bool.noConfusion), hll2, hlg, hrs, hsg, hen⟩, .inr rfl, .inl rfl⟩ (by show 8 - (i + 1) < 8 - i; omega) esA (by repeat (first | exact Hs.nil _ | (refine Hs.cons pickA ?_)))
end Go.Sx

