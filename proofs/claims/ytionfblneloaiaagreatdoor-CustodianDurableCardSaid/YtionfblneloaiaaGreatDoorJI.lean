/- Chapter 26: Open, Room, Records: the walks. -/
import Derived.Test.YtionfblneloaiaaGreatDoorJF
import Derived.Test.YtionfblneloaiaaGreatDoorShelf
import Derived.Test.YtionfblneloaiaaGreatDoorXJ
namespace Go.Sx
open Go Go.Proofs Go.RowKit
theorem hwJI {G G2 : Prop} (x : G2) (hwq : Hold G2 → G := by
    intro hQq
    repeat' (first | refine HL.pa ?_ (POp.pnil1 rfl rfl) | refine HL.pa ?_ (POp.pnil0 rfl rfl) | refine HL.pa ?_ (POp.nilCheck rfl) | apply HL.fold | apply HA.fold | apply HL.nil | apply HX.n_then | apply HC.seq | apply HC.region | refine HL.pa ?_ | refine HL.ga rfl ?_ | refine HL.na rfl ?_ | refine HL.nu rfl rfl ?_ | apply HC.block | apply HC.skip | apply HC.exit | apply HC.ret | apply HX.e_block | refine HX.e_other rfl ?_ | apply HX.e_then | apply HX.e_again | apply HX.n_block | apply HX.r_then | apply HX.r_block | apply HX.r_again | refine HC.cond_yes rfl ?_ | refine HC.cond_no rfl ?_ | refine HL.one (H1.ldb rfl memA rfl rfl ?_) | refine HC.cond rfl (fun hc => ?_) (fun hc => ?_) | refine HC.cond_b rfl (fun hc => ?_) (fun hc => ?_))
    exact hQq.get) : G := hwq ⟨x⟩
/-- A journal on its disk. -/
abbrev jnlH (bj bd b1 b2 : Nat) (a : Option Addr) (c : Nat) (pa : Option Addr) (pc : Nat) (j : Jn) (H : List Atom) : List Atom :=
  A.blk bj (tpC a c j.t (jnR bd j.br)) 179 :: A.grow 9 1 a c j.t.recs.length (strs j.t.recs) :: dkH bd b1 b2 pa pc j.k H
def openP2 (w0 : World) (bd b1 b2 : Nat) (H : List Atom) (r : Int × Dk × Option Tp) (v : Value) (w' : World) : Prop :=
  match r.2.2 with
  | some t => ∃ z : Nat × (Option Addr × Nat) × (Option Addr × Nat), v = .tuple #[.pointer (some ⟨z.1, 0, none⟩), zv 0] ∧ Mm w0 (jnlH z.1 bd b1 b2 z.2.1.1 z.2.1.2 z.2.2.1 z.2.2.2 ⟨t, r.2.1, false⟩ H) w'
  | none => ∃ q : Option Addr × Nat, v = .tuple #[.pointer none, zv r.1] ∧ Mm w0 (dkH bd b1 b2 q.1 q.2 r.2.1 H) w'
theorem trimZ_fn (s : ByteArray) (w : World) (hs : s.size ≤ 5000000) :
    Fn Tryz.prog 87 #[.string s, .string (ByteArray.mk #[0])] w fun v w' => v = .string ⟨(Lib.trimB s.data.toList 0).toArray⟩ ∧ Ext w w' := by
  refine Calls.mono (Tryz.strings_Trim_one s 0 (by decide) w (by omega)) ?_
  rintro e w' ⟨rfl, h2⟩
  refine ⟨_, rfl, rfl, ?_⟩
  rcases h2 with rfl | rfl
  · exact Ext.refl _
  · exact Ext.drew _
theorem trimZ_iff (l : List UInt8) : ((⟨(Lib.trimB l 0).toArray⟩ : ByteArray) = ByteArray.mk #[]) ↔ isZero l = true := by
  rw [← dropWhile_dropWhile_zero]
  constructor
  · intro h
    have := congrArg (fun b : ByteArray => b.data.toList) h
    exact this
  · intro h
    have : Lib.trimB l 0 = [] := h
    rw [this]
theorem openF_off {k : Dk} (h : k.off = true) : openF k = (251, k, none) := by unfold openF; rw [if_pos h]
theorem openF_bad {k : Dk} (h : k.off = false) (hF : loadF k.vis t00 = none) : openF k = (262, k, none) := by
  unfold openF; rw [if_neg (by rw [h]; decide), hF]
theorem openF_zero {k : Dk} {t : Tp} (h : k.off = false) (hF : loadF k.vis t00 = some t) (hz : isZero (k.vis.drop t.size) = true) : openF k = (0, k, some t) := by
  unfold openF; rw [if_neg (by rw [h]; decide), hF]; simp only; rw [if_pos hz]
def clr (k : Dk) (t : Tp) : List DOp := [.wr t.size (mkBA (List.replicate (k.vis.length - t.size) 0)), .sy]
theorem openF_clr {k : Dk} {t : Tp} (h : k.off = false) (hF : loadF k.vis t00 = some t) (hz : ¬ isZero (k.vis.drop t.size) = true) (h0 : (runOps (clr k t) k).1 = 0) : openF k = (0, (runOps (clr k t) k).2, some t) := by
  unfold openF; rw [if_neg (by rw [h]; decide), hF]; simp only; rw [if_neg hz]; exact if_pos h0
theorem openF_no {k : Dk} {t : Tp} (h : k.off = false) (hF : loadF k.vis t00 = some t) (hz : ¬ isZero (k.vis.drop t.size) = true) (h0 : ¬ (runOps (clr k t) k).1 = 0) : openF k = ((runOps (clr k t) k).1, (runOps (clr k t) k).2, none) := by
  unfold openF; rw [if_neg (by rw [h]; decide), hF]; simp only; rw [if_neg hz]; exact if_neg h0
theorem loadF_le : ∀ (n : Nat) {s : List UInt8} {t t' : Tp}, s.length - t.size ≤ n → t.size ≤ s.length → loadF s t = some t' → t'.size ≤ s.length
  | n, s, t, t', hn, hs, h => by
    by_cases h1 : t.size < s.length ∧ s.getD t.size 0 ≠ 0
    · by_cases h2 : s.getD t.size 0 = 1
      · cases hd : decS s (t.size + 1) with
        | none => rw [loadF_none h1 hd] at h; cases h
        | some x =>
          obtain ⟨r, q⟩ := x
          by_cases h3 : q + 32 ≤ s.length ∧ outL t.head (mkBA r) = (s.drop t.size).take (q + 32 - t.size)
          · rw [loadF_step h1 h2 hd h3] at h
            have hol := outL_pos t.head (mkBA r)
            have hle := congrArg List.length h3.2
            rw [List.length_take, List.length_drop] at hle
            match n, hn with
            | 0, hn => omega
            | n + 1, hn => exact loadF_le n (by show s.length - (t.size + (outL t.head (mkBA r)).length) ≤ n; omega) (by show t.size + (outL t.head (mkBA r)).length ≤ _; omega) h
          · rw [loadF_no h1 hd h3] at h; cases h
      · rw [loadF_bad h1 h2] at h; cases h
    · rw [loadF_end h1] at h
      injection h with h; subst h; exact hs
theorem ba_size_le (s : ByteArray) (a : Nat) : (s.extract a s.size).size ≤ s.size := by
  rw [ByteArray.size_extract]; omega
attribute [local irreducible] WC WL WX POp Then Again Fn NX W1 WA WO QL RP RA Yld LoopAt HC HL HX HN H1 HA HO HQ HB HP A.blk A.grow A.rd A.obj A.mp AgainH CutH
theorem jopenNil_fn (w : World) : Fn Tryz.prog 59 #[.pointer none] w fun v w' => v = .tuple #[.pointer none, zv 1] ∧ w = w' := by
  refine enter (l := [_]) rfl Tryz.ntmps59 rfl ?_
  repeat' (first | apply WL.fold | apply WA.fold | apply WL.nil | apply WX.n_then | apply WC.seq | apply WC.region | refine WL.pa ?_ | refine WL.ga rfl ?_ | refine WL.na rfl ?_ | refine WL.nu rfl rfl ?_ | apply WC.block | apply WC.skip | apply WC.exit | apply WC.ret | apply WX.e_block | refine WX.e_other rfl ?_ | apply WX.e_then | apply WX.e_again | apply WX.n_block | apply WX.r_then | apply WX.r_block | apply WX.r_again | refine WC.cond_yes rfl ?_ | refine WC.cond_no rfl ?_ | refine WC.cond rfl (fun hc => ?_) (fun hc => ?_) | refine WC.cond_b rfl (fun hc => ?_) (fun hc => ?_))
  refine WL.pa ?_ (POp.pnil1 rfl rfl)
  repeat' (first | apply WL.fold | apply WA.fold | apply WL.nil | apply WX.n_then | apply WC.seq | apply WC.region | refine WL.pa ?_ | refine WL.ga rfl ?_ | refine WL.na rfl ?_ | refine WL.nu rfl rfl ?_ | apply WC.block | apply WC.skip | apply WC.exit | apply WC.ret | apply WX.e_block | refine WX.e_other rfl ?_ | apply WX.e_then | apply WX.e_again | apply WX.n_block | apply WX.r_then | apply WX.r_block | apply WX.r_again | refine WC.cond_yes rfl ?_ | refine WC.cond_no rfl ?_ | refine WC.cond rfl (fun hc => ?_) (fun hc => ?_) | refine WC.cond_b rfl (fun hc => ?_) (fun hc => ?_))
  exact WX.ret2 rfl rfl rfl ⟨rfl, rfl⟩
set_option maxHeartbeats 1000000 in
theorem jopen_fn {w0 w : World} {H : List Atom} {bd b1 b2 pc : Nat} {pa : Option Addr} {k : Dk} {ea : Addr} (hG : RoundG w0) (hE : ErrG ea w0) (hM : Mm w0 (dkH bd b1 b2 pa pc k H) w) (hk : k.Ok) (hp : k.pend.length + 2 ≤ 10000) :
    Fn Tryz.prog 59 #[.pointer (some ⟨bd, 0, none⟩)] w fun v w' => openP2 w0 bd b1 b2 H (openF k) v w' := by
  have hlen := hk.len
  have hhi := hk.hi
  have hsz : (mkBA k.vis).size = k.vis.length := by show k.vis.toArray.size = _; rw [List.size_toArray]
  have hdl : (mkBA k.vis).data.toList = k.vis := rfl
  refine enterK (l := [_]) hM rfl Tryz.ntmps59 rfl ?_
  refine hwJI ?_
  refine HL.one (H1.call0 (vs := [_]) rfl rfl (fun w' hM => dsize_fn (hM.blk memA)) ?_)
  refine hwJI ?_
  cases ho : k.off
  · refine HL.one (H1.callx (u := .tuple #[.string (mkBA k.vis), zv 0]) (vs := [_, zv 0, _]) rfl rfl (fun w' hM => by
      have := read_fn (hM.blk (b := bd) memA) (hM.blk (b := b2) memA) hk
      rw [ho] at this
      exact this) ?_)
    refine hwJI ?_
    cases hF : loadF k.vis t00 with
    | none =>
      rw [openF_bad ho hF]
      refine HL.one (H1.callk (α := Unit) (V := fun _ => .tuple #[.pointer none, zv 262]) (I := fun _ => True) (H' := fun _ => dkH bd b1 b2 pa pc k H) (vs := [_, _]) rfl rfl (fun w' hM => (open_fn (mkBA k.vis) hG hE hM (by omega)).mono fun v w2 h => by
        rw [hdl, hF] at h; exact ⟨(), trivial, h⟩) ?_)
      rintro - -
      refine hwJI ?_
      exact HX.ret2 rfl rfl rfl fun w' hM => ⟨(pa, pc), rfl, hM⟩
    | some t =>
      have hts := loadF_le _ (Nat.le_refl _) (Nat.zero_le _) hF
      refine HL.one (H1.callk (α := Nat × Option Addr × Nat) (V := fun z => .tuple #[.pointer (some ⟨z.1, 0, none⟩), zv 0]) (I := fun _ => True) (H' := fun z => jnH z.1 z.2.1 z.2.2 bd t false (dkH bd b1 b2 pa pc k H)) (vs := [_, _]) rfl rfl (fun w' hM => (open_fn (mkBA k.vis) hG hE hM (by omega)).mono fun v w2 h => by
        rw [hdl, hF] at h; obtain ⟨z, h1, h2⟩ := h; exact ⟨z, trivial, h1, h2⟩) ?_)
      rintro ⟨bj, a, c⟩ -
      dsimp only
      refine hwJI ?_
      have hex : ((mkBA k.vis).extract t.size (mkBA k.vis).size).data.toList = k.vis.drop t.size := by
        rw [extract_L, hsz, hdl, List.take_of_length_le (by rw [List.length_drop]; exact Nat.le_refl _)]
      have hxs := ba_size_le (mkBA k.vis) t.size
      rw [Int.toNat_natCast]
      refine HL.one (H1.callx (u := .string ⟨(Lib.trimB (k.vis.drop t.size) 0).toArray⟩) (vs := [_, _]) rfl rfl (fun w' hM => by
        have := trimZ_fn ((mkBA k.vis).extract t.size (mkBA k.vis).size) w' (by omega)
        rw [hex] at this
        exact this) ?_)
      have hiff := trimZ_iff (k.vis.drop t.size)
      generalize (⟨(Lib.trimB (k.vis.drop t.size) 0).toArray⟩ : ByteArray) = tr at hiff
      by_cases hz : isZero (k.vis.drop t.size) = true
      · rw [openF_zero ho hF hz]
        have htr := hiff.2 hz
        subst htr
        refine hwJI ?_
        exact HX.ret2 rfl rfl rfl fun w' hM => ⟨(bj, (a, c), (pa, pc)), rfl, hM⟩
      · have htr : ¬ tr = ByteArray.mk #[] := fun h => hz (hiff.1 h)
        obtain ⟨m, hm⟩ : ∃ m, m = k.vis.length - t.size := ⟨_, rfl⟩
        have hzl : (mkBA (List.replicate m 0)).size = m := by show (List.replicate m (0 : UInt8)).toArray.size = m; rw [List.size_toArray, List.length_replicate]
        have hclr : clr k t = [.wr t.size (mkBA (List.replicate m 0)), .sy] := by unfold clr; rw [hm]
        have hsub : ((mkBA k.vis).size : Int) - (t.size : Int) = (m : Int) := by omega
        refine hwJI ?_
        refine HC.sub [(0, .pointer (some ⟨bd, 0, none⟩)), (4, .string (mkBA k.vis)), (6, .pointer (some ⟨bj, 0, none⟩))] (jnH bj a c bd t false (dkH bd b1 b2 pa pc k H)) ?_ esA (Hs.refl _)
        refine HC.anyC ([(⟨bj, 2, none⟩, zv (t.size : Int))]) rfl ?_
        refine HB.pa 0 rfl ?_
        refine HB.pa 1 rfl ?_
        refine HB.pa 2 rfl ?_ (POp.nilCheck rfl)
        refine HB.pa 3 rfl ?_
        refine HB.pa 4 rfl ?_
        refine HB.ld 5 rfl rfl memD ?_
        refine HB.pa 6 rfl ?_
        refine HB.pa 7 rfl ?_
        refine HB.pa 8 rfl ?_
        refine HB.pa 9 rfl ?_ (POp.nilCheck rfl)
        refine HB.pa 10 rfl ?_
        refine HB.pa 11 rfl ?_
        refine HB.ld 12 rfl rfl memD ?_
        refine HB.pa 13 rfl ?_ ((POp.sub rfl rfl (by omega) (by omega)).of (congrArg zv hsub))
        refine HB.pa 17 rfl ?_
        refine HB.pa 18 rfl ?_
        refine HB.all (by repeat (first | exact Keep.nil | refine Keep.blk (by (repeat (first | exact List.Mem.head _ | apply List.Mem.tail)); done) rfl ?_ | refine Keep.grow (by (repeat (first | exact List.Mem.head _ | apply List.Mem.tail)); done) (by assumption) ?_ | refine Keep.base (by assumption) ?_)) [14] (by kernel_rfl) rfl ⟨⟨_, rfl, ?_⟩, trivial⟩
        refine HP.one ?_
        refine H1.make (l := m) (c := m) rfl rfl rfl rfl rfl (Nat.le_refl _) (by omega) (by omega) rfl (fun bm => ?_)
        rw [ub_zero]
        apply HB.fold
        refine HB.all (by repeat (first | exact Keep.nil | refine Keep.blk (by (repeat (first | exact List.Mem.head _ | apply List.Mem.tail)); done) rfl ?_ | refine Keep.grow (by (repeat (first | exact List.Mem.head _ | apply List.Mem.tail)); done) (by assumption) ?_ | refine Keep.base (by assumption) ?_)) [15] (by kernel_rfl) rfl ⟨⟨_, rfl, ?_⟩, trivial⟩
        refine HP.one ?_
        refine H1.bstrC (ys := List.replicate m 0) rfl (by rw [List.length_replicate]) (fun w' hM => blk_rd (e := 5) (hM.blk memA) (by rw [ub_len, List.length_replicate])) rfl ?_
        apply HB.fold
        refine HB.all (by repeat (first | exact Keep.nil | refine Keep.blk (by (repeat (first | exact List.Mem.head _ | apply List.Mem.tail)); done) rfl ?_ | refine Keep.grow (by (repeat (first | exact List.Mem.head _ | apply List.Mem.tail)); done) (by assumption) ?_ | refine Keep.base (by assumption) ?_)) [16] (by kernel_rfl) rfl ⟨⟨_, rfl, ?_⟩, trivial⟩
        refine HP.one ?_
        refine H1.callz (vs := [_, zv (t.size : Int), _]) rfl rfl (fun w' hM => writing_fn bj t.size (mkBA (List.replicate m 0)) w') ?_
        rintro ⟨c1, c2, c3⟩ -
        dsimp only
        apply HB.fold
        refine HB.all (by repeat (first | exact Keep.nil | refine Keep.blk (by (repeat (first | exact List.Mem.head _ | apply List.Mem.tail)); done) rfl ?_ | refine Keep.grow (by (repeat (first | exact List.Mem.head _ | apply List.Mem.tail)); done) (by assumption) ?_ | refine Keep.base (by assumption) ?_)) [19] (by kernel_rfl) rfl ⟨⟨_, rfl, ?_⟩, trivial⟩
        refine HP.one ?_
        refine H1.lit (cs := [.func (.func 160) #[] #[.pointer (some ⟨c1, 0, none⟩), .pointer (some ⟨c2, 0, none⟩), .pointer (some ⟨c3, 0, none⟩)], .func (.func 108) #[.pointer (some ⟨bd, 0, none⟩)] #[]]) rfl rfl rfl rfl rfl rfl (fun b9 => ?_)
        apply HB.fold
        refine HB.all (by repeat (first | exact Keep.nil | refine Keep.blk (by (repeat (first | exact List.Mem.head _ | apply List.Mem.tail)); done) rfl ?_ | refine Keep.grow (by (repeat (first | exact List.Mem.head _ | apply List.Mem.tail)); done) (by assumption) ?_ | refine Keep.base (by assumption) ?_)) [20] (by kernel_rfl) rfl ⟨⟨_, rfl, ?_⟩, trivial⟩
        refine HP.one ?_
        refine H1.callk (α := Option Addr × Nat) (V := fun _ => zv (runOps (clr k t) k).1) (I := fun _ => True) (H' := fun q => dkH bd b1 b2 q.1 q.2 (runOps (clr k t) k).2 (A.blk bj (tpC a c t (jnR bd false)) 179 :: A.grow 9 1 a c t.recs.length (strs t.recs) ::
            A.blk b9 [.func (.func 160) #[] #[.pointer (some ⟨c1, 0, none⟩), .pointer (some ⟨c2, 0, none⟩), .pointer (some ⟨c3, 0, none⟩)], .func (.func 108) #[.pointer (some ⟨bd, 0, none⟩)] #[]] 103 ::
            A.blk c1 [.pointer (some ⟨bj, 0, none⟩)] 82 :: A.blk c2 [zv (t.size : Int)] 3 :: A.blk c3 [.string (mkBA (List.replicate m 0))] 9 :: A.blk bm (ub (List.replicate m 0)) 5 :: H)) (vs := [_]) rfl rfl (fun w' hM => ?_) ?_
        · rw [hclr]
          refine (first_fn (pa := pa) (pc := pc) (ops := [.wr t.size (mkBA (List.replicate m 0)), .sy]) (hM.sub ?_) rfl (.tail _ (.tail _ (.head _))) ?_ hk hp (by show 2 ≤ 100; decide)).mono fun v w2 h => h
          · repeat (first | exact Hs.nil _ | (refine Hs.cons pickA ?_))
            exact Hs.refl _
          · intro i fv o h1 h2
            match i, h1, h2 with
            | 0, h1, h2 =>
              cases h1; cases h2
              exact opn_write (jc := tpC a c t (jnR bd false)) (by omega) (by omega) (.head _) rfl (.tail _ (.tail _ (.tail _ (.head _)))) (.tail _ (.tail _ (.tail _ (.tail _ (.head _))))) (.tail _ (.tail _ (.tail _ (.tail _ (.tail _ (.head _))))))
            | 1, h1, h2 =>
              cases h1; cases h2
              exact opn_sync _ _ _ _ _
        rintro ⟨a', c'⟩ -
        dsimp only
        apply HB.fold
        refine HB.pa 21 rfl ?_
        refine HB.done (by repeat (first | exact Keep.nil | refine Keep.blk (by (repeat (first | exact List.Mem.head _ | apply List.Mem.tail)); done) rfl ?_ | refine Keep.grow (by (repeat (first | exact List.Mem.head _ | apply List.Mem.tail)); done) (by assumption) ?_ | refine Keep.base (by assumption) ?_)) (by kernel_rfl) ?_
        by_cases h0 : (runOps (clr k t) k).1 = 0
        · rw [openF_clr ho hF hz h0]
          refine hwJI ?_
          exact HX.ret2 rfl rfl rfl fun w' hM => ⟨(bj, (a, c), (a', c')), rfl, hM.sub (Hs.cons (Pick.there (Pick.there (Pick.there (Pick.there Pick.here)))) (Hs.cons (Pick.there (Pick.there (Pick.there (Pick.there Pick.here)))) (Hs.cons Pick.here (Hs.cons Pick.here (Hs.cons Pick.here (Hs.cons Pick.here (Hs.refl _).skip.skip.skip.skip.skip))))))⟩
        · rw [openF_no ho hF hz h0]
          refine hwJI ?_
          exact HX.ret2 rfl rfl rfl fun w' hM => ⟨(a', c'), rfl, hM.sub (Hs.cons Pick.here (Hs.cons Pick.here (Hs.cons Pick.here (Hs.cons Pick.here (Hs.refl _).skip.skip.skip.skip.skip.skip.skip))))⟩
  · refine HL.one (H1.callx (u := .tuple #[.string (mkBA []), zv 251]) (vs := [_, zv 0, _]) rfl rfl (fun w' hM => by
      have := read_fn (hM.blk (b := bd) memA) (hM.blk (b := b2) memA) hk
      rw [ho] at this
      exact this) ?_)
    rw [openF_off ho]
    refine hwJI ?_
    exact HX.ret2 rfl rfl rfl fun w' hM => ⟨(pa, pc), rfl, hM⟩
end Go.Sx
/- Chapter 26: Room, Records, Append: the walks. -/
namespace Go.Sx
open Go Go.Proofs Go.RowKit
theorem rd_cloneS {w : World} {b off c : Nat} {l : List ByteArray} (hR : Rd w (.slice (some ⟨b, off, none⟩) l.length c) (strs l)) : ∀ j, j < l.length → w.cell? ⟨b, off + j, none⟩ = some (.string (l.getD j ByteArray.empty)) := fun j hj => hR.cell (by simp [strs, hj])
theorem rd_strs_shape {w : World} {v : Value} {l : List ByteArray} (hR : Rd w v (strs l)) : ∃ a c, v = .slice a l.length c ∧ l.length ≤ c := by
  obtain ⟨a, c, h1, h2, -⟩ := hR
  have : (strs l).length = l.length := by simp [strs]
  rw [this] at h1 h2
  exact ⟨a, c, h1, h2⟩
theorem ownFresh2 {w w' : World} {e : TypeId} {sz n c : Nat} {a : Option Addr} {xs : List Value} (hx : Ext w w') (h : w'.ownsRow w.heap.size e sz (.slice a n c) n xs) : Mm w [A.grow e sz a c n xs] w' := by
  refine (Mm.nil hx).cons ⟨h.1, ?_⟩ ?_ fun b hb => ?_
  · rcases h.2 with h2 | ⟨g, cap, cur, hv, -, rest⟩
    · exact .inl h2
    · exact .inr ⟨g, cap, cur, hv, Nat.zero_le _, rest⟩
  · show (Option.toList _).Nodup
    cases (Value.slice a n c).ownBlock <;> simp
  · have hb' : (Value.slice a n c).ownBlock = some b := by simpa [A.grow] using hb
    have := h.lt b hb'
    exact ⟨by simp [fps], this.1, this.2⟩
theorem own_shape2 {w : World} {base : Nat} {e : TypeId} {sz n : Nat} {v : Value} {xs : List Value} (h : w.ownsRow base e sz v n xs) : ∃ a c, v = .slice a n c := by
  rcases h.2 with ⟨rfl, rfl⟩ | ⟨g, cap, cur, rfl, -⟩
  · exact ⟨none, 0, rfl⟩
  · exact ⟨_, cap, rfl⟩
theorem cloneS_fn (v : Value) (l : List ByteArray) (hl : l.length ≤ 1000000) (w : World) (hR : Rd w v (strs l)) :
    Fn Tryz.prog 111 #[v] w fun u w' => ∃ z : Option Addr × Nat, True ∧ u = .slice z.1 l.length z.2 ∧ Mm w [A.grow 9 1 z.1 z.2 l.length (strs l)] w' := by
  by_cases hne : l = []
  · subst hne
    obtain ⟨a, c, rfl, hc⟩ := rd_strs_shape hR
    cases a with
    | none =>
      refine Calls.mono (Tryz.slices_Clone_string_nil 0 c w) ?_
      rintro e w' ⟨rfl, rfl⟩
      exact ⟨_, rfl, (none, 0), trivial, rfl, (Mm.refl _).grow0 _ _⟩
    | some a =>
      refine Calls.mono (Tryz.slices_Clone_string_zero a c w) ?_
      rintro e w' ⟨v', rfl, h1, h2, h3⟩
      obtain ⟨a', c', rfl⟩ := own_shape2 h1
      exact ⟨_, rfl, (a', c'), trivial, rfl, ownFresh2 h3 h1⟩
  · have hlen : (strs l).length = l.length := by simp [strs]
    obtain ⟨b, off, cc, rfl, hcc, hb, -⟩ := hR.at (by intro e; exact hne (by simpa [strs] using e))
    rw [hlen] at hR ⊢
    refine Calls.mono (Tryz.slices_Clone_string b off l.length cc l w (Nat.le_refl _) (by omega) (rd_cloneS hR)) ?_
    rintro e w' ⟨v', rfl, h1, h2, h3⟩
    rw [List.take_length] at h1
    obtain ⟨a', c', rfl⟩ := own_shape2 h1
    exact ⟨_, rfl, (a', c'), trivial, rfl, ownFresh2 h3 h1⟩
attribute [local irreducible] WC WL WX POp Then Again Fn NX W1 WA WO QL RP RA Yld LoopAt HC HL HX HN H1 HA HO HQ HB HP A.blk A.grow A.rd A.obj A.mp AgainH CutH
theorem roomNil_fn (w : World) : Fn Tryz.prog 150 #[.pointer none] w fun v w' => v = zv 0 ∧ w = w' := by
  refine enter (l := [_]) rfl Tryz.ntmps150 rfl ?_
  repeat' (first | apply WL.fold | apply WA.fold | apply WL.nil | apply WX.n_then | apply WC.seq | apply WC.region | refine WL.pa ?_ | refine WL.ga rfl ?_ | refine WL.na rfl ?_ | refine WL.nu rfl rfl ?_ | apply WC.block | apply WC.skip | apply WC.exit | apply WC.ret | apply WX.e_block | refine WX.e_other rfl ?_ | apply WX.e_then | apply WX.e_again | apply WX.n_block | apply WX.r_then | apply WX.r_block | apply WX.r_again | refine WC.cond_yes rfl ?_ | refine WC.cond_no rfl ?_ | refine WC.cond rfl (fun hc => ?_) (fun hc => ?_) | refine WC.cond_b rfl (fun hc => ?_) (fun hc => ?_))
  refine WL.pa ?_ (POp.pnil1 rfl rfl)
  repeat' (first | apply WL.fold | apply WA.fold | apply WL.nil | apply WX.n_then | apply WC.seq | apply WC.region | refine WL.pa ?_ | refine WL.ga rfl ?_ | refine WL.na rfl ?_ | refine WL.nu rfl rfl ?_ | apply WC.block | apply WC.skip | apply WC.exit | apply WC.ret | apply WX.e_block | refine WX.e_other rfl ?_ | apply WX.e_then | apply WX.e_again | apply WX.n_block | apply WX.r_then | apply WX.r_block | apply WX.r_again | refine WC.cond_yes rfl ?_ | refine WC.cond_no rfl ?_ | refine WC.cond rfl (fun hc => ?_) (fun hc => ?_) | refine WC.cond_b rfl (fun hc => ?_) (fun hc => ?_))
  exact WX.ret1 rfl rfl ⟨rfl, rfl⟩
theorem room_fn {w0 w : World} {H : List Atom} {bj bd b1 b2 c pc : Nat} {a pa : Option Addr} {j : Jn} (hM : Mm w0 (jnlH bj bd b1 b2 a c pa pc j H) w) (hk : j.k.Ok) (ht : j.t.size ≤ 10000000) :
    Fn Tryz.prog 150 #[.pointer (some ⟨bj, 0, none⟩)] w fun v w' => v = zv ((j.k.dur.length : Int) - (j.t.size : Int)) ∧ Mm w0 (jnlH bj bd b1 b2 a c pa pc j H) w' := by
  have hhi := hk.hi
  refine enterK (l := [_]) hM rfl Tryz.ntmps150 rfl ?_
  refine hwJI ?_
  refine HC.anyC ([(⟨bj, 3, none⟩, .pointer (some ⟨bd, 0, none⟩)), (⟨bj, 2, none⟩, zv (j.t.size : Int))]) rfl ?_
  refine HB.pa 0 rfl ?_
  refine HB.pa 1 rfl ?_ (POp.nilCheck rfl)
  refine HB.pa 2 rfl ?_
  refine HB.ld 3 rfl rfl memD ?_
  refine HB.pa 5 rfl ?_
  refine HB.pa 6 rfl ?_ (POp.nilCheck rfl)
  refine HB.pa 7 rfl ?_
  refine HB.pa 8 rfl ?_
  refine HB.ld 9 rfl rfl memD ?_
  refine HB.all (by repeat (first | exact Keep.nil | refine Keep.blk (by (repeat (first | exact List.Mem.head _ | apply List.Mem.tail)); done) rfl ?_ | refine Keep.grow (by (repeat (first | exact List.Mem.head _ | apply List.Mem.tail)); done) (by assumption) ?_ | refine Keep.base (by assumption) ?_)) [4] (by kernel_rfl) rfl ⟨⟨_, rfl, ?_⟩, trivial⟩
  refine HP.one ?_
  refine H1.call0 (vs := [_]) rfl rfl (fun w' hM => dsize_fn (hM.blk (b := bd) memA)) ?_
  apply HB.fold
  refine HB.pa 10 rfl ?_
  refine HB.pa 11 rfl ?_
  refine HB.done (by repeat (first | exact Keep.nil | refine Keep.blk (by (repeat (first | exact List.Mem.head _ | apply List.Mem.tail)); done) rfl ?_ | refine Keep.grow (by (repeat (first | exact List.Mem.head _ | apply List.Mem.tail)); done) (by assumption) ?_ | refine Keep.base (by assumption) ?_)) (by kernel_rfl) ?_
  refine hwJI ?_
  exact HX.ret1 rfl rfl fun w' hM => ⟨rfl, hM⟩
theorem recordsNil_fn (w : World) : Fn Tryz.prog 62 #[.pointer none] w fun v w' => v = .slice none 0 0 ∧ w = w' := by
  refine enter (l := [_]) rfl Tryz.ntmps62 rfl ?_
  repeat' (first | apply WL.fold | apply WA.fold | apply WL.nil | apply WX.n_then | apply WC.seq | apply WC.region | refine WL.pa ?_ | refine WL.ga rfl ?_ | refine WL.na rfl ?_ | refine WL.nu rfl rfl ?_ | apply WC.block | apply WC.skip | apply WC.exit | apply WC.ret | apply WX.e_block | refine WX.e_other rfl ?_ | apply WX.e_then | apply WX.e_again | apply WX.n_block | apply WX.r_then | apply WX.r_block | apply WX.r_again | refine WC.cond_yes rfl ?_ | refine WC.cond_no rfl ?_ | refine WC.cond rfl (fun hc => ?_) (fun hc => ?_) | refine WC.cond_b rfl (fun hc => ?_) (fun hc => ?_))
  refine WL.pa ?_ (POp.pnil1 rfl rfl)
  repeat' (first | apply WL.fold | apply WA.fold | apply WL.nil | apply WX.n_then | apply WC.seq | apply WC.region | refine WL.pa ?_ | refine WL.ga rfl ?_ | refine WL.na rfl ?_ | refine WL.nu rfl rfl ?_ | apply WC.block | apply WC.skip | apply WC.exit | apply WC.ret | apply WX.e_block | refine WX.e_other rfl ?_ | apply WX.e_then | apply WX.e_again | apply WX.n_block | apply WX.r_then | apply WX.r_block | apply WX.r_again | refine WC.cond_yes rfl ?_ | refine WC.cond_no rfl ?_ | refine WC.cond rfl (fun hc => ?_) (fun hc => ?_) | refine WC.cond_b rfl (fun hc => ?_) (fun hc => ?_))
  exact WX.ret1 rfl rfl ⟨rfl, rfl⟩
theorem records_fn {w0 w : World} {H : List Atom} {bj bd b1 b2 c pc : Nat} {a pa : Option Addr} {j : Jn} (hM : Mm w0 (jnlH bj bd b1 b2 a c pa pc j H) w) (hl : j.t.recs.length ≤ 1000000) :
    Fn Tryz.prog 62 #[.pointer (some ⟨bj, 0, none⟩)] w fun v w' => ∃ z : Option Addr × Nat, True ∧ v = .slice z.1 j.t.recs.length z.2 ∧ Mm w [A.grow 9 1 z.1 z.2 j.t.recs.length (strs j.t.recs)] w' := by
  refine enterK (w0 := w) (H := []) (l := [_]) (Mm.refl w) rfl Tryz.ntmps62 rfl ?_
  refine hwJI ?_
  refine HL.one (H1.ld0 rfl ((hM.blk (b := bj) (e := 179) memA).cell rfl) rfl ?_)
  refine hwJI ?_
  refine HL.one (H1.callz (vs := [_]) rfl rfl (fun w' hM' => cloneS_fn _ j.t.recs hl w' ((Mm.gr (e := 9) hM memA).ext hM'.ext)) ?_)
  rintro ⟨a', c'⟩ -
  refine hwJI ?_
  exact HX.ret1 rfl rfl fun w' hM => ⟨(a', c'), trivial, rfl, hM⟩
end Go.Sx
/- Chapter 26: Append: the walk. -/
namespace Go.Sx
open Go Go.Proofs Go.RowKit
def idxL (l : List ByteArray) (i : Nat) : Int := if (l.drop i).any isLong then (i : Int) + (((l.drop i).findIdx isLong : Nat) : Int) else -1
theorem any_drop {l : List ByteArray} {i : Nat} (h : i < l.length) : (l.drop i).any isLong = (isLong (fr l i) || (l.drop (i + 1)).any isLong) := by
  rw [List.drop_eq_getElem_cons h, List.any_cons]
  simp [fr, h]
attribute [local irreducible] WC WL WX POp Then Again Fn NX W1 WA WO QL RP RA Yld LoopAt HC HL HX HN H1 HA HO HQ HB HP A.blk A.grow A.rd A.obj A.mp AgainH CutH
theorem append1_fn (s : ByteArray) (w : World) : Fn Tryz.prog 147 #[.string s] w fun v w' => v = .bool (isLong s) ∧ w = w' := by
  refine enter (l := [_]) rfl Tryz.ntmps147 rfl ?_
  repeat' (first | apply WL.fold | apply WA.fold | apply WL.nil | apply WX.n_then | apply WC.seq | apply WC.region | refine WL.pa ?_ | refine WL.ga rfl ?_ | refine WL.na rfl ?_ | refine WL.nu rfl rfl ?_ | apply WC.block | apply WC.skip | apply WC.exit | apply WC.ret | apply WX.e_block | refine WX.e_other rfl ?_ | apply WX.e_then | apply WX.e_again | apply WX.n_block | apply WX.r_then | apply WX.r_block | apply WX.r_again | refine WC.cond_yes rfl ?_ | refine WC.cond_no rfl ?_ | refine WC.cond rfl (fun hc => ?_) (fun hc => ?_) | refine WC.cond_b rfl (fun hc => ?_) (fun hc => ?_))
  refine WX.ret1 rfl rfl ⟨?_, rfl⟩
  unfold isLong
  congr 1
  exact decide_eq_decide.2 (by omega)
theorem indexLong_fn (v : Value) (l : List ByteArray) (hl : l.length ≤ 1000000) (w : World) (hR : Rd w v (strs l)) :
    Fn Tryz.prog 181 #[v, .func (.func 147) #[] #[]] w fun u w' => ∃ n : Int, decide ((0 : Int) ≤ n) = l.any isLong ∧ u = zv n ∧ Mm w [] w' := by
  by_cases hne : l = []
  · subst hne
    obtain ⟨a, c, rfl, -⟩ := rd_strs_shape hR
    refine enterH (l := [_, _]) rfl Tryz.ntmps181 rfl ?_
    refine hwJI ?_
    refine HC.loop (α := Unit) (fun _ => [(7, zv 0), (8, zv 0)]) (fun _ => []) (fun _ => True) (fun _ => 0) () trivial esA (Hs.refl _) ?_
    rintro - -
    refine hwJI ?_
    exact HX.ret1 rfl rfl fun w' hM => ⟨-1, rfl, rfl, hM⟩
  · have hlen : (strs l).length = l.length := by simp [strs]
    obtain ⟨b, off, cc, rfl, hcc, hb, -⟩ := hR.at (by intro e; exact hne (by simpa [strs] using e))
    rw [hlen] at hR ⊢
    refine enterH (l := [_, _]) rfl Tryz.ntmps181 rfl ?_
    refine hwJI ?_
    refine HC.loop (α := Nat) (fun i => [(0, .slice (some ⟨b, off, none⟩) l.length cc), (1, .func (.func 147) #[] #[]), (7, zv (l.length : Int)), (8, zv (i : Int))]) (fun _ => []) (fun i => i ≤ l.length ∧ (l.drop i).any isLong = l.any isLong) (fun i => l.length - i) 0 ⟨Nat.zero_le _, rfl⟩ esA (Hs.refl _) ?_
    rintro i ⟨hi, ha⟩
    by_cases hlt : i < l.length
    · have hget := strs_get hlt
      have had := any_drop hlt
      generalize fr l i = s at hget had
      refine hwJI ?_
      refine HL.one (H1.ldw (v := .string s) rfl (fun w' hM => (hR.ext hM.ext).cell hget) rfl ?_)
      refine hwJI ?_
      refine HL.one (H1.callv0 (f := 147) (u := .bool (isLong s)) (cap := []) (vs := [.string s]) rfl rfl rfl (fun w' hM => (append1_fn s w').mono fun v w2 h => ⟨h.1, h.2 ▸ Ext.refl _⟩) ?_)
      cases hs : isLong s
      · rw [hs, Bool.false_or] at had
        refine hwJI ?_
        exact HX.again (i + 1) ⟨hlt, by rw [← had, ha]⟩ (by show l.length - (i + 1) < l.length - i; omega) esA (Hs.refl _)
      · rw [hs, Bool.true_or] at had
        refine hwJI ?_
        exact HX.ret1 rfl rfl fun w' hM => ⟨(i : Int), by rw [← ha, had]; exact decide_eq_true (by omega), rfl, hM⟩
    · obtain rfl : i = l.length := by omega
      have h0 : l.any isLong = false := by rw [← ha, List.drop_length]; rfl
      refine hwJI ?_
      exact HX.ret1 rfl rfl fun w' hM => ⟨-1, by rw [h0]; rfl, rfl, hM⟩
theorem containsLong_fn (v : Value) (l : List ByteArray) (hl : l.length ≤ 1000000) (w : World) (hR : Rd w v (strs l)) :
    Fn Tryz.prog 148 #[v, .func (.func 147) #[] #[]] w fun u w' => u = .bool (l.any isLong) ∧ Ext w w' := by
  refine enterH (l := [_, _]) rfl Tryz.ntmps148 rfl ?_
  refine hwJI ?_
  refine HL.one (H1.callz (vs := [v, _]) rfl rfl (fun w' hM => indexLong_fn v l hl w' (hR.ext hM.ext)) ?_)
  rintro n hn
  refine hwJI ?_
  exact HX.ret1 rfl rfl fun w' hM => ⟨by rw [← hn], hM.ext⟩
end Go.Sx

