/- Chapter 25: a power failure: Crash, the walk. -/
import Derived.Test.YtlihcenahjgnmaaGreatDoorKE
namespace Go.Sx
open Go Go.Proofs Go.RowKit
def outP (n : Nat) (i : Int) : Bool := decide (i < 0) || decide ((n : Int) ≤ i)
theorem numL_asc (l : List Int) : Asc (numL l) := numL_lt l
theorem order_crash (keep : List Int) (n : Nat) : (numL keep).filter (fun i => !outP n i) = (crashL keep n).map fun i : Nat => (i : Int) := order_eq (numL_asc keep) fun x => mem_numL
theorem pendC_get {l : List (Nat × ByteArray)} : ∀ {i : Nat}, i < l.length → (pendC l)[2 * i]? = some (zv ((pendAt l i).1 : Int)) ∧ (pendC l)[2 * i + 1]? = some (.string (pendAt l i).2) := by
  induction l with
  | nil => intro i h; cases h
  | cons x l ih =>
    intro i h
    have e : pendC (x :: l) = zv (x.1 : Int) :: .string x.2 :: pendC l := rfl
    cases i with
    | zero => rw [e]; exact ⟨rfl, rfl⟩
    | succ i =>
      have h2 := ih (i := i) (by rw [List.length_cons] at h; omega)
      rw [e, show 2 * (i + 1) = 2 * i + 1 + 1 from by omega]
      exact h2
attribute [local irreducible] WC WL WX POp Then Again Fn NX W1 WA WO QL RP RA Yld LoopAt HC HL HX HN H1 HA HO HQ HB HP A.blk A.grow A.rd A.obj A.mp AgainH CutH
theorem crash1_fn {w : World} {b3 bd n pc : Nat} {pa : Option Addr} (i : Int) (h3 : w.cell? ⟨b3, 0, none⟩ = some (.pointer (some ⟨bd, 0, none⟩))) (h4 : w.cell? ⟨bd, 4, none⟩ = some (.slice pa n pc)) :
    Fn Tryz.prog 64 ([zv i] ++ [Value.pointer (some ⟨b3, 0, none⟩)]).toArray w fun v w' => v = .bool (outP n i) ∧ Ext w w' := by
  refine enterH (l := [_, _]) rfl Tryz.ntmps64 rfl ?_
  by_cases h1 : i < 0
  · repeat' (first | refine HL.pa ?_ (POp.pnil1 rfl rfl) | refine HL.pa ?_ (POp.pnil0 rfl rfl) | refine HL.pa ?_ (POp.nilCheck rfl) | apply HL.fold | apply HA.fold | apply HL.nil | apply HX.n_then | apply HC.seq | apply HC.region | refine HL.pa ?_ | refine HL.ga rfl ?_ | refine HL.na rfl ?_ | refine HL.nu rfl rfl ?_ | apply HC.block | apply HC.skip | apply HC.exit | apply HC.ret | apply HX.e_block | refine HX.e_other rfl ?_ | apply HX.e_then | apply HX.e_again | apply HX.n_block | apply HX.r_then | apply HX.r_block | apply HX.r_again | refine HC.cond_yes rfl ?_ | refine HC.cond_no rfl ?_ | refine HL.one (H1.ldb rfl memA rfl rfl ?_) | refine HC.cond rfl (fun hc => ?_) (fun hc => ?_) | refine HC.cond_b rfl (fun hc => ?_) (fun hc => ?_))
    exact HX.ret1 rfl rfl fun w' hM => ⟨by unfold outP; rw [decide_eq_true h1, Bool.true_or], hM.ext⟩
  · repeat' (first | refine HL.pa ?_ (POp.pnil1 rfl rfl) | refine HL.pa ?_ (POp.pnil0 rfl rfl) | refine HL.pa ?_ (POp.nilCheck rfl) | apply HL.fold | apply HA.fold | apply HL.nil | apply HX.n_then | apply HC.seq | apply HC.region | refine HL.pa ?_ | refine HL.ga rfl ?_ | refine HL.na rfl ?_ | refine HL.nu rfl rfl ?_ | apply HC.block | apply HC.skip | apply HC.exit | apply HC.ret | apply HX.e_block | refine HX.e_other rfl ?_ | apply HX.e_then | apply HX.e_again | apply HX.n_block | apply HX.r_then | apply HX.r_block | apply HX.r_again | refine HC.cond_yes rfl ?_ | refine HC.cond_no rfl ?_ | refine HL.one (H1.ldb rfl memA rfl rfl ?_) | refine HC.cond rfl (fun hc => ?_) (fun hc => ?_) | refine HC.cond_b rfl (fun hc => ?_) (fun hc => ?_))
    refine HL.one (H1.ld0 rfl h3 rfl ?_)
    repeat' (first | refine HL.pa ?_ (POp.pnil1 rfl rfl) | refine HL.pa ?_ (POp.pnil0 rfl rfl) | refine HL.pa ?_ (POp.nilCheck rfl) | apply HL.fold | apply HA.fold | apply HL.nil | apply HX.n_then | apply HC.seq | apply HC.region | refine HL.pa ?_ | refine HL.ga rfl ?_ | refine HL.na rfl ?_ | refine HL.nu rfl rfl ?_ | apply HC.block | apply HC.skip | apply HC.exit | apply HC.ret | apply HX.e_block | refine HX.e_other rfl ?_ | apply HX.e_then | apply HX.e_again | apply HX.n_block | apply HX.r_then | apply HX.r_block | apply HX.r_again | refine HC.cond_yes rfl ?_ | refine HC.cond_no rfl ?_ | refine HL.one (H1.ldb rfl memA rfl rfl ?_) | refine HC.cond rfl (fun hc => ?_) (fun hc => ?_) | refine HC.cond_b rfl (fun hc => ?_) (fun hc => ?_))
    refine HL.one (H1.ld0 rfl h4 rfl ?_)
    repeat' (first | refine HL.pa ?_ (POp.pnil1 rfl rfl) | refine HL.pa ?_ (POp.pnil0 rfl rfl) | refine HL.pa ?_ (POp.nilCheck rfl) | apply HL.fold | apply HA.fold | apply HL.nil | apply HX.n_then | apply HC.seq | apply HC.region | refine HL.pa ?_ | refine HL.ga rfl ?_ | refine HL.na rfl ?_ | refine HL.nu rfl rfl ?_ | apply HC.block | apply HC.skip | apply HC.exit | apply HC.ret | apply HX.e_block | refine HX.e_other rfl ?_ | apply HX.e_then | apply HX.e_again | apply HX.n_block | apply HX.r_then | apply HX.r_block | apply HX.r_again | refine HC.cond_yes rfl ?_ | refine HC.cond_no rfl ?_ | refine HL.one (H1.ldb rfl memA rfl rfl ?_) | refine HC.cond rfl (fun hc => ?_) (fun hc => ?_) | refine HC.cond_b rfl (fun hc => ?_) (fun hc => ?_))
    exact HX.ret1 rfl rfl fun w' hM => ⟨by unfold outP; rw [decide_eq_false h1, Bool.false_or], hM.ext⟩
theorem settle2_fn {w0 w : World} {H : List Atom} {bd b1 b2 pc : Nat} {pa : Option Addr} {k : Dk} (hM : Mm w0 (dkH bd b1 b2 pa pc k H) w) (hl : k.vis.length = k.dur.length) :
    Fn Tryz.prog 65 #[.pointer (some ⟨bd, 0, none⟩), .slice (some ⟨b1, 0, none⟩) k.dur.length k.dur.length, .slice (some ⟨b2, 0, none⟩) k.vis.length k.vis.length] w fun v w' => v = .tuple #[] ∧
      Mm w0 (dkH bd b1 b2 pa pc { k with vis := k.dur, pend := [] } H) w' := by
  have hu1 := ub_len k.dur
  have hu2 := ub_len k.vis
  refine enterK (l := [_, _, _]) hM rfl Tryz.ntmps65 rfl ?_
  repeat' (first | refine HL.pa ?_ (POp.pnil1 rfl rfl) | refine HL.pa ?_ (POp.pnil0 rfl rfl) | refine HL.pa ?_ (POp.nilCheck rfl) | apply HL.fold | apply HA.fold | apply HL.nil | apply HX.n_then | apply HC.seq | apply HC.region | refine HL.pa ?_ | refine HL.ga rfl ?_ | refine HL.na rfl ?_ | refine HL.nu rfl rfl ?_ | apply HC.block | apply HC.skip | apply HC.exit | apply HC.ret | apply HX.e_block | refine HX.e_other rfl ?_ | apply HX.e_then | apply HX.e_again | apply HX.n_block | apply HX.r_then | apply HX.r_block | apply HX.r_again | refine HC.cond_yes rfl ?_ | refine HC.cond_no rfl ?_ | refine HL.one (H1.ldb rfl memA rfl rfl ?_) | refine HC.cond rfl (fun hc => ?_) (fun hc => ?_) | refine HC.cond_b rfl (fun hc => ?_) (fun hc => ?_))
  refine HL.one (H1.copyB (b := b2) (cur := ub k.vis) (cs := ub k.dur) (cur' := ub k.dur) rfl rfl (by omega) (fun w' hM j v hv => ?_) (by
    intro v hv
    obtain ⟨x, -, rfl⟩ := List.mem_map.1 hv
    rfl) (by omega) ?_ rplA rfl ?_)
  · rw [add_lit, Nat.zero_add]
    exact (hM.blk (b := b1) (cs := ub k.dur) memA).cell hv
  · rw [List.take_zero, List.nil_append, Nat.zero_add, hu1, List.drop_of_length_le (by omega), List.append_nil]
  repeat' (first | refine HL.pa ?_ (POp.pnil1 rfl rfl) | refine HL.pa ?_ (POp.pnil0 rfl rfl) | refine HL.pa ?_ (POp.nilCheck rfl) | apply HL.fold | apply HA.fold | apply HL.nil | apply HX.n_then | apply HC.seq | apply HC.region | refine HL.pa ?_ | refine HL.ga rfl ?_ | refine HL.na rfl ?_ | refine HL.nu rfl rfl ?_ | apply HC.block | apply HC.skip | apply HC.exit | apply HC.ret | apply HX.e_block | refine HX.e_other rfl ?_ | apply HX.e_then | apply HX.e_again | apply HX.n_block | apply HX.r_then | apply HX.r_block | apply HX.r_again | refine HC.cond_yes rfl ?_ | refine HC.cond_no rfl ?_ | refine HL.one (H1.ldb rfl memA rfl rfl ?_) | refine HC.cond rfl (fun hc => ?_) (fun hc => ?_) | refine HC.cond_b rfl (fun hc => ?_) (fun hc => ?_))
  refine HL.one (H1.clearG rfl (by intro v hv; rcases List.mem_cons.1 hv with rfl | hv; rfl; rcases List.mem_cons.1 hv with rfl | hv; rfl; cases hv) (by decide) rfl rplA rfl ?_)
  repeat' (first | refine HL.pa ?_ (POp.pnil1 rfl rfl) | refine HL.pa ?_ (POp.pnil0 rfl rfl) | refine HL.pa ?_ (POp.nilCheck rfl) | apply HL.fold | apply HA.fold | apply HL.nil | apply HX.n_then | apply HC.seq | apply HC.region | refine HL.pa ?_ | refine HL.ga rfl ?_ | refine HL.na rfl ?_ | refine HL.nu rfl rfl ?_ | apply HC.block | apply HC.skip | apply HC.exit | apply HC.ret | apply HX.e_block | refine HX.e_other rfl ?_ | apply HX.e_then | apply HX.e_again | apply HX.n_block | apply HX.r_then | apply HX.r_block | apply HX.r_again | refine HC.cond_yes rfl ?_ | refine HC.cond_no rfl ?_ | refine HL.one (H1.ldb rfl memA rfl rfl ?_) | refine HC.cond rfl (fun hc => ?_) (fun hc => ?_) | refine HC.cond_b rfl (fun hc => ?_) (fun hc => ?_))
  refine HL.growCut (e := 92) (sz := 2) (a := pa) (c := pc) (n := k.pend.length) rplA ?_
  refine HL.pa ?_ (POp.pre_any rfl rfl (by decide) (by omega))
  repeat' (first | refine HL.pa ?_ (POp.pnil1 rfl rfl) | refine HL.pa ?_ (POp.pnil0 rfl rfl) | refine HL.pa ?_ (POp.nilCheck rfl) | apply HL.fold | apply HA.fold | apply HL.nil | apply HX.n_then | apply HC.seq | apply HC.region | refine HL.pa ?_ | refine HL.ga rfl ?_ | refine HL.na rfl ?_ | refine HL.nu rfl rfl ?_ | apply HC.block | apply HC.skip | apply HC.exit | apply HC.ret | apply HX.e_block | refine HX.e_other rfl ?_ | apply HX.e_then | apply HX.e_again | apply HX.n_block | apply HX.r_then | apply HX.r_block | apply HX.r_again | refine HC.cond_yes rfl ?_ | refine HC.cond_no rfl ?_ | refine HL.one (H1.ldb rfl memA rfl rfl ?_) | refine HC.cond rfl (fun hc => ?_) (fun hc => ?_) | refine HC.cond_b rfl (fun hc => ?_) (fun hc => ?_))
  refine HL.one (H1.st rfl rfl (by intro _ h; cases h) (by intro _ h; cases h) rplA (by show 4 < 5; decide) ?_)
  repeat' (first | refine HL.pa ?_ (POp.pnil1 rfl rfl) | refine HL.pa ?_ (POp.pnil0 rfl rfl) | refine HL.pa ?_ (POp.nilCheck rfl) | apply HL.fold | apply HA.fold | apply HL.nil | apply HX.n_then | apply HC.seq | apply HC.region | refine HL.pa ?_ | refine HL.ga rfl ?_ | refine HL.na rfl ?_ | refine HL.nu rfl rfl ?_ | apply HC.block | apply HC.skip | apply HC.exit | apply HC.ret | apply HX.e_block | refine HX.e_other rfl ?_ | apply HX.e_then | apply HX.e_again | apply HX.n_block | apply HX.r_then | apply HX.r_block | apply HX.r_again | refine HC.cond_yes rfl ?_ | refine HC.cond_no rfl ?_ | refine HL.one (H1.ldb rfl memA rfl rfl ?_) | refine HC.cond rfl (fun hc => ?_) (fun hc => ?_) | refine HC.cond_b rfl (fun hc => ?_) (fun hc => ?_))
  have e : (dkC b1 b2 pa pc k).set (0 + 4) (Value.slice pa (Int.toNat 0) pc) = dkC b1 b2 pa pc { k with vis := k.dur, pend := [] } := by
    show [_, _, _, _, _] = [_, _, _, _, _]
    rw [hl]; rfl
  rw [e]
  exact HX.end0 rfl fun w' hM => ⟨rfl, hM⟩
set_option maxHeartbeats 4000000 in
theorem crash_fn {w0 w : World} {H : List Atom} {bd b1 b2 pc ck : Nat} {pa ak : Option Addr} {k : Dk} (keep : List Int) (torn : Int) (ht1 : -9223372036854775808 ≤ torn) (ht2 : torn ≤ 9223372036854775807) (hM : Mm w0 (dkH bd b1 b2 pa pc k H) w) (hk : k.Ok) (hf : k.Fit) (hl : keep.length ≤ 1000)
    (hR : ∀ w', Mm w0 (dkH bd b1 b2 pa pc k H) w' → Rd w' (.slice ak keep.length ck) (ints keep)) :
    Fn Tryz.prog 30 #[.pointer (some ⟨bd, 0, none⟩), .slice ak keep.length ck, zv torn] w fun v w' => v = zv 0 ∧ Mm w0 (dkH bd b1 b2 pa pc (k.crash keep torn) H) w' := by
  have hlen := hk.len
  have hlo := hk.lo
  have hhi := hk.hi
  have hpn := hk.pend
  refine enterK (l := [_, _, _]) hM rfl Tryz.ntmps30 rfl ?_
  repeat' (first | refine HL.pa ?_ (POp.pnil1 rfl rfl) | refine HL.pa ?_ (POp.pnil0 rfl rfl) | refine HL.pa ?_ (POp.nilCheck rfl) | apply HL.fold | apply HA.fold | apply HL.nil | apply HX.n_then | apply HC.seq | apply HC.region | refine HL.pa ?_ | refine HL.ga rfl ?_ | refine HL.na rfl ?_ | refine HL.nu rfl rfl ?_ | apply HC.block | apply HC.skip | apply HC.exit | apply HC.ret | apply HX.e_block | refine HX.e_other rfl ?_ | apply HX.e_then | apply HX.e_again | apply HX.n_block | apply HX.r_then | apply HX.r_block | apply HX.r_again | refine HC.cond_yes rfl ?_ | refine HC.cond_no rfl ?_ | refine HL.one (H1.ldb rfl memA rfl rfl ?_) | refine HC.cond rfl (fun hc => ?_) (fun hc => ?_) | refine HC.cond_b rfl (fun hc => ?_) (fun hc => ?_))
  refine HL.one (H1.box rfl rfl rfl (fun b3 => ?_))
  repeat' (first | refine HL.pa ?_ (POp.pnil1 rfl rfl) | refine HL.pa ?_ (POp.pnil0 rfl rfl) | refine HL.pa ?_ (POp.nilCheck rfl) | apply HL.fold | apply HA.fold | apply HL.nil | apply HX.n_then | apply HC.seq | apply HC.region | refine HL.pa ?_ | refine HL.ga rfl ?_ | refine HL.na rfl ?_ | refine HL.nu rfl rfl ?_ | apply HC.block | apply HC.skip | apply HC.exit | apply HC.ret | apply HX.e_block | refine HX.e_other rfl ?_ | apply HX.e_then | apply HX.e_again | apply HX.n_block | apply HX.r_then | apply HX.r_block | apply HX.r_again | refine HC.cond_yes rfl ?_ | refine HC.cond_no rfl ?_ | refine HL.one (H1.ldb rfl memA rfl rfl ?_) | refine HC.cond rfl (fun hc => ?_) (fun hc => ?_) | refine HC.cond_b rfl (fun hc => ?_) (fun hc => ?_))
  refine HL.one (H1.callz (vs := [.slice ak keep.length ck]) rfl rfl (fun w' hM => values_fn ak keep.length ck w') ?_)
  rintro bv -
  repeat' (first | refine HL.pa ?_ (POp.pnil1 rfl rfl) | refine HL.pa ?_ (POp.pnil0 rfl rfl) | refine HL.pa ?_ (POp.nilCheck rfl) | apply HL.fold | apply HA.fold | apply HL.nil | apply HX.n_then | apply HC.seq | apply HC.region | refine HL.pa ?_ | refine HL.ga rfl ?_ | refine HL.na rfl ?_ | refine HL.nu rfl rfl ?_ | apply HC.block | apply HC.skip | apply HC.exit | apply HC.ret | apply HX.e_block | refine HX.e_other rfl ?_ | apply HX.e_then | apply HX.e_again | apply HX.n_block | apply HX.r_then | apply HX.r_block | apply HX.r_again | refine HC.cond_yes rfl ?_ | refine HC.cond_no rfl ?_ | refine HL.one (H1.ldb rfl memA rfl rfl ?_) | refine HC.cond rfl (fun hc => ?_) (fun hc => ?_) | refine HC.cond_b rfl (fun hc => ?_) (fun hc => ?_))
  refine HL.one (H1.callz (vs := [.func (.func 91) #[] #[.pointer (some ⟨bv, 0, none⟩)]]) rfl rfl (fun w' hM => sorted_fn keep w' (hR w' (hM.sub (Hs.refl _).skip.skip)) (hM.blk (b := bv) memA) (by omega)) ?_)
  rintro ⟨ao, cs⟩ -
  dsimp only
  repeat' (first | refine HL.pa ?_ (POp.pnil1 rfl rfl) | refine HL.pa ?_ (POp.pnil0 rfl rfl) | refine HL.pa ?_ (POp.nilCheck rfl) | apply HL.fold | apply HA.fold | apply HL.nil | apply HX.n_then | apply HC.seq | apply HC.region | refine HL.pa ?_ | refine HL.ga rfl ?_ | refine HL.na rfl ?_ | refine HL.nu rfl rfl ?_ | apply HC.block | apply HC.skip | apply HC.exit | apply HC.ret | apply HX.e_block | refine HX.e_other rfl ?_ | apply HX.e_then | apply HX.e_again | apply HX.n_block | apply HX.r_then | apply HX.r_block | apply HX.r_again | refine HC.cond_yes rfl ?_ | refine HC.cond_no rfl ?_ | refine HL.one (H1.ldb rfl memA rfl rfl ?_) | refine HC.cond rfl (fun hc => ?_) (fun hc => ?_) | refine HC.cond_b rfl (fun hc => ?_) (fun hc => ?_))
  have hsl : (srtI keep).length = keep.length := srtI_len keep
  refine HL.one (H1.callk (α := Unit) (V := fun _ => .slice ao (numL keep).length cs) (I := fun _ => True) (H' := fun _ => A.grow 3 1 ao cs (numL keep).length (ints (numL keep)) :: A.blk b3 [.pointer (some ⟨bd, 0, none⟩)] 27 :: dkH bd b1 b2 pa pc k H) (vs := [.slice ao (srtI keep).length cs]) rfl rfl (fun w' hM => (compactI_fn hM Rpl.here (by omega)).mono fun v w2 h => ⟨(), trivial, h.1, h.2.sub (Hs.cons Pick.here (Hs.cons (Pick.there Pick.here) (Hs.refl _).skip))⟩) ?_)
  rintro - -
  have hnl := numL_len keep
  repeat' (first | refine HL.pa ?_ (POp.pnil1 rfl rfl) | refine HL.pa ?_ (POp.pnil0 rfl rfl) | refine HL.pa ?_ (POp.nilCheck rfl) | apply HL.fold | apply HA.fold | apply HL.nil | apply HX.n_then | apply HC.seq | apply HC.region | refine HL.pa ?_ | refine HL.ga rfl ?_ | refine HL.na rfl ?_ | refine HL.nu rfl rfl ?_ | apply HC.block | apply HC.skip | apply HC.exit | apply HC.ret | apply HX.e_block | refine HX.e_other rfl ?_ | apply HX.e_then | apply HX.e_again | apply HX.n_block | apply HX.r_then | apply HX.r_block | apply HX.r_again | refine HC.cond_yes rfl ?_ | refine HC.cond_no rfl ?_ | refine HL.one (H1.ldb rfl memA rfl rfl ?_) | refine HC.cond rfl (fun hc => ?_) (fun hc => ?_) | refine HC.cond_b rfl (fun hc => ?_) (fun hc => ?_))
  obtain ⟨L, hL⟩ : ∃ L, L = crashL keep k.pend.length := ⟨_, rfl⟩
  obtain ⟨L2, hL2⟩ : ∃ L2, L2 = L.map fun i : Nat => (i : Int) := ⟨_, rfl⟩
  have hord := order_crash keep k.pend.length
  rw [← hL, ← hL2] at hord
  have hLlt : ∀ i ∈ L, i < k.pend.length := fun i hi => crashL_lt (by rw [← hL]; exact hi)
  have hLl : L2.length = L.length := by rw [hL2, List.length_map]
  refine HL.one (H1.callk (α := Unit) (V := fun _ => .slice ao L2.length cs) (I := fun _ => True) (H' := fun _ => A.grow 3 1 ao cs L2.length (ints L2) :: A.blk b3 [.pointer (some ⟨bd, 0, none⟩)] 27 :: dkH bd b1 b2 pa pc k H) (vs := [.slice ao (numL keep).length cs, .func (.func 64) #[] #[.pointer (some ⟨b3, 0, none⟩)]]) rfl rfl
    (fun w' hM => by
      have h := deleteFI_fn (f := 64) (cap := [.pointer (some ⟨b3, 0, none⟩)]) (K := A.blk b3 [.pointer (some ⟨bd, 0, none⟩)] 27 :: dkH bd b1 b2 pa pc k H) (outP k.pend.length) (numL keep) (by omega) (fun x _ a' c' n' xs' w2 hM2 => crash1_fn x ((hM2.blk (b := b3) (cs := [.pointer (some ⟨bd, 0, none⟩)]) (.tail _ (.head _))).cell rfl) ((hM2.blk (b := bd) (cs := dkC b1 b2 pa pc k) (.tail _ (.tail _ (.head _)))).cell rfl)) w' hM
      rw [hord] at h
      exact h.mono fun v w2 h => ⟨(), trivial, h⟩) ?_)
  rintro - -
  have hL2l : L2.length ≤ 1000 := by
    have h1 : ((numL keep).filter fun i => !outP k.pend.length i).length ≤ (numL keep).length := List.length_filter_le _ _
    rw [hord] at h1
    omega
  repeat' (first | refine HL.pa ?_ (POp.pnil1 rfl rfl) | refine HL.pa ?_ (POp.pnil0 rfl rfl) | refine HL.pa ?_ (POp.nilCheck rfl) | apply HL.fold | apply HA.fold | apply HL.nil | apply HX.n_then | apply HC.seq | apply HC.region | refine HL.pa ?_ | refine HL.ga rfl ?_ | refine HL.na rfl ?_ | refine HL.nu rfl rfl ?_ | apply HC.skip | apply HC.exit | apply HC.ret | apply HX.e_block | refine HX.e_other rfl ?_ | apply HX.e_then | apply HX.e_again | apply HX.n_block | apply HX.r_then | apply HX.r_block | apply HX.r_again | refine HC.cond_yes rfl ?_ | refine HC.cond_no rfl ?_ | refine HL.one (H1.ldb rfl memA rfl rfl ?_) | refine HC.cond rfl (fun hc => ?_) (fun hc => ?_) | refine HC.cond_b rfl (fun hc => ?_) (fun hc => ?_))
  repeat refine HC.seq ?_
  have hcr : (k.crash keep torn).dur = applyL k.pend torn L k.dur := by show applyL k.pend torn (crashL keep k.pend.length) k.dur = _; rw [← hL]
  have hcrl := crash_len hf keep torn
  refine HC.cut (α := Unit) (fun _ => [(3, .pointer (some ⟨b3, 0, none⟩))]) (fun _ => A.blk b3 [.pointer (some ⟨bd, 0, none⟩)] 27 :: dkH bd b1 b2 pa pc { k with dur := (k.crash keep torn).dur } H) (fun _ => True) ?_ ?_
  · refine HC.block ?_
    refine HC.sub [(2, zv torn), (3, .pointer (some ⟨b3, 0, none⟩)), (7, .slice ao L2.length cs), (20, .slice ao L2.length cs), (21, zv (L2.length : Int)), (22, zv 0)] (A.grow 3 1 ao cs L2.length (ints L2) :: A.blk b3 [.pointer (some ⟨bd, 0, none⟩)] 27 :: dkH bd b1 b2 pa pc k H) ?_ esA (Hs.refl _)
    refine HC.loop (α := Nat × List UInt8) (fun z => [(2, zv torn), (3, .pointer (some ⟨b3, 0, none⟩)), (7, .slice ao L2.length cs), (20, .slice ao L2.length cs), (21, zv (L2.length : Int)), (22, zv (z.1 : Int))]) (fun z => A.grow 3 1 ao cs L2.length (ints L2) :: A.blk b3 [.pointer (some ⟨bd, 0, none⟩)] 27 :: dkH bd b1 b2 pa pc { k with dur := z.2 } H)
      (fun z => z.1 ≤ L2.length ∧ applyL k.pend torn (L.drop z.1) z.2 = (k.crash keep torn).dur ∧ z.2.length = k.dur.length) (fun z => L2.length - z.1) (0, k.dur) ⟨Nat.zero_le _, hcr.symm, rfl⟩ esA (Hs.refl _) ?_
    rintro ⟨q, D⟩ ⟨hq, happ, hDl⟩
    dsimp only at hq happ hDl ⊢
    by_cases hlt : q < L2.length
    · have hltL : q < L.length := by omega
      obtain ⟨i0, hi0⟩ : ∃ i0, L[q]? = some i0 := ⟨_, List.getElem?_eq_getElem hltL⟩
      have hi0lt : i0 < k.pend.length := hLlt i0 (List.mem_of_getElem? hi0)
      have hdr : L.drop q = i0 :: L.drop (q + 1) := by
        rw [List.drop_eq_getElem_cons hltL]
        congr 1
        rw [List.getElem?_eq_getElem hltL] at hi0
        exact Option.some.inj hi0
      have hget : (ints L2)[q]? = some (zv (i0 : Int)) := by
        rw [hL2]; unfold ints
        rw [List.getElem?_map, List.getElem?_map, hi0]; rfl
      have hpm := hf _ (pendAt_mem hi0lt)
      obtain ⟨hg1, hg2⟩ := pendC_get hi0lt
      rw [hdr] at happ
      have hunf : applyL k.pend torn (i0 :: L.drop (q + 1)) D = applyL k.pend torn (L.drop (q + 1)) (splice D (pendAt k.pend i0).1 (tornS torn (L.drop (q + 1)).isEmpty (pendAt k.pend i0).2).data.toList) := rfl
      rw [hunf] at happ
      have hts := tornS_size torn (L.drop (q + 1)).isEmpty (pendAt k.pend i0).2
      have hlast : (L.drop (q + 1)).isEmpty = decide (q + 1 = L2.length) := by
        by_cases h : q + 1 = L2.length
        · rw [List.drop_of_length_le (by omega), decide_eq_true h]; rfl
        · rw [decide_eq_false h]
          have : L.drop (q + 1) ≠ [] := by
            intro e
            have := congrArg List.length e
            rw [List.length_drop] at this
            simp at this; omega
          cases hx : L.drop (q + 1) with
          | nil => exact absurd hx this
          | cons _ _ => rfl
      generalize (pendAt k.pend i0).1 = off at hg1 happ hpm
      generalize (pendAt k.pend i0).2 = s at hg2 happ hts hpm
      obtain ⟨s', hs'⟩ : ∃ s', s' = tornS torn (L.drop (q + 1)).isEmpty s := ⟨_, rfl⟩
      rw [← hs'] at happ hts
      rw [hlast] at hs'
      have hs'l : s'.data.toList.length = s'.size := by rw [Array.length_toList]; rfl
      have hspl : (splice D off s'.data.toList).length = D.length := splice_len (by omega)
      refine HC.openg (e := 3) (sz := 1) (a := ao) (c := cs) (n := L2.length) (xs := ints L2) (.head _) (by omega) ?_
      rintro go rfl
      refine HC.openg (e := 92) (sz := 2) (a := pa) (c := pc) (n := k.pend.length) (xs := pendC k.pend) (.tail _ (.tail _ (.tail _ (.tail _ (.tail _ (.head _)))))) (by omega) ?_
      rintro gp rfl
      repeat' (first | refine HL.pa ?_ (POp.pnil1 rfl rfl) | refine HL.pa ?_ (POp.pnil0 rfl rfl) | refine HL.pa ?_ (POp.nilCheck rfl) | apply HL.fold | apply HA.fold | apply HL.nil | apply HX.n_then | apply HC.seq | apply HC.region | refine HL.pa ?_ | refine HL.ga rfl ?_ | refine HL.na rfl ?_ | refine HL.nu rfl rfl ?_ | apply HC.block | apply HC.skip | apply HC.exit | apply HC.ret | apply HX.e_block | refine HX.e_other rfl ?_ | apply HX.e_then | apply HX.e_again | apply HX.n_block | apply HX.r_then | apply HX.r_block | apply HX.r_again | refine HC.cond_yes rfl ?_ | refine HC.cond_no rfl ?_ | refine HL.one (H1.ldb rfl memA rfl rfl ?_) | refine HC.cond rfl (fun hc => ?_) (fun hc => ?_) | refine HC.cond_b rfl (fun hc => ?_) (fun hc => ?_))
      refine HL.one (H1.ldg rfl (.head _) hget rfl ?_)
      repeat' (first | refine HL.pa ?_ (POp.pnil1 rfl rfl) | refine HL.pa ?_ (POp.pnil0 rfl rfl) | refine HL.pa ?_ (POp.nilCheck rfl) | apply HL.fold | apply HA.fold | apply HL.nil | apply HX.n_then | apply HC.seq | apply HC.region | refine HL.pa ?_ | refine HL.ga rfl ?_ | refine HL.na rfl ?_ | refine HL.nu rfl rfl ?_ | apply HC.block | apply HC.skip | apply HC.exit | apply HC.ret | apply HX.e_block | refine HX.e_other rfl ?_ | apply HX.e_then | apply HX.e_again | apply HX.n_block | apply HX.r_then | apply HX.r_block | apply HX.r_again | refine HC.cond_yes rfl ?_ | refine HC.cond_no rfl ?_ | refine HL.one (H1.ldb rfl memA rfl rfl ?_) | refine HC.cond rfl (fun hc => ?_) (fun hc => ?_) | refine HC.cond_b rfl (fun hc => ?_) (fun hc => ?_))
      dsimp only
      repeat' (first | refine HL.pa ?_ (POp.pnil1 rfl rfl) | refine HL.pa ?_ (POp.pnil0 rfl rfl) | refine HL.pa ?_ (POp.nilCheck rfl) | apply HL.fold | apply HA.fold | apply HL.nil | apply HX.n_then | apply HC.seq | apply HC.region | refine HL.pa ?_ | refine HL.ga rfl ?_ | refine HL.na rfl ?_ | refine HL.nu rfl rfl ?_ | apply HC.block | apply HC.skip | apply HC.exit | apply HC.ret | apply HX.e_block | refine HX.e_other rfl ?_ | apply HX.e_then | apply HX.e_again | apply HX.n_block | apply HX.r_then | apply HX.r_block | apply HX.r_again | refine HC.cond_yes rfl ?_ | refine HC.cond_no rfl ?_ | refine HL.one (H1.ldb rfl memA rfl rfl ?_) | refine HC.cond rfl (fun hc => ?_) (fun hc => ?_) | refine HC.cond_b rfl (fun hc => ?_) (fun hc => ?_))
      refine HL.one (H1.ldAggw (b := gp) (off := i0 * 2) (vs := [zv (off : Int), .string s]) rfl rfl (fun w' hM j u hu => ?_) rfl ?_)
      · have hown := hM.own (e := 92) (sz := 2) (a := some ⟨gp, 0, none⟩) (c := pc) (xs := pendC k.pend) (.tail _ (.tail _ (.tail _ (.tail _ (.tail _ (.head _))))))
        match j, hu with
        | 0, hu => cases hu; rw [show i0 * 2 + 0 = 2 * i0 from by omega]; exact ownsRow_cell hown hg1
        | 1, hu => cases hu; rw [show i0 * 2 + 1 = 2 * i0 + 1 from by omega]; exact ownsRow_cell hown hg2
        | j + 2, hu => cases hu
      repeat' (first | refine HL.pa ?_ (POp.pnil1 rfl rfl) | refine HL.pa ?_ (POp.pnil0 rfl rfl) | refine HL.pa ?_ (POp.nilCheck rfl) | apply HL.fold | apply HA.fold | apply HL.nil | apply HX.n_then | apply HC.seq | apply HC.region | refine HL.pa ?_ | refine HL.ga rfl ?_ | refine HL.na rfl ?_ | refine HL.nu rfl rfl ?_ | apply HC.block | apply HC.skip | apply HC.exit | apply HC.ret | apply HX.e_block | refine HX.e_other rfl ?_ | apply HX.e_then | apply HX.e_again | apply HX.n_block | apply HX.r_then | apply HX.r_block | apply HX.r_again | refine HC.cond_yes rfl ?_ | refine HC.cond_no rfl ?_ | refine HL.one (H1.ldb rfl memA rfl rfl ?_) | refine HC.cond rfl (fun hc => ?_) (fun hc => ?_) | refine HC.cond_b rfl (fun hc => ?_) (fun hc => ?_))
      refine HL.one (H1.alloc (cs := [zv 0, .string (ByteArray.mk #[])]) (by kernel_rfl) rfl (fun tw => ?_))
      repeat' (first | refine HL.pa ?_ (POp.pnil1 rfl rfl) | refine HL.pa ?_ (POp.pnil0 rfl rfl) | refine HL.pa ?_ (POp.nilCheck rfl) | apply HL.fold | apply HA.fold | apply HL.nil | apply HX.n_then | apply HC.seq | apply HC.region | refine HL.pa ?_ | refine HL.ga rfl ?_ | refine HL.na rfl ?_ | refine HL.nu rfl rfl ?_ | apply HC.block | apply HC.skip | apply HC.exit | apply HC.ret | apply HX.e_block | refine HX.e_other rfl ?_ | apply HX.e_then | apply HX.e_again | apply HX.n_block | apply HX.r_then | apply HX.r_block | apply HX.r_again | refine HC.cond_yes rfl ?_ | refine HC.cond_no rfl ?_ | refine HL.one (H1.ldb rfl memA rfl rfl ?_) | refine HC.cond rfl (fun hc => ?_) (fun hc => ?_) | refine HC.cond_b rfl (fun hc => ?_) (fun hc => ?_))
      refine HL.one (H1.stAgg (cs := [zv 0, .string (ByteArray.mk #[])]) rfl rfl rfl (by intro v hv; rcases List.mem_cons.1 hv with rfl | hv; rfl; rcases List.mem_cons.1 hv with rfl | hv; rfl; cases hv) rplA rfl ?_)
      have hdk : dkC b1 b2 (some ⟨gp, 0, none⟩) pc { k with dur := D } = dkC b1 b2 (some ⟨gp, 0, none⟩) pc { k with dur := splice D off s'.data.toList } := by
        show [_, _, _, _, _] = [_, _, _, _, _]
        rw [hspl]
      by_cases hla : q + 1 = L2.length
      · have hqi : (q : Int) = (L2.length : Int) - 1 := by omega
        rw [decide_eq_true hla] at hs'
        by_cases htn : 0 ≤ torn
        · have hse : s' = s.extract 0 (min torn (s.size : Int)).toNat := by rw [hs']; unfold tornS; rw [if_pos ⟨rfl, htn⟩]
          repeat' (first | refine HL.pa ?_ (POp.pnil1 rfl rfl) | refine HL.pa ?_ (POp.pnil0 rfl rfl) | refine HL.pa ?_ (POp.nilCheck rfl) | apply HL.fold | apply HA.fold | apply HL.nil | apply HX.n_then | apply HC.seq | apply HC.region | refine HL.pa ?_ | refine HL.ga rfl ?_ | refine HL.na rfl ?_ | refine HL.nu rfl rfl ?_ | apply HC.block | apply HC.skip | apply HC.exit | apply HC.ret | apply HX.e_block | refine HX.e_other rfl ?_ | apply HX.e_then | apply HX.e_again | apply HX.n_block | apply HX.r_then | apply HX.r_block | apply HX.r_again | refine HC.cond_yes rfl ?_ | refine HC.cond_no rfl ?_ | refine HL.one (H1.ldb rfl memA rfl rfl ?_) | refine HC.cond rfl (fun hc => ?_) (fun hc => ?_) | refine HC.cond_b rfl (fun hc => ?_) (fun hc => ?_))
          rw [← hse]
          refine HL.one (H1.st (b := tw) rfl rfl (by intro _ h; cases h) (by intro _ h; cases h) Rpl.here (by show 1 < 2; decide) ?_)
          repeat' (first | refine HL.pa ?_ (POp.pnil1 rfl rfl) | refine HL.pa ?_ (POp.pnil0 rfl rfl) | refine HL.pa ?_ (POp.nilCheck rfl) | apply HL.fold | apply HA.fold | apply HL.nil | apply HX.n_then | apply HC.seq | apply HC.region | refine HL.pa ?_ | refine HL.ga rfl ?_ | refine HL.na rfl ?_ | refine HL.nu rfl rfl ?_ | apply HC.block | apply HC.skip | apply HC.exit | apply HC.ret | apply HX.e_block | refine HX.e_other rfl ?_ | apply HX.e_then | apply HX.e_again | apply HX.n_block | apply HX.r_then | apply HX.r_block | apply HX.r_again | refine HC.cond_yes rfl ?_ | refine HC.cond_no rfl ?_ | refine HL.one (H1.ldb rfl memA rfl rfl ?_) | refine HC.cond rfl (fun hc => ?_) (fun hc => ?_) | refine HC.cond_b rfl (fun hc => ?_) (fun hc => ?_))
          refine HC.anyC ([(⟨b3, 0, none⟩, .pointer (some ⟨bd, 0, none⟩)), (⟨bd, 2, none⟩, .slice (some ⟨b1, 0, none⟩) D.length D.length)]) rfl ?_
          refine HB.ld 1 rfl rfl memD ?_
          refine HB.pa 2 rfl ?_ (POp.nilCheck rfl)
          refine HB.pa 3 rfl ?_
          refine HB.ld 4 rfl rfl memD ?_
          refine HB.all (by (exact Keep.blk (b := b3) memD rfl (Keep.blk (b := bd) memD rfl Keep.nil))) [0] (by kernel_rfl) rfl ⟨⟨_, rfl, ?_⟩, trivial⟩
          refine HP.one ?_
          refine H1.ldAgg (b := tw) (vs := [zv (off : Int), .string s']) rfl (.head _) rfl (fun i v h => by rw [show 0 + i = i from Nat.zero_add i]; exact h) rfl ?_
          apply HB.fold
          refine HB.all (by (exact Keep.blk (b := b3) memD rfl (Keep.blk (b := bd) memD rfl Keep.nil))) [5] (by kernel_rfl) rfl ⟨⟨_, rfl, ?_⟩, trivial⟩
          refine HP.one ?_
          refine H1.callk (α := Unit) (V := fun _ => .tuple #[]) (I := fun _ => True) (H' := fun _ => A.blk b1 (ub (splice D off s'.data.toList)) 5 :: A.blk tw [zv (off : Int), .string s'] 92 :: A.grow 3 1 (some ⟨go, 0, none⟩) cs L2.length (ints L2) :: A.blk b3 [.pointer (some ⟨bd, 0, none⟩)] 27 :: A.blk bd (dkC b1 b2 (some ⟨gp, 0, none⟩) pc { k with dur := D }) 97 :: A.blk b2 (ub k.vis) 5 :: A.grow 92 2 (some ⟨gp, 0, none⟩) pc k.pend.length (pendC k.pend) :: H) (vs := [.agg [zv (off : Int), .string s'].toArray, _]) rfl rfl
              (fun w' hM => (onto_fn (l := D) off s' (hM.sub (Hs.cons (Pick.there (Pick.there (Pick.there (Pick.there Pick.here)))) (Hs.refl _))) (by omega) (by omega)).mono fun v w2 h => ⟨(), trivial, h⟩) ?_
          rintro - -
          apply HB.fold
          refine HB.done (by (exact Keep.blk (b := b3) memD rfl (Keep.blk (b := bd) memD rfl Keep.nil))) (by kernel_rfl) ?_
          repeat' (first | refine HL.pa ?_ (POp.pnil1 rfl rfl) | refine HL.pa ?_ (POp.pnil0 rfl rfl) | refine HL.pa ?_ (POp.nilCheck rfl) | apply HL.fold | apply HA.fold | apply HL.nil | apply HX.n_then | apply HC.seq | apply HC.region | refine HL.pa ?_ | refine HL.ga rfl ?_ | refine HL.na rfl ?_ | refine HL.nu rfl rfl ?_ | apply HC.block | apply HC.skip | apply HC.exit | apply HC.ret | apply HX.e_block | refine HX.e_other rfl ?_ | apply HX.e_then | apply HX.e_again | apply HX.n_block | apply HX.r_then | apply HX.r_block | apply HX.r_again | refine HC.cond_yes rfl ?_ | refine HC.cond_no rfl ?_ | refine HL.one (H1.ldb rfl memA rfl rfl ?_) | refine HC.cond rfl (fun hc => ?_) (fun hc => ?_) | refine HC.cond_b rfl (fun hc => ?_) (fun hc => ?_))
          rw [hdk]
          exact HX.again (q + 1, splice D off s'.data.toList) ⟨hlt, happ, by show (splice D off s'.data.toList).length = _; rw [hspl]; exact hDl⟩ (by show L2.length - (q + 1) < L2.length - q; omega) esA (Hs.cons (Pick.there (Pick.there Pick.here)) (Hs.cons (Pick.there (Pick.there Pick.here)) (Hs.cons (Pick.there (Pick.there Pick.here)) (Hs.cons Pick.here (Hs.cons (Pick.there Pick.here) (Hs.cons (Pick.there Pick.here) (Hs.refl _).skip))))))
        · have hse : s' = s := by rw [hs']; unfold tornS; rw [if_neg (fun h => htn h.2)]
          subst hse
          repeat' (first | refine HL.pa ?_ (POp.pnil1 rfl rfl) | refine HL.pa ?_ (POp.pnil0 rfl rfl) | refine HL.pa ?_ (POp.nilCheck rfl) | apply HL.fold | apply HA.fold | apply HL.nil | apply HX.n_then | apply HC.seq | apply HC.region | refine HL.pa ?_ | refine HL.ga rfl ?_ | refine HL.na rfl ?_ | refine HL.nu rfl rfl ?_ | apply HC.block | apply HC.skip | apply HC.exit | apply HC.ret | apply HX.e_block | refine HX.e_other rfl ?_ | apply HX.e_then | apply HX.e_again | apply HX.n_block | apply HX.r_then | apply HX.r_block | apply HX.r_again | refine HC.cond_yes rfl ?_ | refine HC.cond_no rfl ?_ | refine HL.one (H1.ldb rfl memA rfl rfl ?_) | refine HC.cond rfl (fun hc => ?_) (fun hc => ?_) | refine HC.cond_b rfl (fun hc => ?_) (fun hc => ?_))
          refine HC.anyC ([(⟨b3, 0, none⟩, .pointer (some ⟨bd, 0, none⟩)), (⟨bd, 2, none⟩, .slice (some ⟨b1, 0, none⟩) D.length D.length)]) rfl ?_
          refine HB.ld 1 rfl rfl memD ?_
          refine HB.pa 2 rfl ?_ (POp.nilCheck rfl)
          refine HB.pa 3 rfl ?_
          refine HB.ld 4 rfl rfl memD ?_
          refine HB.all (by (exact Keep.blk (b := b3) memD rfl (Keep.blk (b := bd) memD rfl Keep.nil))) [0] (by kernel_rfl) rfl ⟨⟨_, rfl, ?_⟩, trivial⟩
          refine HP.one ?_
          refine H1.ldAgg (b := tw) (vs := [zv (off : Int), .string s']) rfl (.head _) rfl (fun i v h => by rw [show 0 + i = i from Nat.zero_add i]; exact h) rfl ?_
          apply HB.fold
          refine HB.all (by (exact Keep.blk (b := b3) memD rfl (Keep.blk (b := bd) memD rfl Keep.nil))) [5] (by kernel_rfl) rfl ⟨⟨_, rfl, ?_⟩, trivial⟩
          refine HP.one ?_
          refine H1.callk (α := Unit) (V := fun _ => .tuple #[]) (I := fun _ => True) (H' := fun _ => A.blk b1 (ub (splice D off s'.data.toList)) 5 :: A.blk tw [zv (off : Int), .string s'] 92 :: A.grow 3 1 (some ⟨go, 0, none⟩) cs L2.length (ints L2) :: A.blk b3 [.pointer (some ⟨bd, 0, none⟩)] 27 :: A.blk bd (dkC b1 b2 (some ⟨gp, 0, none⟩) pc { k with dur := D }) 97 :: A.blk b2 (ub k.vis) 5 :: A.grow 92 2 (some ⟨gp, 0, none⟩) pc k.pend.length (pendC k.pend) :: H) (vs := [.agg [zv (off : Int), .string s'].toArray, _]) rfl rfl
              (fun w' hM => (onto_fn (l := D) off s' (hM.sub (Hs.cons (Pick.there (Pick.there (Pick.there (Pick.there Pick.here)))) (Hs.refl _))) (by omega) (by omega)).mono fun v w2 h => ⟨(), trivial, h⟩) ?_
          rintro - -
          apply HB.fold
          refine HB.done (by (exact Keep.blk (b := b3) memD rfl (Keep.blk (b := bd) memD rfl Keep.nil))) (by kernel_rfl) ?_
          repeat' (first | refine HL.pa ?_ (POp.pnil1 rfl rfl) | refine HL.pa ?_ (POp.pnil0 rfl rfl) | refine HL.pa ?_ (POp.nilCheck rfl) | apply HL.fold | apply HA.fold | apply HL.nil | apply HX.n_then | apply HC.seq | apply HC.region | refine HL.pa ?_ | refine HL.ga rfl ?_ | refine HL.na rfl ?_ | refine HL.nu rfl rfl ?_ | apply HC.block | apply HC.skip | apply HC.exit | apply HC.ret | apply HX.e_block | refine HX.e_other rfl ?_ | apply HX.e_then | apply HX.e_again | apply HX.n_block | apply HX.r_then | apply HX.r_block | apply HX.r_again | refine HC.cond_yes rfl ?_ | refine HC.cond_no rfl ?_ | refine HL.one (H1.ldb rfl memA rfl rfl ?_) | refine HC.cond rfl (fun hc => ?_) (fun hc => ?_) | refine HC.cond_b rfl (fun hc => ?_) (fun hc => ?_))
          rw [hdk]
          exact HX.again (q + 1, splice D off s'.data.toList) ⟨hlt, happ, by show (splice D off s'.data.toList).length = _; rw [hspl]; exact hDl⟩ (by show L2.length - (q + 1) < L2.length - q; omega) esA (Hs.cons (Pick.there (Pick.there Pick.here)) (Hs.cons (Pick.there (Pick.there Pick.here)) (Hs.cons (Pick.there (Pick.there Pick.here)) (Hs.cons Pick.here (Hs.cons (Pick.there Pick.here) (Hs.cons (Pick.there Pick.here) (Hs.refl _).skip))))))
      · have hqi : ¬ (q : Int) = (L2.length : Int) - 1 := by omega
        rw [decide_eq_false hla] at hs'
        have hse : s' = s := by rw [hs']; unfold tornS; rw [if_neg (fun h => by cases h.1)]
        subst hse
        repeat' (first | refine HL.pa ?_ (POp.pnil1 rfl rfl) | refine HL.pa ?_ (POp.pnil0 rfl rfl) | refine HL.pa ?_ (POp.nilCheck rfl) | apply HL.fold | apply HA.fold | apply HL.nil | apply HX.n_then | apply HC.seq | apply HC.region | refine HL.pa ?_ | refine HL.ga rfl ?_ | refine HL.na rfl ?_ | refine HL.nu rfl rfl ?_ | apply HC.block | apply HC.skip | apply HC.exit | apply HC.ret | apply HX.e_block | refine HX.e_other rfl ?_ | apply HX.e_then | apply HX.e_again | apply HX.n_block | apply HX.r_then | apply HX.r_block | apply HX.r_again | refine HC.cond_yes rfl ?_ | refine HC.cond_no rfl ?_ | refine HL.one (H1.ldb rfl memA rfl rfl ?_) | refine HC.cond rfl (fun hc => ?_) (fun hc => ?_) | refine HC.cond_b rfl (fun hc => ?_) (fun hc => ?_))
        refine HC.anyC ([(⟨b3, 0, none⟩, .pointer (some ⟨bd, 0, none⟩)), (⟨bd, 2, none⟩, .slice (some ⟨b1, 0, none⟩) D.length D.length)]) rfl ?_
        refine HB.ld 1 rfl rfl memD ?_
        refine HB.pa 2 rfl ?_ (POp.nilCheck rfl)
        refine HB.pa 3 rfl ?_
        refine HB.ld 4 rfl rfl memD ?_
        refine HB.all (by (exact Keep.blk (b := b3) memD rfl (Keep.blk (b := bd) memD rfl Keep.nil))) [0] (by kernel_rfl) rfl ⟨⟨_, rfl, ?_⟩, trivial⟩
        refine HP.one ?_
        refine H1.ldAgg (b := tw) (vs := [zv (off : Int), .string s']) rfl (.head _) rfl (fun i v h => by rw [show 0 + i = i from Nat.zero_add i]; exact h) rfl ?_
        apply HB.fold
        refine HB.all (by (exact Keep.blk (b := b3) memD rfl (Keep.blk (b := bd) memD rfl Keep.nil))) [5] (by kernel_rfl) rfl ⟨⟨_, rfl, ?_⟩, trivial⟩
        refine HP.one ?_
        refine H1.callk (α := Unit) (V := fun _ => .tuple #[]) (I := fun _ => True) (H' := fun _ => A.blk b1 (ub (splice D off s'.data.toList)) 5 :: A.blk tw [zv (off : Int), .string s'] 92 :: A.grow 3 1 (some ⟨go, 0, none⟩) cs L2.length (ints L2) :: A.blk b3 [.pointer (some ⟨bd, 0, none⟩)] 27 :: A.blk bd (dkC b1 b2 (some ⟨gp, 0, none⟩) pc { k with dur := D }) 97 :: A.blk b2 (ub k.vis) 5 :: A.grow 92 2 (some ⟨gp, 0, none⟩) pc k.pend.length (pendC k.pend) :: H) (vs := [.agg [zv (off : Int), .string s'].toArray, _]) rfl rfl
            (fun w' hM => (onto_fn (l := D) off s' (hM.sub (Hs.cons (Pick.there (Pick.there (Pick.there (Pick.there Pick.here)))) (Hs.refl _))) (by omega) (by omega)).mono fun v w2 h => ⟨(), trivial, h⟩) ?_
        rintro - -
        apply HB.fold
        refine HB.done (by (exact Keep.blk (b := b3) memD rfl (Keep.blk (b := bd) memD rfl Keep.nil))) (by kernel_rfl) ?_
        repeat' (first | refine HL.pa ?_ (POp.pnil1 rfl rfl) | refine HL.pa ?_ (POp.pnil0 rfl rfl) | refine HL.pa ?_ (POp.nilCheck rfl) | apply HL.fold | apply HA.fold | apply HL.nil | apply HX.n_then | apply HC.seq | apply HC.region | refine HL.pa ?_ | refine HL.ga rfl ?_ | refine HL.na rfl ?_ | refine HL.nu rfl rfl ?_ | apply HC.block | apply HC.skip | apply HC.exit | apply HC.ret | apply HX.e_block | refine HX.e_other rfl ?_ | apply HX.e_then | apply HX.e_again | apply HX.n_block | apply HX.r_then | apply HX.r_block | apply HX.r_again | refine HC.cond_yes rfl ?_ | refine HC.cond_no rfl ?_ | refine HL.one (H1.ldb rfl memA rfl rfl ?_) | refine HC.cond rfl (fun hc => ?_) (fun hc => ?_) | refine HC.cond_b rfl (fun hc => ?_) (fun hc => ?_))
        rw [hdk]
        exact HX.again (q + 1, splice D off s'.data.toList) ⟨hlt, happ, by show (splice D off s'.data.toList).length = _; rw [hspl]; exact hDl⟩ (by show L2.length - (q + 1) < L2.length - q; omega) esA (Hs.cons (Pick.there (Pick.there Pick.here)) (Hs.cons (Pick.there (Pick.there Pick.here)) (Hs.cons (Pick.there (Pick.there Pick.here)) (Hs.cons Pick.here (Hs.cons (Pick.there Pick.here) (Hs.cons (Pick.there Pick.here) (Hs.refl _).skip))))))
    · obtain rfl : q = L2.length := by omega
      rw [hLl, List.drop_length] at happ
      have happ' : D = (k.crash keep torn).dur := happ
      repeat' (first | refine HL.pa ?_ (POp.pnil1 rfl rfl) | refine HL.pa ?_ (POp.pnil0 rfl rfl) | refine HL.pa ?_ (POp.nilCheck rfl) | apply HL.fold | apply HA.fold | apply HL.nil | apply HX.n_then | apply HC.seq | apply HC.region | refine HL.pa ?_ | refine HL.ga rfl ?_ | refine HL.na rfl ?_ | refine HL.nu rfl rfl ?_ | apply HC.block | apply HC.skip | apply HC.exit | apply HC.ret | apply HX.e_block | refine HX.e_other rfl ?_ | apply HX.e_then | apply HX.e_again | apply HX.n_block | apply HX.r_then | apply HX.r_block | apply HX.r_again | refine HC.cond_yes rfl ?_ | refine HC.cond_no rfl ?_ | refine HL.one (H1.ldb rfl memA rfl rfl ?_) | refine HC.cond rfl (fun hc => ?_) (fun hc => ?_) | refine HC.cond_b rfl (fun hc => ?_) (fun hc => ?_))
      exact HX.cut () trivial esA (by rw [← happ']; exact (Hs.refl _).skip)
  · rintro - -
    repeat' (first | refine HL.pa ?_ (POp.pnil1 rfl rfl) | refine HL.pa ?_ (POp.pnil0 rfl rfl) | refine HL.pa ?_ (POp.nilCheck rfl) | apply HL.fold | apply HA.fold | apply HL.nil | apply HX.n_then | apply HC.seq | apply HC.region | refine HL.pa ?_ | refine HL.ga rfl ?_ | refine HL.na rfl ?_ | refine HL.nu rfl rfl ?_ | apply HC.block | apply HC.skip | apply HC.exit | apply HC.ret | apply HX.e_block | refine HX.e_other rfl ?_ | apply HX.e_then | apply HX.e_again | apply HX.n_block | apply HX.r_then | apply HX.r_block | apply HX.r_again | refine HC.cond_yes rfl ?_ | refine HC.cond_no rfl ?_ | refine HL.one (H1.ldb rfl memA rfl rfl ?_) | refine HC.cond rfl (fun hc => ?_) (fun hc => ?_) | refine HC.cond_b rfl (fun hc => ?_) (fun hc => ?_))
    refine HC.anyC ([(⟨b3, 0, none⟩, .pointer (some ⟨bd, 0, none⟩)), (⟨bd, 2, none⟩, .slice (some ⟨b1, 0, none⟩) (k.crash keep torn).dur.length (k.crash keep torn).dur.length), (⟨bd, 3, none⟩, .slice (some ⟨b2, 0, none⟩) k.vis.length k.vis.length)]) rfl ?_
    refine HB.ld 0 rfl rfl memD ?_
    refine HB.ld 1 rfl rfl memD ?_
    refine HB.pa 2 rfl ?_ (POp.nilCheck rfl)
    refine HB.pa 3 rfl ?_
    refine HB.ld 4 rfl rfl memD ?_
    refine HB.ld 5 rfl rfl memD ?_
    refine HB.pa 6 rfl ?_ (POp.nilCheck rfl)
    refine HB.pa 7 rfl ?_
    refine HB.ld 8 rfl rfl memD ?_
    refine HB.all (by (first | exact Keep.blk (b := b3) memD rfl (Keep.blk (b := bd) memD rfl (Keep.blk (b := bd) memD rfl Keep.nil)) | exact Keep.blk (b := b3) memD rfl (Keep.blk (b := bd) memD rfl (Keep.blk (b := bd) memD (by show some (Value.slice (some ⟨b2, 0, none⟩) (k.crash keep torn).dur.length (k.crash keep torn).dur.length) = _; rw [hcrl, hlen]) Keep.nil)))) [9] (by kernel_rfl) rfl ⟨⟨_, rfl, ?_⟩, trivial⟩
    refine HP.one ?_
    refine H1.callk (α := Unit) (V := fun _ => .tuple #[]) (I := fun _ => True) (H' := fun _ => dkH bd b1 b2 pa pc { k with dur := (k.crash keep torn).dur, vis := (k.crash keep torn).dur, pend := [] } (A.blk b3 [.pointer (some ⟨bd, 0, none⟩)] 27 :: H)) (vs := [_, _, _]) rfl rfl
        (fun w' hM => (settle2_fn (k := { k with dur := (k.crash keep torn).dur }) (hM.sub (Hs.cons (Pick.there Pick.here) (Hs.cons (Pick.there Pick.here) (Hs.cons (Pick.there Pick.here) (Hs.cons (Pick.there Pick.here) (Hs.refl _)))))) (by show k.vis.length = (k.crash keep torn).dur.length; rw [hcrl, hlen])).mono fun v w2 h => ⟨(), trivial, h⟩) ?_
    rintro - -
    apply HB.fold
    refine HB.done (by (first | exact Keep.blk (b := b3) memD rfl (Keep.blk (b := bd) memD rfl (Keep.blk (b := bd) memD rfl Keep.nil)) | exact Keep.blk (b := b3) memD rfl (Keep.blk (b := bd) memD rfl (Keep.blk (b := bd) memD (by show some (Value.slice (some ⟨b2, 0, none⟩) (k.crash keep torn).dur.length (k.crash keep torn).dur.length) = _; rw [hcrl, hlen]) Keep.nil)))) (by kernel_rfl) ?_
    repeat' (first | refine HL.pa ?_ (POp.pnil1 rfl rfl) | refine HL.pa ?_ (POp.pnil0 rfl rfl) | refine HL.pa ?_ (POp.nilCheck rfl) | apply HL.fold | apply HA.fold | apply HL.nil | apply HX.n_then | apply HC.seq | apply HC.region | refine HL.pa ?_ | refine HL.ga rfl ?_ | refine HL.na rfl ?_ | refine HL.nu rfl rfl ?_ | apply HC.block | apply HC.skip | apply HC.exit | apply HC.ret | apply HX.e_block | refine HX.e_other rfl ?_ | apply HX.e_then | apply HX.e_again | apply HX.n_block | apply HX.r_then | apply HX.r_block | apply HX.r_again | refine HC.cond_yes rfl ?_ | refine HC.cond_no rfl ?_ | refine HL.one (H1.ldb rfl memA rfl rfl ?_) | refine HC.cond rfl (fun hc => ?_) (fun hc => ?_) | refine HC.cond_b rfl (fun hc => ?_) (fun hc => ?_))
    refine HL.build (cs := [.bool false, zv 0]) rfl rfl rfl ?_
    repeat' (first | refine HL.pa ?_ (POp.pnil1 rfl rfl) | refine HL.pa ?_ (POp.pnil0 rfl rfl) | refine HL.pa ?_ (POp.nilCheck rfl) | apply HL.fold | apply HA.fold | apply HL.nil | apply HX.n_then | apply HC.seq | apply HC.region | refine HL.pa ?_ | refine HL.ga rfl ?_ | refine HL.na rfl ?_ | refine HL.nu rfl rfl ?_ | apply HC.block | apply HC.skip | apply HC.exit | apply HC.ret | apply HX.e_block | refine HX.e_other rfl ?_ | apply HX.e_then | apply HX.e_again | apply HX.n_block | apply HX.r_then | apply HX.r_block | apply HX.r_again | refine HC.cond_yes rfl ?_ | refine HC.cond_no rfl ?_ | refine HL.one (H1.ldb rfl memA rfl rfl ?_) | refine HC.cond rfl (fun hc => ?_) (fun hc => ?_) | refine HC.cond_b rfl (fun hc => ?_) (fun hc => ?_))
    refine HL.one (H1.stAggO (b := bd) (o := 0) (cs := dkC b1 b2 pa pc { k with dur := (k.crash keep torn).dur, vis := (k.crash keep torn).dur, pend := [] }) (cs' := dkC b1 b2 pa pc (k.crash keep torn)) rfl rfl rfl (by intro v hv; rcases List.mem_cons.1 hv with rfl | hv; rfl; rcases List.mem_cons.1 hv with rfl | hv; rfl; cases hv) (by show 0 + 2 ≤ 5; decide) rfl rplA ?_)
    repeat' (first | refine HL.pa ?_ (POp.pnil1 rfl rfl) | refine HL.pa ?_ (POp.pnil0 rfl rfl) | refine HL.pa ?_ (POp.nilCheck rfl) | apply HL.fold | apply HA.fold | apply HL.nil | apply HX.n_then | apply HC.seq | apply HC.region | refine HL.pa ?_ | refine HL.ga rfl ?_ | refine HL.na rfl ?_ | refine HL.nu rfl rfl ?_ | apply HC.block | apply HC.skip | apply HC.exit | apply HC.ret | apply HX.e_block | refine HX.e_other rfl ?_ | apply HX.e_then | apply HX.e_again | apply HX.n_block | apply HX.r_then | apply HX.r_block | apply HX.r_again | refine HC.cond_yes rfl ?_ | refine HC.cond_no rfl ?_ | refine HL.one (H1.ldb rfl memA rfl rfl ?_) | refine HC.cond rfl (fun hc => ?_) (fun hc => ?_) | refine HC.cond_b rfl (fun hc => ?_) (fun hc => ?_))
    exact HX.ret1 rfl rfl fun w' hM => ⟨rfl, hM.sub (Hs.cons Pick.here (Hs.cons Pick.here (Hs.cons Pick.here (Hs.cons Pick.here (Hs.refl _).skip))))⟩
end Go.Sx

