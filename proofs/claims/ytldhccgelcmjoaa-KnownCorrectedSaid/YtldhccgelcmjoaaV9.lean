/- Chapter 21: the law KnownCorrected. -/
import Derived.Test.YtldhccgelcmjoaaV8
namespace Go.Sx
open Go Go.Proofs Go.RowKit
attribute [local irreducible] WC WL WX POp Then Again Fn NX W1 WA WO QL RP RA Yld LoopAt HC HL HX HN H1 HA HO HQ HB HP A.blk A.grow A.rd A.obj A.mp AgainH CutH
attribute [local irreducible] A.dfr A.loop bsA
set_option maxHeartbeats 8000000 in
theorem knownCorrected_fn (v : Value) (rows : List (List Int)) (hrow : ∀ y ∈ rows, y.length = 6 ∧ ∀ z ∈ y, i64W z) (p0 d0 : Int) (g : Bool) (y0 : Int) (w0' : i64W p0) (w1' : i64W d0) (w2' : i64W y0) (w : World) (hR : RdA 6 w v rows) :
    Fn Try.prog 3 #[v, zv p0, zv d0, .bool g, zv y0] w fun v w' => v = .bool true ∧ Ext w w' := by
  refine enterH (l := [_, _, _, _, _]) rfl Try.ntmps3 rfl ?_
  repeat' (first | refine HL.pa ?_ (POp.beqC rfl rfl (by first | rfl | decide)) | apply HL.fold | apply HA.fold | apply HL.nil | apply HX.n_then | apply HC.seq | apply HC.region | refine HL.pa ?_ | refine HL.ga rfl ?_ | refine HL.na rfl ?_ | refine HL.nu rfl rfl ?_ | apply HC.block | apply HC.skip | apply HC.exit | apply HC.ret | apply HX.e_block | refine HX.e_other rfl ?_ | apply HX.e_then | apply HX.e_again | apply HX.n_block | apply HX.r_then | apply HX.r_block | apply HX.r_again | refine HC.cond_yes rfl ?_ | refine HC.cond_no rfl ?_ | refine HL.one (H1.ldb rfl memA rfl rfl ?_) | refine HC.cond rfl (fun hc => ?_) (fun hc => ?_) | refine HC.cond_b rfl (fun hc => ?_) (fun hc => ?_))
  refine HL.one (H1.callx (u := .bool true) (vs := []) rfl rfl (fun w' _ => sane21_fn w') ?_)
  repeat' (first | refine HL.pa ?_ (POp.beqC rfl rfl (by first | rfl | decide)) | apply HL.fold | apply HA.fold | apply HL.nil | apply HX.n_then | apply HC.seq | apply HC.region | refine HL.pa ?_ | refine HL.ga rfl ?_ | refine HL.na rfl ?_ | refine HL.nu rfl rfl ?_ | apply HC.block | apply HC.skip | apply HC.exit | apply HC.ret | apply HX.e_block | refine HX.e_other rfl ?_ | apply HX.e_then | apply HX.e_again | apply HX.n_block | apply HX.r_then | apply HX.r_block | apply HX.r_again | refine HC.cond_yes rfl ?_ | refine HC.cond_no rfl ?_ | refine HL.one (H1.ldb rfl memA rfl rfl ?_) | refine HC.cond rfl (fun hc => ?_) (fun hc => ?_) | refine HC.cond_b rfl (fun hc => ?_) (fun hc => ?_))
  refine HL.one (H1.callz1 (α := (Option Addr × Nat) × List Rc) (V := fun z => .slice z.1.1 z.2.length z.1.2) (An := fun z => A.grow 27 15 z.1.1 z.1.2 z.2.length (rcl z.2)) (I := fun z => z.2.length ≤ 30 ∧ ∀ r ∈ z.2, SomeOk r) (vs := [v]) rfl rfl (fun w' hM => Some_fn v rows hrow w' (hR.ext hM.ext)) ?_)
  rintro ⟨⟨al, cl⟩, l⟩ ⟨hl30, hlok⟩
  dsimp only at hl30 hlok ⊢
  by_cases hl0 : (l.length : Int) = 0
  · repeat' (first | refine HL.pa ?_ (POp.beqC rfl rfl (by first | rfl | decide)) | apply HL.fold | apply HA.fold | apply HL.nil | apply HX.n_then | apply HC.seq | apply HC.region | refine HL.pa ?_ | refine HL.ga rfl ?_ | refine HL.na rfl ?_ | refine HL.nu rfl rfl ?_ | apply HC.block | apply HC.skip | apply HC.exit | apply HC.ret | apply HX.e_block | refine HX.e_other rfl ?_ | apply HX.e_then | apply HX.e_again | apply HX.n_block | apply HX.r_then | apply HX.r_block | apply HX.r_again | refine HC.cond_yes rfl ?_ | refine HC.cond_no rfl ?_ | refine HL.one (H1.ldb rfl memA rfl rfl ?_) | refine HC.cond rfl (fun hc => ?_) (fun hc => ?_) | refine HC.cond_b rfl (fun hc => ?_) (fun hc => ?_))
    exact HX.ret1 rfl rfl fun w' hM => ⟨rfl, hM.ext⟩
  have hl1 : (0 : Int) < (l.length : Int) := by omega
  repeat' (first | refine HL.pa ?_ (POp.beqC rfl rfl (by first | rfl | decide)) | apply HL.fold | apply HA.fold | apply HL.nil | apply HX.n_then | apply HC.seq | apply HC.region | refine HL.pa ?_ | refine HL.ga rfl ?_ | refine HL.na rfl ?_ | refine HL.nu rfl rfl ?_ | apply HC.block | apply HC.skip | apply HC.exit | apply HC.ret | apply HX.e_block | refine HX.e_other rfl ?_ | apply HX.e_then | apply HX.e_again | apply HX.n_block | apply HX.r_then | apply HX.r_block | apply HX.r_again | refine HC.cond_yes rfl ?_ | refine HC.cond_no rfl ?_ | refine HL.one (H1.ldb rfl memA rfl rfl ?_) | refine HC.cond rfl (fun hc => ?_) (fun hc => ?_) | refine HC.cond_b rfl (fun hc => ?_) (fun hc => ?_))
  refine HL.openg (e := 27) (a := al) (xs := rcl l) memA (by omega) ?_
  rintro bl rfl
  refine HL.one (H1.call0 (vs := [zv p0, zv (l.length : Int)]) rfl rfl (fun w' _ => pick21_fn p0 l.length w0'.1 w0'.2 hl1 w') ?_)
  have hP := pickI21_lt p0 hl1
  generalize pickI21 p0 l.length = P at hP ⊢
  obtain ⟨s, hs⟩ : ∃ s, l[P.toNat]? = some s := ⟨_, List.getElem?_eq_getElem (by omega)⟩
  have hsm := List.mem_of_getElem? hs
  have hne : l ≠ [] := fun e => by rw [e] at hsm; cases hsm
  repeat' (first | refine HL.pa ?_ (POp.beqC rfl rfl (by first | rfl | decide)) | apply HL.fold | apply HA.fold | apply HL.nil | apply HX.n_then | apply HC.seq | apply HC.region | refine HL.pa ?_ | refine HL.ga rfl ?_ | refine HL.na rfl ?_ | refine HL.nu rfl rfl ?_ | apply HC.block | apply HC.skip | apply HC.exit | apply HC.ret | apply HX.e_block | refine HX.e_other rfl ?_ | apply HX.e_then | apply HX.e_again | apply HX.n_block | apply HX.r_then | apply HX.r_block | apply HX.r_again | refine HC.cond_yes rfl ?_ | refine HC.cond_no rfl ?_ | refine HL.one (H1.ldb rfl memA rfl rfl ?_) | refine HC.cond rfl (fun hc => ?_) (fun hc => ?_) | refine HC.cond_b rfl (fun hc => ?_) (fun hc => ?_))
  refine HL.one (H1.ldAggw (vs := rcells s) rfl rfl (fun w' hM i v hv => by obtain ⟨b', o', e1, -, hc⟩ := (hM.recs (l := l) memA).at hne; cases e1; have h := hc _ s hs i v hv; rw [Nat.zero_add] at h; exact h) rfl ?_)
  repeat' (first | refine HL.pa ?_ (POp.beqC rfl rfl (by first | rfl | decide)) | apply HL.fold | apply HA.fold | apply HL.nil | apply HX.n_then | apply HC.seq | apply HC.region | refine HL.pa ?_ | refine HL.ga rfl ?_ | refine HL.na rfl ?_ | refine HL.nu rfl rfl ?_ | apply HC.block | apply HC.skip | apply HC.exit | apply HC.ret | apply HX.e_block | refine HX.e_other rfl ?_ | apply HX.e_then | apply HX.e_again | apply HX.n_block | apply HX.r_then | apply HX.r_block | apply HX.r_again | refine HC.cond_yes rfl ?_ | refine HC.cond_no rfl ?_ | refine HL.one (H1.ldb rfl memA rfl rfl ?_) | refine HC.cond rfl (fun hc => ?_) (fun hc => ?_) | refine HC.cond_b rfl (fun hc => ?_) (fun hc => ?_))
  refine HL.one (H1.alloc (cs := rcells rcZ) rfl rfl (fun b13 => ?_))
  repeat' (first | refine HL.pa ?_ (POp.beqC rfl rfl (by first | rfl | decide)) | apply HL.fold | apply HA.fold | apply HL.nil | apply HX.n_then | apply HC.seq | apply HC.region | refine HL.pa ?_ | refine HL.ga rfl ?_ | refine HL.na rfl ?_ | refine HL.nu rfl rfl ?_ | apply HC.block | apply HC.skip | apply HC.exit | apply HC.ret | apply HX.e_block | refine HX.e_other rfl ?_ | apply HX.e_then | apply HX.e_again | apply HX.n_block | apply HX.r_then | apply HX.r_block | apply HX.r_again | refine HC.cond_yes rfl ?_ | refine HC.cond_no rfl ?_ | refine HL.one (H1.ldb rfl memA rfl rfl ?_) | refine HC.cond rfl (fun hc => ?_) (fun hc => ?_) | refine HC.cond_b rfl (fun hc => ?_) (fun hc => ?_))
  refine HL.one (H1.stAgg (cs := rcells rcZ) (vs := rcells s) rfl rfl rfl (rcells_one s) rplA rfl ?_)
  repeat' (first | refine HL.pa ?_ (POp.beqC rfl rfl (by first | rfl | decide)) | apply HL.fold | apply HA.fold | apply HL.nil | apply HX.n_then | apply HC.seq | apply HC.region | refine HL.pa ?_ | refine HL.ga rfl ?_ | refine HL.na rfl ?_ | refine HL.nu rfl rfl ?_ | apply HC.block | apply HC.skip | apply HC.exit | apply HC.ret | apply HX.e_block | refine HX.e_other rfl ?_ | apply HX.e_then | apply HX.e_again | apply HX.n_block | apply HX.r_then | apply HX.r_block | apply HX.r_again | refine HC.cond_yes rfl ?_ | refine HC.cond_no rfl ?_ | refine HL.one (H1.ldb rfl memA rfl rfl ?_) | refine HC.cond rfl (fun hc => ?_) (fun hc => ?_) | refine HC.cond_b rfl (fun hc => ?_) (fun hc => ?_))
  refine HL.one (H1.st (b := b13) rfl rfl (by intro _ h; cases h) (by intro _ h; cases h) rplA (of_decide_eq_true rfl) ?_)
  repeat' (first | refine HL.pa ?_ (POp.beqC rfl rfl (by first | rfl | decide)) | apply HL.fold | apply HA.fold | apply HL.nil | apply HX.n_then | apply HC.seq | apply HC.region | refine HL.pa ?_ | refine HL.ga rfl ?_ | refine HL.na rfl ?_ | refine HL.nu rfl rfl ?_ | apply HC.block | apply HC.skip | apply HC.exit | apply HC.ret | apply HX.e_block | refine HX.e_other rfl ?_ | apply HX.e_then | apply HX.e_again | apply HX.n_block | apply HX.r_then | apply HX.r_block | apply HX.r_again | refine HC.cond_yes rfl ?_ | refine HC.cond_no rfl ?_ | refine HL.one (H1.ldb rfl memA rfl rfl ?_) | refine HC.cond rfl (fun hc => ?_) (fun hc => ?_) | refine HC.cond_b rfl (fun hc => ?_) (fun hc => ?_))
  refine HL.one (H1.call0 (vs := [zv d0, zv 40]) rfl rfl (fun w' _ => pick21_fn d0 40 w1'.1 w1'.2 (by decide) w') ?_)
  have hD := pickI21_lt d0 (n := 40) (by decide)
  generalize pickI21 d0 40 = D at hD ⊢
  repeat' (first | refine HL.pa ?_ (POp.beqC rfl rfl (by first | rfl | decide)) | apply HL.fold | apply HA.fold | apply HL.nil | apply HX.n_then | apply HC.seq | apply HC.region | refine HL.pa ?_ | refine HL.ga rfl ?_ | refine HL.na rfl ?_ | refine HL.nu rfl rfl ?_ | apply HC.block | apply HC.skip | apply HC.exit | apply HC.ret | apply HX.e_block | refine HX.e_other rfl ?_ | apply HX.e_then | apply HX.e_again | apply HX.n_block | apply HX.r_then | apply HX.r_block | apply HX.r_again | refine HC.cond_yes rfl ?_ | refine HC.cond_no rfl ?_ | refine HL.one (H1.ldb rfl memA rfl rfl ?_) | refine HC.cond rfl (fun hc => ?_) (fun hc => ?_) | refine HC.cond_b rfl (fun hc => ?_) (fun hc => ?_))
  refine HL.one (H1.st (b := b13) rfl rfl (by intro _ h; cases h) (by intro _ h; cases h) rplA (of_decide_eq_true rfl) ?_)
  repeat' (first | refine HL.pa ?_ (POp.beqC rfl rfl (by first | rfl | decide)) | apply HL.fold | apply HA.fold | apply HL.nil | apply HX.n_then | apply HC.seq | apply HC.region | refine HL.pa ?_ | refine HL.ga rfl ?_ | refine HL.na rfl ?_ | refine HL.nu rfl rfl ?_ | apply HC.block | apply HC.skip | apply HC.exit | apply HC.ret | apply HX.e_block | refine HX.e_other rfl ?_ | apply HX.e_then | apply HX.e_again | apply HX.n_block | apply HX.r_then | apply HX.r_block | apply HX.r_again | refine HC.cond_yes rfl ?_ | refine HC.cond_no rfl ?_ | refine HL.one (H1.ldb rfl memA rfl rfl ?_) | refine HC.cond rfl (fun hc => ?_) (fun hc => ?_) | refine HC.cond_b rfl (fun hc => ?_) (fun hc => ?_))
  refine HL.one (H1.st (b := b13) rfl rfl (by intro _ h; cases h) (by intro _ h; cases h) rplA (of_decide_eq_true rfl) ?_)
  repeat' (first | refine HL.pa ?_ (POp.beqC rfl rfl (by first | rfl | decide)) | apply HL.fold | apply HA.fold | apply HL.nil | apply HX.n_then | apply HC.seq | apply HC.region | refine HL.pa ?_ | refine HL.ga rfl ?_ | refine HL.na rfl ?_ | refine HL.nu rfl rfl ?_ | apply HC.block | apply HC.skip | apply HC.exit | apply HC.ret | apply HX.e_block | refine HX.e_other rfl ?_ | apply HX.e_then | apply HX.e_again | apply HX.n_block | apply HX.r_then | apply HX.r_block | apply HX.r_again | refine HC.cond_yes rfl ?_ | refine HC.cond_no rfl ?_ | refine HL.one (H1.ldb rfl memA rfl rfl ?_) | refine HC.cond rfl (fun hc => ?_) (fun hc => ?_) | refine HC.cond_b rfl (fun hc => ?_) (fun hc => ?_))
  refine HL.one (H1.st (b := b13) rfl rfl (by intro _ h; cases h) (by intro _ h; cases h) rplA (of_decide_eq_true rfl) ?_)
  rw [cor_cells]
  have hrv := cor_valid (hlok s hsm).valid (d := D) ⟨hD.1, by omega⟩ g
  have hrd : (corR s D g).day = D := rfl
  have hrg : (corR s D g).gone = g := rfl
  have hls : ∀ day, D ≤ day → ∀ (i : Nat) (LA LB : List Rc), IsOf l day ((i : Int) + 1) LA → IsOf (l ++ [corR s D g]) day ((i : Int) + 1) LB → CorL (corR s D g) i LA LB := fun day hday i LA LB hA hB => cor_lists hlok hsm ⟨hD.1, by omega⟩ hday hA hB
  have hlt : ∀ day, ¬ D ≤ day → ∀ A1 B1 : Nat → List Rc, (∀ i : Nat, i < 8 → IsOf l day ((i : Int) + 1) (A1 i)) → (∀ i : Nat, i < 8 → IsOf (l ++ [corR s D g]) day ((i : Int) + 1) (B1 i)) → EqB A1 B1 := fun day hday A1 B1 hA hB => cor_late hday hA hB
  generalize corR s D g = r at hrv hrd hrg hls hlt ⊢
  have hokr := RcOk.of_valid hrv
  have hokl : ∀ t ∈ l, RcOk t := fun t ht => RcOk.of_valid (hlok t ht).valid
  have hoks : ∀ t ∈ l ++ [r], RcOk t := fun t ht => by
    rcases List.mem_append.1 ht with h | h
    · exact hokl t h
    · rw [List.mem_singleton.1 h]; exact hokr
  clear hs hsm hlok hP
  repeat' (first | refine HL.pa ?_ (POp.beqC rfl rfl (by first | rfl | decide)) | apply HL.fold | apply HA.fold | apply HL.nil | apply HX.n_then | apply HC.seq | apply HC.region | refine HL.pa ?_ | refine HL.ga rfl ?_ | refine HL.na rfl ?_ | refine HL.nu rfl rfl ?_ | apply HC.block | apply HC.skip | apply HC.exit | apply HC.ret | apply HX.e_block | refine HX.e_other rfl ?_ | apply HX.e_then | apply HX.e_again | apply HX.n_block | apply HX.r_then | apply HX.r_block | apply HX.r_again | refine HC.cond_yes rfl ?_ | refine HC.cond_no rfl ?_ | refine HL.one (H1.ldb rfl memA rfl rfl ?_) | refine HC.cond rfl (fun hc => ?_) (fun hc => ?_) | refine HC.cond_b rfl (fun hc => ?_) (fun hc => ?_))
  refine HL.one (H1.call0 (vs := [zv y0, zv 50]) rfl rfl (fun w' _ => pick21_fn y0 50 w2'.1 w2'.2 (by decide) w') ?_)
  have hY := pickI21_lt y0 (n := 50) (by decide)
  generalize pickI21 y0 50 = Y at hY ⊢
  repeat' (first | refine HL.pa ?_ (POp.beqC rfl rfl (by first | rfl | decide)) | apply HL.fold | apply HA.fold | apply HL.nil | apply HX.n_then | apply HC.seq | apply HC.region | refine HL.pa ?_ | refine HL.ga rfl ?_ | refine HL.na rfl ?_ | refine HL.nu rfl rfl ?_ | apply HC.block | apply HC.skip | apply HC.exit | apply HC.ret | apply HX.e_block | refine HX.e_other rfl ?_ | apply HX.e_then | apply HX.e_again | apply HX.n_block | apply HX.r_then | apply HX.r_block | apply HX.r_again | refine HC.cond_yes rfl ?_ | refine HC.cond_no rfl ?_ | refine HL.one (H1.ldb rfl memA rfl rfl ?_) | refine HC.cond rfl (fun hc => ?_) (fun hc => ?_) | refine HC.cond_b rfl (fun hc => ?_) (fun hc => ?_))
  refine HL.one (H1.callz1 (α := Nat → Slot) (V := fun q => bsV q) (An := fun q => bsA q) (I := fun q => ∀ i : Nat, i < 8 → IsOf l Y ((i : Int) + 1) (bsL q i)) (vs := [.slice (some ⟨bl, 0, none⟩) l.length cl, zv Y]) rfl rfl (fun w' hM => of_fn _ cl l (by omega) hokl Y w' (hM.recs memA)) ?_)
  rintro qa hqa
  repeat' (first | refine HL.pa ?_ (POp.beqC rfl rfl (by first | rfl | decide)) | apply HL.fold | apply HA.fold | apply HL.nil | apply HX.n_then | apply HC.seq | apply HC.region | refine HL.pa ?_ | refine HL.ga rfl ?_ | refine HL.na rfl ?_ | refine HL.nu rfl rfl ?_ | apply HC.block | apply HC.skip | apply HC.exit | apply HC.ret | apply HX.e_block | refine HX.e_other rfl ?_ | apply HX.e_then | apply HX.e_again | apply HX.n_block | apply HX.r_then | apply HX.r_block | apply HX.r_again | refine HC.cond_yes rfl ?_ | refine HC.cond_no rfl ?_ | refine HL.one (H1.ldb rfl memA rfl rfl ?_) | refine HC.cond rfl (fun hc => ?_) (fun hc => ?_) | refine HC.cond_b rfl (fun hc => ?_) (fun hc => ?_))
  refine HL.one (H1.alloc (cs := row 8 fun i => slot (q0 i)) rfl rfl (fun b14 => ?_))
  repeat' (first | refine HL.pa ?_ (POp.beqC rfl rfl (by first | rfl | decide)) | apply HL.fold | apply HA.fold | apply HL.nil | apply HX.n_then | apply HC.seq | apply HC.region | refine HL.pa ?_ | refine HL.ga rfl ?_ | refine HL.na rfl ?_ | refine HL.nu rfl rfl ?_ | apply HC.block | apply HC.skip | apply HC.exit | apply HC.ret | apply HX.e_block | refine HX.e_other rfl ?_ | apply HX.e_then | apply HX.e_again | apply HX.n_block | apply HX.r_then | apply HX.r_block | apply HX.r_again | refine HC.cond_yes rfl ?_ | refine HC.cond_no rfl ?_ | refine HL.one (H1.ldb rfl memA rfl rfl ?_) | refine HC.cond rfl (fun hc => ?_) (fun hc => ?_) | refine HC.cond_b rfl (fun hc => ?_) (fun hc => ?_))
  refine HL.one (H1.stAgg (cs := row 8 fun i => slot (q0 i)) (vs := row 8 fun i => slot (qa i)) rfl rfl rfl (slot_one qa) rplA rfl ?_)
  have hof := fun a c (w' : World) h => of_fn a c (l ++ [r]) (by rw [List.length_append, List.length_singleton]; omega) hoks Y w' h
  repeat' (first | refine HL.pa ?_ (POp.beqC rfl rfl (by first | rfl | decide)) | apply HL.fold | apply HA.fold | apply HL.nil | apply HX.n_then | apply HC.seq | apply HC.region | refine HL.pa ?_ | refine HL.ga rfl ?_ | refine HL.na rfl ?_ | refine HL.nu rfl rfl ?_ | apply HC.block | apply HC.skip | apply HC.exit | apply HC.ret | apply HX.e_block | refine HX.e_other rfl ?_ | apply HX.e_then | apply HX.e_again | apply HX.n_block | apply HX.r_then | apply HX.r_block | apply HX.r_again | refine HC.cond_yes rfl ?_ | refine HC.cond_no rfl ?_ | refine HL.one (H1.ldb rfl memA rfl rfl ?_) | refine HC.cond rfl (fun hc => ?_) (fun hc => ?_) | refine HC.cond_b rfl (fun hc => ?_) (fun hc => ?_))
  refine HC.cut (α := Nat × (Nat → Slot)) (fun z => [(3, .bool g), (4, zv Y), (11, .bool true), (13, .pointer (some ⟨b13, 0, none⟩)), (14, .pointer (some ⟨b14, 0, none⟩)), (15, .pointer (some ⟨z.1, 0, none⟩))])
    (fun z => [A.blk z.1 (row 8 fun i => slot (z.2 i)) 30, bsA z.2, A.blk b14 (row 8 fun i => slot (qa i)) 30, bsA qa, A.blk b13 (rcells r) 27]) (fun z => IsBase (l ++ [r]) Y z.2) ?_ ?_
  · refine HC.anyC (cellsB b13 (rcells r) ++ []) rfl ?_
    refine HB.pa 1 rfl ?_
    refine HB.ldB (vs := rcells r) 3 rfl rfl rfl (fun i v hv => cellsBL (cellsB_mem hv)) ?_
    refine HB.pa 6 rfl ?_
    refine HB.all (by exact Keep.blkB memA Keep.nil) [0, 4, 8] (by kernel_rfl) rfl ⟨⟨_, rfl, ?_⟩, ⟨_, rfl, ?_⟩, ⟨_, rfl, ?_⟩, trivial⟩
    · refine HP.one ?_
      refine H1.lit0 rfl (fun bz => ?_)
      apply HB.fold
      refine HB.all (by exact Keep.blkB memA Keep.nil) [2, 4, 8] (by kernel_rfl) rfl ⟨⟨_, rfl, ?_⟩, ⟨_, rfl, ?_⟩, ⟨_, rfl, ?_⟩, trivial⟩
      · refine HP.one ?_
        refine H1.appRec (e := 27) (l := []) (m := l) (a := some ⟨bz, 0, none⟩) (c := 0) (ao := some ⟨bl, 0, none⟩) (c2 := cl) rfl rfl rfl (fun a' c' => by first | ((repeat (first | with_reducible exact Rpl.here | with_reducible apply Rpl.there)); done) | (repeat (first | exact Rpl.here | apply Rpl.there))) (fun w hM => hM.recs memA) (by simp only [List.length_nil]; omega) (by decide) rfl (fun a1 c1 => ?_)
        rw [List.nil_append]
        apply HB.fold
        refine HB.all (by exact Keep.blkB memA Keep.nil) [4, 8] (by kernel_rfl) rfl ⟨⟨_, rfl, ?_⟩, ⟨_, rfl, ?_⟩, trivial⟩
        · refine HP.one ?_
          refine H1.lit (cs := rcells r) rfl rfl rfl rfl rfl rfl (fun bs => ?_)
          apply HB.fold
          refine HB.all (by exact Keep.blkB memA Keep.nil) [5, 8] (by kernel_rfl) rfl ⟨⟨_, rfl, ?_⟩, ⟨_, rfl, ?_⟩, trivial⟩
          · refine HP.one ?_
            refine H1.appRec1 (e := 27) (l := l) (rc := r) (a := a1) (c := c1) rfl rfl rfl (fun a' c' => by first | ((repeat (first | with_reducible exact Rpl.here | with_reducible apply Rpl.there)); done) | (repeat (first | exact Rpl.here | apply Rpl.there))) memA (by omega) (by decide) rfl (fun a2 c2 => ?_)
            apply HB.fold
            refine HB.all (by exact Keep.blkB memA Keep.nil) [7, 8] (by kernel_rfl) rfl ⟨⟨_, rfl, ?_⟩, ⟨_, rfl, ?_⟩, trivial⟩
            · refine HP.one ?_
              refine H1.callz1 (α := Nat → Slot) (V := bsV) (An := bsA) (I := IsBase (l ++ [r]) Y) (vs := [.slice a2 (l ++ [r]).length c2, zv Y]) rfl rfl (fun w' hM => hof a2 c2 w' (hM.recs memA)) ?_
              rintro qb hqb
              apply HB.fold
              refine HB.all (by exact Keep.blkB memA Keep.nil) [8] (by kernel_rfl) rfl ⟨⟨_, rfl, ?_⟩, trivial⟩
              refine HP.one ?_
              refine H1.alloc (cs := row 8 fun i => slot (q0 i)) rfl rfl (fun b15 => ?_)
              apply HB.fold
              refine HB.all (by exact Keep.blkB memA Keep.nil) [9] (by kernel_rfl) rfl ⟨⟨_, rfl, ?_⟩, trivial⟩
              refine HP.one ?_
              refine H1.stAgg (cs := row 8 fun i => slot (q0 i)) (vs := row 8 fun i => slot (qb i)) rfl rfl rfl (slot_one qb) rplA rfl ?_
              apply HB.fold
              refine HB.done (by exact Keep.blkB memA Keep.nil) (by kernel_rfl) ?_
              exact HX.cut (b15, qb) hqb esA (by repeat (first | exact Hs.nil _ | (refine Hs.cons pickA ?_)))
            · refine HP.one ?_
              refine H1.alloc (cs := row 8 fun i => slot (q0 i)) rfl rfl (fun b15 => ?_)
              apply HB.fold
              refine HB.all (by exact Keep.blkB memA Keep.nil) [7] (by kernel_rfl) rfl ⟨⟨_, rfl, ?_⟩, trivial⟩
              refine HP.one ?_
              refine H1.callz1 (α := Nat → Slot) (V := bsV) (An := bsA) (I := IsBase (l ++ [r]) Y) (vs := [.slice a2 (l ++ [r]).length c2, zv Y]) rfl rfl (fun w' hM => hof a2 c2 w' (hM.recs memA)) ?_
              rintro qb hqb
              apply HB.fold
              refine HB.all (by exact Keep.blkB memA Keep.nil) [9] (by kernel_rfl) rfl ⟨⟨_, rfl, ?_⟩, trivial⟩
              refine HP.one ?_
              refine H1.stAgg (cs := row 8 fun i => slot (q0 i)) (vs := row 8 fun i => slot (qb i)) rfl rfl rfl (slot_one qb) rplA rfl ?_
              apply HB.fold
              refine HB.done (by exact Keep.blkB memA Keep.nil) (by kernel_rfl) ?_
              exact HX.cut (b15, qb) hqb esA (by repeat (first | exact Hs.nil _ | (refine Hs.cons pickA ?_)))
          · refine HP.one ?_
            refine H1.alloc (cs := row 8 fun i => slot (q0 i)) rfl rfl (fun b15 => ?_)
            apply HB.fold
            refine HB.all (by exact Keep.blkB memA Keep.nil) [5] (by kernel_rfl) rfl ⟨⟨_, rfl, ?_⟩, trivial⟩
            refine HP.one ?_
            refine H1.appRec1 (e := 27) (l := l) (rc := r) (a := a1) (c := c1) rfl rfl rfl (fun a' c' => by first | ((repeat (first | with_reducible exact Rpl.here | with_reducible apply Rpl.there)); done) | (repeat (first | exact Rpl.here | apply Rpl.there))) memA (by omega) (by decide) rfl (fun a2 c2 => ?_)
            apply HB.fold
            refine HB.all (by exact Keep.blkB memA Keep.nil) [7] (by kernel_rfl) rfl ⟨⟨_, rfl, ?_⟩, trivial⟩
            refine HP.one ?_
            refine H1.callz1 (α := Nat → Slot) (V := bsV) (An := bsA) (I := IsBase (l ++ [r]) Y) (vs := [.slice a2 (l ++ [r]).length c2, zv Y]) rfl rfl (fun w' hM => hof a2 c2 w' (hM.recs memA)) ?_
            rintro qb hqb
            apply HB.fold
            refine HB.all (by exact Keep.blkB memA Keep.nil) [9] (by kernel_rfl) rfl ⟨⟨_, rfl, ?_⟩, trivial⟩
            refine HP.one ?_
            refine H1.stAgg (cs := row 8 fun i => slot (q0 i)) (vs := row 8 fun i => slot (qb i)) rfl rfl rfl (slot_one qb) rplA rfl ?_
            apply HB.fold
            refine HB.done (by exact Keep.blkB memA Keep.nil) (by kernel_rfl) ?_
            exact HX.cut (b15, qb) hqb esA (by repeat (first | exact Hs.nil _ | (refine Hs.cons pickA ?_)))
        · refine HP.one ?_
          refine H1.alloc (cs := row 8 fun i => slot (q0 i)) rfl rfl (fun b15 => ?_)
          apply HB.fold
          refine HB.all (by exact Keep.blkB memA Keep.nil) [4] (by kernel_rfl) rfl ⟨⟨_, rfl, ?_⟩, trivial⟩
          refine HP.one ?_
          refine H1.lit (cs := rcells r) rfl rfl rfl rfl rfl rfl (fun bs => ?_)
          apply HB.fold
          refine HB.all (by exact Keep.blkB memA Keep.nil) [5] (by kernel_rfl) rfl ⟨⟨_, rfl, ?_⟩, trivial⟩
          refine HP.one ?_
          refine H1.appRec1 (e := 27) (l := l) (rc := r) (a := a1) (c := c1) rfl rfl rfl (fun a' c' => by first | ((repeat (first | with_reducible exact Rpl.here | with_reducible apply Rpl.there)); done) | (repeat (first | exact Rpl.here | apply Rpl.there))) memA (by omega) (by decide) rfl (fun a2 c2 => ?_)
          apply HB.fold
          refine HB.all (by exact Keep.blkB memA Keep.nil) [7] (by kernel_rfl) rfl ⟨⟨_, rfl, ?_⟩, trivial⟩
          refine HP.one ?_
          refine H1.callz1 (α := Nat → Slot) (V := bsV) (An := bsA) (I := IsBase (l ++ [r]) Y) (vs := [.slice a2 (l ++ [r]).length c2, zv Y]) rfl rfl (fun w' hM => hof a2 c2 w' (hM.recs memA)) ?_
          rintro qb hqb
          apply HB.fold
          refine HB.all (by exact Keep.blkB memA Keep.nil) [9] (by kernel_rfl) rfl ⟨⟨_, rfl, ?_⟩, trivial⟩
          refine HP.one ?_
          refine H1.stAgg (cs := row 8 fun i => slot (q0 i)) (vs := row 8 fun i => slot (qb i)) rfl rfl rfl (slot_one qb) rplA rfl ?_
          apply HB.fold
          refine HB.done (by exact Keep.blkB memA Keep.nil) (by kernel_rfl) ?_
          exact HX.cut (b15, qb) hqb esA (by repeat (first | exact Hs.nil _ | (refine Hs.cons pickA ?_)))
      · refine HP.one ?_
        refine H1.lit (cs := rcells r) rfl rfl rfl rfl rfl rfl (fun bs => ?_)
        apply HB.fold
        refine HB.all (by exact Keep.blkB memA Keep.nil) [2, 8] (by kernel_rfl) rfl ⟨⟨_, rfl, ?_⟩, ⟨_, rfl, ?_⟩, trivial⟩
        · refine HP.one ?_
          refine H1.appRec (e := 27) (l := []) (m := l) (a := some ⟨bz, 0, none⟩) (c := 0) (ao := some ⟨bl, 0, none⟩) (c2 := cl) rfl rfl rfl (fun a' c' => by first | ((repeat (first | with_reducible exact Rpl.here | with_reducible apply Rpl.there)); done) | (repeat (first | exact Rpl.here | apply Rpl.there))) (fun w hM => hM.recs memA) (by simp only [List.length_nil]; omega) (by decide) rfl (fun a1 c1 => ?_)
          rw [List.nil_append]
          apply HB.fold
          refine HB.all (by exact Keep.blkB memA Keep.nil) [5, 8] (by kernel_rfl) rfl ⟨⟨_, rfl, ?_⟩, ⟨_, rfl, ?_⟩, trivial⟩
          · refine HP.one ?_
            refine H1.appRec1 (e := 27) (l := l) (rc := r) (a := a1) (c := c1) rfl rfl rfl (fun a' c' => by first | ((repeat (first | with_reducible exact Rpl.here | with_reducible apply Rpl.there)); done) | (repeat (first | exact Rpl.here | apply Rpl.there))) memA (by omega) (by decide) rfl (fun a2 c2 => ?_)
            apply HB.fold
            refine HB.all (by exact Keep.blkB memA Keep.nil) [7, 8] (by kernel_rfl) rfl ⟨⟨_, rfl, ?_⟩, ⟨_, rfl, ?_⟩, trivial⟩
            · refine HP.one ?_
              refine H1.callz1 (α := Nat → Slot) (V := bsV) (An := bsA) (I := IsBase (l ++ [r]) Y) (vs := [.slice a2 (l ++ [r]).length c2, zv Y]) rfl rfl (fun w' hM => hof a2 c2 w' (hM.recs memA)) ?_
              rintro qb hqb
              apply HB.fold
              refine HB.all (by exact Keep.blkB memA Keep.nil) [8] (by kernel_rfl) rfl ⟨⟨_, rfl, ?_⟩, trivial⟩
              refine HP.one ?_
              refine H1.alloc (cs := row 8 fun i => slot (q0 i)) rfl rfl (fun b15 => ?_)
              apply HB.fold
              refine HB.all (by exact Keep.blkB memA Keep.nil) [9] (by kernel_rfl) rfl ⟨⟨_, rfl, ?_⟩, trivial⟩
              refine HP.one ?_
              refine H1.stAgg (cs := row 8 fun i => slot (q0 i)) (vs := row 8 fun i => slot (qb i)) rfl rfl rfl (slot_one qb) rplA rfl ?_
              apply HB.fold
              refine HB.done (by exact Keep.blkB memA Keep.nil) (by kernel_rfl) ?_
              exact HX.cut (b15, qb) hqb esA (by repeat (first | exact Hs.nil _ | (refine Hs.cons pickA ?_)))
            · refine HP.one ?_
              refine H1.alloc (cs := row 8 fun i => slot (q0 i)) rfl rfl (fun b15 => ?_)
              apply HB.fold
              refine HB.all (by exact Keep.blkB memA Keep.nil) [7] (by kernel_rfl) rfl ⟨⟨_, rfl, ?_⟩, trivial⟩
              refine HP.one ?_
              refine H1.callz1 (α := Nat → Slot) (V := bsV) (An := bsA) (I := IsBase (l ++ [r]) Y) (vs := [.slice a2 (l ++ [r]).length c2, zv Y]) rfl rfl (fun w' hM => hof a2 c2 w' (hM.recs memA)) ?_
              rintro qb hqb
              apply HB.fold
              refine HB.all (by exact Keep.blkB memA Keep.nil) [9] (by kernel_rfl) rfl ⟨⟨_, rfl, ?_⟩, trivial⟩
              refine HP.one ?_
              refine H1.stAgg (cs := row 8 fun i => slot (q0 i)) (vs := row 8 fun i => slot (qb i)) rfl rfl rfl (slot_one qb) rplA rfl ?_
              apply HB.fold
              refine HB.done (by exact Keep.blkB memA Keep.nil) (by kernel_rfl) ?_
              exact HX.cut (b15, qb) hqb esA (by repeat (first | exact Hs.nil _ | (refine Hs.cons pickA ?_)))
          · refine HP.one ?_
            refine H1.alloc (cs := row 8 fun i => slot (q0 i)) rfl rfl (fun b15 => ?_)
            apply HB.fold
            refine HB.all (by exact Keep.blkB memA Keep.nil) [5] (by kernel_rfl) rfl ⟨⟨_, rfl, ?_⟩, trivial⟩
            refine HP.one ?_
            refine H1.appRec1 (e := 27) (l := l) (rc := r) (a := a1) (c := c1) rfl rfl rfl (fun a' c' => by first | ((repeat (first | with_reducible exact Rpl.here | with_reducible apply Rpl.there)); done) | (repeat (first | exact Rpl.here | apply Rpl.there))) memA (by omega) (by decide) rfl (fun a2 c2 => ?_)
            apply HB.fold
            refine HB.all (by exact Keep.blkB memA Keep.nil) [7] (by kernel_rfl) rfl ⟨⟨_, rfl, ?_⟩, trivial⟩
            refine HP.one ?_
            refine H1.callz1 (α := Nat → Slot) (V := bsV) (An := bsA) (I := IsBase (l ++ [r]) Y) (vs := [.slice a2 (l ++ [r]).length c2, zv Y]) rfl rfl (fun w' hM => hof a2 c2 w' (hM.recs memA)) ?_
            rintro qb hqb
            apply HB.fold
            refine HB.all (by exact Keep.blkB memA Keep.nil) [9] (by kernel_rfl) rfl ⟨⟨_, rfl, ?_⟩, trivial⟩
            refine HP.one ?_
            refine H1.stAgg (cs := row 8 fun i => slot (q0 i)) (vs := row 8 fun i => slot (qb i)) rfl rfl rfl (slot_one qb) rplA rfl ?_
            apply HB.fold
            refine HB.done (by exact Keep.blkB memA Keep.nil) (by kernel_rfl) ?_
            exact HX.cut (b15, qb) hqb esA (by repeat (first | exact Hs.nil _ | (refine Hs.cons pickA ?_)))
        · refine HP.one ?_
          refine H1.alloc (cs := row 8 fun i => slot (q0 i)) rfl rfl (fun b15 => ?_)
          apply HB.fold
          refine HB.all (by exact Keep.blkB memA Keep.nil) [2] (by kernel_rfl) rfl ⟨⟨_, rfl, ?_⟩, trivial⟩
          refine HP.one ?_
          refine H1.appRec (e := 27) (l := []) (m := l) (a := some ⟨bz, 0, none⟩) (c := 0) (ao := some ⟨bl, 0, none⟩) (c2 := cl) rfl rfl rfl (fun a' c' => by first | ((repeat (first | with_reducible exact Rpl.here | with_reducible apply Rpl.there)); done) | (repeat (first | exact Rpl.here | apply Rpl.there))) (fun w hM => hM.recs memA) (by simp only [List.length_nil]; omega) (by decide) rfl (fun a1 c1 => ?_)
          rw [List.nil_append]
          apply HB.fold
          refine HB.all (by exact Keep.blkB memA Keep.nil) [5] (by kernel_rfl) rfl ⟨⟨_, rfl, ?_⟩, trivial⟩
          refine HP.one ?_
          refine H1.appRec1 (e := 27) (l := l) (rc := r) (a := a1) (c := c1) rfl rfl rfl (fun a' c' => by first | ((repeat (first | with_reducible exact Rpl.here | with_reducible apply Rpl.there)); done) | (repeat (first | exact Rpl.here | apply Rpl.there))) memA (by omega) (by decide) rfl (fun a2 c2 => ?_)
          apply HB.fold
          refine HB.all (by exact Keep.blkB memA Keep.nil) [7] (by kernel_rfl) rfl ⟨⟨_, rfl, ?_⟩, trivial⟩
          refine HP.one ?_
          refine H1.callz1 (α := Nat → Slot) (V := bsV) (An := bsA) (I := IsBase (l ++ [r]) Y) (vs := [.slice a2 (l ++ [r]).length c2, zv Y]) rfl rfl (fun w' hM => hof a2 c2 w' (hM.recs memA)) ?_
          rintro qb hqb
          apply HB.fold
          refine HB.all (by exact Keep.blkB memA Keep.nil) [9] (by kernel_rfl) rfl ⟨⟨_, rfl, ?_⟩, trivial⟩
          refine HP.one ?_
          refine H1.stAgg (cs := row 8 fun i => slot (q0 i)) (vs := row 8 fun i => slot (qb i)) rfl rfl rfl (slot_one qb) rplA rfl ?_
          apply HB.fold
          refine HB.done (by exact Keep.blkB memA Keep.nil) (by kernel_rfl) ?_
          exact HX.cut (b15, qb) hqb esA (by repeat (first | exact Hs.nil _ | (refine Hs.cons pickA ?_)))
      · refine HP.one ?_
        refine H1.alloc (cs := row 8 fun i => slot (q0 i)) rfl rfl (fun b15 => ?_)
        apply HB.fold
        refine HB.all (by exact Keep.blkB memA Keep.nil) [2, 4] (by kernel_rfl) rfl ⟨⟨_, rfl, ?_⟩, ⟨_, rfl, ?_⟩, trivial⟩
        · refine HP.one ?_
          refine H1.appRec (e := 27) (l := []) (m := l) (a := some ⟨bz, 0, none⟩) (c := 0) (ao := some ⟨bl, 0, none⟩) (c2 := cl) rfl rfl rfl (fun a' c' => by first | ((repeat (first | with_reducible exact Rpl.here | with_reducible apply Rpl.there)); done) | (repeat (first | exact Rpl.here | apply Rpl.there))) (fun w hM => hM.recs memA) (by simp only [List.length_nil]; omega) (by decide) rfl (fun a1 c1 => ?_)
          rw [List.nil_append]
          apply HB.fold
          refine HB.all (by exact Keep.blkB memA Keep.nil) [4] (by kernel_rfl) rfl ⟨⟨_, rfl, ?_⟩, trivial⟩
          refine HP.one ?_
          refine H1.lit (cs := rcells r) rfl rfl rfl rfl rfl rfl (fun bs => ?_)
          apply HB.fold
          refine HB.all (by exact Keep.blkB memA Keep.nil) [5] (by kernel_rfl) rfl ⟨⟨_, rfl, ?_⟩, trivial⟩
          refine HP.one ?_
          refine H1.appRec1 (e := 27) (l := l) (rc := r) (a := a1) (c := c1) rfl rfl rfl (fun a' c' => by first | ((repeat (first | with_reducible exact Rpl.here | with_reducible apply Rpl.there)); done) | (repeat (first | exact Rpl.here | apply Rpl.there))) memA (by omega) (by decide) rfl (fun a2 c2 => ?_)
          apply HB.fold
          refine HB.all (by exact Keep.blkB memA Keep.nil) [7] (by kernel_rfl) rfl ⟨⟨_, rfl, ?_⟩, trivial⟩
          refine HP.one ?_
          refine H1.callz1 (α := Nat → Slot) (V := bsV) (An := bsA) (I := IsBase (l ++ [r]) Y) (vs := [.slice a2 (l ++ [r]).length c2, zv Y]) rfl rfl (fun w' hM => hof a2 c2 w' (hM.recs memA)) ?_
          rintro qb hqb
          apply HB.fold
          refine HB.all (by exact Keep.blkB memA Keep.nil) [9] (by kernel_rfl) rfl ⟨⟨_, rfl, ?_⟩, trivial⟩
          refine HP.one ?_
          refine H1.stAgg (cs := row 8 fun i => slot (q0 i)) (vs := row 8 fun i => slot (qb i)) rfl rfl rfl (slot_one qb) rplA rfl ?_
          apply HB.fold
          refine HB.done (by exact Keep.blkB memA Keep.nil) (by kernel_rfl) ?_
          exact HX.cut (b15, qb) hqb esA (by repeat (first | exact Hs.nil _ | (refine Hs.cons pickA ?_)))
        · refine HP.one ?_
          refine H1.lit (cs := rcells r) rfl rfl rfl rfl rfl rfl (fun bs => ?_)
          apply HB.fold
          refine HB.all (by exact Keep.blkB memA Keep.nil) [2] (by kernel_rfl) rfl ⟨⟨_, rfl, ?_⟩, trivial⟩
          refine HP.one ?_
          refine H1.appRec (e := 27) (l := []) (m := l) (a := some ⟨bz, 0, none⟩) (c := 0) (ao := some ⟨bl, 0, none⟩) (c2 := cl) rfl rfl rfl (fun a' c' => by first | ((repeat (first | with_reducible exact Rpl.here | with_reducible apply Rpl.there)); done) | (repeat (first | exact Rpl.here | apply Rpl.there))) (fun w hM => hM.recs memA) (by simp only [List.length_nil]; omega) (by decide) rfl (fun a1 c1 => ?_)
          rw [List.nil_append]
          apply HB.fold
          refine HB.all (by exact Keep.blkB memA Keep.nil) [5] (by kernel_rfl) rfl ⟨⟨_, rfl, ?_⟩, trivial⟩
          refine HP.one ?_
          refine H1.appRec1 (e := 27) (l := l) (rc := r) (a := a1) (c := c1) rfl rfl rfl (fun a' c' => by first | ((repeat (first | with_reducible exact Rpl.here | with_reducible apply Rpl.there)); done) | (repeat (first | exact Rpl.here | apply Rpl.there))) memA (by omega) (by decide) rfl (fun a2 c2 => ?_)
          apply HB.fold
          refine HB.all (by exact Keep.blkB memA Keep.nil) [7] (by kernel_rfl) rfl ⟨⟨_, rfl, ?_⟩, trivial⟩
          refine HP.one ?_
          refine H1.callz1 (α := Nat → Slot) (V := bsV) (An := bsA) (I := IsBase (l ++ [r]) Y) (vs := [.slice a2 (l ++ [r]).length c2, zv Y]) rfl rfl (fun w' hM => hof a2 c2 w' (hM.recs memA)) ?_
          rintro qb hqb
          apply HB.fold
          refine HB.all (by exact Keep.blkB memA Keep.nil) [9] (by kernel_rfl) rfl ⟨⟨_, rfl, ?_⟩, trivial⟩
          refine HP.one ?_
          refine H1.stAgg (cs := row 8 fun i => slot (q0 i)) (vs := row 8 fun i => slot (qb i)) rfl rfl rfl (slot_one qb) rplA rfl ?_
          apply HB.fold
          refine HB.done (by exact Keep.blkB memA Keep.nil) (by kernel_rfl) ?_
          exact HX.cut (b15, qb) hqb esA (by repeat (first | exact Hs.nil _ | (refine Hs.cons pickA ?_)))
    · refine HP.one ?_
      refine H1.lit (cs := rcells r) rfl rfl rfl rfl rfl rfl (fun bs => ?_)
      apply HB.fold
      refine HB.all (by exact Keep.blkB memA Keep.nil) [0, 8] (by kernel_rfl) rfl ⟨⟨_, rfl, ?_⟩, ⟨_, rfl, ?_⟩, trivial⟩
      · refine HP.one ?_
        refine H1.lit0 rfl (fun bz => ?_)
        apply HB.fold
        refine HB.all (by exact Keep.blkB memA Keep.nil) [2, 8] (by kernel_rfl) rfl ⟨⟨_, rfl, ?_⟩, ⟨_, rfl, ?_⟩, trivial⟩
        · refine HP.one ?_
          refine H1.appRec (e := 27) (l := []) (m := l) (a := some ⟨bz, 0, none⟩) (c := 0) (ao := some ⟨bl, 0, none⟩) (c2 := cl) rfl rfl rfl (fun a' c' => by first | ((repeat (first | with_reducible exact Rpl.here | with_reducible apply Rpl.there)); done) | (repeat (first | exact Rpl.here | apply Rpl.there))) (fun w hM => hM.recs memA) (by simp only [List.length_nil]; omega) (by decide) rfl (fun a1 c1 => ?_)
          rw [List.nil_append]
          apply HB.fold
          refine HB.all (by exact Keep.blkB memA Keep.nil) [5, 8] (by kernel_rfl) rfl ⟨⟨_, rfl, ?_⟩, ⟨_, rfl, ?_⟩, trivial⟩
          · refine HP.one ?_
            refine H1.appRec1 (e := 27) (l := l) (rc := r) (a := a1) (c := c1) rfl rfl rfl (fun a' c' => by first | ((repeat (first | with_reducible exact Rpl.here | with_reducible apply Rpl.there)); done) | (repeat (first | exact Rpl.here | apply Rpl.there))) memA (by omega) (by decide) rfl (fun a2 c2 => ?_)
            apply HB.fold
            refine HB.all (by exact Keep.blkB memA Keep.nil) [7, 8] (by kernel_rfl) rfl ⟨⟨_, rfl, ?_⟩, ⟨_, rfl, ?_⟩, trivial⟩
            · refine HP.one ?_
              refine H1.callz1 (α := Nat → Slot) (V := bsV) (An := bsA) (I := IsBase (l ++ [r]) Y) (vs := [.slice a2 (l ++ [r]).length c2, zv Y]) rfl rfl (fun w' hM => hof a2 c2 w' (hM.recs memA)) ?_
              rintro qb hqb
              apply HB.fold
              refine HB.all (by exact Keep.blkB memA Keep.nil) [8] (by kernel_rfl) rfl ⟨⟨_, rfl, ?_⟩, trivial⟩
              refine HP.one ?_
              refine H1.alloc (cs := row 8 fun i => slot (q0 i)) rfl rfl (fun b15 => ?_)
              apply HB.fold
              refine HB.all (by exact Keep.blkB memA Keep.nil) [9] (by kernel_rfl) rfl ⟨⟨_, rfl, ?_⟩, trivial⟩
              refine HP.one ?_
              refine H1.stAgg (cs := row 8 fun i => slot (q0 i)) (vs := row 8 fun i => slot (qb i)) rfl rfl rfl (slot_one qb) rplA rfl ?_
              apply HB.fold
              refine HB.done (by exact Keep.blkB memA Keep.nil) (by kernel_rfl) ?_
              exact HX.cut (b15, qb) hqb esA (by repeat (first | exact Hs.nil _ | (refine Hs.cons pickA ?_)))
            · refine HP.one ?_
              refine H1.alloc (cs := row 8 fun i => slot (q0 i)) rfl rfl (fun b15 => ?_)
              apply HB.fold
              refine HB.all (by exact Keep.blkB memA Keep.nil) [7] (by kernel_rfl) rfl ⟨⟨_, rfl, ?_⟩, trivial⟩
              refine HP.one ?_
              refine H1.callz1 (α := Nat → Slot) (V := bsV) (An := bsA) (I := IsBase (l ++ [r]) Y) (vs := [.slice a2 (l ++ [r]).length c2, zv Y]) rfl rfl (fun w' hM => hof a2 c2 w' (hM.recs memA)) ?_
              rintro qb hqb
              apply HB.fold
              refine HB.all (by exact Keep.blkB memA Keep.nil) [9] (by kernel_rfl) rfl ⟨⟨_, rfl, ?_⟩, trivial⟩
              refine HP.one ?_
              refine H1.stAgg (cs := row 8 fun i => slot (q0 i)) (vs := row 8 fun i => slot (qb i)) rfl rfl rfl (slot_one qb) rplA rfl ?_
              apply HB.fold
              refine HB.done (by exact Keep.blkB memA Keep.nil) (by kernel_rfl) ?_
              exact HX.cut (b15, qb) hqb esA (by repeat (first | exact Hs.nil _ | (refine Hs.cons pickA ?_)))
          · refine HP.one ?_
            refine H1.alloc (cs := row 8 fun i => slot (q0 i)) rfl rfl (fun b15 => ?_)
            apply HB.fold
            refine HB.all (by exact Keep.blkB memA Keep.nil) [5] (by kernel_rfl) rfl ⟨⟨_, rfl, ?_⟩, trivial⟩
            refine HP.one ?_
            refine H1.appRec1 (e := 27) (l := l) (rc := r) (a := a1) (c := c1) rfl rfl rfl (fun a' c' => by first | ((repeat (first | with_reducible exact Rpl.here | with_reducible apply Rpl.there)); done) | (repeat (first | exact Rpl.here | apply Rpl.there))) memA (by omega) (by decide) rfl (fun a2 c2 => ?_)
            apply HB.fold
            refine HB.all (by exact Keep.blkB memA Keep.nil) [7] (by kernel_rfl) rfl ⟨⟨_, rfl, ?_⟩, trivial⟩
            refine HP.one ?_
            refine H1.callz1 (α := Nat → Slot) (V := bsV) (An := bsA) (I := IsBase (l ++ [r]) Y) (vs := [.slice a2 (l ++ [r]).length c2, zv Y]) rfl rfl (fun w' hM => hof a2 c2 w' (hM.recs memA)) ?_
            rintro qb hqb
            apply HB.fold
            refine HB.all (by exact Keep.blkB memA Keep.nil) [9] (by kernel_rfl) rfl ⟨⟨_, rfl, ?_⟩, trivial⟩
            refine HP.one ?_
            refine H1.stAgg (cs := row 8 fun i => slot (q0 i)) (vs := row 8 fun i => slot (qb i)) rfl rfl rfl (slot_one qb) rplA rfl ?_
            apply HB.fold
            refine HB.done (by exact Keep.blkB memA Keep.nil) (by kernel_rfl) ?_
            exact HX.cut (b15, qb) hqb esA (by repeat (first | exact Hs.nil _ | (refine Hs.cons pickA ?_)))
        · refine HP.one ?_
          refine H1.alloc (cs := row 8 fun i => slot (q0 i)) rfl rfl (fun b15 => ?_)
          apply HB.fold
          refine HB.all (by exact Keep.blkB memA Keep.nil) [2] (by kernel_rfl) rfl ⟨⟨_, rfl, ?_⟩, trivial⟩
          refine HP.one ?_
          refine H1.appRec (e := 27) (l := []) (m := l) (a := some ⟨bz, 0, none⟩) (c := 0) (ao := some ⟨bl, 0, none⟩) (c2 := cl) rfl rfl rfl (fun a' c' => by first | ((repeat (first | with_reducible exact Rpl.here | with_reducible apply Rpl.there)); done) | (repeat (first | exact Rpl.here | apply Rpl.there))) (fun w hM => hM.recs memA) (by simp only [List.length_nil]; omega) (by decide) rfl (fun a1 c1 => ?_)
          rw [List.nil_append]
          apply HB.fold
          refine HB.all (by exact Keep.blkB memA Keep.nil) [5] (by kernel_rfl) rfl ⟨⟨_, rfl, ?_⟩, trivial⟩
          refine HP.one ?_
          refine H1.appRec1 (e := 27) (l := l) (rc := r) (a := a1) (c := c1) rfl rfl rfl (fun a' c' => by first | ((repeat (first | with_reducible exact Rpl.here | with_reducible apply Rpl.there)); done) | (repeat (first | exact Rpl.here | apply Rpl.there))) memA (by omega) (by decide) rfl (fun a2 c2 => ?_)
          apply HB.fold
          refine HB.all (by exact Keep.blkB memA Keep.nil) [7] (by kernel_rfl) rfl ⟨⟨_, rfl, ?_⟩, trivial⟩
          refine HP.one ?_
          refine H1.callz1 (α := Nat → Slot) (V := bsV) (An := bsA) (I := IsBase (l ++ [r]) Y) (vs := [.slice a2 (l ++ [r]).length c2, zv Y]) rfl rfl (fun w' hM => hof a2 c2 w' (hM.recs memA)) ?_
          rintro qb hqb
          apply HB.fold
          refine HB.all (by exact Keep.blkB memA Keep.nil) [9] (by kernel_rfl) rfl ⟨⟨_, rfl, ?_⟩, trivial⟩
          refine HP.one ?_
          refine H1.stAgg (cs := row 8 fun i => slot (q0 i)) (vs := row 8 fun i => slot (qb i)) rfl rfl rfl (slot_one qb) rplA rfl ?_
          apply HB.fold
          refine HB.done (by exact Keep.blkB memA Keep.nil) (by kernel_rfl) ?_
          exact HX.cut (b15, qb) hqb esA (by repeat (first | exact Hs.nil _ | (refine Hs.cons pickA ?_)))
      · refine HP.one ?_
        refine H1.alloc (cs := row 8 fun i => slot (q0 i)) rfl rfl (fun b15 => ?_)
        apply HB.fold
        refine HB.all (by exact Keep.blkB memA Keep.nil) [0] (by kernel_rfl) rfl ⟨⟨_, rfl, ?_⟩, trivial⟩
        refine HP.one ?_
        refine H1.lit0 rfl (fun bz => ?_)
        apply HB.fold
        refine HB.all (by exact Keep.blkB memA Keep.nil) [2] (by kernel_rfl) rfl ⟨⟨_, rfl, ?_⟩, trivial⟩
        refine HP.one ?_
        refine H1.appRec (e := 27) (l := []) (m := l) (a := some ⟨bz, 0, none⟩) (c := 0) (ao := some ⟨bl, 0, none⟩) (c2 := cl) rfl rfl rfl (fun a' c' => by first | ((repeat (first | with_reducible exact Rpl.here | with_reducible apply Rpl.there)); done) | (repeat (first | exact Rpl.here | apply Rpl.there))) (fun w hM => hM.recs memA) (by simp only [List.length_nil]; omega) (by decide) rfl (fun a1 c1 => ?_)
        rw [List.nil_append]
        apply HB.fold
        refine HB.all (by exact Keep.blkB memA Keep.nil) [5] (by kernel_rfl) rfl ⟨⟨_, rfl, ?_⟩, trivial⟩
        refine HP.one ?_
        refine H1.appRec1 (e := 27) (l := l) (rc := r) (a := a1) (c := c1) rfl rfl rfl (fun a' c' => by first | ((repeat (first | with_reducible exact Rpl.here | with_reducible apply Rpl.there)); done) | (repeat (first | exact Rpl.here | apply Rpl.there))) memA (by omega) (by decide) rfl (fun a2 c2 => ?_)
        apply HB.fold
        refine HB.all (by exact Keep.blkB memA Keep.nil) [7] (by kernel_rfl) rfl ⟨⟨_, rfl, ?_⟩, trivial⟩
        refine HP.one ?_
        refine H1.callz1 (α := Nat → Slot) (V := bsV) (An := bsA) (I := IsBase (l ++ [r]) Y) (vs := [.slice a2 (l ++ [r]).length c2, zv Y]) rfl rfl (fun w' hM => hof a2 c2 w' (hM.recs memA)) ?_
        rintro qb hqb
        apply HB.fold
        refine HB.all (by exact Keep.blkB memA Keep.nil) [9] (by kernel_rfl) rfl ⟨⟨_, rfl, ?_⟩, trivial⟩
        refine HP.one ?_
        refine H1.stAgg (cs := row 8 fun i => slot (q0 i)) (vs := row 8 fun i => slot (qb i)) rfl rfl rfl (slot_one qb) rplA rfl ?_
        apply HB.fold
        refine HB.done (by exact Keep.blkB memA Keep.nil) (by kernel_rfl) ?_
        exact HX.cut (b15, qb) hqb esA (by repeat (first | exact Hs.nil _ | (refine Hs.cons pickA ?_)))
    · refine HP.one ?_
      refine H1.alloc (cs := row 8 fun i => slot (q0 i)) rfl rfl (fun b15 => ?_)
      apply HB.fold
      refine HB.all (by exact Keep.blkB memA Keep.nil) [0, 4] (by kernel_rfl) rfl ⟨⟨_, rfl, ?_⟩, ⟨_, rfl, ?_⟩, trivial⟩
      · refine HP.one ?_
        refine H1.lit0 rfl (fun bz => ?_)
        apply HB.fold
        refine HB.all (by exact Keep.blkB memA Keep.nil) [2, 4] (by kernel_rfl) rfl ⟨⟨_, rfl, ?_⟩, ⟨_, rfl, ?_⟩, trivial⟩
        · refine HP.one ?_
          refine H1.appRec (e := 27) (l := []) (m := l) (a := some ⟨bz, 0, none⟩) (c := 0) (ao := some ⟨bl, 0, none⟩) (c2 := cl) rfl rfl rfl (fun a' c' => by first | ((repeat (first | with_reducible exact Rpl.here | with_reducible apply Rpl.there)); done) | (repeat (first | exact Rpl.here | apply Rpl.there))) (fun w hM => hM.recs memA) (by simp only [List.length_nil]; omega) (by decide) rfl (fun a1 c1 => ?_)
          rw [List.nil_append]
          apply HB.fold
          refine HB.all (by exact Keep.blkB memA Keep.nil) [4] (by kernel_rfl) rfl ⟨⟨_, rfl, ?_⟩, trivial⟩
          refine HP.one ?_
          refine H1.lit (cs := rcells r) rfl rfl rfl rfl rfl rfl (fun bs => ?_)
          apply HB.fold
          refine HB.all (by exact Keep.blkB memA Keep.nil) [5] (by kernel_rfl) rfl ⟨⟨_, rfl, ?_⟩, trivial⟩
          refine HP.one ?_
          refine H1.appRec1 (e := 27) (l := l) (rc := r) (a := a1) (c := c1) rfl rfl rfl (fun a' c' => by first | ((repeat (first | with_reducible exact Rpl.here | with_reducible apply Rpl.there)); done) | (repeat (first | exact Rpl.here | apply Rpl.there))) memA (by omega) (by decide) rfl (fun a2 c2 => ?_)
          apply HB.fold
          refine HB.all (by exact Keep.blkB memA Keep.nil) [7] (by kernel_rfl) rfl ⟨⟨_, rfl, ?_⟩, trivial⟩
          refine HP.one ?_
          refine H1.callz1 (α := Nat → Slot) (V := bsV) (An := bsA) (I := IsBase (l ++ [r]) Y) (vs := [.slice a2 (l ++ [r]).length c2, zv Y]) rfl rfl (fun w' hM => hof a2 c2 w' (hM.recs memA)) ?_
          rintro qb hqb
          apply HB.fold
          refine HB.all (by exact Keep.blkB memA Keep.nil) [9] (by kernel_rfl) rfl ⟨⟨_, rfl, ?_⟩, trivial⟩
          refine HP.one ?_
          refine H1.stAgg (cs := row 8 fun i => slot (q0 i)) (vs := row 8 fun i => slot (qb i)) rfl rfl rfl (slot_one qb) rplA rfl ?_
          apply HB.fold
          refine HB.done (by exact Keep.blkB memA Keep.nil) (by kernel_rfl) ?_
          exact HX.cut (b15, qb) hqb esA (by repeat (first | exact Hs.nil _ | (refine Hs.cons pickA ?_)))
        · refine HP.one ?_
          refine H1.lit (cs := rcells r) rfl rfl rfl rfl rfl rfl (fun bs => ?_)
          apply HB.fold
          refine HB.all (by exact Keep.blkB memA Keep.nil) [2] (by kernel_rfl) rfl ⟨⟨_, rfl, ?_⟩, trivial⟩
          refine HP.one ?_
          refine H1.appRec (e := 27) (l := []) (m := l) (a := some ⟨bz, 0, none⟩) (c := 0) (ao := some ⟨bl, 0, none⟩) (c2 := cl) rfl rfl rfl (fun a' c' => by first | ((repeat (first | with_reducible exact Rpl.here | with_reducible apply Rpl.there)); done) | (repeat (first | exact Rpl.here | apply Rpl.there))) (fun w hM => hM.recs memA) (by simp only [List.length_nil]; omega) (by decide) rfl (fun a1 c1 => ?_)
          rw [List.nil_append]
          apply HB.fold
          refine HB.all (by exact Keep.blkB memA Keep.nil) [5] (by kernel_rfl) rfl ⟨⟨_, rfl, ?_⟩, trivial⟩
          refine HP.one ?_
          refine H1.appRec1 (e := 27) (l := l) (rc := r) (a := a1) (c := c1) rfl rfl rfl (fun a' c' => by first | ((repeat (first | with_reducible exact Rpl.here | with_reducible apply Rpl.there)); done) | (repeat (first | exact Rpl.here | apply Rpl.there))) memA (by omega) (by decide) rfl (fun a2 c2 => ?_)
          apply HB.fold
          refine HB.all (by exact Keep.blkB memA Keep.nil) [7] (by kernel_rfl) rfl ⟨⟨_, rfl, ?_⟩, trivial⟩
          refine HP.one ?_
          refine H1.callz1 (α := Nat → Slot) (V := bsV) (An := bsA) (I := IsBase (l ++ [r]) Y) (vs := [.slice a2 (l ++ [r]).length c2, zv Y]) rfl rfl (fun w' hM => hof a2 c2 w' (hM.recs memA)) ?_
          rintro qb hqb
          apply HB.fold
          refine HB.all (by exact Keep.blkB memA Keep.nil) [9] (by kernel_rfl) rfl ⟨⟨_, rfl, ?_⟩, trivial⟩
          refine HP.one ?_
          refine H1.stAgg (cs := row 8 fun i => slot (q0 i)) (vs := row 8 fun i => slot (qb i)) rfl rfl rfl (slot_one qb) rplA rfl ?_
          apply HB.fold
          refine HB.done (by exact Keep.blkB memA Keep.nil) (by kernel_rfl) ?_
          exact HX.cut (b15, qb) hqb esA (by repeat (first | exact Hs.nil _ | (refine Hs.cons pickA ?_)))
      · refine HP.one ?_
        refine H1.lit (cs := rcells r) rfl rfl rfl rfl rfl rfl (fun bs => ?_)
        apply HB.fold
        refine HB.all (by exact Keep.blkB memA Keep.nil) [0] (by kernel_rfl) rfl ⟨⟨_, rfl, ?_⟩, trivial⟩
        refine HP.one ?_
        refine H1.lit0 rfl (fun bz => ?_)
        apply HB.fold
        refine HB.all (by exact Keep.blkB memA Keep.nil) [2] (by kernel_rfl) rfl ⟨⟨_, rfl, ?_⟩, trivial⟩
        refine HP.one ?_
        refine H1.appRec (e := 27) (l := []) (m := l) (a := some ⟨bz, 0, none⟩) (c := 0) (ao := some ⟨bl, 0, none⟩) (c2 := cl) rfl rfl rfl (fun a' c' => by first | ((repeat (first | with_reducible exact Rpl.here | with_reducible apply Rpl.there)); done) | (repeat (first | exact Rpl.here | apply Rpl.there))) (fun w hM => hM.recs memA) (by simp only [List.length_nil]; omega) (by decide) rfl (fun a1 c1 => ?_)
        rw [List.nil_append]
        apply HB.fold
        refine HB.all (by exact Keep.blkB memA Keep.nil) [5] (by kernel_rfl) rfl ⟨⟨_, rfl, ?_⟩, trivial⟩
        refine HP.one ?_
        refine H1.appRec1 (e := 27) (l := l) (rc := r) (a := a1) (c := c1) rfl rfl rfl (fun a' c' => by first | ((repeat (first | with_reducible exact Rpl.here | with_reducible apply Rpl.there)); done) | (repeat (first | exact Rpl.here | apply Rpl.there))) memA (by omega) (by decide) rfl (fun a2 c2 => ?_)
        apply HB.fold
        refine HB.all (by exact Keep.blkB memA Keep.nil) [7] (by kernel_rfl) rfl ⟨⟨_, rfl, ?_⟩, trivial⟩
        refine HP.one ?_
        refine H1.callz1 (α := Nat → Slot) (V := bsV) (An := bsA) (I := IsBase (l ++ [r]) Y) (vs := [.slice a2 (l ++ [r]).length c2, zv Y]) rfl rfl (fun w' hM => hof a2 c2 w' (hM.recs memA)) ?_
        rintro qb hqb
        apply HB.fold
        refine HB.all (by exact Keep.blkB memA Keep.nil) [9] (by kernel_rfl) rfl ⟨⟨_, rfl, ?_⟩, trivial⟩
        refine HP.one ?_
        refine H1.stAgg (cs := row 8 fun i => slot (q0 i)) (vs := row 8 fun i => slot (qb i)) rfl rfl rfl (slot_one qb) rplA rfl ?_
        apply HB.fold
        refine HB.done (by exact Keep.blkB memA Keep.nil) (by kernel_rfl) ?_
        exact HX.cut (b15, qb) hqb esA (by repeat (first | exact Hs.nil _ | (refine Hs.cons pickA ?_)))
  rintro ⟨b15, qb⟩ hqb
  dsimp only at hqb ⊢
  have hla : ∀ i, i < 8 → (bsL qa i).length ≤ 31 := fun i hi => Nat.le_trans (of_len (hqa i hi)) (by omega)
  have hlb : ∀ i, i < 8 → (bsL qb i).length ≤ 31 := fun i hi => Nat.le_trans (of_len (hqb i hi)) (by rw [List.length_append, List.length_singleton]; omega)
  have hoa : ∀ i, i < 8 → ∀ t ∈ bsL qa i, RcOk t := fun i hi t ht => (hqa i hi).ok ht
  have hob : ∀ i, i < 8 → ∀ t ∈ bsL qb i, RcOk t := fun i hi t ht => (hqb i hi).ok ht
  by_cases hday : D ≤ Y
  rotate_left
  · have hE := eqBB_yes (hlt Y hday _ _ hqa hqb)
    repeat' (first | refine HL.pa ?_ (POp.beqC rfl rfl (by first | rfl | decide)) | apply HL.fold | apply HA.fold | apply HL.nil | apply HX.n_then | apply HC.seq | apply HC.region | refine HL.pa ?_ | refine HL.ga rfl ?_ | refine HL.na rfl ?_ | refine HL.nu rfl rfl ?_ | apply HC.block | apply HC.skip | apply HC.exit | apply HC.ret | apply HX.e_block | refine HX.e_other rfl ?_ | apply HX.e_then | apply HX.e_again | apply HX.n_block | apply HX.r_then | apply HX.r_block | apply HX.r_again | refine HC.cond_yes rfl ?_ | refine HC.cond_no rfl ?_ | refine HL.one (H1.ldb rfl memA rfl rfl ?_) | refine HC.cond rfl (fun hc => ?_) (fun hc => ?_) | refine HC.cond_b rfl (fun hc => ?_) (fun hc => ?_))
    refine HL.one (H1.ldAgg (vs := row 8 fun i => slot (qa i)) rfl memA rfl (fun i v hv => by rw [Nat.zero_add]; exact hv) rfl ?_)
    repeat' (first | refine HL.pa ?_ (POp.beqC rfl rfl (by first | rfl | decide)) | apply HL.fold | apply HA.fold | apply HL.nil | apply HX.n_then | apply HC.seq | apply HC.region | refine HL.pa ?_ | refine HL.ga rfl ?_ | refine HL.na rfl ?_ | refine HL.nu rfl rfl ?_ | apply HC.block | apply HC.skip | apply HC.exit | apply HC.ret | apply HX.e_block | refine HX.e_other rfl ?_ | apply HX.e_then | apply HX.e_again | apply HX.n_block | apply HX.r_then | apply HX.r_block | apply HX.r_again | refine HC.cond_yes rfl ?_ | refine HC.cond_no rfl ?_ | refine HL.one (H1.ldb rfl memA rfl rfl ?_) | refine HC.cond rfl (fun hc => ?_) (fun hc => ?_) | refine HC.cond_b rfl (fun hc => ?_) (fun hc => ?_))
    refine HL.one (H1.ldAgg (vs := row 8 fun i => slot (qb i)) rfl memA rfl (fun i v hv => by rw [Nat.zero_add]; exact hv) rfl ?_)
    repeat' (first | refine HL.pa ?_ (POp.beqC rfl rfl (by first | rfl | decide)) | apply HL.fold | apply HA.fold | apply HL.nil | apply HX.n_then | apply HC.seq | apply HC.region | refine HL.pa ?_ | refine HL.ga rfl ?_ | refine HL.na rfl ?_ | refine HL.nu rfl rfl ?_ | apply HC.block | apply HC.skip | apply HC.exit | apply HC.ret | apply HX.e_block | refine HX.e_other rfl ?_ | apply HX.e_then | apply HX.e_again | apply HX.n_block | apply HX.r_then | apply HX.r_block | apply HX.r_again | refine HC.cond_yes rfl ?_ | refine HC.cond_no rfl ?_ | refine HL.one (H1.ldb rfl memA rfl rfl ?_) | refine HC.cond rfl (fun hc => ?_) (fun hc => ?_) | refine HC.cond_b rfl (fun hc => ?_) (fun hc => ?_))
    refine HL.one (H1.callx (u := .bool true) (vs := [bsV qa, bsV qb]) rfl rfl (fun w' hM => by have h := same_fn w' (hM.base (q := qa) memA) (hM.base (q := qb) memA) (fun i hi => Nat.le_trans (hla i hi) (by decide)) hoa hob; rw [hE] at h; exact h) ?_)
    repeat' (first | refine HL.pa ?_ (POp.beqC rfl rfl (by first | rfl | decide)) | apply HL.fold | apply HA.fold | apply HL.nil | apply HX.n_then | apply HC.seq | apply HC.region | refine HL.pa ?_ | refine HL.ga rfl ?_ | refine HL.na rfl ?_ | refine HL.nu rfl rfl ?_ | apply HC.block | apply HC.skip | apply HC.exit | apply HC.ret | apply HX.e_block | refine HX.e_other rfl ?_ | apply HX.e_then | apply HX.e_again | apply HX.n_block | apply HX.r_then | apply HX.r_block | apply HX.r_again | refine HC.cond_yes rfl ?_ | refine HC.cond_no rfl ?_ | refine HL.one (H1.ldb rfl memA rfl rfl ?_) | refine HC.cond rfl (fun hc => ?_) (fun hc => ?_) | refine HC.cond_b rfl (fun hc => ?_) (fun hc => ?_))
    exact HX.ret1 rfl rfl fun w' hM => ⟨rfl, hM.ext⟩
  have hF := fun i (hi : i < 8) => hls Y hday i _ _ (hqa i hi) (hqb i hi)
  clear hls hlt hokl hoks hne
  repeat' (first | refine HL.pa ?_ (POp.beqC rfl rfl (by first | rfl | decide)) | apply HL.fold | apply HA.fold | apply HL.nil | apply HX.n_then | apply HC.seq | apply HC.region | refine HL.pa ?_ | refine HL.ga rfl ?_ | refine HL.na rfl ?_ | refine HL.nu rfl rfl ?_ | apply HC.block | apply HC.skip | apply HC.exit | apply HC.ret | apply HX.e_block | refine HX.e_other rfl ?_ | apply HX.e_then | apply HX.e_again | apply HX.n_block | apply HX.r_then | apply HX.r_block | apply HX.r_again | refine HC.cond_yes rfl ?_ | refine HC.cond_no rfl ?_ | refine HL.one (H1.ldb rfl memA rfl rfl ?_) | refine HC.cond rfl (fun hc => ?_) (fun hc => ?_) | refine HC.cond_b rfl (fun hc => ?_) (fun hc => ?_))
  refine HL.one (H1.ldAgg (vs := row 8 fun i => slot (qa i)) rfl memA rfl (fun i v hv => by rw [Nat.zero_add]; exact hv) rfl ?_)
  repeat' (first | refine HL.pa ?_ (POp.beqC rfl rfl (by first | rfl | decide)) | apply HL.fold | apply HA.fold | apply HL.nil | apply HX.n_then | apply HC.seq | apply HC.region | refine HL.pa ?_ | refine HL.ga rfl ?_ | refine HL.na rfl ?_ | refine HL.nu rfl rfl ?_ | apply HC.block | apply HC.skip | apply HC.exit | apply HC.ret | apply HX.e_block | refine HX.e_other rfl ?_ | apply HX.e_then | apply HX.e_again | apply HX.n_block | apply HX.r_then | apply HX.r_block | apply HX.r_again | refine HC.cond_yes rfl ?_ | refine HC.cond_no rfl ?_ | refine HL.one (H1.ldb rfl memA rfl rfl ?_) | refine HC.cond rfl (fun hc => ?_) (fun hc => ?_) | refine HC.cond_b rfl (fun hc => ?_) (fun hc => ?_))
  refine HL.one (H1.callz1 (α := Nat) (V := fun b => .slice (some ⟨b, 0, none⟩) 8 8) (An := fun b => A.blk b (row 8 fun i => slot (qa i)) 24) (I := fun _ => True) (vs := [bsV qa]) rfl rfl (fun w' hM => Lists_q qa w') ?_)
  rintro ba -
  repeat' (first | refine HL.pa ?_ (POp.beqC rfl rfl (by first | rfl | decide)) | apply HL.fold | apply HA.fold | apply HL.nil | apply HX.n_then | apply HC.seq | apply HC.region | refine HL.pa ?_ | refine HL.ga rfl ?_ | refine HL.na rfl ?_ | refine HL.nu rfl rfl ?_ | apply HC.block | apply HC.skip | apply HC.exit | apply HC.ret | apply HX.e_block | refine HX.e_other rfl ?_ | apply HX.e_then | apply HX.e_again | apply HX.n_block | apply HX.r_then | apply HX.r_block | apply HX.r_again | refine HC.cond_yes rfl ?_ | refine HC.cond_no rfl ?_ | refine HL.one (H1.ldb rfl memA rfl rfl ?_) | refine HC.cond rfl (fun hc => ?_) (fun hc => ?_) | refine HC.cond_b rfl (fun hc => ?_) (fun hc => ?_))
  refine HL.one (H1.ldAgg (vs := row 8 fun i => slot (qb i)) rfl memA rfl (fun i v hv => by rw [Nat.zero_add]; exact hv) rfl ?_)
  repeat' (first | refine HL.pa ?_ (POp.beqC rfl rfl (by first | rfl | decide)) | apply HL.fold | apply HA.fold | apply HL.nil | apply HX.n_then | apply HC.seq | apply HC.region | refine HL.pa ?_ | refine HL.ga rfl ?_ | refine HL.na rfl ?_ | refine HL.nu rfl rfl ?_ | apply HC.block | apply HC.skip | apply HC.exit | apply HC.ret | apply HX.e_block | refine HX.e_other rfl ?_ | apply HX.e_then | apply HX.e_again | apply HX.n_block | apply HX.r_then | apply HX.r_block | apply HX.r_again | refine HC.cond_yes rfl ?_ | refine HC.cond_no rfl ?_ | refine HL.one (H1.ldb rfl memA rfl rfl ?_) | refine HC.cond rfl (fun hc => ?_) (fun hc => ?_) | refine HC.cond_b rfl (fun hc => ?_) (fun hc => ?_))
  refine HL.one (H1.callz1 (α := Nat) (V := fun b => .slice (some ⟨b, 0, none⟩) 8 8) (An := fun b => A.blk b (row 8 fun i => slot (qb i)) 24) (I := fun _ => True) (vs := [bsV qb]) rfl rfl (fun w' hM => Lists_q qb w') ?_)
  rintro bb -
  repeat' (first | refine HL.pa ?_ (POp.beqC rfl rfl (by first | rfl | decide)) | apply HL.fold | apply HA.fold | apply HL.nil | apply HX.n_then | apply HC.seq | apply HC.region | refine HL.pa ?_ | refine HL.ga rfl ?_ | refine HL.na rfl ?_ | refine HL.nu rfl rfl ?_ | apply HC.block | apply HC.skip | apply HC.exit | apply HC.ret | apply HX.e_block | refine HX.e_other rfl ?_ | apply HX.e_then | apply HX.e_again | apply HX.n_block | apply HX.r_then | apply HX.r_block | apply HX.r_again | refine HC.cond_yes rfl ?_ | refine HC.cond_no rfl ?_ | refine HL.one (H1.ldb rfl memA rfl rfl ?_) | refine HC.cond rfl (fun hc => ?_) (fun hc => ?_) | refine HC.cond_b rfl (fun hc => ?_) (fun hc => ?_))
  refine HC.loop (α := Nat × Int) (fun z => [(19, zv (z.1 : Int)), (18, zv z.2), (3, .bool g), (11, .bool true), (13, .pointer (some ⟨b13, 0, none⟩)), (16, .slice (some ⟨ba, 0, none⟩) 8 8), (17, .slice (some ⟨bb, 0, none⟩) 8 8)])
    (fun _ => [A.blk ba (row 8 fun i => slot (qa i)) 24, A.blk bb (row 8 fun i => slot (qb i)) 24, bsA qa, bsA qb, A.blk b13 (rcells r) 27]) (fun z => z.1 ≤ 8 ∧ z.2 = cN r z.1) (fun z => 8 - z.1) (0, 0) ⟨Nat.zero_le _, by rw [cN, if_neg (fun e => by have := e.2; have := hrv.kind; omega)]⟩ esA (by repeat (first | exact Hs.nil _ | (refine Hs.cons pickA ?_))) ?_
  rintro ⟨i, n⟩ ⟨hi, hn⟩
  dsimp only at hi hn ⊢
  by_cases hlt : i < 8
  rotate_left
  · obtain rfl : i = 8 := by omega
    rw [cN_last hrv.kind, hrg] at hn
    cases g with
    | true =>
      obtain rfl : n = 0 := hn
      repeat' (first | refine HL.pa ?_ (POp.beqC rfl rfl (by first | rfl | decide)) | apply HL.fold | apply HA.fold | apply HL.nil | apply HX.n_then | apply HC.seq | apply HC.region | refine HL.pa ?_ | refine HL.ga rfl ?_ | refine HL.na rfl ?_ | refine HL.nu rfl rfl ?_ | apply HC.block | apply HC.skip | apply HC.exit | apply HC.ret | apply HX.e_block | refine HX.e_other rfl ?_ | apply HX.e_then | apply HX.e_again | apply HX.n_block | apply HX.r_then | apply HX.r_block | apply HX.r_again | refine HC.cond_yes rfl ?_ | refine HC.cond_no rfl ?_ | refine HL.one (H1.ldb rfl memA rfl rfl ?_) | refine HC.cond rfl (fun hc => ?_) (fun hc => ?_) | refine HC.cond_b rfl (fun hc => ?_) (fun hc => ?_))
      exact HX.ret1 rfl rfl fun w' hM => ⟨rfl, hM.ext⟩
    | false =>
      obtain rfl : n = 1 := hn
      repeat' (first | refine HL.pa ?_ (POp.beqC rfl rfl (by first | rfl | decide)) | apply HL.fold | apply HA.fold | apply HL.nil | apply HX.n_then | apply HC.seq | apply HC.region | refine HL.pa ?_ | refine HL.ga rfl ?_ | refine HL.na rfl ?_ | refine HL.nu rfl rfl ?_ | apply HC.block | apply HC.skip | apply HC.exit | apply HC.ret | apply HX.e_block | refine HX.e_other rfl ?_ | apply HX.e_then | apply HX.e_again | apply HX.n_block | apply HX.r_then | apply HX.r_block | apply HX.r_again | refine HC.cond_yes rfl ?_ | refine HC.cond_no rfl ?_ | refine HL.one (H1.ldb rfl memA rfl rfl ?_) | refine HC.cond rfl (fun hc => ?_) (fun hc => ?_) | refine HC.cond_b rfl (fun hc => ?_) (fun hc => ?_))
      exact HX.ret1 rfl rfl fun w' hM => ⟨rfl, hM.ext⟩
  have hcn := cN_lim r i
  rw [← hn] at hcn
  have hC := hF i hlt
  have hasc := (hqb i hlt).asc
  have hlti : (i : Int) < 8 := by omega
  have hai := hla i hlt
  have hbi := hlb i hlt
  have hoai := hoa i hlt
  have hobi := hob i hlt
  clear hF hla hlb hoa hob hqa hqb
  repeat' (first | refine HL.pa ?_ (POp.beqC rfl rfl (by first | rfl | decide)) | apply HL.fold | apply HA.fold | apply HL.nil | apply HX.n_then | apply HC.seq | apply HC.region | refine HL.pa ?_ | refine HL.ga rfl ?_ | refine HL.na rfl ?_ | refine HL.nu rfl rfl ?_ | apply HC.block | apply HC.skip | apply HC.exit | apply HC.ret | apply HX.e_block | refine HX.e_other rfl ?_ | apply HX.e_then | apply HX.e_again | apply HX.n_block | apply HX.r_then | apply HX.r_block | apply HX.r_again | refine HC.cond_yes rfl ?_ | refine HC.cond_no rfl ?_ | refine HL.one (H1.ldb rfl memA rfl rfl ?_) | refine HC.cond rfl (fun hc => ?_) (fun hc => ?_) | refine HC.cond_b rfl (fun hc => ?_) (fun hc => ?_))
  refine HC.loop (α := Nat × Int) (fun z => [(20, zv (z.1 : Int)), (18, zv z.2), (19, zv (i : Int)), (3, .bool g), (11, .bool true), (13, .pointer (some ⟨b13, 0, none⟩)), (16, .slice (some ⟨ba, 0, none⟩) 8 8), (17, .slice (some ⟨bb, 0, none⟩) 8 8)])
    (fun _ => [A.blk ba (row 8 fun i => slot (qa i)) 24, A.blk bb (row 8 fun i => slot (qb i)) 24, bsA qa, bsA qb, A.blk b13 (rcells r) 27]) (fun z => z.1 ≤ (bsL qb i).length ∧ z.2 = n + cM (bsL qb i) z.1 r) (fun z => (bsL qb i).length - z.1) (0, n) ⟨Nat.zero_le _, by show n = n + cM _ 0 r; rw [cM_zero]; omega⟩ esA (by repeat (first | exact Hs.nil _ | (refine Hs.cons pickA ?_))) ?_
  rintro ⟨j, m⟩ ⟨hj, hm⟩
  dsimp only at hj hm ⊢
  have hcm := cM_lim (bsL qb i) j r
  rw [show cM (bsL qb i) j r = m - n by omega] at hcm
  by_cases hjl : j < (bsL qb i).length
  rotate_left
  · obtain rfl : j = (bsL qb i).length := by omega
    have hjl' : ¬ ((bsL qb i).length : Int) < ((bsL qb i).length : Int) := by omega
    have hst := cN_step hC.own
    rw [← hn, ← hm] at hst
    repeat' (first | refine HL.pa ?_ (POp.beqC rfl rfl (by first | rfl | decide)) | apply HL.fold | apply HA.fold | apply HL.nil | apply HX.n_then | apply HC.seq | apply HC.region | refine HL.pa ?_ | refine HL.ga rfl ?_ | refine HL.na rfl ?_ | refine HL.nu rfl rfl ?_ | apply HC.block | apply HC.skip | apply HC.exit | apply HC.ret | apply HX.e_block | refine HX.e_other rfl ?_ | apply HX.e_then | apply HX.e_again | apply HX.n_block | apply HX.r_then | apply HX.r_block | apply HX.r_again | refine HC.cond_yes rfl ?_ | refine HC.cond_no rfl ?_ | refine HL.one (H1.ldb rfl memA rfl rfl ?_) | refine HC.cond rfl (fun hc => ?_) (fun hc => ?_) | refine HC.cond_b rfl (fun hc => ?_) (fun hc => ?_))
    refine HL.one (H1.ldb (v := .slice (qb i).1 (bsL qb i).length (qb i).2.1) (cs := row 8 fun i => slot (qb i)) rfl memA (row_get _ hlt) rfl ?_)
    repeat' (first | refine HL.pa ?_ (POp.beqC rfl rfl (by first | rfl | decide)) | apply HL.fold | apply HA.fold | apply HL.nil | apply HX.n_then | apply HC.seq | apply HC.region | refine HL.pa ?_ | refine HL.ga rfl ?_ | refine HL.na rfl ?_ | refine HL.nu rfl rfl ?_ | apply HC.block | apply HC.skip | apply HC.exit | apply HC.ret | apply HX.e_block | refine HX.e_other rfl ?_ | apply HX.e_then | apply HX.e_again | apply HX.n_block | apply HX.r_then | apply HX.r_block | apply HX.r_again | refine HC.cond_yes rfl ?_ | refine HC.cond_no rfl ?_ | refine HL.one (H1.ldb rfl memA rfl rfl ?_) | refine HC.cond rfl (fun hc => ?_) (fun hc => ?_) | refine HC.cond_b rfl (fun hc => ?_) (fun hc => ?_))
    refine HC.loop (α := Nat) (fun k => [(21, zv (k : Int)), (18, zv m), (19, zv (i : Int)), (3, .bool g), (11, .bool true), (13, .pointer (some ⟨b13, 0, none⟩)), (16, .slice (some ⟨ba, 0, none⟩) 8 8), (17, .slice (some ⟨bb, 0, none⟩) 8 8)])
      (fun _ => [A.blk ba (row 8 fun i => slot (qa i)) 24, A.blk bb (row 8 fun i => slot (qb i)) 24, bsA qa, bsA qb, A.blk b13 (rcells r) 27]) (fun k => k ≤ (bsL qa i).length) (fun k => (bsL qa i).length - k) 0 (Nat.zero_le _) esA (by repeat (first | exact Hs.nil _ | (refine Hs.cons pickA ?_))) ?_
    intro k hk
    by_cases hkl : k < (bsL qa i).length
    rotate_left
    · obtain rfl : k = (bsL qa i).length := by omega
      have hkl' : ¬ ((bsL qa i).length : Int) < ((bsL qa i).length : Int) := by omega
      repeat' (first | refine HL.pa ?_ (POp.beqC rfl rfl (by first | rfl | decide)) | apply HL.fold | apply HA.fold | apply HL.nil | apply HX.n_then | apply HC.seq | apply HC.region | refine HL.pa ?_ | refine HL.ga rfl ?_ | refine HL.na rfl ?_ | refine HL.nu rfl rfl ?_ | apply HC.block | apply HC.skip | apply HC.exit | apply HC.ret | apply HX.e_block | refine HX.e_other rfl ?_ | apply HX.e_then | apply HX.e_again | apply HX.n_block | apply HX.r_then | apply HX.r_block | apply HX.r_again | refine HC.cond_yes rfl ?_ | refine HC.cond_no rfl ?_ | refine HL.one (H1.ldb rfl memA rfl rfl ?_) | refine HC.cond rfl (fun hc => ?_) (fun hc => ?_) | refine HC.cond_b rfl (fun hc => ?_) (fun hc => ?_))
      refine HL.one (H1.ldb (v := .slice (qa i).1 (bsL qa i).length (qa i).2.1) (cs := row 8 fun i => slot (qa i)) rfl memA (row_get _ hlt) rfl ?_)
      repeat' (first | refine HL.pa ?_ (POp.beqC rfl rfl (by first | rfl | decide)) | apply HL.fold | apply HA.fold | apply HL.nil | apply HX.n_then | apply HC.seq | apply HC.region | refine HL.pa ?_ | refine HL.ga rfl ?_ | refine HL.na rfl ?_ | refine HL.nu rfl rfl ?_ | apply HC.block | apply HC.skip | apply HC.exit | apply HC.ret | apply HX.e_block | refine HX.e_other rfl ?_ | apply HX.e_then | apply HX.e_again | apply HX.n_block | apply HX.r_then | apply HX.r_block | apply HX.r_again | refine HC.cond_yes rfl ?_ | refine HC.cond_no rfl ?_ | refine HL.one (H1.ldb rfl memA rfl rfl ?_) | refine HC.cond rfl (fun hc => ?_) (fun hc => ?_) | refine HC.cond_b rfl (fun hc => ?_) (fun hc => ?_))
      exact HX.again (i + 1, m) ⟨by show i + 1 ≤ 8; omega, hst⟩ (by show 8 - (i + 1) < 8 - i; omega) esA (by repeat (first | exact Hs.nil _ | (refine Hs.cons pickA ?_)))
    have hkl' : (k : Int) < ((bsL qa i).length : Int) := by omega
    obtain ⟨y, hy⟩ : ∃ y, (bsL qa i)[k]? = some y := ⟨_, List.getElem?_eq_getElem hkl⟩
    have hym := List.mem_of_getElem? hy
    have hyo := hoai y hym
    refine HC.opens (q := qa) (k := i) memA hlt (fun e => by rw [e] at hym; cases hym) ?_
    intro bq hbq
    repeat' (first | refine HL.pa ?_ (POp.beqC rfl rfl (by first | rfl | decide)) | apply HL.fold | apply HA.fold | apply HL.nil | apply HX.n_then | apply HC.seq | apply HC.region | refine HL.pa ?_ | refine HL.ga rfl ?_ | refine HL.na rfl ?_ | refine HL.nu rfl rfl ?_ | apply HC.block | apply HC.skip | apply HC.exit | apply HC.ret | apply HX.e_block | refine HX.e_other rfl ?_ | apply HX.e_then | apply HX.e_again | apply HX.n_block | apply HX.r_then | apply HX.r_block | apply HX.r_again | refine HC.cond_yes rfl ?_ | refine HC.cond_no rfl ?_ | refine HL.one (H1.ldb rfl memA rfl rfl ?_) | refine HC.cond rfl (fun hc => ?_) (fun hc => ?_) | refine HC.cond_b rfl (fun hc => ?_) (fun hc => ?_))
    refine HL.one (H1.ldb (v := .slice (some ⟨bq, 0, none⟩) (bsL qa i).length (qa i).2.1) (cs := row 8 fun i => slot (qa i)) rfl memA (row_slot hlt hbq) rfl ?_)
    repeat' (first | refine HL.pa ?_ (POp.beqC rfl rfl (by first | rfl | decide)) | apply HL.fold | apply HA.fold | apply HL.nil | apply HX.n_then | apply HC.seq | apply HC.region | refine HL.pa ?_ | refine HL.ga rfl ?_ | refine HL.na rfl ?_ | refine HL.nu rfl rfl ?_ | apply HC.block | apply HC.skip | apply HC.exit | apply HC.ret | apply HX.e_block | refine HX.e_other rfl ?_ | apply HX.e_then | apply HX.e_again | apply HX.n_block | apply HX.r_then | apply HX.r_block | apply HX.r_again | refine HC.cond_yes rfl ?_ | refine HC.cond_no rfl ?_ | refine HL.one (H1.ldb rfl memA rfl rfl ?_) | refine HC.cond rfl (fun hc => ?_) (fun hc => ?_) | refine HC.cond_b rfl (fun hc => ?_) (fun hc => ?_))
    refine HC.cut (α := Unit) (fun _ => [(156, .bool false), (21, zv (k : Int)), (18, zv m), (19, zv (i : Int)), (3, .bool g), (11, .bool true), (13, .pointer (some ⟨b13, 0, none⟩)), (16, .slice (some ⟨ba, 0, none⟩) 8 8), (17, .slice (some ⟨bb, 0, none⟩) 8 8)])
      (fun _ => [A.blk ba (row 8 fun i => slot (qa i)) 24, A.blk bb (row 8 fun i => slot (qb i)) 24, bsA qa, bsA qb, A.blk b13 (rcells r) 27]) (fun _ => True) ?_ ?_
    · by_cases hky : keyS y = keyS r
      · refine HC.any rfl ?_
        refine HA.pa 0 rfl ?_
        refine HA.pa 1 rfl ?_
        refine HA.pa 2 rfl ?_
        refine HA.pa 4 rfl ?_
        refine HA.all [3, 8] (by kernel_rfl) rfl ⟨⟨_, rfl, ?_⟩, ⟨_, rfl, ?_⟩, trivial⟩
        · refine HO.one ?_
          refine H1.ldb (v := .slice (some ⟨bq, 0, none⟩) (bsL qa i).length (qa i).2.1) (cs := row 8 fun i => slot (qa i)) rfl memA (row_slot hlt hbq) rfl ?_
          apply HA.fold
          refine HA.pa 5 rfl ?_
          refine HA.all [6, 8] (by kernel_rfl) rfl ⟨⟨_, rfl, ?_⟩, ⟨_, rfl, ?_⟩, trivial⟩
          · refine HO.one ?_
            refine H1.ldSlot (q := qa) rfl memA hlt hbq hy rfl rfl ?_
            apply HA.fold
            refine HA.all [7, 8] (by kernel_rfl) rfl ⟨⟨_, rfl, ?_⟩, ⟨_, rfl, ?_⟩, trivial⟩
            · refine HO.one ?_
              refine H1.callx (u := .string (keyS y)) (vs := [recV y]) rfl rfl (fun w' _ => key_fn y hyo w') ?_
              apply HA.fold
              refine HA.all [8] (by kernel_rfl) rfl ⟨⟨_, rfl, ?_⟩, trivial⟩
              refine HO.one ?_
              refine H1.ldAgg (vs := rcells r) rfl memA rfl (fun i v hv => by rw [Nat.zero_add]; exact hv) rfl ?_
              apply HA.fold
              refine HA.all [9] (by kernel_rfl) rfl ⟨⟨_, rfl, ?_⟩, trivial⟩
              refine HO.one ?_
              refine H1.callx (u := .string (keyS r)) (vs := [recV r]) rfl rfl (fun w' _ => key_fn r hokr w') ?_
              apply HA.fold
              refine HA.pa (v := .bool false) 10 rfl ?_ (POp.snNo rfl rfl hky)
              refine HA.pa 11 rfl ?_
              first | refine HA.ga 12 rfl rfl ?_ | refine HA.na 12 rfl rfl ?_ | refine HA.nu 12 rfl rfl ?_
              first | refine HA.ga 13 rfl rfl ?_ | refine HA.na 13 rfl rfl ?_ | refine HA.nu 13 rfl rfl ?_
              first | refine HA.ga 14 rfl rfl ?_ | refine HA.na 14 rfl rfl ?_ | refine HA.nu 14 rfl rfl ?_
              first | refine HA.ga 16 rfl rfl ?_ | refine HA.na 16 rfl rfl ?_ | refine HA.nu 16 rfl rfl ?_
              first | refine HA.ga 17 rfl rfl ?_ | refine HA.na 17 rfl rfl ?_ | refine HA.nu 17 rfl rfl ?_
              first | refine HA.ga 18 rfl rfl ?_ | refine HA.na 18 rfl rfl ?_ | refine HA.nu 18 rfl rfl ?_
              first | refine HA.ga 20 rfl rfl ?_ | refine HA.na 20 rfl rfl ?_ | refine HA.nu 20 rfl rfl ?_
              refine HA.all [15, 19] (by kernel_rfl) rfl ⟨⟨_, rfl, ?_⟩, ⟨_, rfl, ?_⟩, trivial⟩
              · refine HO.drop_a rfl ?_
                refine HA.all [19] (by kernel_rfl) rfl ⟨⟨_, rfl, ?_⟩, trivial⟩
                refine HO.drop_a rfl ?_
                first | refine HA.ga 21 rfl rfl ?_ | refine HA.na 21 rfl rfl ?_ | refine HA.nu 21 rfl rfl ?_
                refine HA.all [22] (by kernel_rfl) rfl ⟨⟨_, rfl, ?_⟩, trivial⟩
                refine HO.drop_a rfl ?_
                refine HA.all [23] (by kernel_rfl) rfl ⟨⟨_, rfl, ?_⟩, trivial⟩
                refine HO.drop_a rfl ?_
                first | refine HA.ga 24 rfl rfl ?_ | refine HA.na 24 rfl rfl ?_ | refine HA.nu 24 rfl rfl ?_
                refine HA.pa 25 rfl ?_
                refine HA.done (by kernel_rfl) ?_
                exact HX.cut () trivial esA (by repeat (first | exact Hs.nil _ | (refine Hs.cons pickA ?_)))
              · refine HO.drop_a rfl ?_
                first | refine HA.ga 21 rfl rfl ?_ | refine HA.na 21 rfl rfl ?_ | refine HA.nu 21 rfl rfl ?_
                refine HA.all [15, 22] (by kernel_rfl) rfl ⟨⟨_, rfl, ?_⟩, ⟨_, rfl, ?_⟩, trivial⟩
                · refine HO.drop_a rfl ?_
                  refine HA.all [22] (by kernel_rfl) rfl ⟨⟨_, rfl, ?_⟩, trivial⟩
                  refine HO.drop_a rfl ?_
                  refine HA.all [23] (by kernel_rfl) rfl ⟨⟨_, rfl, ?_⟩, trivial⟩
                  refine HO.drop_a rfl ?_
                  first | refine HA.ga 24 rfl rfl ?_ | refine HA.na 24 rfl rfl ?_ | refine HA.nu 24 rfl rfl ?_
                  refine HA.pa 25 rfl ?_
                  refine HA.done (by kernel_rfl) ?_
                  exact HX.cut () trivial esA (by repeat (first | exact Hs.nil _ | (refine Hs.cons pickA ?_)))
                · refine HO.drop_a rfl ?_
                  refine HA.all [15] (by kernel_rfl) rfl ⟨⟨_, rfl, ?_⟩, trivial⟩
                  refine HO.drop_a rfl ?_
                  refine HA.all [23] (by kernel_rfl) rfl ⟨⟨_, rfl, ?_⟩, trivial⟩
                  refine HO.drop_a rfl ?_
                  first | refine HA.ga 24 rfl rfl ?_ | refine HA.na 24 rfl rfl ?_ | refine HA.nu 24 rfl rfl ?_
                  refine HA.pa 25 rfl ?_
                  refine HA.done (by kernel_rfl) ?_
                  exact HX.cut () trivial esA (by repeat (first | exact Hs.nil _ | (refine Hs.cons pickA ?_)))
            · refine HO.one ?_
              refine H1.ldAgg (vs := rcells r) rfl memA rfl (fun i v hv => by rw [Nat.zero_add]; exact hv) rfl ?_
              apply HA.fold
              refine HA.all [7] (by kernel_rfl) rfl ⟨⟨_, rfl, ?_⟩, trivial⟩
              refine HO.one ?_
              refine H1.callx (u := .string (keyS y)) (vs := [recV y]) rfl rfl (fun w' _ => key_fn y hyo w') ?_
              apply HA.fold
              refine HA.all [9] (by kernel_rfl) rfl ⟨⟨_, rfl, ?_⟩, trivial⟩
              refine HO.one ?_
              refine H1.callx (u := .string (keyS r)) (vs := [recV r]) rfl rfl (fun w' _ => key_fn r hokr w') ?_
              apply HA.fold
              refine HA.pa (v := .bool false) 10 rfl ?_ (POp.snNo rfl rfl hky)
              refine HA.pa 11 rfl ?_
              first | refine HA.ga 12 rfl rfl ?_ | refine HA.na 12 rfl rfl ?_ | refine HA.nu 12 rfl rfl ?_
              first | refine HA.ga 13 rfl rfl ?_ | refine HA.na 13 rfl rfl ?_ | refine HA.nu 13 rfl rfl ?_
              first | refine HA.ga 14 rfl rfl ?_ | refine HA.na 14 rfl rfl ?_ | refine HA.nu 14 rfl rfl ?_
              first | refine HA.ga 16 rfl rfl ?_ | refine HA.na 16 rfl rfl ?_ | refine HA.nu 16 rfl rfl ?_
              first | refine HA.ga 17 rfl rfl ?_ | refine HA.na 17 rfl rfl ?_ | refine HA.nu 17 rfl rfl ?_
              first | refine HA.ga 18 rfl rfl ?_ | refine HA.na 18 rfl rfl ?_ | refine HA.nu 18 rfl rfl ?_
              first | refine HA.ga 20 rfl rfl ?_ | refine HA.na 20 rfl rfl ?_ | refine HA.nu 20 rfl rfl ?_
              refine HA.all [15, 19] (by kernel_rfl) rfl ⟨⟨_, rfl, ?_⟩, ⟨_, rfl, ?_⟩, trivial⟩
              · refine HO.drop_a rfl ?_
                refine HA.all [19] (by kernel_rfl) rfl ⟨⟨_, rfl, ?_⟩, trivial⟩
                refine HO.drop_a rfl ?_
                first | refine HA.ga 21 rfl rfl ?_ | refine HA.na 21 rfl rfl ?_ | refine HA.nu 21 rfl rfl ?_
                refine HA.all [22] (by kernel_rfl) rfl ⟨⟨_, rfl, ?_⟩, trivial⟩
                refine HO.drop_a rfl ?_
                refine HA.all [23] (by kernel_rfl) rfl ⟨⟨_, rfl, ?_⟩, trivial⟩
                refine HO.drop_a rfl ?_
                first | refine HA.ga 24 rfl rfl ?_ | refine HA.na 24 rfl rfl ?_ | refine HA.nu 24 rfl rfl ?_
                refine HA.pa 25 rfl ?_
                refine HA.done (by kernel_rfl) ?_
                exact HX.cut () trivial esA (by repeat (first | exact Hs.nil _ | (refine Hs.cons pickA ?_)))
              · refine HO.drop_a rfl ?_
                first | refine HA.ga 21 rfl rfl ?_ | refine HA.na 21 rfl rfl ?_ | refine HA.nu 21 rfl rfl ?_
                refine HA.all [15, 22] (by kernel_rfl) rfl ⟨⟨_, rfl, ?_⟩, ⟨_, rfl, ?_⟩, trivial⟩
                · refine HO.drop_a rfl ?_
                  refine HA.all [22] (by kernel_rfl) rfl ⟨⟨_, rfl, ?_⟩, trivial⟩
                  refine HO.drop_a rfl ?_
                  refine HA.all [23] (by kernel_rfl) rfl ⟨⟨_, rfl, ?_⟩, trivial⟩
                  refine HO.drop_a rfl ?_
                  first | refine HA.ga 24 rfl rfl ?_ | refine HA.na 24 rfl rfl ?_ | refine HA.nu 24 rfl rfl ?_
                  refine HA.pa 25 rfl ?_
                  refine HA.done (by kernel_rfl) ?_
                  exact HX.cut () trivial esA (by repeat (first | exact Hs.nil _ | (refine Hs.cons pickA ?_)))
                · refine HO.drop_a rfl ?_
                  refine HA.all [15] (by kernel_rfl) rfl ⟨⟨_, rfl, ?_⟩, trivial⟩
                  refine HO.drop_a rfl ?_
                  refine HA.all [23] (by kernel_rfl) rfl ⟨⟨_, rfl, ?_⟩, trivial⟩
                  refine HO.drop_a rfl ?_
                  first | refine HA.ga 24 rfl rfl ?_ | refine HA.na 24 rfl rfl ?_ | refine HA.nu 24 rfl rfl ?_
                  refine HA.pa 25 rfl ?_
                  refine HA.done (by kernel_rfl) ?_
                  exact HX.cut () trivial esA (by repeat (first | exact Hs.nil _ | (refine Hs.cons pickA ?_)))
          · refine HO.one ?_
            refine H1.ldAgg (vs := rcells r) rfl memA rfl (fun i v hv => by rw [Nat.zero_add]; exact hv) rfl ?_
            apply HA.fold
            refine HA.all [6] (by kernel_rfl) rfl ⟨⟨_, rfl, ?_⟩, trivial⟩
            refine HO.one ?_
            refine H1.ldSlot (q := qa) rfl memA hlt hbq hy rfl rfl ?_
            apply HA.fold
            refine HA.all [7] (by kernel_rfl) rfl ⟨⟨_, rfl, ?_⟩, trivial⟩
            refine HO.one ?_
            refine H1.callx (u := .string (keyS y)) (vs := [recV y]) rfl rfl (fun w' _ => key_fn y hyo w') ?_
            apply HA.fold
            refine HA.all [9] (by kernel_rfl) rfl ⟨⟨_, rfl, ?_⟩, trivial⟩
            refine HO.one ?_
            refine H1.callx (u := .string (keyS r)) (vs := [recV r]) rfl rfl (fun w' _ => key_fn r hokr w') ?_
            apply HA.fold
            refine HA.pa (v := .bool false) 10 rfl ?_ (POp.snNo rfl rfl hky)
            refine HA.pa 11 rfl ?_
            first | refine HA.ga 12 rfl rfl ?_ | refine HA.na 12 rfl rfl ?_ | refine HA.nu 12 rfl rfl ?_
            first | refine HA.ga 13 rfl rfl ?_ | refine HA.na 13 rfl rfl ?_ | refine HA.nu 13 rfl rfl ?_
            first | refine HA.ga 14 rfl rfl ?_ | refine HA.na 14 rfl rfl ?_ | refine HA.nu 14 rfl rfl ?_
            first | refine HA.ga 16 rfl rfl ?_ | refine HA.na 16 rfl rfl ?_ | refine HA.nu 16 rfl rfl ?_
            first | refine HA.ga 17 rfl rfl ?_ | refine HA.na 17 rfl rfl ?_ | refine HA.nu 17 rfl rfl ?_
            first | refine HA.ga 18 rfl rfl ?_ | refine HA.na 18 rfl rfl ?_ | refine HA.nu 18 rfl rfl ?_
            first | refine HA.ga 20 rfl rfl ?_ | refine HA.na 20 rfl rfl ?_ | refine HA.nu 20 rfl rfl ?_
            refine HA.all [15, 19] (by kernel_rfl) rfl ⟨⟨_, rfl, ?_⟩, ⟨_, rfl, ?_⟩, trivial⟩
            · refine HO.drop_a rfl ?_
              refine HA.all [19] (by kernel_rfl) rfl ⟨⟨_, rfl, ?_⟩, trivial⟩
              refine HO.drop_a rfl ?_
              first | refine HA.ga 21 rfl rfl ?_ | refine HA.na 21 rfl rfl ?_ | refine HA.nu 21 rfl rfl ?_
              refine HA.all [22] (by kernel_rfl) rfl ⟨⟨_, rfl, ?_⟩, trivial⟩
              refine HO.drop_a rfl ?_
              refine HA.all [23] (by kernel_rfl) rfl ⟨⟨_, rfl, ?_⟩, trivial⟩
              refine HO.drop_a rfl ?_
              first | refine HA.ga 24 rfl rfl ?_ | refine HA.na 24 rfl rfl ?_ | refine HA.nu 24 rfl rfl ?_
              refine HA.pa 25 rfl ?_
              refine HA.done (by kernel_rfl) ?_
              exact HX.cut () trivial esA (by repeat (first | exact Hs.nil _ | (refine Hs.cons pickA ?_)))
            · refine HO.drop_a rfl ?_
              first | refine HA.ga 21 rfl rfl ?_ | refine HA.na 21 rfl rfl ?_ | refine HA.nu 21 rfl rfl ?_
              refine HA.all [15, 22] (by kernel_rfl) rfl ⟨⟨_, rfl, ?_⟩, ⟨_, rfl, ?_⟩, trivial⟩
              · refine HO.drop_a rfl ?_
                refine HA.all [22] (by kernel_rfl) rfl ⟨⟨_, rfl, ?_⟩, trivial⟩
                refine HO.drop_a rfl ?_
                refine HA.all [23] (by kernel_rfl) rfl ⟨⟨_, rfl, ?_⟩, trivial⟩
                refine HO.drop_a rfl ?_
                first | refine HA.ga 24 rfl rfl ?_ | refine HA.na 24 rfl rfl ?_ | refine HA.nu 24 rfl rfl ?_
                refine HA.pa 25 rfl ?_
                refine HA.done (by kernel_rfl) ?_
                exact HX.cut () trivial esA (by repeat (first | exact Hs.nil _ | (refine Hs.cons pickA ?_)))
              · refine HO.drop_a rfl ?_
                refine HA.all [15] (by kernel_rfl) rfl ⟨⟨_, rfl, ?_⟩, trivial⟩
                refine HO.drop_a rfl ?_
                refine HA.all [23] (by kernel_rfl) rfl ⟨⟨_, rfl, ?_⟩, trivial⟩
                refine HO.drop_a rfl ?_
                first | refine HA.ga 24 rfl rfl ?_ | refine HA.na 24 rfl rfl ?_ | refine HA.nu 24 rfl rfl ?_
                refine HA.pa 25 rfl ?_
                refine HA.done (by kernel_rfl) ?_
                exact HX.cut () trivial esA (by repeat (first | exact Hs.nil _ | (refine Hs.cons pickA ?_)))
        · refine HO.one ?_
          refine H1.ldAgg (vs := rcells r) rfl memA rfl (fun i v hv => by rw [Nat.zero_add]; exact hv) rfl ?_
          apply HA.fold
          refine HA.all [3] (by kernel_rfl) rfl ⟨⟨_, rfl, ?_⟩, trivial⟩
          refine HO.one ?_
          refine H1.ldb (v := .slice (some ⟨bq, 0, none⟩) (bsL qa i).length (qa i).2.1) (cs := row 8 fun i => slot (qa i)) rfl memA (row_slot hlt hbq) rfl ?_
          apply HA.fold
          refine HA.pa 5 rfl ?_
          refine HA.all [6] (by kernel_rfl) rfl ⟨⟨_, rfl, ?_⟩, trivial⟩
          refine HO.one ?_
          refine H1.ldSlot (q := qa) rfl memA hlt hbq hy rfl rfl ?_
          apply HA.fold
          refine HA.all [7] (by kernel_rfl) rfl ⟨⟨_, rfl, ?_⟩, trivial⟩
          refine HO.one ?_
          refine H1.callx (u := .string (keyS y)) (vs := [recV y]) rfl rfl (fun w' _ => key_fn y hyo w') ?_
          apply HA.fold
          refine HA.all [9] (by kernel_rfl) rfl ⟨⟨_, rfl, ?_⟩, trivial⟩
          refine HO.one ?_
          refine H1.callx (u := .string (keyS r)) (vs := [recV r]) rfl rfl (fun w' _ => key_fn r hokr w') ?_
          apply HA.fold
          refine HA.pa (v := .bool false) 10 rfl ?_ (POp.snNo rfl rfl hky)
          refine HA.pa 11 rfl ?_
          first | refine HA.ga 12 rfl rfl ?_ | refine HA.na 12 rfl rfl ?_ | refine HA.nu 12 rfl rfl ?_
          first | refine HA.ga 13 rfl rfl ?_ | refine HA.na 13 rfl rfl ?_ | refine HA.nu 13 rfl rfl ?_
          first | refine HA.ga 14 rfl rfl ?_ | refine HA.na 14 rfl rfl ?_ | refine HA.nu 14 rfl rfl ?_
          first | refine HA.ga 16 rfl rfl ?_ | refine HA.na 16 rfl rfl ?_ | refine HA.nu 16 rfl rfl ?_
          first | refine HA.ga 17 rfl rfl ?_ | refine HA.na 17 rfl rfl ?_ | refine HA.nu 17 rfl rfl ?_
          first | refine HA.ga 18 rfl rfl ?_ | refine HA.na 18 rfl rfl ?_ | refine HA.nu 18 rfl rfl ?_
          first | refine HA.ga 20 rfl rfl ?_ | refine HA.na 20 rfl rfl ?_ | refine HA.nu 20 rfl rfl ?_
          refine HA.all [15, 19] (by kernel_rfl) rfl ⟨⟨_, rfl, ?_⟩, ⟨_, rfl, ?_⟩, trivial⟩
          · refine HO.drop_a rfl ?_
            refine HA.all [19] (by kernel_rfl) rfl ⟨⟨_, rfl, ?_⟩, trivial⟩
            refine HO.drop_a rfl ?_
            first | refine HA.ga 21 rfl rfl ?_ | refine HA.na 21 rfl rfl ?_ | refine HA.nu 21 rfl rfl ?_
            refine HA.all [22] (by kernel_rfl) rfl ⟨⟨_, rfl, ?_⟩, trivial⟩
            refine HO.drop_a rfl ?_
            refine HA.all [23] (by kernel_rfl) rfl ⟨⟨_, rfl, ?_⟩, trivial⟩
            refine HO.drop_a rfl ?_
            first | refine HA.ga 24 rfl rfl ?_ | refine HA.na 24 rfl rfl ?_ | refine HA.nu 24 rfl rfl ?_
            refine HA.pa 25 rfl ?_
            refine HA.done (by kernel_rfl) ?_
            exact HX.cut () trivial esA (by repeat (first | exact Hs.nil _ | (refine Hs.cons pickA ?_)))
          · refine HO.drop_a rfl ?_
            first | refine HA.ga 21 rfl rfl ?_ | refine HA.na 21 rfl rfl ?_ | refine HA.nu 21 rfl rfl ?_
            refine HA.all [15, 22] (by kernel_rfl) rfl ⟨⟨_, rfl, ?_⟩, ⟨_, rfl, ?_⟩, trivial⟩
            · refine HO.drop_a rfl ?_
              refine HA.all [22] (by kernel_rfl) rfl ⟨⟨_, rfl, ?_⟩, trivial⟩
              refine HO.drop_a rfl ?_
              refine HA.all [23] (by kernel_rfl) rfl ⟨⟨_, rfl, ?_⟩, trivial⟩
              refine HO.drop_a rfl ?_
              first | refine HA.ga 24 rfl rfl ?_ | refine HA.na 24 rfl rfl ?_ | refine HA.nu 24 rfl rfl ?_
              refine HA.pa 25 rfl ?_
              refine HA.done (by kernel_rfl) ?_
              exact HX.cut () trivial esA (by repeat (first | exact Hs.nil _ | (refine Hs.cons pickA ?_)))
            · refine HO.drop_a rfl ?_
              refine HA.all [15] (by kernel_rfl) rfl ⟨⟨_, rfl, ?_⟩, trivial⟩
              refine HO.drop_a rfl ?_
              refine HA.all [23] (by kernel_rfl) rfl ⟨⟨_, rfl, ?_⟩, trivial⟩
              refine HO.drop_a rfl ?_
              first | refine HA.ga 24 rfl rfl ?_ | refine HA.na 24 rfl rfl ?_ | refine HA.nu 24 rfl rfl ?_
              refine HA.pa 25 rfl ?_
              refine HA.done (by kernel_rfl) ?_
              exact HX.cut () trivial esA (by repeat (first | exact Hs.nil _ | (refine Hs.cons pickA ?_)))
      have hyb := hC.old y hym hky
      have hin : ∀ w', RdR w' (.slice (qb i).1 (bsL qb i).length (qb i).2.1) (bsL qb i) → Fn Try.prog 13 #[.slice (qb i).1 (bsL qb i).length (qb i).2.1, recV y] w' fun v w'' => v = .bool true ∧ Ext w' w'' := fun w' hR => by have h := in_fn _ (bsL qb i) y (Nat.le_trans hbi (by decide)) hobi hyo w' hR; rw [inB_yes hyb] at h; exact h
      refine HC.any rfl ?_
      refine HA.pa 0 rfl ?_
      refine HA.pa 1 rfl ?_
      refine HA.pa 2 rfl ?_
      refine HA.pa 4 rfl ?_
      refine HA.all [3, 8] (by kernel_rfl) rfl ⟨⟨_, rfl, ?_⟩, ⟨_, rfl, ?_⟩, trivial⟩
      · refine HO.one ?_
        refine H1.ldb (v := .slice (some ⟨bq, 0, none⟩) (bsL qa i).length (qa i).2.1) (cs := row 8 fun i => slot (qa i)) rfl memA (row_slot hlt hbq) rfl ?_
        apply HA.fold
        refine HA.pa 5 rfl ?_
        refine HA.all [6, 8] (by kernel_rfl) rfl ⟨⟨_, rfl, ?_⟩, ⟨_, rfl, ?_⟩, trivial⟩
        · refine HO.one ?_
          refine H1.ldSlot (q := qa) rfl memA hlt hbq hy rfl rfl ?_
          apply HA.fold
          refine HA.all [7, 8] (by kernel_rfl) rfl ⟨⟨_, rfl, ?_⟩, ⟨_, rfl, ?_⟩, trivial⟩
          · refine HO.one ?_
            refine H1.callx (u := .string (keyS y)) (vs := [recV y]) rfl rfl (fun w' _ => key_fn y hyo w') ?_
            apply HA.fold
            refine HA.all [8] (by kernel_rfl) rfl ⟨⟨_, rfl, ?_⟩, trivial⟩
            refine HO.one ?_
            refine H1.ldAgg (vs := rcells r) rfl memA rfl (fun i v hv => by rw [Nat.zero_add]; exact hv) rfl ?_
            apply HA.fold
            refine HA.all [9] (by kernel_rfl) rfl ⟨⟨_, rfl, ?_⟩, trivial⟩
            refine HO.one ?_
            refine H1.callx (u := .string (keyS r)) (vs := [recV r]) rfl rfl (fun w' _ => key_fn r hokr w') ?_
            apply HA.fold
            refine HA.pa (v := .bool true) 10 rfl ?_ (POp.snYes rfl rfl hky)
            refine HA.pa 11 rfl ?_
            first | refine HA.ga 12 rfl rfl ?_ | refine HA.na 12 rfl rfl ?_ | refine HA.nu 12 rfl rfl ?_
            first | refine HA.ga 13 rfl rfl ?_ | refine HA.na 13 rfl rfl ?_ | refine HA.nu 13 rfl rfl ?_
            first | refine HA.ga 14 rfl rfl ?_ | refine HA.na 14 rfl rfl ?_ | refine HA.nu 14 rfl rfl ?_
            first | refine HA.ga 16 rfl rfl ?_ | refine HA.na 16 rfl rfl ?_ | refine HA.nu 16 rfl rfl ?_
            first | refine HA.ga 17 rfl rfl ?_ | refine HA.na 17 rfl rfl ?_ | refine HA.nu 17 rfl rfl ?_
            first | refine HA.ga 18 rfl rfl ?_ | refine HA.na 18 rfl rfl ?_ | refine HA.nu 18 rfl rfl ?_
            first | refine HA.ga 20 rfl rfl ?_ | refine HA.na 20 rfl rfl ?_ | refine HA.nu 20 rfl rfl ?_
            refine HA.all [15, 19] (by kernel_rfl) rfl ⟨⟨_, rfl, ?_⟩, ⟨_, rfl, ?_⟩, trivial⟩
            · refine HO.one_a rfl ?_
              refine H1.ldb (v := .slice (qb i).1 (bsL qb i).length (qb i).2.1) (cs := row 8 fun i => slot (qb i)) rfl memA (row_get _ hlt) rfl ?_
              apply HA.fold
              refine HA.all [19] (by kernel_rfl) rfl ⟨⟨_, rfl, ?_⟩, trivial⟩
              refine HO.one_a rfl ?_
              refine H1.ldb (v := .slice (some ⟨bq, 0, none⟩) (bsL qa i).length (qa i).2.1) (cs := row 8 fun i => slot (qa i)) rfl memA (row_slot hlt hbq) rfl ?_
              apply HA.fold
              first | refine HA.ga 21 rfl rfl ?_ | refine HA.na 21 rfl rfl ?_ | refine HA.nu 21 rfl rfl ?_
              refine HA.all [22] (by kernel_rfl) rfl ⟨⟨_, rfl, ?_⟩, trivial⟩
              refine HO.one_a rfl ?_
              refine H1.ldSlot (q := qa) rfl memA hlt hbq hy rfl rfl ?_
              apply HA.fold
              refine HA.all [23] (by kernel_rfl) rfl ⟨⟨_, rfl, ?_⟩, trivial⟩
              refine HO.one_a rfl ?_
              refine H1.callx (u := .bool true) (vs := [.slice (qb i).1 (bsL qb i).length (qb i).2.1, recV y]) rfl rfl (fun w' hM => hin w' (RdR.of_owns (hM.slotOwn memA hlt))) ?_
              apply HA.fold
              first | refine HA.ga 24 rfl rfl ?_ | refine HA.na 24 rfl rfl ?_ | refine HA.nu 24 rfl rfl ?_
              refine HA.pa 25 rfl ?_
              refine HA.done (by kernel_rfl) ?_
              exact HX.cut () trivial esA (by repeat (first | exact Hs.nil _ | (refine Hs.cons pickA ?_)))
            · refine HO.one_a rfl ?_
              refine H1.ldb (v := .slice (some ⟨bq, 0, none⟩) (bsL qa i).length (qa i).2.1) (cs := row 8 fun i => slot (qa i)) rfl memA (row_slot hlt hbq) rfl ?_
              apply HA.fold
              first | refine HA.ga 21 rfl rfl ?_ | refine HA.na 21 rfl rfl ?_ | refine HA.nu 21 rfl rfl ?_
              refine HA.all [15, 22] (by kernel_rfl) rfl ⟨⟨_, rfl, ?_⟩, ⟨_, rfl, ?_⟩, trivial⟩
              · refine HO.one_a rfl ?_
                refine H1.ldb (v := .slice (qb i).1 (bsL qb i).length (qb i).2.1) (cs := row 8 fun i => slot (qb i)) rfl memA (row_get _ hlt) rfl ?_
                apply HA.fold
                refine HA.all [22] (by kernel_rfl) rfl ⟨⟨_, rfl, ?_⟩, trivial⟩
                refine HO.one_a rfl ?_
                refine H1.ldSlot (q := qa) rfl memA hlt hbq hy rfl rfl ?_
                apply HA.fold
                refine HA.all [23] (by kernel_rfl) rfl ⟨⟨_, rfl, ?_⟩, trivial⟩
                refine HO.one_a rfl ?_
                refine H1.callx (u := .bool true) (vs := [.slice (qb i).1 (bsL qb i).length (qb i).2.1, recV y]) rfl rfl (fun w' hM => hin w' (RdR.of_owns (hM.slotOwn memA hlt))) ?_
                apply HA.fold
                first | refine HA.ga 24 rfl rfl ?_ | refine HA.na 24 rfl rfl ?_ | refine HA.nu 24 rfl rfl ?_
                refine HA.pa 25 rfl ?_
                refine HA.done (by kernel_rfl) ?_
                exact HX.cut () trivial esA (by repeat (first | exact Hs.nil _ | (refine Hs.cons pickA ?_)))
              · refine HO.one_a rfl ?_
                refine H1.ldSlot (q := qa) rfl memA hlt hbq hy rfl rfl ?_
                apply HA.fold
                refine HA.all [15] (by kernel_rfl) rfl ⟨⟨_, rfl, ?_⟩, trivial⟩
                refine HO.one_a rfl ?_
                refine H1.ldb (v := .slice (qb i).1 (bsL qb i).length (qb i).2.1) (cs := row 8 fun i => slot (qb i)) rfl memA (row_get _ hlt) rfl ?_
                apply HA.fold
                refine HA.all [23] (by kernel_rfl) rfl ⟨⟨_, rfl, ?_⟩, trivial⟩
                refine HO.one_a rfl ?_
                refine H1.callx (u := .bool true) (vs := [.slice (qb i).1 (bsL qb i).length (qb i).2.1, recV y]) rfl rfl (fun w' hM => hin w' (RdR.of_owns (hM.slotOwn memA hlt))) ?_
                apply HA.fold
                first | refine HA.ga 24 rfl rfl ?_ | refine HA.na 24 rfl rfl ?_ | refine HA.nu 24 rfl rfl ?_
                refine HA.pa 25 rfl ?_
                refine HA.done (by kernel_rfl) ?_
                exact HX.cut () trivial esA (by repeat (first | exact Hs.nil _ | (refine Hs.cons pickA ?_)))
          · refine HO.one ?_
            refine H1.ldAgg (vs := rcells r) rfl memA rfl (fun i v hv => by rw [Nat.zero_add]; exact hv) rfl ?_
            apply HA.fold
            refine HA.all [7] (by kernel_rfl) rfl ⟨⟨_, rfl, ?_⟩, trivial⟩
            refine HO.one ?_
            refine H1.callx (u := .string (keyS y)) (vs := [recV y]) rfl rfl (fun w' _ => key_fn y hyo w') ?_
            apply HA.fold
            refine HA.all [9] (by kernel_rfl) rfl ⟨⟨_, rfl, ?_⟩, trivial⟩
            refine HO.one ?_
            refine H1.callx (u := .string (keyS r)) (vs := [recV r]) rfl rfl (fun w' _ => key_fn r hokr w') ?_
            apply HA.fold
            refine HA.pa (v := .bool true) 10 rfl ?_ (POp.snYes rfl rfl hky)
            refine HA.pa 11 rfl ?_
            first | refine HA.ga 12 rfl rfl ?_ | refine HA.na 12 rfl rfl ?_ | refine HA.nu 12 rfl rfl ?_
            first | refine HA.ga 13 rfl rfl ?_ | refine HA.na 13 rfl rfl ?_ | refine HA.nu 13 rfl rfl ?_
            first | refine HA.ga 14 rfl rfl ?_ | refine HA.na 14 rfl rfl ?_ | refine HA.nu 14 rfl rfl ?_
            first | refine HA.ga 16 rfl rfl ?_ | refine HA.na 16 rfl rfl ?_ | refine HA.nu 16 rfl rfl ?_
            first | refine HA.ga 17 rfl rfl ?_ | refine HA.na 17 rfl rfl ?_ | refine HA.nu 17 rfl rfl ?_
            first | refine HA.ga 18 rfl rfl ?_ | refine HA.na 18 rfl rfl ?_ | refine HA.nu 18 rfl rfl ?_
            first | refine HA.ga 20 rfl rfl ?_ | refine HA.na 20 rfl rfl ?_ | refine HA.nu 20 rfl rfl ?_
            refine HA.all [15, 19] (by kernel_rfl) rfl ⟨⟨_, rfl, ?_⟩, ⟨_, rfl, ?_⟩, trivial⟩
            · refine HO.one_a rfl ?_
              refine H1.ldb (v := .slice (qb i).1 (bsL qb i).length (qb i).2.1) (cs := row 8 fun i => slot (qb i)) rfl memA (row_get _ hlt) rfl ?_
              apply HA.fold
              refine HA.all [19] (by kernel_rfl) rfl ⟨⟨_, rfl, ?_⟩, trivial⟩
              refine HO.one_a rfl ?_
              refine H1.ldb (v := .slice (some ⟨bq, 0, none⟩) (bsL qa i).length (qa i).2.1) (cs := row 8 fun i => slot (qa i)) rfl memA (row_slot hlt hbq) rfl ?_
              apply HA.fold
              first | refine HA.ga 21 rfl rfl ?_ | refine HA.na 21 rfl rfl ?_ | refine HA.nu 21 rfl rfl ?_
              refine HA.all [22] (by kernel_rfl) rfl ⟨⟨_, rfl, ?_⟩, trivial⟩
              refine HO.one_a rfl ?_
              refine H1.ldSlot (q := qa) rfl memA hlt hbq hy rfl rfl ?_
              apply HA.fold
              refine HA.all [23] (by kernel_rfl) rfl ⟨⟨_, rfl, ?_⟩, trivial⟩
              refine HO.one_a rfl ?_
              refine H1.callx (u := .bool true) (vs := [.slice (qb i).1 (bsL qb i).length (qb i).2.1, recV y]) rfl rfl (fun w' hM => hin w' (RdR.of_owns (hM.slotOwn memA hlt))) ?_
              apply HA.fold
              first | refine HA.ga 24 rfl rfl ?_ | refine HA.na 24 rfl rfl ?_ | refine HA.nu 24 rfl rfl ?_
              refine HA.pa 25 rfl ?_
              refine HA.done (by kernel_rfl) ?_
              exact HX.cut () trivial esA (by repeat (first | exact Hs.nil _ | (refine Hs.cons pickA ?_)))
            · refine HO.one_a rfl ?_
              refine H1.ldb (v := .slice (some ⟨bq, 0, none⟩) (bsL qa i).length (qa i).2.1) (cs := row 8 fun i => slot (qa i)) rfl memA (row_slot hlt hbq) rfl ?_
              apply HA.fold
              first | refine HA.ga 21 rfl rfl ?_ | refine HA.na 21 rfl rfl ?_ | refine HA.nu 21 rfl rfl ?_
              refine HA.all [15, 22] (by kernel_rfl) rfl ⟨⟨_, rfl, ?_⟩, ⟨_, rfl, ?_⟩, trivial⟩
              · refine HO.one_a rfl ?_
                refine H1.ldb (v := .slice (qb i).1 (bsL qb i).length (qb i).2.1) (cs := row 8 fun i => slot (qb i)) rfl memA (row_get _ hlt) rfl ?_
                apply HA.fold
                refine HA.all [22] (by kernel_rfl) rfl ⟨⟨_, rfl, ?_⟩, trivial⟩
                refine HO.one_a rfl ?_
                refine H1.ldSlot (q := qa) rfl memA hlt hbq hy rfl rfl ?_
                apply HA.fold
                refine HA.all [23] (by kernel_rfl) rfl ⟨⟨_, rfl, ?_⟩, trivial⟩
                refine HO.one_a rfl ?_
                refine H1.callx (u := .bool true) (vs := [.slice (qb i).1 (bsL qb i).length (qb i).2.1, recV y]) rfl rfl (fun w' hM => hin w' (RdR.of_owns (hM.slotOwn memA hlt))) ?_
                apply HA.fold
                first | refine HA.ga 24 rfl rfl ?_ | refine HA.na 24 rfl rfl ?_ | refine HA.nu 24 rfl rfl ?_
                refine HA.pa 25 rfl ?_
                refine HA.done (by kernel_rfl) ?_
                exact HX.cut () trivial esA (by repeat (first | exact Hs.nil _ | (refine Hs.cons pickA ?_)))
              · refine HO.one_a rfl ?_
                refine H1.ldSlot (q := qa) rfl memA hlt hbq hy rfl rfl ?_
                apply HA.fold
                refine HA.all [15] (by kernel_rfl) rfl ⟨⟨_, rfl, ?_⟩, trivial⟩
                refine HO.one_a rfl ?_
                refine H1.ldb (v := .slice (qb i).1 (bsL qb i).length (qb i).2.1) (cs := row 8 fun i => slot (qb i)) rfl memA (row_get _ hlt) rfl ?_
                apply HA.fold
                refine HA.all [23] (by kernel_rfl) rfl ⟨⟨_, rfl, ?_⟩, trivial⟩
                refine HO.one_a rfl ?_
                refine H1.callx (u := .bool true) (vs := [.slice (qb i).1 (bsL qb i).length (qb i).2.1, recV y]) rfl rfl (fun w' hM => hin w' (RdR.of_owns (hM.slotOwn memA hlt))) ?_
                apply HA.fold
                first | refine HA.ga 24 rfl rfl ?_ | refine HA.na 24 rfl rfl ?_ | refine HA.nu 24 rfl rfl ?_
                refine HA.pa 25 rfl ?_
                refine HA.done (by kernel_rfl) ?_
                exact HX.cut () trivial esA (by repeat (first | exact Hs.nil _ | (refine Hs.cons pickA ?_)))
        · refine HO.one ?_
          refine H1.ldAgg (vs := rcells r) rfl memA rfl (fun i v hv => by rw [Nat.zero_add]; exact hv) rfl ?_
          apply HA.fold
          refine HA.all [6] (by kernel_rfl) rfl ⟨⟨_, rfl, ?_⟩, trivial⟩
          refine HO.one ?_
          refine H1.ldSlot (q := qa) rfl memA hlt hbq hy rfl rfl ?_
          apply HA.fold
          refine HA.all [7] (by kernel_rfl) rfl ⟨⟨_, rfl, ?_⟩, trivial⟩
          refine HO.one ?_
          refine H1.callx (u := .string (keyS y)) (vs := [recV y]) rfl rfl (fun w' _ => key_fn y hyo w') ?_
          apply HA.fold
          refine HA.all [9] (by kernel_rfl) rfl ⟨⟨_, rfl, ?_⟩, trivial⟩
          refine HO.one ?_
          refine H1.callx (u := .string (keyS r)) (vs := [recV r]) rfl rfl (fun w' _ => key_fn r hokr w') ?_
          apply HA.fold
          refine HA.pa (v := .bool true) 10 rfl ?_ (POp.snYes rfl rfl hky)
          refine HA.pa 11 rfl ?_
          first | refine HA.ga 12 rfl rfl ?_ | refine HA.na 12 rfl rfl ?_ | refine HA.nu 12 rfl rfl ?_
          first | refine HA.ga 13 rfl rfl ?_ | refine HA.na 13 rfl rfl ?_ | refine HA.nu 13 rfl rfl ?_
          first | refine HA.ga 14 rfl rfl ?_ | refine HA.na 14 rfl rfl ?_ | refine HA.nu 14 rfl rfl ?_
          first | refine HA.ga 16 rfl rfl ?_ | refine HA.na 16 rfl rfl ?_ | refine HA.nu 16 rfl rfl ?_
          first | refine HA.ga 17 rfl rfl ?_ | refine HA.na 17 rfl rfl ?_ | refine HA.nu 17 rfl rfl ?_
          first | refine HA.ga 18 rfl rfl ?_ | refine HA.na 18 rfl rfl ?_ | refine HA.nu 18 rfl rfl ?_
          first | refine HA.ga 20 rfl rfl ?_ | refine HA.na 20 rfl rfl ?_ | refine HA.nu 20 rfl rfl ?_
          refine HA.all [15, 19] (by kernel_rfl) rfl ⟨⟨_, rfl, ?_⟩, ⟨_, rfl, ?_⟩, trivial⟩
          · refine HO.one_a rfl ?_
            refine H1.ldb (v := .slice (qb i).1 (bsL qb i).length (qb i).2.1) (cs := row 8 fun i => slot (qb i)) rfl memA (row_get _ hlt) rfl ?_
            apply HA.fold
            refine HA.all [19] (by kernel_rfl) rfl ⟨⟨_, rfl, ?_⟩, trivial⟩
            refine HO.one_a rfl ?_
            refine H1.ldb (v := .slice (some ⟨bq, 0, none⟩) (bsL qa i).length (qa i).2.1) (cs := row 8 fun i => slot (qa i)) rfl memA (row_slot hlt hbq) rfl ?_
            apply HA.fold
            first | refine HA.ga 21 rfl rfl ?_ | refine HA.na 21 rfl rfl ?_ | refine HA.nu 21 rfl rfl ?_
            refine HA.all [22] (by kernel_rfl) rfl ⟨⟨_, rfl, ?_⟩, trivial⟩
            refine HO.one_a rfl ?_
            refine H1.ldSlot (q := qa) rfl memA hlt hbq hy rfl rfl ?_
            apply HA.fold
            refine HA.all [23] (by kernel_rfl) rfl ⟨⟨_, rfl, ?_⟩, trivial⟩
            refine HO.one_a rfl ?_
            refine H1.callx (u := .bool true) (vs := [.slice (qb i).1 (bsL qb i).length (qb i).2.1, recV y]) rfl rfl (fun w' hM => hin w' (RdR.of_owns (hM.slotOwn memA hlt))) ?_
            apply HA.fold
            first | refine HA.ga 24 rfl rfl ?_ | refine HA.na 24 rfl rfl ?_ | refine HA.nu 24 rfl rfl ?_
            refine HA.pa 25 rfl ?_
            refine HA.done (by kernel_rfl) ?_
            exact HX.cut () trivial esA (by repeat (first | exact Hs.nil _ | (refine Hs.cons pickA ?_)))
          · refine HO.one_a rfl ?_
            refine H1.ldb (v := .slice (some ⟨bq, 0, none⟩) (bsL qa i).length (qa i).2.1) (cs := row 8 fun i => slot (qa i)) rfl memA (row_slot hlt hbq) rfl ?_
            apply HA.fold
            first | refine HA.ga 21 rfl rfl ?_ | refine HA.na 21 rfl rfl ?_ | refine HA.nu 21 rfl rfl ?_
            refine HA.all [15, 22] (by kernel_rfl) rfl ⟨⟨_, rfl, ?_⟩, ⟨_, rfl, ?_⟩, trivial⟩
            · refine HO.one_a rfl ?_
              refine H1.ldb (v := .slice (qb i).1 (bsL qb i).length (qb i).2.1) (cs := row 8 fun i => slot (qb i)) rfl memA (row_get _ hlt) rfl ?_
              apply HA.fold
              refine HA.all [22] (by kernel_rfl) rfl ⟨⟨_, rfl, ?_⟩, trivial⟩
              refine HO.one_a rfl ?_
              refine H1.ldSlot (q := qa) rfl memA hlt hbq hy rfl rfl ?_
              apply HA.fold
              refine HA.all [23] (by kernel_rfl) rfl ⟨⟨_, rfl, ?_⟩, trivial⟩
              refine HO.one_a rfl ?_
              refine H1.callx (u := .bool true) (vs := [.slice (qb i).1 (bsL qb i).length (qb i).2.1, recV y]) rfl rfl (fun w' hM => hin w' (RdR.of_owns (hM.slotOwn memA hlt))) ?_
              apply HA.fold
              first | refine HA.ga 24 rfl rfl ?_ | refine HA.na 24 rfl rfl ?_ | refine HA.nu 24 rfl rfl ?_
              refine HA.pa 25 rfl ?_
              refine HA.done (by kernel_rfl) ?_
              exact HX.cut () trivial esA (by repeat (first | exact Hs.nil _ | (refine Hs.cons pickA ?_)))
            · refine HO.one_a rfl ?_
              refine H1.ldSlot (q := qa) rfl memA hlt hbq hy rfl rfl ?_
              apply HA.fold
              refine HA.all [15] (by kernel_rfl) rfl ⟨⟨_, rfl, ?_⟩, trivial⟩
              refine HO.one_a rfl ?_
              refine H1.ldb (v := .slice (qb i).1 (bsL qb i).length (qb i).2.1) (cs := row 8 fun i => slot (qb i)) rfl memA (row_get _ hlt) rfl ?_
              apply HA.fold
              refine HA.all [23] (by kernel_rfl) rfl ⟨⟨_, rfl, ?_⟩, trivial⟩
              refine HO.one_a rfl ?_
              refine H1.callx (u := .bool true) (vs := [.slice (qb i).1 (bsL qb i).length (qb i).2.1, recV y]) rfl rfl (fun w' hM => hin w' (RdR.of_owns (hM.slotOwn memA hlt))) ?_
              apply HA.fold
              first | refine HA.ga 24 rfl rfl ?_ | refine HA.na 24 rfl rfl ?_ | refine HA.nu 24 rfl rfl ?_
              refine HA.pa 25 rfl ?_
              refine HA.done (by kernel_rfl) ?_
              exact HX.cut () trivial esA (by repeat (first | exact Hs.nil _ | (refine Hs.cons pickA ?_)))
      · refine HO.one ?_
        refine H1.ldAgg (vs := rcells r) rfl memA rfl (fun i v hv => by rw [Nat.zero_add]; exact hv) rfl ?_
        apply HA.fold
        refine HA.all [3] (by kernel_rfl) rfl ⟨⟨_, rfl, ?_⟩, trivial⟩
        refine HO.one ?_
        refine H1.ldb (v := .slice (some ⟨bq, 0, none⟩) (bsL qa i).length (qa i).2.1) (cs := row 8 fun i => slot (qa i)) rfl memA (row_slot hlt hbq) rfl ?_
        apply HA.fold
        refine HA.pa 5 rfl ?_
        refine HA.all [6] (by kernel_rfl) rfl ⟨⟨_, rfl, ?_⟩, trivial⟩
        refine HO.one ?_
        refine H1.ldSlot (q := qa) rfl memA hlt hbq hy rfl rfl ?_
        apply HA.fold
        refine HA.all [7] (by kernel_rfl) rfl ⟨⟨_, rfl, ?_⟩, trivial⟩
        refine HO.one ?_
        refine H1.callx (u := .string (keyS y)) (vs := [recV y]) rfl rfl (fun w' _ => key_fn y hyo w') ?_
        apply HA.fold
        refine HA.all [9] (by kernel_rfl) rfl ⟨⟨_, rfl, ?_⟩, trivial⟩
        refine HO.one ?_
        refine H1.callx (u := .string (keyS r)) (vs := [recV r]) rfl rfl (fun w' _ => key_fn r hokr w') ?_
        apply HA.fold
        refine HA.pa (v := .bool true) 10 rfl ?_ (POp.snYes rfl rfl hky)
        refine HA.pa 11 rfl ?_
        first | refine HA.ga 12 rfl rfl ?_ | refine HA.na 12 rfl rfl ?_ | refine HA.nu 12 rfl rfl ?_
        first | refine HA.ga 13 rfl rfl ?_ | refine HA.na 13 rfl rfl ?_ | refine HA.nu 13 rfl rfl ?_
        first | refine HA.ga 14 rfl rfl ?_ | refine HA.na 14 rfl rfl ?_ | refine HA.nu 14 rfl rfl ?_
        first | refine HA.ga 16 rfl rfl ?_ | refine HA.na 16 rfl rfl ?_ | refine HA.nu 16 rfl rfl ?_
        first | refine HA.ga 17 rfl rfl ?_ | refine HA.na 17 rfl rfl ?_ | refine HA.nu 17 rfl rfl ?_
        first | refine HA.ga 18 rfl rfl ?_ | refine HA.na 18 rfl rfl ?_ | refine HA.nu 18 rfl rfl ?_
        first | refine HA.ga 20 rfl rfl ?_ | refine HA.na 20 rfl rfl ?_ | refine HA.nu 20 rfl rfl ?_
        refine HA.all [15, 19] (by kernel_rfl) rfl ⟨⟨_, rfl, ?_⟩, ⟨_, rfl, ?_⟩, trivial⟩
        · refine HO.one_a rfl ?_
          refine H1.ldb (v := .slice (qb i).1 (bsL qb i).length (qb i).2.1) (cs := row 8 fun i => slot (qb i)) rfl memA (row_get _ hlt) rfl ?_
          apply HA.fold
          refine HA.all [19] (by kernel_rfl) rfl ⟨⟨_, rfl, ?_⟩, trivial⟩
          refine HO.one_a rfl ?_
          refine H1.ldb (v := .slice (some ⟨bq, 0, none⟩) (bsL qa i).length (qa i).2.1) (cs := row 8 fun i => slot (qa i)) rfl memA (row_slot hlt hbq) rfl ?_
          apply HA.fold
          first | refine HA.ga 21 rfl rfl ?_ | refine HA.na 21 rfl rfl ?_ | refine HA.nu 21 rfl rfl ?_
          refine HA.all [22] (by kernel_rfl) rfl ⟨⟨_, rfl, ?_⟩, trivial⟩
          refine HO.one_a rfl ?_
          refine H1.ldSlot (q := qa) rfl memA hlt hbq hy rfl rfl ?_
          apply HA.fold
          refine HA.all [23] (by kernel_rfl) rfl ⟨⟨_, rfl, ?_⟩, trivial⟩
          refine HO.one_a rfl ?_
          refine H1.callx (u := .bool true) (vs := [.slice (qb i).1 (bsL qb i).length (qb i).2.1, recV y]) rfl rfl (fun w' hM => hin w' (RdR.of_owns (hM.slotOwn memA hlt))) ?_
          apply HA.fold
          first | refine HA.ga 24 rfl rfl ?_ | refine HA.na 24 rfl rfl ?_ | refine HA.nu 24 rfl rfl ?_
          refine HA.pa 25 rfl ?_
          refine HA.done (by kernel_rfl) ?_
          exact HX.cut () trivial esA (by repeat (first | exact Hs.nil _ | (refine Hs.cons pickA ?_)))
        · refine HO.one_a rfl ?_
          refine H1.ldb (v := .slice (some ⟨bq, 0, none⟩) (bsL qa i).length (qa i).2.1) (cs := row 8 fun i => slot (qa i)) rfl memA (row_slot hlt hbq) rfl ?_
          apply HA.fold
          first | refine HA.ga 21 rfl rfl ?_ | refine HA.na 21 rfl rfl ?_ | refine HA.nu 21 rfl rfl ?_
          refine HA.all [15, 22] (by kernel_rfl) rfl ⟨⟨_, rfl, ?_⟩, ⟨_, rfl, ?_⟩, trivial⟩
          · refine HO.one_a rfl ?_
            refine H1.ldb (v := .slice (qb i).1 (bsL qb i).length (qb i).2.1) (cs := row 8 fun i => slot (qb i)) rfl memA (row_get _ hlt) rfl ?_
            apply HA.fold
            refine HA.all [22] (by kernel_rfl) rfl ⟨⟨_, rfl, ?_⟩, trivial⟩
            refine HO.one_a rfl ?_
            refine H1.ldSlot (q := qa) rfl memA hlt hbq hy rfl rfl ?_
            apply HA.fold
            refine HA.all [23] (by kernel_rfl) rfl ⟨⟨_, rfl, ?_⟩, trivial⟩
            refine HO.one_a rfl ?_
            refine H1.callx (u := .bool true) (vs := [.slice (qb i).1 (bsL qb i).length (qb i).2.1, recV y]) rfl rfl (fun w' hM => hin w' (RdR.of_owns (hM.slotOwn memA hlt))) ?_
            apply HA.fold
            first | refine HA.ga 24 rfl rfl ?_ | refine HA.na 24 rfl rfl ?_ | refine HA.nu 24 rfl rfl ?_
            refine HA.pa 25 rfl ?_
            refine HA.done (by kernel_rfl) ?_
            exact HX.cut () trivial esA (by repeat (first | exact Hs.nil _ | (refine Hs.cons pickA ?_)))
          · refine HO.one_a rfl ?_
            refine H1.ldSlot (q := qa) rfl memA hlt hbq hy rfl rfl ?_
            apply HA.fold
            refine HA.all [15] (by kernel_rfl) rfl ⟨⟨_, rfl, ?_⟩, trivial⟩
            refine HO.one_a rfl ?_
            refine H1.ldb (v := .slice (qb i).1 (bsL qb i).length (qb i).2.1) (cs := row 8 fun i => slot (qb i)) rfl memA (row_get _ hlt) rfl ?_
            apply HA.fold
            refine HA.all [23] (by kernel_rfl) rfl ⟨⟨_, rfl, ?_⟩, trivial⟩
            refine HO.one_a rfl ?_
            refine H1.callx (u := .bool true) (vs := [.slice (qb i).1 (bsL qb i).length (qb i).2.1, recV y]) rfl rfl (fun w' hM => hin w' (RdR.of_owns (hM.slotOwn memA hlt))) ?_
            apply HA.fold
            first | refine HA.ga 24 rfl rfl ?_ | refine HA.na 24 rfl rfl ?_ | refine HA.nu 24 rfl rfl ?_
            refine HA.pa 25 rfl ?_
            refine HA.done (by kernel_rfl) ?_
            exact HX.cut () trivial esA (by repeat (first | exact Hs.nil _ | (refine Hs.cons pickA ?_)))
    rintro - -
    repeat' (first | refine HL.pa ?_ (POp.beqC rfl rfl (by first | rfl | decide)) | apply HL.fold | apply HA.fold | apply HL.nil | apply HX.n_then | apply HC.seq | apply HC.region | refine HL.pa ?_ | refine HL.ga rfl ?_ | refine HL.na rfl ?_ | refine HL.nu rfl rfl ?_ | apply HC.block | apply HC.skip | apply HC.exit | apply HC.ret | apply HX.e_block | refine HX.e_other rfl ?_ | apply HX.e_then | apply HX.e_again | apply HX.n_block | apply HX.r_then | apply HX.r_block | apply HX.r_again | refine HC.cond_yes rfl ?_ | refine HC.cond_no rfl ?_ | refine HL.one (H1.ldb rfl memA rfl rfl ?_) | refine HC.cond rfl (fun hc => ?_) (fun hc => ?_) | refine HC.cond_b rfl (fun hc => ?_) (fun hc => ?_))
    exact HX.again (k + 1) hkl (by omega) esA (by repeat (first | exact Hs.nil _ | (refine Hs.cons pickA ?_)))
  have hjl' : (j : Int) < ((bsL qb i).length : Int) := by omega
  obtain ⟨x, hx⟩ : ∃ x, (bsL qb i)[j]? = some x := ⟨_, List.getElem?_eq_getElem hjl⟩
  have hxm := List.mem_of_getElem? hx
  have hxo := hobi x hxm
  refine HC.opens (q := qb) (k := i) memA hlt (fun e => by rw [e] at hxm; cases hxm) ?_
  intro bq hbq
  repeat' (first | refine HL.pa ?_ (POp.beqC rfl rfl (by first | rfl | decide)) | apply HL.fold | apply HA.fold | apply HL.nil | apply HX.n_then | apply HC.seq | apply HC.region | refine HL.pa ?_ | refine HL.ga rfl ?_ | refine HL.na rfl ?_ | refine HL.nu rfl rfl ?_ | apply HC.block | apply HC.skip | apply HC.exit | apply HC.ret | apply HX.e_block | refine HX.e_other rfl ?_ | apply HX.e_then | apply HX.e_again | apply HX.n_block | apply HX.r_then | apply HX.r_block | apply HX.r_again | refine HC.cond_yes rfl ?_ | refine HC.cond_no rfl ?_ | refine HL.one (H1.ldb rfl memA rfl rfl ?_) | refine HC.cond rfl (fun hc => ?_) (fun hc => ?_) | refine HC.cond_b rfl (fun hc => ?_) (fun hc => ?_))
  refine HL.one (H1.ldb (v := .slice (some ⟨bq, 0, none⟩) (bsL qb i).length (qb i).2.1) (cs := row 8 fun i => slot (qb i)) rfl memA (row_slot hlt hbq) rfl ?_)
  repeat' (first | refine HL.pa ?_ (POp.beqC rfl rfl (by first | rfl | decide)) | apply HL.fold | apply HA.fold | apply HL.nil | apply HX.n_then | apply HC.seq | apply HC.region | refine HL.pa ?_ | refine HL.ga rfl ?_ | refine HL.na rfl ?_ | refine HL.nu rfl rfl ?_ | apply HC.block | apply HC.skip | apply HC.exit | apply HC.ret | apply HX.e_block | refine HX.e_other rfl ?_ | apply HX.e_then | apply HX.e_again | apply HX.n_block | apply HX.r_then | apply HX.r_block | apply HX.r_again | refine HC.cond_yes rfl ?_ | refine HC.cond_no rfl ?_ | refine HL.one (H1.ldb rfl memA rfl rfl ?_) | refine HC.cond rfl (fun hc => ?_) (fun hc => ?_) | refine HC.cond_b rfl (fun hc => ?_) (fun hc => ?_))
  by_cases hxr : x = r
  · have hm2 : m + 1 = n + cM (bsL qb i) (j + 1) r := by rw [hxr] at hx; rw [cM_yes hasc hx]; omega
    refine HC.any rfl ?_
    refine HA.pa 0 rfl ?_
    refine HA.pa 1 rfl ?_
    refine HA.pa 2 rfl ?_
    refine HA.pa 4 rfl ?_
    refine HA.all [3, 7] (by kernel_rfl) rfl ⟨⟨_, rfl, ?_⟩, ⟨_, rfl, ?_⟩, trivial⟩
    · refine HO.one ?_
      refine H1.ldb (v := .slice (some ⟨bq, 0, none⟩) (bsL qb i).length (qb i).2.1) (cs := row 8 fun i => slot (qb i)) rfl memA (row_slot hlt hbq) rfl ?_
      apply HA.fold
      refine HA.pa 5 rfl ?_
      refine HA.all [6, 7] (by kernel_rfl) rfl ⟨⟨_, rfl, ?_⟩, ⟨_, rfl, ?_⟩, trivial⟩
      · refine HO.one ?_
        refine H1.ldSlot (q := qb) rfl memA hlt hbq hx rfl rfl ?_
        apply HA.fold
        refine HA.all [7] (by kernel_rfl) rfl ⟨⟨_, rfl, ?_⟩, trivial⟩
        refine HO.one ?_
        refine H1.ldAgg (vs := rcells r) rfl memA rfl (fun i v hv => by rw [Nat.zero_add]; exact hv) rfl ?_
        apply HA.fold
        refine HA.pa (v := .bool true) 8 rfl ?_ (POp.eqYes rfl rfl hxo hokr hxr)
        refine HA.done (by kernel_rfl) ?_
        repeat' (first | refine HL.pa ?_ (POp.beqC rfl rfl (by first | rfl | decide)) | apply HL.fold | apply HA.fold | apply HL.nil | apply HX.n_then | apply HC.seq | apply HC.region | refine HL.pa ?_ | refine HL.ga rfl ?_ | refine HL.na rfl ?_ | refine HL.nu rfl rfl ?_ | apply HC.block | apply HC.skip | apply HC.exit | apply HC.ret | apply HX.e_block | refine HX.e_other rfl ?_ | apply HX.e_then | apply HX.e_again | apply HX.n_block | apply HX.r_then | apply HX.r_block | apply HX.r_again | refine HC.cond_yes rfl ?_ | refine HC.cond_no rfl ?_ | refine HL.one (H1.ldb rfl memA rfl rfl ?_) | refine HC.cond rfl (fun hc => ?_) (fun hc => ?_) | refine HC.cond_b rfl (fun hc => ?_) (fun hc => ?_))
        exact HX.again (j + 1, m + 1) ⟨hjl, hm2⟩ (by show (bsL qb i).length - (j + 1) < (bsL qb i).length - j; omega) esA (by repeat (first | exact Hs.nil _ | (refine Hs.cons pickA ?_)))
      · refine HO.one ?_
        refine H1.ldAgg (vs := rcells r) rfl memA rfl (fun i v hv => by rw [Nat.zero_add]; exact hv) rfl ?_
        apply HA.fold
        refine HA.all [6] (by kernel_rfl) rfl ⟨⟨_, rfl, ?_⟩, trivial⟩
        refine HO.one ?_
        refine H1.ldSlot (q := qb) rfl memA hlt hbq hx rfl rfl ?_
        apply HA.fold
        refine HA.pa (v := .bool true) 8 rfl ?_ (POp.eqYes rfl rfl hxo hokr hxr)
        refine HA.done (by kernel_rfl) ?_
        repeat' (first | refine HL.pa ?_ (POp.beqC rfl rfl (by first | rfl | decide)) | apply HL.fold | apply HA.fold | apply HL.nil | apply HX.n_then | apply HC.seq | apply HC.region | refine HL.pa ?_ | refine HL.ga rfl ?_ | refine HL.na rfl ?_ | refine HL.nu rfl rfl ?_ | apply HC.block | apply HC.skip | apply HC.exit | apply HC.ret | apply HX.e_block | refine HX.e_other rfl ?_ | apply HX.e_then | apply HX.e_again | apply HX.n_block | apply HX.r_then | apply HX.r_block | apply HX.r_again | refine HC.cond_yes rfl ?_ | refine HC.cond_no rfl ?_ | refine HL.one (H1.ldb rfl memA rfl rfl ?_) | refine HC.cond rfl (fun hc => ?_) (fun hc => ?_) | refine HC.cond_b rfl (fun hc => ?_) (fun hc => ?_))
        exact HX.again (j + 1, m + 1) ⟨hjl, hm2⟩ (by show (bsL qb i).length - (j + 1) < (bsL qb i).length - j; omega) esA (by repeat (first | exact Hs.nil _ | (refine Hs.cons pickA ?_)))
    · refine HO.one ?_
      refine H1.ldAgg (vs := rcells r) rfl memA rfl (fun i v hv => by rw [Nat.zero_add]; exact hv) rfl ?_
      apply HA.fold
      refine HA.all [3] (by kernel_rfl) rfl ⟨⟨_, rfl, ?_⟩, trivial⟩
      refine HO.one ?_
      refine H1.ldb (v := .slice (some ⟨bq, 0, none⟩) (bsL qb i).length (qb i).2.1) (cs := row 8 fun i => slot (qb i)) rfl memA (row_slot hlt hbq) rfl ?_
      apply HA.fold
      refine HA.pa 5 rfl ?_
      refine HA.all [6] (by kernel_rfl) rfl ⟨⟨_, rfl, ?_⟩, trivial⟩
      refine HO.one ?_
      refine H1.ldSlot (q := qb) rfl memA hlt hbq hx rfl rfl ?_
      apply HA.fold
      refine HA.pa (v := .bool true) 8 rfl ?_ (POp.eqYes rfl rfl hxo hokr hxr)
      refine HA.done (by kernel_rfl) ?_
      repeat' (first | refine HL.pa ?_ (POp.beqC rfl rfl (by first | rfl | decide)) | apply HL.fold | apply HA.fold | apply HL.nil | apply HX.n_then | apply HC.seq | apply HC.region | refine HL.pa ?_ | refine HL.ga rfl ?_ | refine HL.na rfl ?_ | refine HL.nu rfl rfl ?_ | apply HC.block | apply HC.skip | apply HC.exit | apply HC.ret | apply HX.e_block | refine HX.e_other rfl ?_ | apply HX.e_then | apply HX.e_again | apply HX.n_block | apply HX.r_then | apply HX.r_block | apply HX.r_again | refine HC.cond_yes rfl ?_ | refine HC.cond_no rfl ?_ | refine HL.one (H1.ldb rfl memA rfl rfl ?_) | refine HC.cond rfl (fun hc => ?_) (fun hc => ?_) | refine HC.cond_b rfl (fun hc => ?_) (fun hc => ?_))
      exact HX.again (j + 1, m + 1) ⟨hjl, hm2⟩ (by show (bsL qb i).length - (j + 1) < (bsL qb i).length - j; omega) esA (by repeat (first | exact Hs.nil _ | (refine Hs.cons pickA ?_)))
  have hm2 : m = n + cM (bsL qb i) (j + 1) r := by rw [cM_no hx hxr]; omega
  obtain ⟨hxa, hkx⟩ := hC.fresh x hxm hxr
  refine HC.cut (α := Unit) (fun _ => [(93, .bool false), (20, zv (j : Int)), (18, zv m), (19, zv (i : Int)), (3, .bool g), (11, .bool true), (13, .pointer (some ⟨b13, 0, none⟩)), (16, .slice (some ⟨ba, 0, none⟩) 8 8), (17, .slice (some ⟨bb, 0, none⟩) 8 8)])
    (fun _ => [A.blk ba (row 8 fun i => slot (qa i)) 24, A.blk bb (row 8 fun i => slot (qb i)) 24, bsA qa, bsA qb, A.blk b13 (rcells r) 27]) (fun _ => True) ?_ ?_
  · refine HC.any rfl ?_
    refine HA.pa 0 rfl ?_
    refine HA.pa 1 rfl ?_
    refine HA.pa 2 rfl ?_
    refine HA.pa 4 rfl ?_
    refine HA.all [3, 7] (by kernel_rfl) rfl ⟨⟨_, rfl, ?_⟩, ⟨_, rfl, ?_⟩, trivial⟩
    · refine HO.one ?_
      refine H1.ldb (v := .slice (some ⟨bq, 0, none⟩) (bsL qb i).length (qb i).2.1) (cs := row 8 fun i => slot (qb i)) rfl memA (row_slot hlt hbq) rfl ?_
      apply HA.fold
      refine HA.pa 5 rfl ?_
      refine HA.all [6, 7] (by kernel_rfl) rfl ⟨⟨_, rfl, ?_⟩, ⟨_, rfl, ?_⟩, trivial⟩
      · refine HO.one ?_
        refine H1.ldSlot (q := qb) rfl memA hlt hbq hx rfl rfl ?_
        apply HA.fold
        refine HA.all [7] (by kernel_rfl) rfl ⟨⟨_, rfl, ?_⟩, trivial⟩
        refine HO.one ?_
        refine H1.ldAgg (vs := rcells r) rfl memA rfl (fun i v hv => by rw [Nat.zero_add]; exact hv) rfl ?_
        apply HA.fold
        refine HA.pa (v := .bool false) 8 rfl ?_ (POp.eqNo rfl rfl hxo hokr hxr)
        refine HA.done (by kernel_rfl) ?_
        exact HX.cut () trivial esA (by repeat (first | exact Hs.nil _ | (refine Hs.cons pickA ?_)))
      · refine HO.one ?_
        refine H1.ldAgg (vs := rcells r) rfl memA rfl (fun i v hv => by rw [Nat.zero_add]; exact hv) rfl ?_
        apply HA.fold
        refine HA.all [6] (by kernel_rfl) rfl ⟨⟨_, rfl, ?_⟩, trivial⟩
        refine HO.one ?_
        refine H1.ldSlot (q := qb) rfl memA hlt hbq hx rfl rfl ?_
        apply HA.fold
        refine HA.pa (v := .bool false) 8 rfl ?_ (POp.eqNo rfl rfl hxo hokr hxr)
        refine HA.done (by kernel_rfl) ?_
        exact HX.cut () trivial esA (by repeat (first | exact Hs.nil _ | (refine Hs.cons pickA ?_)))
    · refine HO.one ?_
      refine H1.ldAgg (vs := rcells r) rfl memA rfl (fun i v hv => by rw [Nat.zero_add]; exact hv) rfl ?_
      apply HA.fold
      refine HA.all [3] (by kernel_rfl) rfl ⟨⟨_, rfl, ?_⟩, trivial⟩
      refine HO.one ?_
      refine H1.ldb (v := .slice (some ⟨bq, 0, none⟩) (bsL qb i).length (qb i).2.1) (cs := row 8 fun i => slot (qb i)) rfl memA (row_slot hlt hbq) rfl ?_
      apply HA.fold
      refine HA.pa 5 rfl ?_
      refine HA.all [6] (by kernel_rfl) rfl ⟨⟨_, rfl, ?_⟩, trivial⟩
      refine HO.one ?_
      refine H1.ldSlot (q := qb) rfl memA hlt hbq hx rfl rfl ?_
      apply HA.fold
      refine HA.pa (v := .bool false) 8 rfl ?_ (POp.eqNo rfl rfl hxo hokr hxr)
      refine HA.done (by kernel_rfl) ?_
      exact HX.cut () trivial esA (by repeat (first | exact Hs.nil _ | (refine Hs.cons pickA ?_)))
  rintro - -
  have hin : ∀ w', RdR w' (.slice (qa i).1 (bsL qa i).length (qa i).2.1) (bsL qa i) → Fn Try.prog 13 #[.slice (qa i).1 (bsL qa i).length (qa i).2.1, recV x] w' fun v w'' => v = .bool true ∧ Ext w' w'' := fun w' hR => by have h := in_fn _ (bsL qa i) x (Nat.le_trans hai (by decide)) hoai hxo w' hR; rw [inB_yes hxa] at h; exact h
  repeat' (first | refine HL.pa ?_ (POp.beqC rfl rfl (by first | rfl | decide)) | apply HL.fold | apply HA.fold | apply HL.nil | apply HX.n_then | apply HC.seq | apply HC.region | refine HL.pa ?_ | refine HL.ga rfl ?_ | refine HL.na rfl ?_ | refine HL.nu rfl rfl ?_ | apply HC.block | apply HC.skip | apply HC.exit | apply HC.ret | apply HX.e_block | refine HX.e_other rfl ?_ | apply HX.e_then | apply HX.e_again | apply HX.n_block | apply HX.r_then | apply HX.r_block | apply HX.r_again | refine HC.cond_yes rfl ?_ | refine HC.cond_no rfl ?_ | refine HL.one (H1.ldb rfl memA rfl rfl ?_) | refine HC.cond rfl (fun hc => ?_) (fun hc => ?_) | refine HC.cond_b rfl (fun hc => ?_) (fun hc => ?_))
  refine HC.cut (α := Unit) (fun _ => [(121, .bool false), (20, zv (j : Int)), (18, zv m), (19, zv (i : Int)), (3, .bool g), (11, .bool true), (13, .pointer (some ⟨b13, 0, none⟩)), (16, .slice (some ⟨ba, 0, none⟩) 8 8), (17, .slice (some ⟨bb, 0, none⟩) 8 8)])
    (fun _ => [A.blk ba (row 8 fun i => slot (qa i)) 24, A.blk bb (row 8 fun i => slot (qb i)) 24, bsA qa, bsA qb, A.blk b13 (rcells r) 27]) (fun _ => True) ?_ ?_
  · refine HC.any rfl ?_
    refine HA.pa 0 rfl ?_
    refine HA.pa 1 rfl ?_
    refine HA.pa 2 rfl ?_
    refine HA.pa 4 rfl ?_
    refine HA.all [3, 8] (by kernel_rfl) rfl ⟨⟨_, rfl, ?_⟩, ⟨_, rfl, ?_⟩, trivial⟩
    · refine HO.one ?_
      refine H1.ldb (v := .slice (some ⟨bq, 0, none⟩) (bsL qb i).length (qb i).2.1) (cs := row 8 fun i => slot (qb i)) rfl memA (row_slot hlt hbq) rfl ?_
      apply HA.fold
      refine HA.pa 5 rfl ?_
      refine HA.all [6, 8] (by kernel_rfl) rfl ⟨⟨_, rfl, ?_⟩, ⟨_, rfl, ?_⟩, trivial⟩
      · refine HO.one ?_
        refine H1.ldSlot (q := qb) rfl memA hlt hbq hx rfl rfl ?_
        apply HA.fold
        refine HA.all [7, 8] (by kernel_rfl) rfl ⟨⟨_, rfl, ?_⟩, ⟨_, rfl, ?_⟩, trivial⟩
        · refine HO.one ?_
          refine H1.callx (u := .string (keyS x)) (vs := [recV x]) rfl rfl (fun w' _ => key_fn x hxo w') ?_
          apply HA.fold
          refine HA.all [8] (by kernel_rfl) rfl ⟨⟨_, rfl, ?_⟩, trivial⟩
          refine HO.one ?_
          refine H1.ldAgg (vs := rcells r) rfl memA rfl (fun i v hv => by rw [Nat.zero_add]; exact hv) rfl ?_
          apply HA.fold
          refine HA.all [9] (by kernel_rfl) rfl ⟨⟨_, rfl, ?_⟩, trivial⟩
          refine HO.one ?_
          refine H1.callx (u := .string (keyS r)) (vs := [recV r]) rfl rfl (fun w' _ => key_fn r hokr w') ?_
          apply HA.fold
          refine HA.pa (v := .bool false) 10 rfl ?_ (POp.seqNo rfl rfl hkx)
          refine HA.pa 11 rfl ?_
          first | refine HA.ga 12 rfl rfl ?_ | refine HA.na 12 rfl rfl ?_ | refine HA.nu 12 rfl rfl ?_
          first | refine HA.ga 13 rfl rfl ?_ | refine HA.na 13 rfl rfl ?_ | refine HA.nu 13 rfl rfl ?_
          first | refine HA.ga 14 rfl rfl ?_ | refine HA.na 14 rfl rfl ?_ | refine HA.nu 14 rfl rfl ?_
          first | refine HA.ga 16 rfl rfl ?_ | refine HA.na 16 rfl rfl ?_ | refine HA.nu 16 rfl rfl ?_
          first | refine HA.ga 17 rfl rfl ?_ | refine HA.na 17 rfl rfl ?_ | refine HA.nu 17 rfl rfl ?_
          first | refine HA.ga 18 rfl rfl ?_ | refine HA.na 18 rfl rfl ?_ | refine HA.nu 18 rfl rfl ?_
          first | refine HA.ga 20 rfl rfl ?_ | refine HA.na 20 rfl rfl ?_ | refine HA.nu 20 rfl rfl ?_
          refine HA.all [15, 19] (by kernel_rfl) rfl ⟨⟨_, rfl, ?_⟩, ⟨_, rfl, ?_⟩, trivial⟩
          · refine HO.one_a rfl ?_
            refine H1.ldb (v := .slice (qa i).1 (bsL qa i).length (qa i).2.1) (cs := row 8 fun i => slot (qa i)) rfl memA (row_get _ hlt) rfl ?_
            apply HA.fold
            refine HA.all [19] (by kernel_rfl) rfl ⟨⟨_, rfl, ?_⟩, trivial⟩
            refine HO.one_a rfl ?_
            refine H1.ldb (v := .slice (some ⟨bq, 0, none⟩) (bsL qb i).length (qb i).2.1) (cs := row 8 fun i => slot (qb i)) rfl memA (row_slot hlt hbq) rfl ?_
            apply HA.fold
            first | refine HA.ga 21 rfl rfl ?_ | refine HA.na 21 rfl rfl ?_ | refine HA.nu 21 rfl rfl ?_
            refine HA.all [22] (by kernel_rfl) rfl ⟨⟨_, rfl, ?_⟩, trivial⟩
            refine HO.one_a rfl ?_
            refine H1.ldSlot (q := qb) rfl memA hlt hbq hx rfl rfl ?_
            apply HA.fold
            refine HA.all [23] (by kernel_rfl) rfl ⟨⟨_, rfl, ?_⟩, trivial⟩
            refine HO.one_a rfl ?_
            refine H1.callx (u := .bool true) (vs := [.slice (qa i).1 (bsL qa i).length (qa i).2.1, recV x]) rfl rfl (fun w' hM => hin w' (RdR.of_owns (hM.slotOwn memA hlt))) ?_
            apply HA.fold
            first | refine HA.ga 24 rfl rfl ?_ | refine HA.na 24 rfl rfl ?_ | refine HA.nu 24 rfl rfl ?_
            refine HA.pa 25 rfl ?_
            refine HA.done (by kernel_rfl) ?_
            exact HX.cut () trivial esA (by repeat (first | exact Hs.nil _ | (refine Hs.cons pickA ?_)))
          · refine HO.one_a rfl ?_
            refine H1.ldb (v := .slice (some ⟨bq, 0, none⟩) (bsL qb i).length (qb i).2.1) (cs := row 8 fun i => slot (qb i)) rfl memA (row_slot hlt hbq) rfl ?_
            apply HA.fold
            first | refine HA.ga 21 rfl rfl ?_ | refine HA.na 21 rfl rfl ?_ | refine HA.nu 21 rfl rfl ?_
            refine HA.all [15, 22] (by kernel_rfl) rfl ⟨⟨_, rfl, ?_⟩, ⟨_, rfl, ?_⟩, trivial⟩
            · refine HO.one_a rfl ?_
              refine H1.ldb (v := .slice (qa i).1 (bsL qa i).length (qa i).2.1) (cs := row 8 fun i => slot (qa i)) rfl memA (row_get _ hlt) rfl ?_
              apply HA.fold
              refine HA.all [22] (by kernel_rfl) rfl ⟨⟨_, rfl, ?_⟩, trivial⟩
              refine HO.one_a rfl ?_
              refine H1.ldSlot (q := qb) rfl memA hlt hbq hx rfl rfl ?_
              apply HA.fold
              refine HA.all [23] (by kernel_rfl) rfl ⟨⟨_, rfl, ?_⟩, trivial⟩
              refine HO.one_a rfl ?_
              refine H1.callx (u := .bool true) (vs := [.slice (qa i).1 (bsL qa i).length (qa i).2.1, recV x]) rfl rfl (fun w' hM => hin w' (RdR.of_owns (hM.slotOwn memA hlt))) ?_
              apply HA.fold
              first | refine HA.ga 24 rfl rfl ?_ | refine HA.na 24 rfl rfl ?_ | refine HA.nu 24 rfl rfl ?_
              refine HA.pa 25 rfl ?_
              refine HA.done (by kernel_rfl) ?_
              exact HX.cut () trivial esA (by repeat (first | exact Hs.nil _ | (refine Hs.cons pickA ?_)))
            · refine HO.one_a rfl ?_
              refine H1.ldSlot (q := qb) rfl memA hlt hbq hx rfl rfl ?_
              apply HA.fold
              refine HA.all [15] (by kernel_rfl) rfl ⟨⟨_, rfl, ?_⟩, trivial⟩
              refine HO.one_a rfl ?_
              refine H1.ldb (v := .slice (qa i).1 (bsL qa i).length (qa i).2.1) (cs := row 8 fun i => slot (qa i)) rfl memA (row_get _ hlt) rfl ?_
              apply HA.fold
              refine HA.all [23] (by kernel_rfl) rfl ⟨⟨_, rfl, ?_⟩, trivial⟩
              refine HO.one_a rfl ?_
              refine H1.callx (u := .bool true) (vs := [.slice (qa i).1 (bsL qa i).length (qa i).2.1, recV x]) rfl rfl (fun w' hM => hin w' (RdR.of_owns (hM.slotOwn memA hlt))) ?_
              apply HA.fold
              first | refine HA.ga 24 rfl rfl ?_ | refine HA.na 24 rfl rfl ?_ | refine HA.nu 24 rfl rfl ?_
              refine HA.pa 25 rfl ?_
              refine HA.done (by kernel_rfl) ?_
              exact HX.cut () trivial esA (by repeat (first | exact Hs.nil _ | (refine Hs.cons pickA ?_)))
        · refine HO.one ?_
          refine H1.ldAgg (vs := rcells r) rfl memA rfl (fun i v hv => by rw [Nat.zero_add]; exact hv) rfl ?_
          apply HA.fold
          refine HA.all [7] (by kernel_rfl) rfl ⟨⟨_, rfl, ?_⟩, trivial⟩
          refine HO.one ?_
          refine H1.callx (u := .string (keyS x)) (vs := [recV x]) rfl rfl (fun w' _ => key_fn x hxo w') ?_
          apply HA.fold
          refine HA.all [9] (by kernel_rfl) rfl ⟨⟨_, rfl, ?_⟩, trivial⟩
          refine HO.one ?_
          refine H1.callx (u := .string (keyS r)) (vs := [recV r]) rfl rfl (fun w' _ => key_fn r hokr w') ?_
          apply HA.fold
          refine HA.pa (v := .bool false) 10 rfl ?_ (POp.seqNo rfl rfl hkx)
          refine HA.pa 11 rfl ?_
          first | refine HA.ga 12 rfl rfl ?_ | refine HA.na 12 rfl rfl ?_ | refine HA.nu 12 rfl rfl ?_
          first | refine HA.ga 13 rfl rfl ?_ | refine HA.na 13 rfl rfl ?_ | refine HA.nu 13 rfl rfl ?_
          first | refine HA.ga 14 rfl rfl ?_ | refine HA.na 14 rfl rfl ?_ | refine HA.nu 14 rfl rfl ?_
          first | refine HA.ga 16 rfl rfl ?_ | refine HA.na 16 rfl rfl ?_ | refine HA.nu 16 rfl rfl ?_
          first | refine HA.ga 17 rfl rfl ?_ | refine HA.na 17 rfl rfl ?_ | refine HA.nu 17 rfl rfl ?_
          first | refine HA.ga 18 rfl rfl ?_ | refine HA.na 18 rfl rfl ?_ | refine HA.nu 18 rfl rfl ?_
          first | refine HA.ga 20 rfl rfl ?_ | refine HA.na 20 rfl rfl ?_ | refine HA.nu 20 rfl rfl ?_
          refine HA.all [15, 19] (by kernel_rfl) rfl ⟨⟨_, rfl, ?_⟩, ⟨_, rfl, ?_⟩, trivial⟩
          · refine HO.one_a rfl ?_
            refine H1.ldb (v := .slice (qa i).1 (bsL qa i).length (qa i).2.1) (cs := row 8 fun i => slot (qa i)) rfl memA (row_get _ hlt) rfl ?_
            apply HA.fold
            refine HA.all [19] (by kernel_rfl) rfl ⟨⟨_, rfl, ?_⟩, trivial⟩
            refine HO.one_a rfl ?_
            refine H1.ldb (v := .slice (some ⟨bq, 0, none⟩) (bsL qb i).length (qb i).2.1) (cs := row 8 fun i => slot (qb i)) rfl memA (row_slot hlt hbq) rfl ?_
            apply HA.fold
            first | refine HA.ga 21 rfl rfl ?_ | refine HA.na 21 rfl rfl ?_ | refine HA.nu 21 rfl rfl ?_
            refine HA.all [22] (by kernel_rfl) rfl ⟨⟨_, rfl, ?_⟩, trivial⟩
            refine HO.one_a rfl ?_
            refine H1.ldSlot (q := qb) rfl memA hlt hbq hx rfl rfl ?_
            apply HA.fold
            refine HA.all [23] (by kernel_rfl) rfl ⟨⟨_, rfl, ?_⟩, trivial⟩
            refine HO.one_a rfl ?_
            refine H1.callx (u := .bool true) (vs := [.slice (qa i).1 (bsL qa i).length (qa i).2.1, recV x]) rfl rfl (fun w' hM => hin w' (RdR.of_owns (hM.slotOwn memA hlt))) ?_
            apply HA.fold
            first | refine HA.ga 24 rfl rfl ?_ | refine HA.na 24 rfl rfl ?_ | refine HA.nu 24 rfl rfl ?_
            refine HA.pa 25 rfl ?_
            refine HA.done (by kernel_rfl) ?_
            exact HX.cut () trivial esA (by repeat (first | exact Hs.nil _ | (refine Hs.cons pickA ?_)))
          · refine HO.one_a rfl ?_
            refine H1.ldb (v := .slice (some ⟨bq, 0, none⟩) (bsL qb i).length (qb i).2.1) (cs := row 8 fun i => slot (qb i)) rfl memA (row_slot hlt hbq) rfl ?_
            apply HA.fold
            first | refine HA.ga 21 rfl rfl ?_ | refine HA.na 21 rfl rfl ?_ | refine HA.nu 21 rfl rfl ?_
            refine HA.all [15, 22] (by kernel_rfl) rfl ⟨⟨_, rfl, ?_⟩, ⟨_, rfl, ?_⟩, trivial⟩
            · refine HO.one_a rfl ?_
              refine H1.ldb (v := .slice (qa i).1 (bsL qa i).length (qa i).2.1) (cs := row 8 fun i => slot (qa i)) rfl memA (row_get _ hlt) rfl ?_
              apply HA.fold
              refine HA.all [22] (by kernel_rfl) rfl ⟨⟨_, rfl, ?_⟩, trivial⟩
              refine HO.one_a rfl ?_
              refine H1.ldSlot (q := qb) rfl memA hlt hbq hx rfl rfl ?_
              apply HA.fold
              refine HA.all [23] (by kernel_rfl) rfl ⟨⟨_, rfl, ?_⟩, trivial⟩
              refine HO.one_a rfl ?_
              refine H1.callx (u := .bool true) (vs := [.slice (qa i).1 (bsL qa i).length (qa i).2.1, recV x]) rfl rfl (fun w' hM => hin w' (RdR.of_owns (hM.slotOwn memA hlt))) ?_
              apply HA.fold
              first | refine HA.ga 24 rfl rfl ?_ | refine HA.na 24 rfl rfl ?_ | refine HA.nu 24 rfl rfl ?_
              refine HA.pa 25 rfl ?_
              refine HA.done (by kernel_rfl) ?_
              exact HX.cut () trivial esA (by repeat (first | exact Hs.nil _ | (refine Hs.cons pickA ?_)))
            · refine HO.one_a rfl ?_
              refine H1.ldSlot (q := qb) rfl memA hlt hbq hx rfl rfl ?_
              apply HA.fold
              refine HA.all [15] (by kernel_rfl) rfl ⟨⟨_, rfl, ?_⟩, trivial⟩
              refine HO.one_a rfl ?_
              refine H1.ldb (v := .slice (qa i).1 (bsL qa i).length (qa i).2.1) (cs := row 8 fun i => slot (qa i)) rfl memA (row_get _ hlt) rfl ?_
              apply HA.fold
              refine HA.all [23] (by kernel_rfl) rfl ⟨⟨_, rfl, ?_⟩, trivial⟩
              refine HO.one_a rfl ?_
              refine H1.callx (u := .bool true) (vs := [.slice (qa i).1 (bsL qa i).length (qa i).2.1, recV x]) rfl rfl (fun w' hM => hin w' (RdR.of_owns (hM.slotOwn memA hlt))) ?_
              apply HA.fold
              first | refine HA.ga 24 rfl rfl ?_ | refine HA.na 24 rfl rfl ?_ | refine HA.nu 24 rfl rfl ?_
              refine HA.pa 25 rfl ?_
              refine HA.done (by kernel_rfl) ?_
              exact HX.cut () trivial esA (by repeat (first | exact Hs.nil _ | (refine Hs.cons pickA ?_)))
      · refine HO.one ?_
        refine H1.ldAgg (vs := rcells r) rfl memA rfl (fun i v hv => by rw [Nat.zero_add]; exact hv) rfl ?_
        apply HA.fold
        refine HA.all [6] (by kernel_rfl) rfl ⟨⟨_, rfl, ?_⟩, trivial⟩
        refine HO.one ?_
        refine H1.ldSlot (q := qb) rfl memA hlt hbq hx rfl rfl ?_
        apply HA.fold
        refine HA.all [7] (by kernel_rfl) rfl ⟨⟨_, rfl, ?_⟩, trivial⟩
        refine HO.one ?_
        refine H1.callx (u := .string (keyS x)) (vs := [recV x]) rfl rfl (fun w' _ => key_fn x hxo w') ?_
        apply HA.fold
        refine HA.all [9] (by kernel_rfl) rfl ⟨⟨_, rfl, ?_⟩, trivial⟩
        refine HO.one ?_
        refine H1.callx (u := .string (keyS r)) (vs := [recV r]) rfl rfl (fun w' _ => key_fn r hokr w') ?_
        apply HA.fold
        refine HA.pa (v := .bool false) 10 rfl ?_ (POp.seqNo rfl rfl hkx)
        refine HA.pa 11 rfl ?_
        first | refine HA.ga 12 rfl rfl ?_ | refine HA.na 12 rfl rfl ?_ | refine HA.nu 12 rfl rfl ?_
        first | refine HA.ga 13 rfl rfl ?_ | refine HA.na 13 rfl rfl ?_ | refine HA.nu 13 rfl rfl ?_
        first | refine HA.ga 14 rfl rfl ?_ | refine HA.na 14 rfl rfl ?_ | refine HA.nu 14 rfl rfl ?_
        first | refine HA.ga 16 rfl rfl ?_ | refine HA.na 16 rfl rfl ?_ | refine HA.nu 16 rfl rfl ?_
        first | refine HA.ga 17 rfl rfl ?_ | refine HA.na 17 rfl rfl ?_ | refine HA.nu 17 rfl rfl ?_
        first | refine HA.ga 18 rfl rfl ?_ | refine HA.na 18 rfl rfl ?_ | refine HA.nu 18 rfl rfl ?_
        first | refine HA.ga 20 rfl rfl ?_ | refine HA.na 20 rfl rfl ?_ | refine HA.nu 20 rfl rfl ?_
        refine HA.all [15, 19] (by kernel_rfl) rfl ⟨⟨_, rfl, ?_⟩, ⟨_, rfl, ?_⟩, trivial⟩
        · refine HO.one_a rfl ?_
          refine H1.ldb (v := .slice (qa i).1 (bsL qa i).length (qa i).2.1) (cs := row 8 fun i => slot (qa i)) rfl memA (row_get _ hlt) rfl ?_
          apply HA.fold
          refine HA.all [19] (by kernel_rfl) rfl ⟨⟨_, rfl, ?_⟩, trivial⟩
          refine HO.one_a rfl ?_
          refine H1.ldb (v := .slice (some ⟨bq, 0, none⟩) (bsL qb i).length (qb i).2.1) (cs := row 8 fun i => slot (qb i)) rfl memA (row_slot hlt hbq) rfl ?_
          apply HA.fold
          first | refine HA.ga 21 rfl rfl ?_ | refine HA.na 21 rfl rfl ?_ | refine HA.nu 21 rfl rfl ?_
          refine HA.all [22] (by kernel_rfl) rfl ⟨⟨_, rfl, ?_⟩, trivial⟩
          refine HO.one_a rfl ?_
          refine H1.ldSlot (q := qb) rfl memA hlt hbq hx rfl rfl ?_
          apply HA.fold
          refine HA.all [23] (by kernel_rfl) rfl ⟨⟨_, rfl, ?_⟩, trivial⟩
          refine HO.one_a rfl ?_
          refine H1.callx (u := .bool true) (vs := [.slice (qa i).1 (bsL qa i).length (qa i).2.1, recV x]) rfl rfl (fun w' hM => hin w' (RdR.of_owns (hM.slotOwn memA hlt))) ?_
          apply HA.fold
          first | refine HA.ga 24 rfl rfl ?_ | refine HA.na 24 rfl rfl ?_ | refine HA.nu 24 rfl rfl ?_
          refine HA.pa 25 rfl ?_
          refine HA.done (by kernel_rfl) ?_
          exact HX.cut () trivial esA (by repeat (first | exact Hs.nil _ | (refine Hs.cons pickA ?_)))
        · refine HO.one_a rfl ?_
          refine H1.ldb (v := .slice (some ⟨bq, 0, none⟩) (bsL qb i).length (qb i).2.1) (cs := row 8 fun i => slot (qb i)) rfl memA (row_slot hlt hbq) rfl ?_
          apply HA.fold
          first | refine HA.ga 21 rfl rfl ?_ | refine HA.na 21 rfl rfl ?_ | refine HA.nu 21 rfl rfl ?_
          refine HA.all [15, 22] (by kernel_rfl) rfl ⟨⟨_, rfl, ?_⟩, ⟨_, rfl, ?_⟩, trivial⟩
          · refine HO.one_a rfl ?_
            refine H1.ldb (v := .slice (qa i).1 (bsL qa i).length (qa i).2.1) (cs := row 8 fun i => slot (qa i)) rfl memA (row_get _ hlt) rfl ?_
            apply HA.fold
            refine HA.all [22] (by kernel_rfl) rfl ⟨⟨_, rfl, ?_⟩, trivial⟩
            refine HO.one_a rfl ?_
            refine H1.ldSlot (q := qb) rfl memA hlt hbq hx rfl rfl ?_
            apply HA.fold
            refine HA.all [23] (by kernel_rfl) rfl ⟨⟨_, rfl, ?_⟩, trivial⟩
            refine HO.one_a rfl ?_
            refine H1.callx (u := .bool true) (vs := [.slice (qa i).1 (bsL qa i).length (qa i).2.1, recV x]) rfl rfl (fun w' hM => hin w' (RdR.of_owns (hM.slotOwn memA hlt))) ?_
            apply HA.fold
            first | refine HA.ga 24 rfl rfl ?_ | refine HA.na 24 rfl rfl ?_ | refine HA.nu 24 rfl rfl ?_
            refine HA.pa 25 rfl ?_
            refine HA.done (by kernel_rfl) ?_
            exact HX.cut () trivial esA (by repeat (first | exact Hs.nil _ | (refine Hs.cons pickA ?_)))
          · refine HO.one_a rfl ?_
            refine H1.ldSlot (q := qb) rfl memA hlt hbq hx rfl rfl ?_
            apply HA.fold
            refine HA.all [15] (by kernel_rfl) rfl ⟨⟨_, rfl, ?_⟩, trivial⟩
            refine HO.one_a rfl ?_
            refine H1.ldb (v := .slice (qa i).1 (bsL qa i).length (qa i).2.1) (cs := row 8 fun i => slot (qa i)) rfl memA (row_get _ hlt) rfl ?_
            apply HA.fold
            refine HA.all [23] (by kernel_rfl) rfl ⟨⟨_, rfl, ?_⟩, trivial⟩
            refine HO.one_a rfl ?_
            refine H1.callx (u := .bool true) (vs := [.slice (qa i).1 (bsL qa i).length (qa i).2.1, recV x]) rfl rfl (fun w' hM => hin w' (RdR.of_owns (hM.slotOwn memA hlt))) ?_
            apply HA.fold
            first | refine HA.ga 24 rfl rfl ?_ | refine HA.na 24 rfl rfl ?_ | refine HA.nu 24 rfl rfl ?_
            refine HA.pa 25 rfl ?_
            refine HA.done (by kernel_rfl) ?_
            exact HX.cut () trivial esA (by repeat (first | exact Hs.nil _ | (refine Hs.cons pickA ?_)))
    · refine HO.one ?_
      refine H1.ldAgg (vs := rcells r) rfl memA rfl (fun i v hv => by rw [Nat.zero_add]; exact hv) rfl ?_
      apply HA.fold
      refine HA.all [3] (by kernel_rfl) rfl ⟨⟨_, rfl, ?_⟩, trivial⟩
      refine HO.one ?_
      refine H1.ldb (v := .slice (some ⟨bq, 0, none⟩) (bsL qb i).length (qb i).2.1) (cs := row 8 fun i => slot (qb i)) rfl memA (row_slot hlt hbq) rfl ?_
      apply HA.fold
      refine HA.pa 5 rfl ?_
      refine HA.all [6] (by kernel_rfl) rfl ⟨⟨_, rfl, ?_⟩, trivial⟩
      refine HO.one ?_
      refine H1.ldSlot (q := qb) rfl memA hlt hbq hx rfl rfl ?_
      apply HA.fold
      refine HA.all [7] (by kernel_rfl) rfl ⟨⟨_, rfl, ?_⟩, trivial⟩
      refine HO.one ?_
      refine H1.callx (u := .string (keyS x)) (vs := [recV x]) rfl rfl (fun w' _ => key_fn x hxo w') ?_
      apply HA.fold
      refine HA.all [9] (by kernel_rfl) rfl ⟨⟨_, rfl, ?_⟩, trivial⟩
      refine HO.one ?_
      refine H1.callx (u := .string (keyS r)) (vs := [recV r]) rfl rfl (fun w' _ => key_fn r hokr w') ?_
      apply HA.fold
      refine HA.pa (v := .bool false) 10 rfl ?_ (POp.seqNo rfl rfl hkx)
      refine HA.pa 11 rfl ?_
      first | refine HA.ga 12 rfl rfl ?_ | refine HA.na 12 rfl rfl ?_ | refine HA.nu 12 rfl rfl ?_
      first | refine HA.ga 13 rfl rfl ?_ | refine HA.na 13 rfl rfl ?_ | refine HA.nu 13 rfl rfl ?_
      first | refine HA.ga 14 rfl rfl ?_ | refine HA.na 14 rfl rfl ?_ | refine HA.nu 14 rfl rfl ?_
      first | refine HA.ga 16 rfl rfl ?_ | refine HA.na 16 rfl rfl ?_ | refine HA.nu 16 rfl rfl ?_
      first | refine HA.ga 17 rfl rfl ?_ | refine HA.na 17 rfl rfl ?_ | refine HA.nu 17 rfl rfl ?_
      first | refine HA.ga 18 rfl rfl ?_ | refine HA.na 18 rfl rfl ?_ | refine HA.nu 18 rfl rfl ?_
      first | refine HA.ga 20 rfl rfl ?_ | refine HA.na 20 rfl rfl ?_ | refine HA.nu 20 rfl rfl ?_
      refine HA.all [15, 19] (by kernel_rfl) rfl ⟨⟨_, rfl, ?_⟩, ⟨_, rfl, ?_⟩, trivial⟩
      · refine HO.one_a rfl ?_
        refine H1.ldb (v := .slice (qa i).1 (bsL qa i).length (qa i).2.1) (cs := row 8 fun i => slot (qa i)) rfl memA (row_get _ hlt) rfl ?_
        apply HA.fold
        refine HA.all [19] (by kernel_rfl) rfl ⟨⟨_, rfl, ?_⟩, trivial⟩
        refine HO.one_a rfl ?_
        refine H1.ldb (v := .slice (some ⟨bq, 0, none⟩) (bsL qb i).length (qb i).2.1) (cs := row 8 fun i => slot (qb i)) rfl memA (row_slot hlt hbq) rfl ?_
        apply HA.fold
        first | refine HA.ga 21 rfl rfl ?_ | refine HA.na 21 rfl rfl ?_ | refine HA.nu 21 rfl rfl ?_
        refine HA.all [22] (by kernel_rfl) rfl ⟨⟨_, rfl, ?_⟩, trivial⟩
        refine HO.one_a rfl ?_
        refine H1.ldSlot (q := qb) rfl memA hlt hbq hx rfl rfl ?_
        apply HA.fold
        refine HA.all [23] (by kernel_rfl) rfl ⟨⟨_, rfl, ?_⟩, trivial⟩
        refine HO.one_a rfl ?_
        refine H1.callx (u := .bool true) (vs := [.slice (qa i).1 (bsL qa i).length (qa i).2.1, recV x]) rfl rfl (fun w' hM => hin w' (RdR.of_owns (hM.slotOwn memA hlt))) ?_
        apply HA.fold
        first | refine HA.ga 24 rfl rfl ?_ | refine HA.na 24 rfl rfl ?_ | refine HA.nu 24 rfl rfl ?_
        refine HA.pa 25 rfl ?_
        refine HA.done (by kernel_rfl) ?_
        exact HX.cut () trivial esA (by repeat (first | exact Hs.nil _ | (refine Hs.cons pickA ?_)))
      · refine HO.one_a rfl ?_
        refine H1.ldb (v := .slice (some ⟨bq, 0, none⟩) (bsL qb i).length (qb i).2.1) (cs := row 8 fun i => slot (qb i)) rfl memA (row_slot hlt hbq) rfl ?_
        apply HA.fold
        first | refine HA.ga 21 rfl rfl ?_ | refine HA.na 21 rfl rfl ?_ | refine HA.nu 21 rfl rfl ?_
        refine HA.all [15, 22] (by kernel_rfl) rfl ⟨⟨_, rfl, ?_⟩, ⟨_, rfl, ?_⟩, trivial⟩
        · refine HO.one_a rfl ?_
          refine H1.ldb (v := .slice (qa i).1 (bsL qa i).length (qa i).2.1) (cs := row 8 fun i => slot (qa i)) rfl memA (row_get _ hlt) rfl ?_
          apply HA.fold
          refine HA.all [22] (by kernel_rfl) rfl ⟨⟨_, rfl, ?_⟩, trivial⟩
          refine HO.one_a rfl ?_
          refine H1.ldSlot (q := qb) rfl memA hlt hbq hx rfl rfl ?_
          apply HA.fold
          refine HA.all [23] (by kernel_rfl) rfl ⟨⟨_, rfl, ?_⟩, trivial⟩
          refine HO.one_a rfl ?_
          refine H1.callx (u := .bool true) (vs := [.slice (qa i).1 (bsL qa i).length (qa i).2.1, recV x]) rfl rfl (fun w' hM => hin w' (RdR.of_owns (hM.slotOwn memA hlt))) ?_
          apply HA.fold
          first | refine HA.ga 24 rfl rfl ?_ | refine HA.na 24 rfl rfl ?_ | refine HA.nu 24 rfl rfl ?_
          refine HA.pa 25 rfl ?_
          refine HA.done (by kernel_rfl) ?_
          exact HX.cut () trivial esA (by repeat (first | exact Hs.nil _ | (refine Hs.cons pickA ?_)))
        · refine HO.one_a rfl ?_
          refine H1.ldSlot (q := qb) rfl memA hlt hbq hx rfl rfl ?_
          apply HA.fold
          refine HA.all [15] (by kernel_rfl) rfl ⟨⟨_, rfl, ?_⟩, trivial⟩
          refine HO.one_a rfl ?_
          refine H1.ldb (v := .slice (qa i).1 (bsL qa i).length (qa i).2.1) (cs := row 8 fun i => slot (qa i)) rfl memA (row_get _ hlt) rfl ?_
          apply HA.fold
          refine HA.all [23] (by kernel_rfl) rfl ⟨⟨_, rfl, ?_⟩, trivial⟩
          refine HO.one_a rfl ?_
          refine H1.callx (u := .bool true) (vs := [.slice (qa i).1 (bsL qa i).length (qa i).2.1, recV x]) rfl rfl (fun w' hM => hin w' (RdR.of_owns (hM.slotOwn memA hlt))) ?_
          apply HA.fold
          first | refine HA.ga 24 rfl rfl ?_ | refine HA.na 24 rfl rfl ?_ | refine HA.nu 24 rfl rfl ?_
          refine HA.pa 25 rfl ?_
          refine HA.done (by kernel_rfl) ?_
          exact HX.cut () trivial esA (by repeat (first | exact Hs.nil _ | (refine Hs.cons pickA ?_)))
  rintro - -
  repeat' (first | refine HL.pa ?_ (POp.beqC rfl rfl (by first | rfl | decide)) | apply HL.fold | apply HA.fold | apply HL.nil | apply HX.n_then | apply HC.seq | apply HC.region | refine HL.pa ?_ | refine HL.ga rfl ?_ | refine HL.na rfl ?_ | refine HL.nu rfl rfl ?_ | apply HC.block | apply HC.skip | apply HC.exit | apply HC.ret | apply HX.e_block | refine HX.e_other rfl ?_ | apply HX.e_then | apply HX.e_again | apply HX.n_block | apply HX.r_then | apply HX.r_block | apply HX.r_again | refine HC.cond_yes rfl ?_ | refine HC.cond_no rfl ?_ | refine HL.one (H1.ldb rfl memA rfl rfl ?_) | refine HC.cond rfl (fun hc => ?_) (fun hc => ?_) | refine HC.cond_b rfl (fun hc => ?_) (fun hc => ?_))
  exact HX.again (j + 1, m) ⟨hjl, hm2⟩ (by show (bsL qb i).length - (j + 1) < (bsL qb i).length - j; omega) esA (by repeat (first | exact Hs.nil _ | (refine Hs.cons pickA ?_)))
end Go.Sx

