/- Chapter 24: the law LineageBound: the walk. -/
import Derived.Test.YtehehfcmanccjaaGreatDoorQH09
import Derived.Test.YtehehfcmanccjaaGreatDoorRows
import Derived.ProofKit
import Derived.OpenShut
import Derived.LaidMore
import Derived.Lay
import Derived.SevenTiedAt
import Derived.Stop.Joined
import Derived.Deep.Onto
import Derived.Laws.IdiomArrays
import Derived.Carry
import Derived.Test.YtehehfcmanccjaaGreatDoorTie
import Derived.Lib.LaidTab
import Derived.Stop.LaidErr
namespace Go.Sx
open Go Go.Proofs Go.RowKit
theorem hwO4 {G G2 : Prop} (x : G2) (hwq : Hold G2 → G := by
    intro hQq
    repeat' (first | refine HL.pa ?_ (POp.nilCheck rfl) | apply HL.fold | apply HA.fold | apply HL.nil | apply HX.n_then | apply HC.seq | apply HC.region | refine HL.pa ?_ | refine HL.ga rfl ?_ | refine HL.na rfl ?_ | refine HL.nu rfl rfl ?_ | apply HC.block | apply HC.skip | apply HC.exit | apply HC.ret | apply HX.e_block | refine HX.e_other rfl ?_ | apply HX.e_then | apply HX.e_again | apply HX.n_block | apply HX.r_then | apply HX.r_block | apply HX.r_again | refine HC.cond_yes rfl ?_ | refine HC.cond_no rfl ?_ | refine HL.one (H1.ldb rfl memA rfl rfl ?_) | refine HC.cond rfl (fun hc => ?_) (fun hc => ?_) | refine HC.cond_b rfl (fun hc => ?_) (fun hc => ?_))
    exact hQq.get) : G := hwq ⟨x⟩
theorem hnO4 {G G2 : Prop} (x : G2) (hwq : Hold G2 → G := by
    intro hQq
    repeat' (first | refine HL.pa ?_ (POp.nilCheck rfl) | apply HL.fold | apply HA.fold | apply HL.nil | apply HX.n_then | apply HC.seq | apply HC.region | refine HL.pa ?_ | refine HL.ga rfl ?_ | refine HL.na rfl ?_ | refine HL.nu rfl rfl ?_ | apply HC.block | apply HC.skip | apply HC.exit | apply HC.ret | apply HX.e_block | refine HX.e_other rfl ?_ | apply HX.e_then | apply HX.e_again | apply HX.n_block | apply HX.r_then | apply HX.r_block | apply HX.r_again | refine HC.cond_yes rfl ?_ | refine HC.cond_no rfl ?_ | refine HL.one (H1.ldb rfl memA rfl rfl ?_))
    exact hQq.get) : G := hwq ⟨x⟩
attribute [local irreducible] WC WL WX POp Then Again Fn NX W1 WA WO QL RP RA Yld LoopAt HC HL HX HN H1 HA HO HQ HB HP A.blk A.grow A.rd A.obj A.mp AgainH CutH
attribute [local irreducible] A.mq A.mit A.all leafB sumS rootP colB
theorem leavesL_fn {v g : Value} {l : List Nd} {D L : List ByteArray} {U : Nat → Value} (hok : okS l D = true) (hL : L = (l.zip D).map leafP) (w : World) (hR : RdN w v l U) (hS : Rd w g (strs D)) :
    Fn Tryz.prog 17 #[v, g] w fun u w' => ∃ z : Option Addr × Nat, True ∧ u = .tuple #[.slice z.1 L.length z.2, .bool true] ∧ Mm w [A.grow 9 1 z.1 z.2 L.length (strs L)] w' := by
  have hl : L.length = l.length := by
    have := (okS_facts hok).2.1
    rw [hL, List.length_map, List.length_zip]; omega
  refine (leaves24_fn hok w hR hS).mono fun u w' h => ?_
  obtain ⟨z, h1, h2, h3⟩ := h
  exact ⟨z, h1, by rw [hl]; exact h2, by rw [hl, hL]; exact h3⟩
set_option maxHeartbeats 8000000 in
theorem lineageBound_fn (v vy : Value) (rows rowsY : List (List Int)) (same : Bool) (hrow : ∀ y ∈ rows, y.length = 4 ∧ ∀ z ∈ y, i64W z) (hrowY : ∀ y ∈ rowsY, y.length = 4 ∧ ∀ z ∈ y, i64W z) (w : World) (hG : RoundG w) (hX : RdA 4 w v rows) (hY : RdA 4 w vy rowsY) :
    Fn Tryz.prog 4 #[v, vy, .bool same] w fun u w' => u = .bool true ∧ Ext w w' := by
  refine enterH (l := [_, _, _]) rfl Tryz.ntmps4 rfl ?_
  refine hwO4 ?_
  refine HL.one (H1.callx (vs := []) rfl rfl (fun w' hM => sane24_fn w' (hG.ext hM.ext)) ?_)
  refine hnO4 ?_
  refine HC.cut (α := Unit) (fun _ => [(0, v), (1, if same = true then v else vy), (2, .bool same), (7, .bool true)]) (fun _ => []) (fun _ => True) ?_ ?_
  · cases same with
    | true =>
      refine hwO4 ?_
      exact HX.cut () trivial esA (Hs.refl _)
    | false =>
      refine hwO4 ?_
      exact HX.cut () trivial esA (Hs.refl _)
  rintro - -
  obtain ⟨u1, r2, hu1, hr2, hrow2, hsm⟩ : ∃ u1 r2, (if same = true then v else vy) = u1 ∧ RdA 4 w u1 r2 ∧ (∀ y ∈ r2, y.length = 4 ∧ ∀ z ∈ y, i64W z) ∧ (same = true → r2 = rows) := by
    cases same with
    | true => exact ⟨v, rows, rfl, hX, hrow, fun _ => rfl⟩
    | false => exact ⟨vy, rowsY, rfl, hY, hrowY, fun h => by cases h⟩
  rw [hu1]
  clear hu1
  refine hwO4 ?_
  refine HL.one (H1.callr (vs := [v]) rfl rfl (fun w' hM => made24_fn v rows hrow w' (hX.ext hM.ext)) ?_)
  rintro wa u w1 hMa ⟨⟨vl, vg, U, rfl, hN, hD⟩, hxa⟩
  have hx1 : Ext w w1 := hMa.ext.trans hxa
  refine hwO4 ?_
  refine HL.one (H1.callr (vs := [u1]) rfl rfl (fun w' hM => made24_fn u1 r2 hrow2 w' ((hr2.ext hx1).ext hM.ext)) ?_)
  rintro wb u w2 hMb ⟨⟨vm, ve, V, rfl, hN2, hE⟩, hxb⟩
  have hx2 : Ext w1 w2 := hMb.ext.trans hxb
  have hxx : Ext w w2 := hx1.trans hx2
  have hG2 := hG.ext hxx
  replace hN := hN.ext hx2
  replace hD := hD.ext hx2
  have hok := made_ok rows
  have hok2 := made_ok r2
  have hss : same = true → madeL r2 (madeN r2) = madeL rows (madeN rows) ∧ madeD r2 (madeN r2) = madeD rows (madeN rows) := fun h => by rw [hsm h]; exact ⟨rfl, rfl⟩
  generalize madeL rows (madeN rows) = l at hN hok hss
  generalize madeD rows (madeN rows) = D at hD hok hss
  generalize madeL r2 (madeN r2) = m at hN2 hok2 hss
  generalize madeD r2 (madeN r2) = E at hE hok2 hss
  obtain ⟨s1, s2, s3, s4⟩ := ok_sizes hok
  obtain ⟨t1, t2, t3, t4⟩ := ok_sizes hok2
  have hl4 := (okS_valid hok).len
  have hm4 := (okS_valid hok2).len
  have hbp := bound_plain hok hok2
  have hrs : same = true → rootP (l.zip D) = rootP (m.zip E) := fun h => by rw [(hss h).1, (hss h).2]
  have hls : same = true → l.length = m.length := fun h => by rw [(hss h).1]
  refine hwO4 ?_
  refine HL.one (H1.callx (vs := [_, _]) rfl rfl (fun w' hM => linRoot_fn s1 s2 s3 s4 w' (hG2.ext hM.ext) (hN.ext hM.ext) (hD.ext hM.ext)) ?_)
  rw [if_pos hok]
  refine hwO4 ?_
  refine HL.one (H1.callx (vs := [_, _]) rfl rfl (fun w' hM => linRoot_fn t1 t2 t3 t4 w' (hG2.ext hM.ext) (hN2.ext hM.ext) (hE.ext hM.ext)) ?_)
  rw [if_pos hok2]
  generalize rootP (l.zip D) = ra at hbp hrs
  generalize rootP (m.zip E) = rb at hbp hrs
  obtain ⟨al, cl, rfl, -⟩ := id hN.shape
  obtain ⟨am, cm, rfl, -⟩ := id hN2.shape
  by_cases hr : ra = rb
  rotate_left
  · have hsf : same = false := by
      cases same with
      | true => exact absurd (hrs rfl) hr
      | false => rfl
    have hr' : (decide ¬ ra = rb) = true := by simp [hr]
    subst hsf
    refine hwO4 ?_
    exact HX.ret1 rfl rfl fun w' hM => ⟨rfl, hxx.trans hM.ext⟩
  have hr' : (decide ¬ ra = rb) = false := by simp [hr]
  by_cases hlm : l.length = m.length
  rotate_left
  · have hsf : same = false := by
      cases same with
      | true => exact absurd (hls rfl) hlm
      | false => rfl
    have hlm' : (decide ¬ ((l.length : Nat) : Int) = (m.length : Int)) = true := decide_eq_true (by omega)
    subst hsf
    refine hwO4 ?_
    exact HX.ret1 rfl rfl fun w' hM => ⟨rfl, hxx.trans hM.ext⟩
  have hlm' : (decide ¬ ((l.length : Nat) : Int) = (m.length : Int)) = false := decide_eq_false (by omega)
  have hbb := hbp hlm hr
  obtain ⟨L, hL⟩ : ∃ L, L = (l.zip D).map leafP := ⟨_, rfl⟩
  obtain ⟨M, hM2⟩ : ∃ M, M = (m.zip E).map leafP := ⟨_, rfl⟩
  have hLs := leafs_size hok
  have hMs := leafs_size hok2
  rw [← hL] at hbb hLs
  rw [← hM2] at hbb hMs
  have hLl : L.length ≤ 400 := by rw [hL, List.length_map, List.length_zip]; omega
  have hMl : M.length ≤ 400 := by rw [hM2, List.length_map, List.length_zip]; omega
  have hbL := hashL_bound L
  have hbM := hashL_bound M
  have hzL := hashL_size (B := 2001) (by decide) _ L rfl (fun s hs => by have := hLs s hs; omega)
  have hzM := hashL_size (B := 2001) (by decide) _ M rfl (fun s hs => by have := hMs s hs; omega)
  clear hbp hrs hls hss
  refine hwO4 ?_
  refine HL.one (H1.callz (vs := [_, _]) rfl rfl (fun w' hM => leavesL_fn hok hL w' (hN.ext hM.ext) (hD.ext hM.ext)) ?_)
  rintro ⟨a1, c1⟩ -
  dsimp only
  refine hwO4 ?_
  refine HL.one (H1.callz (vs := [_, _]) rfl rfl (fun w' hM => leavesL_fn hok2 hM2 w' (hN2.ext hM.ext) (hE.ext hM.ext)) ?_)
  rintro ⟨a2, c2⟩ -
  dsimp only
  refine hwO4 ?_
  refine HL.one (H1.callx (vs := [_, _]) rfl rfl (fun w' hM => sameNodes_fn s1 s2 w' (hN.ext hM.ext) (hN2.ext hM.ext)) ?_)
  cases heq : (eqNs l m && decide (D = E)) with
  | true =>
    have h1 := (Bool.and_eq_true_iff.1 heq).1
    have h2 := (Bool.and_eq_true_iff.1 heq).2
    rw [h1]
    refine hwO4 ?_
    refine HL.one (H1.callx (vs := [_, _]) rfl rfl (fun w' hM => sameTexts_fn _ _ D E s3 w' (hD.ext hM.ext) (hE.ext hM.ext)) ?_)
    rw [h2]
    refine hwO4 ?_
    exact HX.ret1 rfl rfl fun w' hM => ⟨rfl, hxx.trans hM.ext⟩
  | false =>
    have hcol : colB (hashL L) (hashL M) = true := by
      rcases hbb with h | h
      · rw [h] at heq; cases heq
      · exact h
    refine hnO4 ?_
    refine HL.cut (α := Unit) (fun _ => [(7, .bool true), (16, .slice a1 L.length c1), (18, .slice a2 M.length c2), (20, .bool false)]) (fun _ => [A.grow 9 1 a1 c1 L.length (strs L), A.grow 9 1 a2 c2 M.length (strs M)]) (fun _ => True) ?_ ?_
    · cases h1 : eqNs l m with
      | false =>
        refine hwO4 ?_
        exact HX.cut () trivial esA (by repeat (first | exact Hs.nil _ | (refine Hs.cons pickA ?_)))
      | true =>
        rw [h1, Bool.true_and] at heq
        refine hwO4 ?_
        refine HL.one (H1.callx (vs := [_, _]) rfl rfl (fun w' hM => sameTexts_fn _ _ D E s3 w' (hD.ext hM.ext) (hE.ext hM.ext)) ?_)
        rw [heq]
        refine hwO4 ?_
        exact HX.cut () trivial esA (by repeat (first | exact Hs.nil _ | (refine Hs.cons pickA ?_)))
    rintro - -
    refine hwO4 ?_
    refine HL.one (H1.callz (vs := [_]) rfl rfl (fun w' hM => hashed02_fn _ L a1 c1 rfl (by omega) (fun s hs => by have := hLs s hs; omega) w' (hM.gr (a := a1) (c := c1) memA)) ?_)
    rintro ⟨a3, c3⟩ -
    dsimp only
    refine hwO4 ?_
    refine HL.one (H1.callz (vs := [_]) rfl rfl (fun w' hM => hashed02_fn _ M a2 c2 rfl (by omega) (fun s hs => by have := hMs s hs; omega) w' (hM.gr (a := a2) (c := c2) memA)) ?_)
    rintro ⟨a4, c4⟩ -
    dsimp only
    refine hwO4 ?_
    refine HL.one (H1.callx (vs := [_, _]) rfl rfl (fun w' hM => collided02_fn _ _ (hashL L) (hashL M) (by omega) (by omega) (fun s hs => by have := hzL s hs; omega) (fun s hs => by have := hzM s hs; omega) w' (hM.gr (a := a3) (c := c3) memA) (hM.gr (a := a4) (c := c4) memA)) ?_)
    rw [hcol]
    refine hwO4 ?_
    exact HX.ret1 rfl rfl fun w' hM => ⟨rfl, hxx.trans hM.ext⟩
end Go.Sx
/- From a function's contract to a row's statement: arguments that are numbers, arrays of numbers, slices of arrays of numbers, records. -/
namespace Go.Sx
open Go Go.ChangeShapes Go.WideShapes Go.ChangeAt Go.RowKit
section
variable {H : Type} {enc : TypeId × Value → H} {P : Program} {w : World} {b : Nat} {sp : Nat → Bool} {hd : Bool}
theorem args_cons {t : TypeId} {ts : List TypeId} {vs : List Value} {ds : List (DataW H)} {ps : List MemPlace} (h : DataW.TrodAll enc P w b sp hd (t :: ts) vs ds ps) :
    ∃ v vs' d ds' p q, vs = v :: vs' ∧ ds = d :: ds' ∧ ps = p ++ q ∧ DataW.Trod enc P w b sp hd t v d p ∧ DataW.TrodAll enc P w b sp hd ts vs' ds' q := by
  cases vs with
  | nil => exact h.elim
  | cons v vs =>
    cases ds with
    | nil => exact h.elim
    | cons d ds =>
      obtain ⟨p, q, h1, h2, h3⟩ := h
      exact ⟨v, vs, d, ds, p, q, rfl, rfl, h3, h1, h2⟩
theorem args_nil {vs : List Value} {ds : List (DataW H)} {ps : List MemPlace} (h : DataW.TrodAll enc P w b sp hd [] vs ds ps) : vs = [] ∧ ds = [] ∧ ps = [] := by
  cases vs with
  | cons v vs => exact h.elim
  | nil => cases ds with
    | cons d ds => exact h.elim
    | nil => exact ⟨rfl, rfl, h⟩
theorem trodAll_ext (hl : laidOutB P = true) {W W' : World} (hx : Below W.heap.size W W') : ∀ {ts : List TypeId} {vs : List Value} {ds : List (DataW H)} {ps : List MemPlace}, (ts.all fun t => P.readableRec t && decide (t < P.types.size)) = true →
    DataW.TrodAll enc P W 0 (fun _ => true) true ts vs ds ps → (∀ p ∈ ps, p.block < W.heap.size) → ∀ sp : Nat → Bool, (∀ p ∈ ps, sp p.block = true) → DataW.TrodAll enc P W' 0 sp true ts vs ds ps
  | [], [], [], _, _, h, _, _, _ => h
  | [], [], _ :: _, _, _, h, _, _, _ => h.elim
  | [], _ :: _, _, _, _, h, _, _, _ => h.elim
  | _ :: _, [], _, _, _, h, _, _, _ => h.elim
  | _ :: _, _ :: _, [], _, _, h, _, _, _ => h.elim
  | t :: ts, v :: vs, d :: ds, ps, ht, h, hlt, sp, hsp => by
    obtain ⟨p, q, h1, h2, rfl⟩ := h
    simp only [List.all_cons, Bool.and_eq_true, decide_eq_true_eq] at ht
    refine ⟨p, q, ?_, trodAll_ext hl hx ht.2 h2 (fun x hx => hlt x (by simp [hx])) sp (fun x hx => hsp x (by simp [hx])), rfl⟩
    exact WideElems.Trod_stays hl ht.1.1 ht.1.2 h1 (fun x hx' => hx.same (hlt x (by simp [hx']))) (fun x hx' => hsp x (by simp [hx']))
end
end Go.Sx
namespace Go.Sx
open Go Go.Proofs Go.ChangeShapes Go.WideShapes Go.ChangeAt Go.RowKit
theorem ints_rowK (f : Nat → Int) (n : Nat) : ints ((List.range n).map f) = row n fun q => zv (f q) := by
  unfold ints row
  rw [List.map_map]; rfl
/-- The call has laid new blocks, and turned no old one. -/
theorem post_ext {H : Type} {enc : TypeId × Value → H} {P : Program} {f : Func} {s : ChangeSpec} {apart fresh handsOn again : Bool} {W W' : World} {args : Array Value} {v : Value} {ds gs : List (DataW H)} {before pa pv : List MemPlace} (hx : Ext W W')
    (hW : DataW.Whole enc P f.params.toList s.vars apart W args.toList ds gs before)
    (hres : ∀ (b : Nat) (sp : Nat → Bool) (hd : Bool), DataW.TrodAll enc P W' b sp hd f.resultTypes.toList (v.resultList f.resultTypes.size) (s.fn H (ds ++ gs)).results [])
    (hargs : ∀ sp : Nat → Bool, (∀ p ∈ before, sp p.block = true) → DataW.TrodAll enc P W' 0 sp true f.params.toList args.toList (s.fn H (ds ++ gs)).args pa)
    (hvars : ∀ sp : Nat → Bool, (∀ p ∈ before, sp p.block = true) → DataW.TrodVars enc P W' sp s.vars (s.fn H (ds ++ gs)).vars pv)
    (hps : before = pa ++ pv)
    (hok : ∀ (j : Nat) (t : TypeId) (r : Value), f.resultTypes[j]? = some t → (v.resultList f.resultTypes.size)[j]? = some r → Value.okWide P W' .any 0 t r) :
    s.post enc P f apart fresh handsOn again W args v W' := by
  have hlt : ∀ p ∈ before, p.block < W.heap.size := fun p hp => hW.lt p hp
  have hold : ∀ p ∈ before, (fun b => decide (b < W.heap.size)) p.block = true := fun p hp => by simpa using hW.lt p hp
  refine ⟨ds, gs, before, [], pa, pv, hW, hres _ _ _, hargs _ hold, hvars _ hold, (World.keptBut_refl W _).congr hx.os hx.output hx.block, fun _ => ?_⟩
  obtain ⟨_, _, _, _, _, hz, hn⟩ := hW
  refine ⟨hok, _, _, ([] ++ pa) ++ pv, ⟨[] ++ pa, pv, trodAll_append (hargs _ (fun _ _ => rfl)) (hres _ _ _), hvars _ (fun _ _ => rfl), rfl, ?_, ?_⟩, ?_⟩
  · intro b off hp
    have hp' : MemPlace.cell b off ∈ before := by rw [hps]; simpa using hp
    rw [World.frozen?_of_block (hx.block b (hlt _ hp'))]
    exact hz b off hp'
  · intro ha
    have := hn ha
    rw [hps] at this
    simpa using this
  · intro p hp _
    rw [hps]
    simpa using hp
theorem i64_of {x : Int} (h : (Lit.int .i64 x).wf = true) : i64W x := by
  simp only [Lit.wf, Bool.and_eq_true, decide_eq_true_eq] at h
  have e1 : IntKind.i64.min = -9223372036854775808 := rfl
  have e2 : IntKind.i64.max = 9223372036854775807 := rfl
  rw [e1, e2] at h
  exact h
theorem ownK : ownKnob Tryz.prog.godebug = none := by kernel_rfl
section
variable {H : Type} {enc : TypeId × Value → H} {P : Program} {W : World} {r : Reach} {b0 b : Nat} {sp : Nat → Bool} {hd : Bool} {v : Value} {d : DataW H} {p : List MemPlace}
theorem spot_none {W : World} {a : Addr} {v : Value} (h : W.cell? a = some v) : a = ⟨a.block, a.off, none⟩ ∧ a.block < W.heap.size := by
  unfold World.cell? at h
  split at h
  · rename_i c e f hc
    split at h
    · cases h
    · rename_i hs
      refine ⟨?_, (Array.getElem?_eq_some_iff.1 hc).1⟩
      cases a with
      | mk b o s => cases s <;> simp_all
  · cases h
def cellInt (W : World) (a : Addr) : Int := match W.cell? a with | some (.int _ z) => z | _ => 0

/-- All cells of a type are numbers. -/
def intCellsB (P : Program) : Nat → TypeId → Bool
  | 0, _ => false
  | n + 1, t => match P.underlying t with
    | some (.int .i64) => Nat.beq (P.cellsOf t) 1
    | some (.array k e) => intCellsB P n e && Nat.beq (P.cellsOf t) (k * P.cellsOf e) && Nat.ble 1 (P.cellsOf e)
    | some (.struct fs) => (fs.toList.all fun f => intCellsB P n f.type) && (List.range (P.cellsOf t)).all fun j => (List.range fs.size).any fun i => match fs[i]? with | some f => Nat.ble f.offset j && Nat.blt j (f.offset + P.cellsOf f.type) | none => false
    | _ => false
theorem intCells : ∀ (n : Nat) (t : TypeId) (cs : List Value) (fuel : Nat) (x : DataW H × List MemPlace), intCellsB P n t = true → DataW.trod enc P W b sp hd fuel t cs = some x → cs.length = P.cellsOf t ∧ ∀ j, j < cs.length → ∃ z, cs[j]? = some (zv z) ∧ i64W z := by
  intro n
  induction n with
  | zero => intro t cs fuel x h; cases h
  | succ n ih =>
    intro t cs fuel x h hf
    simp only [intCellsB] at h
    split at h
    · rename_i ht
      have h1 : P.cellsOf t = 1 := Nat.eq_of_beq_eq_true h
      obtain ⟨z, e, -, hw⟩ := DataW.trod_int ht hf
      subst e
      refine ⟨by rw [h1]; rfl, fun j hj => ?_⟩
      have : j = 0 := by simpa using hj
      subst this
      exact ⟨z, rfl, i64_of hw⟩
    · rename_i k e ht
      rw [Bool.and_eq_true, Bool.and_eq_true] at h
      obtain ⟨⟨h1, h2⟩, h3⟩ := h
      have h2' : P.cellsOf t = k * P.cellsOf e := Nat.eq_of_beq_eq_true h2
      have h3' : 1 ≤ P.cellsOf e := Nat.le_of_ble_eq_true h3
      obtain ⟨xs, m, -, -, hl, hxl, hel⟩ := DataW.trod_array ht hf
      refine ⟨hl, fun j hj => ?_⟩
      rw [h2'] at hl
      have hi : j / P.cellsOf e < k := by
        rw [Nat.div_lt_iff_lt_mul h3']; omega
      have h4 := hel (j / P.cellsOf e) hi
      rw [List.getElem?_eq_getElem (by omega)] at h4
      obtain ⟨hlen, hz⟩ := ih e _ _ _ h1 h4
      have hm := Nat.mod_lt j h3'
      obtain ⟨z, hz, hw⟩ := hz (j % P.cellsOf e) (by rw [hlen]; exact hm)
      refine ⟨z, ?_, hw⟩
      rw [List.getElem?_take, if_pos hm, List.getElem?_drop] at hz
      rw [← hz]
      congr 1
      have := Nat.div_add_mod j (P.cellsOf e)
      rw [Nat.mul_comm] at this
      omega
    · rename_i fs ht
      rw [Bool.and_eq_true, List.all_eq_true, List.all_eq_true] at h
      obtain ⟨h1, h2⟩ := h
      obtain ⟨xs, m, -, -, hl, hxl, hel⟩ := DataW.trod_struct ht hf
      refine ⟨hl, fun j hj => ?_⟩
      have h3 := h2 j (List.mem_range.2 (by omega))
      rw [List.any_eq_true] at h3
      obtain ⟨i, hi, h4⟩ := h3
      have hi' := List.mem_range.1 hi
      cases hfi : fs[i]? with
      | none => rw [hfi] at h4; cases h4
      | some f =>
        rw [hfi] at h4
        simp only [Bool.and_eq_true] at h4
        have h5 : f.offset ≤ j := Nat.le_of_ble_eq_true h4.1
        have h6 : j < f.offset + P.cellsOf f.type := by simpa [Nat.blt_eq] using h4.2
        have h7 := hel i f hfi
        rw [List.getElem?_eq_getElem (by omega)] at h7
        have hmem : f ∈ fs.toList := by
          rw [← Array.getElem?_toList] at hfi
          exact List.mem_of_getElem? hfi
        obtain ⟨hlen, hz⟩ := ih f.type _ _ _ (h1 f hmem) h7
        obtain ⟨z, hz, hw⟩ := hz (j - f.offset) (by rw [hlen]; omega)
        refine ⟨z, ?_, hw⟩
        rw [List.getElem?_take, if_pos (by omega), List.getElem?_drop, show f.offset + (j - f.offset) = j by omega] at hz
        exact hz
    · cases h
/-- A row of numbers. -/
theorem intRow {n : Nat} {t : TypeId} {cs : List Value} {fuel : Nat} {x : DataW H × List MemPlace} (h : intCellsB P n t = true) (hf : DataW.trod enc P W b sp hd fuel t cs = some x) : ∃ zs : List Int, cs = ints zs ∧ zs.length = P.cellsOf t ∧ ∀ z ∈ zs, i64W z := by
  obtain ⟨hl, hz⟩ := intCells n t cs fuel x h hf
  have hch : ∃ g : Nat → Int, ∀ j, j < cs.length → cs[j]? = some (zv (g j)) ∧ i64W (g j) := by
    refine ⟨fun j => if h : j < cs.length then Classical.choose (hz j h) else 0, fun j hj => ?_⟩
    simp only [dif_pos hj]
    exact Classical.choose_spec (hz j hj)
  obtain ⟨g, hg⟩ := hch
  refine ⟨(List.range cs.length).map g, ?_, by simpa using hl, fun z hz => ?_⟩
  · rw [ints_rowK]
    apply List.ext_getElem?
    intro j
    by_cases hj : j < cs.length
    · rw [(hg j hj).1, row_get _ hj]
    · rw [List.getElem?_eq_none (by omega), List.getElem?_eq_none (by rw [row_len]; omega)]
  · obtain ⟨j, hj, rfl⟩ := List.mem_map.1 hz
    exact (hg j (List.mem_range.1 hj)).2
/-- A slice of structs (or arrays) of numbers, read in place: one cell. -/
theorem sl_rows {t e n fuel sz : Nat} {x : DataW H × List MemPlace} (ht : P.underlying t = some (.slice e)) (he : intCellsB P n e = true) (hce : P.cellsOf e = sz) (hsz : 0 < sz) (hf : DataW.trod enc P W b sp hd fuel t [v] = some x) :
    ∃ rows : List (List Int), (∃ (a : Option Addr) (c : Nat), v = .slice a rows.length c ∧ rows.length ≤ c ∧ (rows = [] ∨ ∃ b off, a = some ⟨b, off, none⟩ ∧ b < W.heap.size ∧ ∀ i rw j u, (rows.map ints)[i]? = some rw → rw[j]? = some u → W.cell? ⟨b, off + i * sz + j, none⟩ = some u)) ∧ (∀ r ∈ rows, r.length = sz ∧ ∀ z ∈ r, i64W z) ∧ rows.length ≤ maxLen := by
  rcases DataW.trod_slice ht hf with ⟨h0, -⟩ | ⟨a', n', c, elems, rest, m, -, hcs, -, hb, hlc, hm, hlen, hel, -, -⟩
  · cases h0
    exact ⟨[], ⟨_, _, rfl, Nat.le_refl _, .inl rfl⟩, by simp, Nat.zero_le _⟩
  · cases hcs
    have key : ∀ q, q < n' → ∃ zs : List Int, zs.length = sz ∧ (∀ z ∈ zs, i64W z) ∧ ∀ j u, (ints zs)[j]? = some u → W.cell? ((a'.add (q * sz)).add j) = some u := fun q hq => by
      have h1 := hel q hq
      rw [hce, List.getElem?_eq_getElem (by omega)] at h1
      cases hcl : W.cells? b (a'.add (q * sz)) sz with
      | none => rw [hcl] at h1; cases h1
      | some cs =>
        rw [hcl] at h1
        simp only [Option.bind_some] at h1
        obtain ⟨-, h5, h6⟩ := World.cells?_some hcl
        obtain ⟨zs, rfl, hl, hz⟩ := intRow he h1
        refine ⟨zs, by rw [hl, hce], hz, fun j u hu => ?_⟩
        have hj : j < sz := by
          have := (List.getElem?_eq_some_iff.1 hu).1
          rw [ints_len, hl, hce] at this; exact this
        rw [h6 j hj]; exact hu
    by_cases hn0 : n' = 0
    · subst hn0
      exact ⟨[], ⟨_, _, rfl, Nat.zero_le _, .inl rfl⟩, by simp, Nat.zero_le _⟩
    · have hch : ∃ Z : Nat → List Int, ∀ q, q < n' → (Z q).length = sz ∧ (∀ z ∈ Z q, i64W z) ∧ ∀ j u, (ints (Z q))[j]? = some u → W.cell? ((a'.add (q * sz)).add j) = some u := by
        refine ⟨fun q => if h : q < n' then Classical.choose (key q h) else [], fun q hq => ?_⟩
        simp only [dif_pos hq]
        exact Classical.choose_spec (key q hq)
      obtain ⟨Z, hZ⟩ := hch
      have h0 := hZ 0 (by omega)
      have hz0 := h0.2.2 0 _ (ints_get (by rw [h0.1]; exact hsz))
      rw [Nat.zero_mul, show (a'.add 0).add 0 = a' by simp [Addr.add]] at hz0
      obtain ⟨ha, hblk⟩ := spot_none hz0
      have hadd : ∀ q j, (a'.add (q * sz)).add j = ⟨a'.block, a'.off + q * sz + j, none⟩ := fun q j => by rw [ha, add_lit, add_lit]
      refine ⟨(List.range n').map Z, ⟨some a', c, by simp, by simpa using hlc, .inr ⟨a'.block, a'.off, congrArg some ha, hblk, fun i rw' j u hi hu => ?_⟩⟩, fun r hr => ?_, by simpa using (by omega : n' ≤ maxLen)⟩
      · rw [List.getElem?_map, List.getElem?_map] at hi
        have hin : i < n' := by
          refine Classical.byContradiction fun hn => ?_
          rw [List.getElem?_eq_none (by rw [List.length_range]; omega)] at hi
          cases hi
        rw [List.getElem?_range hin] at hi
        simp only [Option.map_some, Option.some.injEq] at hi
        subst hi
        have := (hZ i hin).2.2 j u hu
        rwa [hadd] at this
      · obtain ⟨q, hq, rfl⟩ := List.mem_map.1 hr
        have := hZ q (List.mem_range.1 hq)
        exact ⟨this.1, this.2.1⟩
end
end Go.Sx
namespace Go.Sx
open Go Go.Proofs Go.ChangeShapes Go.WideShapes Go.ChangeAt Go.RowKit
section
variable {H : Type} {enc : TypeId × Value → H} {W : World} {r : Reach} {b0 b : Nat} {sp : Nat → Bool} {hd : Bool} {v : Value} {d : DataW H} {p : List MemPlace}
theorem open_boolK {t : TypeId} {P : Program} (ht : P.underlying t = some .bool) (hv : Value.okWide P W r b0 t v) : ∃ x : Bool, v = .bool x := by
  exact okWide_bool ht hv
set_option maxRecDepth 100000 in
theorem open_rowsK {t e sz : TypeId} (ht : Tryz.prog.underlying t = some (.slice e)) (hi : intCellsB Tryz.prog 3 e = true) (hc : Tryz.prog.cellsOf e = sz) (hsz : 0 < sz) (hv : Value.okWide Tryz.prog W r b0 t v) (h : DataW.Trod enc Tryz.prog W b sp hd t v d p) :
    ∃ rows : List (List Int), RdA sz W v rows ∧ (∀ r ∈ rows, r.length = sz ∧ ∀ z ∈ r, i64W z) ∧ rows.length ≤ maxLen := by
  obtain ⟨fuel, hf⟩ := h
  obtain ⟨a, n, c, rfl⟩ := okWide_slice ht hv
  have hcells : (Value.slice a n c).cells.toList = [Value.slice a n c] := rfl
  rw [hcells] at hf
  exact sl_rows ht hi hc hsz hf
end
end Go.Sx
/- Chapter 24: the laid variables. -/
namespace Go.Sx
open Go Go.Proofs Go.ChangeShapes Go.WideShapes Go.ChangeAt Go.RowKit
def kZ : List Int := kL.map fun x => ((x.toNat : Nat) : Int)
theorem kZ_data : (YtehehfcmanccjaaGreatDoor.Rows.laid_evergreen_digest_round : DataW Unit) = Lib.tabData .u32 kZ := by kernel_rfl
def laid1 : List (String × DataW Unit) := [("evergreen/digest.round", YtehehfcmanccjaaGreatDoor.Rows.laid_evergreen_digest_round)]
theorem laid1_plain {W : World} (h : laidMetH Tryz.prog laid1 W) : laidMet Tryz.prog laid1 W := by
  rwa [MakeChecks.laidMetH_plain _ _ _ (by kernel_rfl)] at h
theorem round_of_laid1 {W : World} (h : laidMetH Tryz.prog laid1 W) : RoundG W := by
  have h1 := laid1_plain h
  have h2 : laidMet Tryz.prog (("evergreen/digest.round", Lib.tabData .u32 kZ) :: []) W := by
    rw [← kZ_data]; exact h1
  have hT := Lib.tabIs_of_head (g := 0) (by kernel_rfl) (by kernel_rfl) Tryz.underlying222 Tryz.underlying114 (by kernel_rfl) (by kernel_rfl) h2
  intro i v hv
  have hlen : kZ.length = 64 := by kernel_rfl
  have hi : i < 64 := by
    have := (List.getElem?_eq_some_iff.1 hv).1
    unfold ws at this
    rw [List.length_map] at this
    exact this
  have hc := hT.cell (g := 0) (by kernel_rfl) i (by rw [hlen]; exact hi)
  rw [hc]
  unfold ws at hv
  rw [List.getElem?_map, List.getElem?_eq_getElem (by exact hi)] at hv
  rw [← hv]
  have hk : i < kL.length := hi
  have : kZ.getD i 0 = ((kL[i].toNat : Nat) : Int) := by unfold kZ; simp [hk]
  rw [this]; rfl
end Go.Sx
