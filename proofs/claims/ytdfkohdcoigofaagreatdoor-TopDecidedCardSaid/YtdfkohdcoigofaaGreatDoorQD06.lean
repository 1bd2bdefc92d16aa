/- Chapter 21: numbers, sorted, each once: slices.Sort, slices.Compact; a range over those that satisfy a condition. -/
import Derived.Test.YtdfkohdcoigofaaGreatDoorQD05
import Derived.Lib.Join
import Derived.Lib.TrimByte
import Derived.KernelRfl
import Derived.Shelf.GgClosure.StringsIndexFuncTop
import Derived.Ground.GgwProg
import Derived.Ground.NamesProg
import Derived.Test.YtdfkohdcoigofaaGreatDoorProg
import Derived.Laws.IdiomCopy
import Derived.Laws.RangeString
import Derived.Lib.SlTrimSet
namespace Go.Sx
open Go Go.Proofs Go.RowKit
theorem hwXU {G G2 : Prop} (x : G2) (hwq : Hold G2 → G := by
    intro hQq
    repeat' (first | apply HL.fold | apply HA.fold | apply HL.nil | apply HX.n_then | apply HC.seq | apply HC.region | refine HL.pa ?_ | refine HL.ga rfl ?_ | refine HL.na rfl ?_ | refine HL.nu rfl rfl ?_ | apply HC.block | apply HC.skip | apply HC.exit | apply HC.ret | apply HX.e_block | refine HX.e_other rfl ?_ | apply HX.e_then | apply HX.e_again | apply HX.n_block | apply HX.r_then | apply HX.r_block | apply HX.r_again | refine HC.cond_yes rfl ?_ | refine HC.cond_no rfl ?_ | refine HL.one (H1.ldb rfl memA rfl rfl ?_) | refine HC.cond rfl (fun hc => ?_) (fun hc => ?_) | refine HC.cond_b rfl (fun hc => ?_) (fun hc => ?_))
    exact hQq.get) : G := hwq ⟨x⟩
section
variable {P : Program} {N : Nat} {E : Env} {w0 : World} {H H' : List Atom}
theorem run_loadVar1 {w : World} {t : TypeId} {a : Addr} {v : Value} [ha : ATy P t false] (hc : w.cell? a = some v) : (loadVar t a).run P w = .ok v w := by
  simp only [loadVar, Sem.run_bind]
  simp [run_isAgg, hc, Result.andThen]
/-- A result that is a variable's own cell, behind a range over a function. -/
theorem HX.retMc1 {fn : Func} {p b D : Nat} {ty e : TypeId} {v : Value} {R : Value → World → Prop} [ha : ATy P ty false] (hr : fn.results = #[.cell p ty]) (hp : Env.g E p = some (.pointer (some ⟨b, 0, none⟩)))
    (hm : Pick (A.dfr D) H H') (hb : A.blk b [v] e ∈ H') (h : ∀ w, Mm w0 H' w → R v w) : HX N [markOf D] .ret (bodyPostM Fence.wide 0 P fn (RetP R)) E w0 H := fun w hM a ha' => by
  have hpm := hM.perm hm.perm
  obtain ⟨o, hD, rfl⟩ : ∃ o, w.heap[D]? = some o ∧ o = .deferred (some []) := hpm.all (A.dfr D) (List.Mem.head _)
  simp only [bodyPostM, ha'.defers]
  refine ⟨by simp, .inl ⟨D, _, rfl, run_takeDeferred hD, ?_⟩⟩
  have hM2 := hpm.drop1 (l := D) rfl (Upd1.put w D (.deferred none))
  have e1 : a.tmps.getD p undef = .pointer (some ⟨b, 0, none⟩) := by rw [Array.getD_eq_getD_getElem?, ha'.get _ _ hp]; rfl
  have e1' : a.tmps[p]?.getD undef = .pointer (some ⟨b, 0, none⟩) := by simpa using e1
  refine ⟨_, ?_, _, rfl, h _ hM2⟩
  have := run_loadVar1 (P := P) (t := ty) ((hM2.blk hb).cell (i := 0) rfl)
  simp [results, hr, e1', asAddr, this]
end
attribute [local irreducible] WC WL WX POp Then Again Fn NX W1 WA WO QL RP RA Yld LoopAt HC HL HX HN H1 HA HO HQ HB HP A.blk A.grow A.rd A.obj A.mp AgainH CutH
attribute [local irreducible] A.dfr A.loop
theorem those_fn (a : Option Addr) (n c : Nat) (f : FuncId) (pre cap : List Value) (w : World) : Fn Tryz.prog 56 #[.slice a n c, .func (.func f) pre.toArray cap.toArray] w fun v w' => ∃ z : Nat × Nat, True ∧ v = .func (.func 114) #[] #[.pointer (some ⟨z.1, 0, none⟩), .pointer (some ⟨z.2, 0, none⟩)] ∧
    Mm w [A.blk z.2 [.func (.func f) pre.toArray cap.toArray] 126, A.blk z.1 [.slice a n c] 27] w' := by
  refine enterH (l := [_, _]) rfl Tryz.ntmps56 rfl ?_
  refine hwXU ?_
  refine HL.one (H1.box rfl rfl rfl (fun b2 => ?_))
  refine hwXU ?_
  refine HL.one (H1.box rfl rfl rfl (fun b3 => ?_))
  refine hwXU ?_
  exact HX.ret1 rfl rfl fun w' hM => ⟨(b2, b3), trivial, rfl, hM⟩
theorem those1_fn {w0 : World} {β : Type} {G : List Rc → β → List Atom} {l b2 b3 : Nat} {L : List Rc} {p : Rc → Bool} {a : Option Addr} {c : Nat} {fv : Value} (hl : L.length ≤ 1000000) (hR : RdR w0 (.slice a L.length c) L) (hp : Pr Tryz.prog w0 fv L p)
    (h2 : w0.cell? ⟨b2, 0, none⟩ = some (.slice a L.length c)) (h3 : w0.cell? ⟨b3, 0, none⟩ = some fv)
    (hy : ∀ (F : List Rc) (r : Rc) (x : β), r ∈ L → F.length < L.length → ∀ w, Mm w0 (G F x) w → Yld Tryz.prog l [recV r] w fun b w' => b = true ∧ ∃ x' : β, True ∧ Mm w0 (G (F ++ [r]) x') w') (x0 : β) :
    ∀ w, Mm w0 (G [] x0) w → Fn Tryz.prog 114 (.func (.yield l) #[] #[] :: [.pointer (some ⟨b2, 0, none⟩), .pointer (some ⟨b3, 0, none⟩)]).toArray w fun _ w' => ∃ x : β, True ∧ Mm w0 (G (L.filter p) x) w' := by
  intro w hM
  refine enterK (l := [_, _, _]) hM rfl Tryz.ntmps114 rfl ?_
  refine hwXU ?_
  refine HL.one (H1.ld0 rfl h2 rfl ?_)
  refine hwXU ?_
  refine HC.loop (α := Nat × β) (fun z => [(0, .func (.yield l) #[] #[]), (2, .pointer (some ⟨b3, 0, none⟩)), (6, .slice a L.length c), (7, zv (L.length : Int)), (8, zv (z.1 : Int))]) (fun z => G ((L.take z.1).filter p) z.2)
    (fun z => z.1 ≤ L.length) (fun z => L.length - z.1) (0, x0) (Nat.zero_le _) esA (Hs.refl _) ?_
  rintro ⟨j, x⟩ hj
  dsimp only at hj ⊢
  by_cases hlt : j < L.length
  rotate_left
  · obtain rfl : j = L.length := by omega
    rw [List.take_length]
    refine hwXU ?_
    exact HX.end0 rfl fun w' hM => ⟨x, trivial, hM⟩
  obtain ⟨r, hr⟩ : ∃ r, L[j]? = some r := ⟨_, List.getElem?_eq_getElem hlt⟩
  have hrm := List.mem_of_getElem? hr
  have htk : (L.take (j + 1)).filter p = (L.take j).filter p ++ (if p r = true then [r] else []) := by
    rw [List.take_add_one, hr, List.filter_append]
    congr 1
    show [r].filter p = _
    rw [List.filter_cons, List.filter_nil]
  have hfl : ((L.take j).filter p).length < L.length := by
    have h1 := List.length_filter_le p (L.take j)
    rw [List.length_take] at h1
    omega
  obtain ⟨bl, off, rfl, -, hcell⟩ := hR.at (fun e => by rw [e] at hlt; exact absurd hlt (Nat.not_lt_zero _))
  have hcl := hcell j r hr
  clear hcell
  refine hwXU ?_
  refine HL.one (H1.ldAggw (vs := rcells r) rfl rfl (fun w' hM i v hv => cell_ext hM.ext (hcl i v hv)) rfl ?_)
  refine hwXU ?_
  refine HL.one (H1.alloc (cs := rcells rcZ) rfl rfl (fun b5 => ?_))
  refine hwXU ?_
  refine HL.one (H1.stAgg (cs := rcells rcZ) (vs := rcells r) rfl rfl rfl (rcells_one r) Rpl.here rfl ?_)
  refine hwXU ?_
  refine HL.one (H1.ld0 rfl h3 rfl ?_)
  refine hwXU ?_
  refine HL.one (H1.ldAgg (vs := rcells r) rfl (.head _) rfl (fun i v hv => by rw [Nat.zero_add]; exact hv) rfl ?_)
  refine hwXU ?_
  refine HL.one (H1.callpr (y := .tmp 13) (fun w' hM => hp.ext hM.ext) hrm rfl rfl rfl ?_)
  cases hpr : p r
  · rw [hpr, if_neg Bool.false_ne_true, List.append_nil] at htk
    rw [← htk]
    refine hwXU ?_
    exact HX.again (j + 1, x) hlt (by show L.length - (j + 1) < L.length - j; omega) esA (Hs.refl _).skip
  · rw [hpr, if_pos rfl] at htk
    refine hwXU ?_
    refine HL.one (H1.ldAgg (vs := rcells r) rfl (.head _) rfl (fun i v hv => by rw [Nat.zero_add]; exact hv) rfl ?_)
    refine hwXU ?_
    refine HL.one (H1.yield (α := β) (Hz := fun x' => G ((L.take j).filter p ++ [r]) x') (I := fun _ => True) (vs := [recV r]) rfl rfl rfl (fun w' hM => hy _ r x hrm hfl w' hM.tail) ?_)
    intro x' _
    rw [← htk]
    refine hwXU ?_
    exact HX.again (j + 1, x') hlt (by show L.length - (j + 1) < L.length - j; omega) esA (Hs.refl _)
set_option maxHeartbeats 1000000 in
theorem numbers_fn (f : Rc → Int) (g : FuncId) (hg : CallOk Tryz.prog g) (hgf : ∀ r w, Fn Tryz.prog g #[recV r] w fun v w' => v = zv (f r) ∧ Ext w w') {L : List Rc} {p : Rc → Bool} {a : Option Addr} {c b2 b3 : Nat} {fv : Value} (w : World) (hl : L.length ≤ 1000000) (hR : RdR w (.slice a L.length c) L) (hp : Pr Tryz.prog w fv L p)
    (h2 : w.cell? ⟨b2, 0, none⟩ = some (.slice a L.length c)) (h3 : w.cell? ⟨b3, 0, none⟩ = some fv) :
    Fn Tryz.prog 55 #[.func (.func 114) #[] #[.pointer (some ⟨b2, 0, none⟩), .pointer (some ⟨b3, 0, none⟩)], fnV g] w fun v w' => ∃ z : Option Addr × Nat, True ∧ v = .slice z.1 (numL ((L.filter p).map f)).length z.2 ∧ Mm w [A.grow 3 1 z.1 z.2 (numL ((L.filter p).map f)).length (ints (numL ((L.filter p).map f)))] w' := by
  refine enterMH (l := [_, _]) rfl Tryz.ntmps55 rfl ?_
  refine hwXU ?_
  refine HL.one (H1.box rfl rfl rfl (fun b3' => ?_))
  refine hwXU ?_
  refine HL.one (H1.alloc (cs := [.slice none 0 0]) rfl rfl (fun b4 => ?_))
  refine hwXU ?_
  refine HC.grow0 3 1 ?_
  refine HC.sub [(3, .pointer (some ⟨b3', 0, none⟩)), (4, .pointer (some ⟨b4, 0, none⟩)), (6, .func (.func 114) #[] #[.pointer (some ⟨b2, 0, none⟩), .pointer (some ⟨b3, 0, none⟩)])]
    [A.blk b3' [fnV g] 93, A.blk b4 [.slice none 0 0] 25, A.grow 3 1 none 0 0 []] ?_ esA (by repeat (first | exact Hs.nil _ | (refine Hs.cons pickA ?_)))
  refine HC.rangeFunc (α := Option Addr × Nat) (lb := [.pointer (some ⟨b2, 0, none⟩), .pointer (some ⟨b3, 0, none⟩)]) (fun q => [A.blk b3' [fnV g] 93, A.blk b4 [.slice q.1 ((L.filter p).map f).length q.2] 25, A.grow 3 1 q.1 q.2 ((L.filter p).map f).length (ints ((L.filter p).map f))]) (fun _ => True) rfl ?_ ?_
  · intro D l LL hL w1 hM1
    refine those1_fn (β := Option Addr × Nat) (G := fun F q => LL .ready none :: A.dfr D :: [A.blk b3' [fnV g] 93, A.blk b4 [.slice q.1 (F.map f).length q.2] 25, A.grow 3 1 q.1 q.2 (F.map f).length (ints (F.map f))]) hl hR hp h2 h3 ?_ (none, 0) w1 hM1
    rintro F r ⟨a1, c1⟩ hr hF
    have hmap : (F ++ [r]).map f = F.map f ++ [f r] := by rw [List.map_append]; rfl
    rw [hmap]
    have hFl : (F.map f).length + 1 ≤ 1000000 := by rw [List.length_map]; omega
    generalize F.map f = xs at hFl ⊢
    refine Yld.ofH hL memA rfl rfl ?_
    dsimp only [List.zip_cons_cons, List.zip_nil_right, putAll]
    refine hwXU ?_
    refine HL.one (H1.alloc (cs := rcells rcZ) rfl rfl (fun b5 => ?_))
    refine hwXU ?_
    refine HL.one (H1.stAgg (cs := rcells rcZ) (vs := rcells r) rfl rfl rfl (rcells_one r) Rpl.here rfl ?_)
    refine hwXU ?_
    refine HX.ra hL rplA ?_
    refine hwXU ?_
    refine HC.anyCR ([(⟨b3', 0, none⟩, fnV g)]) rfl ?_
    refine HB.ld 1 rfl rfl memD ?_
    refine HB.all (by repeat (first | exact Keep.nil | refine Keep.blk (by (repeat (first | exact List.Mem.head _ | apply List.Mem.tail)); done) rfl ?_ | refine Keep.grow (by (repeat (first | exact List.Mem.head _ | apply List.Mem.tail)); done) (by assumption) ?_ | refine Keep.base (by assumption) ?_)) [0, 2] (by kernel_rfl) rfl ⟨⟨_, rfl, ?_⟩, ⟨_, rfl, ?_⟩, trivial⟩
    · refine HP.one ?_
      refine H1.ldb (v := .slice a1 xs.length c1) (cs := [.slice a1 xs.length c1]) rfl memA rfl rfl ?_
      apply HB.fold
      refine HB.all (by repeat (first | exact Keep.nil | refine Keep.blk (by (repeat (first | exact List.Mem.head _ | apply List.Mem.tail)); done) rfl ?_ | refine Keep.grow (by (repeat (first | exact List.Mem.head _ | apply List.Mem.tail)); done) (by assumption) ?_ | refine Keep.base (by assumption) ?_)) [2] (by kernel_rfl) rfl ⟨⟨_, rfl, ?_⟩, trivial⟩
      refine HP.one ?_
      refine H1.ldAgg (vs := rcells r) rfl memA rfl (fun i v hv => by rw [Nat.zero_add]; exact hv) rfl ?_
      apply HB.fold
      refine HB.all (by repeat (first | exact Keep.nil | refine Keep.blk (by (repeat (first | exact List.Mem.head _ | apply List.Mem.tail)); done) rfl ?_ | refine Keep.grow (by (repeat (first | exact List.Mem.head _ | apply List.Mem.tail)); done) (by assumption) ?_ | refine Keep.base (by assumption) ?_)) [3] (by kernel_rfl) rfl ⟨⟨_, rfl, ?_⟩, trivial⟩
      refine HP.one ?_
      refine H1.callv0 (hf := hg) (f := g) (cap := []) (vs := [recV r]) rfl rfl rfl (fun w' _ => call1 (hgf r w')) ?_
      apply HB.fold
      refine HB.all (by repeat (first | exact Keep.nil | refine Keep.blk (by (repeat (first | exact List.Mem.head _ | apply List.Mem.tail)); done) rfl ?_ | refine Keep.grow (by (repeat (first | exact List.Mem.head _ | apply List.Mem.tail)); done) (by assumption) ?_ | refine Keep.base (by assumption) ?_)) [4] (by kernel_rfl) rfl ⟨⟨_, rfl, ?_⟩, trivial⟩
      refine HP.one ?_
      refine H1.lit (cs := [zv (f r)]) rfl rfl rfl rfl rfl rfl (fun b8 => ?_)
      apply HB.fold
      refine HB.all (by repeat (first | exact Keep.nil | refine Keep.blk (by (repeat (first | exact List.Mem.head _ | apply List.Mem.tail)); done) rfl ?_ | refine Keep.grow (by (repeat (first | exact List.Mem.head _ | apply List.Mem.tail)); done) (by assumption) ?_ | refine Keep.base (by assumption) ?_)) [5] (by kernel_rfl) rfl ⟨⟨_, rfl, ?_⟩, trivial⟩
      refine HP.one ?_
      refine H1.app1 (u := zv (f r)) rfl rfl (fun _ _ => by first | ((repeat (first | with_reducible exact Rpl.here | with_reducible apply Rpl.there)); done) | (repeat (first | exact Rpl.here | apply Rpl.there))) memA rfl rfl hFl rfl rfl (fun a' c' => ?_)
      apply HB.fold
      refine HB.all (by repeat (first | exact Keep.nil | refine Keep.blk (by (repeat (first | exact List.Mem.head _ | apply List.Mem.tail)); done) rfl ?_ | refine Keep.grow (by (repeat (first | exact List.Mem.head _ | apply List.Mem.tail)); done) (by assumption) ?_ | refine Keep.base (by assumption) ?_)) [6] (by kernel_rfl) rfl ⟨⟨_, rfl, ?_⟩, trivial⟩
      refine HP.one ?_
      refine H1.st (b := b4) rfl rfl (by intro _ h; cases h) (by intro _ h; cases h) rplA (by exact Nat.zero_lt_one) ?_
      apply HB.fold
      refine HB.done (by repeat (first | exact Keep.nil | refine Keep.blk (by (repeat (first | exact List.Mem.head _ | apply List.Mem.tail)); done) rfl ?_ | refine Keep.grow (by (repeat (first | exact List.Mem.head _ | apply List.Mem.tail)); done) (by assumption) ?_ | refine Keep.base (by assumption) ?_)) (by kernel_rfl) ?_
      refine hwXU ?_
      refine HX.rp_n hL rplA fun w' hM => ⟨rfl, (some ⟨a', 0, none⟩, c'), trivial, ?_⟩
      dsimp only
      rw [List.length_append, ints_app]
      exact hM.sub (by repeat (first | exact Hs.nil _ | (refine Hs.cons pickA ?_)))
    · refine HP.one ?_
      refine H1.ldAgg (vs := rcells r) rfl memA rfl (fun i v hv => by rw [Nat.zero_add]; exact hv) rfl ?_
      apply HB.fold
      refine HB.all (by repeat (first | exact Keep.nil | refine Keep.blk (by (repeat (first | exact List.Mem.head _ | apply List.Mem.tail)); done) rfl ?_ | refine Keep.grow (by (repeat (first | exact List.Mem.head _ | apply List.Mem.tail)); done) (by assumption) ?_ | refine Keep.base (by assumption) ?_)) [0, 3] (by kernel_rfl) rfl ⟨⟨_, rfl, ?_⟩, ⟨_, rfl, ?_⟩, trivial⟩
      · refine HP.one ?_
        refine H1.ldb (v := .slice a1 xs.length c1) (cs := [.slice a1 xs.length c1]) rfl memA rfl rfl ?_
        apply HB.fold
        refine HB.all (by repeat (first | exact Keep.nil | refine Keep.blk (by (repeat (first | exact List.Mem.head _ | apply List.Mem.tail)); done) rfl ?_ | refine Keep.grow (by (repeat (first | exact List.Mem.head _ | apply List.Mem.tail)); done) (by assumption) ?_ | refine Keep.base (by assumption) ?_)) [3] (by kernel_rfl) rfl ⟨⟨_, rfl, ?_⟩, trivial⟩
        refine HP.one ?_
        refine H1.callv0 (hf := hg) (f := g) (cap := []) (vs := [recV r]) rfl rfl rfl (fun w' _ => call1 (hgf r w')) ?_
        apply HB.fold
        refine HB.all (by repeat (first | exact Keep.nil | refine Keep.blk (by (repeat (first | exact List.Mem.head _ | apply List.Mem.tail)); done) rfl ?_ | refine Keep.grow (by (repeat (first | exact List.Mem.head _ | apply List.Mem.tail)); done) (by assumption) ?_ | refine Keep.base (by assumption) ?_)) [4] (by kernel_rfl) rfl ⟨⟨_, rfl, ?_⟩, trivial⟩
        refine HP.one ?_
        refine H1.lit (cs := [zv (f r)]) rfl rfl rfl rfl rfl rfl (fun b8 => ?_)
        apply HB.fold
        refine HB.all (by repeat (first | exact Keep.nil | refine Keep.blk (by (repeat (first | exact List.Mem.head _ | apply List.Mem.tail)); done) rfl ?_ | refine Keep.grow (by (repeat (first | exact List.Mem.head _ | apply List.Mem.tail)); done) (by assumption) ?_ | refine Keep.base (by assumption) ?_)) [5] (by kernel_rfl) rfl ⟨⟨_, rfl, ?_⟩, trivial⟩
        refine HP.one ?_
        refine H1.app1 (u := zv (f r)) rfl rfl (fun _ _ => by first | ((repeat (first | with_reducible exact Rpl.here | with_reducible apply Rpl.there)); done) | (repeat (first | exact Rpl.here | apply Rpl.there))) memA rfl rfl hFl rfl rfl (fun a' c' => ?_)
        apply HB.fold
        refine HB.all (by repeat (first | exact Keep.nil | refine Keep.blk (by (repeat (first | exact List.Mem.head _ | apply List.Mem.tail)); done) rfl ?_ | refine Keep.grow (by (repeat (first | exact List.Mem.head _ | apply List.Mem.tail)); done) (by assumption) ?_ | refine Keep.base (by assumption) ?_)) [6] (by kernel_rfl) rfl ⟨⟨_, rfl, ?_⟩, trivial⟩
        refine HP.one ?_
        refine H1.st (b := b4) rfl rfl (by intro _ h; cases h) (by intro _ h; cases h) rplA (by exact Nat.zero_lt_one) ?_
        apply HB.fold
        refine HB.done (by repeat (first | exact Keep.nil | refine Keep.blk (by (repeat (first | exact List.Mem.head _ | apply List.Mem.tail)); done) rfl ?_ | refine Keep.grow (by (repeat (first | exact List.Mem.head _ | apply List.Mem.tail)); done) (by assumption) ?_ | refine Keep.base (by assumption) ?_)) (by kernel_rfl) ?_
        refine hwXU ?_
        refine HX.rp_n hL rplA fun w' hM => ⟨rfl, (some ⟨a', 0, none⟩, c'), trivial, ?_⟩
        dsimp only
        rw [List.length_append, ints_app]
        exact hM.sub (by repeat (first | exact Hs.nil _ | (refine Hs.cons pickA ?_)))
      · refine HP.one ?_
        refine H1.callv0 (hf := hg) (f := g) (cap := []) (vs := [recV r]) rfl rfl rfl (fun w' _ => call1 (hgf r w')) ?_
        apply HB.fold
        refine HB.all (by repeat (first | exact Keep.nil | refine Keep.blk (by (repeat (first | exact List.Mem.head _ | apply List.Mem.tail)); done) rfl ?_ | refine Keep.grow (by (repeat (first | exact List.Mem.head _ | apply List.Mem.tail)); done) (by assumption) ?_ | refine Keep.base (by assumption) ?_)) [0, 4] (by kernel_rfl) rfl ⟨⟨_, rfl, ?_⟩, ⟨_, rfl, ?_⟩, trivial⟩
        · refine HP.one ?_
          refine H1.ldb (v := .slice a1 xs.length c1) (cs := [.slice a1 xs.length c1]) rfl memA rfl rfl ?_
          apply HB.fold
          refine HB.all (by repeat (first | exact Keep.nil | refine Keep.blk (by (repeat (first | exact List.Mem.head _ | apply List.Mem.tail)); done) rfl ?_ | refine Keep.grow (by (repeat (first | exact List.Mem.head _ | apply List.Mem.tail)); done) (by assumption) ?_ | refine Keep.base (by assumption) ?_)) [4] (by kernel_rfl) rfl ⟨⟨_, rfl, ?_⟩, trivial⟩
          refine HP.one ?_
          refine H1.lit (cs := [zv (f r)]) rfl rfl rfl rfl rfl rfl (fun b8 => ?_)
          apply HB.fold
          refine HB.all (by repeat (first | exact Keep.nil | refine Keep.blk (by (repeat (first | exact List.Mem.head _ | apply List.Mem.tail)); done) rfl ?_ | refine Keep.grow (by (repeat (first | exact List.Mem.head _ | apply List.Mem.tail)); done) (by assumption) ?_ | refine Keep.base (by assumption) ?_)) [5] (by kernel_rfl) rfl ⟨⟨_, rfl, ?_⟩, trivial⟩
          refine HP.one ?_
          refine H1.app1 (u := zv (f r)) rfl rfl (fun _ _ => by first | ((repeat (first | with_reducible exact Rpl.here | with_reducible apply Rpl.there)); done) | (repeat (first | exact Rpl.here | apply Rpl.there))) memA rfl rfl hFl rfl rfl (fun a' c' => ?_)
          apply HB.fold
          refine HB.all (by repeat (first | exact Keep.nil | refine Keep.blk (by (repeat (first | exact List.Mem.head _ | apply List.Mem.tail)); done) rfl ?_ | refine Keep.grow (by (repeat (first | exact List.Mem.head _ | apply List.Mem.tail)); done) (by assumption) ?_ | refine Keep.base (by assumption) ?_)) [6] (by kernel_rfl) rfl ⟨⟨_, rfl, ?_⟩, trivial⟩
          refine HP.one ?_
          refine H1.st (b := b4) rfl rfl (by intro _ h; cases h) (by intro _ h; cases h) rplA (by exact Nat.zero_lt_one) ?_
          apply HB.fold
          refine HB.done (by repeat (first | exact Keep.nil | refine Keep.blk (by (repeat (first | exact List.Mem.head _ | apply List.Mem.tail)); done) rfl ?_ | refine Keep.grow (by (repeat (first | exact List.Mem.head _ | apply List.Mem.tail)); done) (by assumption) ?_ | refine Keep.base (by assumption) ?_)) (by kernel_rfl) ?_
          refine hwXU ?_
          refine HX.rp_n hL rplA fun w' hM => ⟨rfl, (some ⟨a', 0, none⟩, c'), trivial, ?_⟩
          dsimp only
          rw [List.length_append, ints_app]
          exact hM.sub (by repeat (first | exact Hs.nil _ | (refine Hs.cons pickA ?_)))
        · refine HP.one ?_
          refine H1.lit (cs := [zv (f r)]) rfl rfl rfl rfl rfl rfl (fun b8 => ?_)
          apply HB.fold
          refine HB.all (by repeat (first | exact Keep.nil | refine Keep.blk (by (repeat (first | exact List.Mem.head _ | apply List.Mem.tail)); done) rfl ?_ | refine Keep.grow (by (repeat (first | exact List.Mem.head _ | apply List.Mem.tail)); done) (by assumption) ?_ | refine Keep.base (by assumption) ?_)) [0] (by kernel_rfl) rfl ⟨⟨_, rfl, ?_⟩, trivial⟩
          refine HP.one ?_
          refine H1.ldb (v := .slice a1 xs.length c1) (cs := [.slice a1 xs.length c1]) rfl memA rfl rfl ?_
          apply HB.fold
          refine HB.all (by repeat (first | exact Keep.nil | refine Keep.blk (by (repeat (first | exact List.Mem.head _ | apply List.Mem.tail)); done) rfl ?_ | refine Keep.grow (by (repeat (first | exact List.Mem.head _ | apply List.Mem.tail)); done) (by assumption) ?_ | refine Keep.base (by assumption) ?_)) [5] (by kernel_rfl) rfl ⟨⟨_, rfl, ?_⟩, trivial⟩
          refine HP.one ?_
          refine H1.app1 (u := zv (f r)) rfl rfl (fun _ _ => by first | ((repeat (first | with_reducible exact Rpl.here | with_reducible apply Rpl.there)); done) | (repeat (first | exact Rpl.here | apply Rpl.there))) memA rfl rfl hFl rfl rfl (fun a' c' => ?_)
          apply HB.fold
          refine HB.all (by repeat (first | exact Keep.nil | refine Keep.blk (by (repeat (first | exact List.Mem.head _ | apply List.Mem.tail)); done) rfl ?_ | refine Keep.grow (by (repeat (first | exact List.Mem.head _ | apply List.Mem.tail)); done) (by assumption) ?_ | refine Keep.base (by assumption) ?_)) [6] (by kernel_rfl) rfl ⟨⟨_, rfl, ?_⟩, trivial⟩
          refine HP.one ?_
          refine H1.st (b := b4) rfl rfl (by intro _ h; cases h) (by intro _ h; cases h) rplA (by exact Nat.zero_lt_one) ?_
          apply HB.fold
          refine HB.done (by repeat (first | exact Keep.nil | refine Keep.blk (by (repeat (first | exact List.Mem.head _ | apply List.Mem.tail)); done) rfl ?_ | refine Keep.grow (by (repeat (first | exact List.Mem.head _ | apply List.Mem.tail)); done) (by assumption) ?_ | refine Keep.base (by assumption) ?_)) (by kernel_rfl) ?_
          refine hwXU ?_
          refine HX.rp_n hL rplA fun w' hM => ⟨rfl, (some ⟨a', 0, none⟩, c'), trivial, ?_⟩
          dsimp only
          rw [List.length_append, ints_app]
          exact hM.sub (by repeat (first | exact Hs.nil _ | (refine Hs.cons pickA ?_)))
  · rintro D ⟨a1, c1⟩ -
    dsimp only
    have hxl : ((L.filter p).map f).length ≤ 1000000 := by
      rw [List.length_map]
      have := List.length_filter_le p L
      omega
    generalize (L.filter p).map f = xs at hxl ⊢
    refine hwXU ?_
    refine HL.one (H1.callk (α := Unit) (V := fun _ => .tuple #[]) (I := fun _ => True) (H' := fun _ => [A.dfr D, A.blk b3' [fnV g] 93, A.blk b4 [.slice a1 xs.length c1] 25, A.grow 3 1 a1 c1 xs.length (ints (srtI xs))]) (vs := [.slice a1 xs.length c1]) rfl rfl (fun w' hM => (sortI_fn hM rplA hxl).mono fun v w' h => ⟨(), trivial, h⟩) ?_)
    rintro - -
    refine hwXU ?_
    have hsl := srtI_len xs
    refine HL.one (H1.callk (α := Unit) (V := fun _ => .slice a1 (numL xs).length c1) (I := fun _ => True) (H' := fun _ => [A.dfr D, A.blk b3' [fnV g] 93, A.blk b4 [.slice a1 xs.length c1] 25, A.grow 3 1 a1 c1 (numL xs).length (ints (numL xs))]) (vs := [.slice a1 xs.length c1]) rfl rfl (fun w' hM => by
      have h := compactI_fn (l := srtI xs) (a := a1) (c := c1) (H' := [A.dfr D, A.blk b3' [fnV g] 93, A.blk b4 [.slice a1 xs.length c1] 25, A.grow 3 1 a1 c1 (numL xs).length (ints (numL xs))]) (by rw [← hsl] at hM; exact hM) (by rw [hsl]; unfold numL; first | ((repeat (first | with_reducible exact Rpl.here | with_reducible apply Rpl.there)); done) | (repeat (first | exact Rpl.here | apply Rpl.there))) (by omega)
      rw [hsl] at h
      exact h.mono fun v w' h => ⟨(), trivial, h⟩) ?_)
    rintro - -
    refine hwXU ?_
    refine HL.one (H1.st (b := b4) rfl rfl (by intro _ h; cases h) (by intro _ h; cases h) rplA (by exact Nat.zero_lt_one) ?_)
    refine hwXU ?_
    exact HX.retMc1 (b := b4) rfl rfl Pick.here memA fun w' hM => ⟨(a1, c1), trivial, rfl, hM.sub (by repeat (first | exact Hs.nil _ | (refine Hs.cons pickA ?_)))⟩
end Go.Sx
/- Chapter 21: Has, Consents, Embargoed, Held, Hidden. -/
namespace Go.Sx
open Go Go.Proofs Go.RowKit
theorem hwXV {G G2 : Prop} (x : G2) (hwq : Hold G2 → G := by
    intro hQq
    repeat' (first | apply HL.fold | apply HA.fold | apply HL.nil | apply HX.n_then | apply HC.seq | apply HC.region | refine HL.pa ?_ | refine HL.ga rfl ?_ | refine HL.na rfl ?_ | refine HL.nu rfl rfl ?_ | apply HC.block | apply HC.skip | apply HC.exit | apply HC.ret | apply HX.e_block | refine HX.e_other rfl ?_ | apply HX.e_then | apply HX.e_again | apply HX.n_block | apply HX.r_then | apply HX.r_block | apply HX.r_again | refine HC.cond_yes rfl ?_ | refine HC.cond_no rfl ?_ | refine HL.one (H1.ldb rfl memA rfl rfl ?_) | refine HC.cond rfl (fun hc => ?_) (fun hc => ?_) | refine HC.cond_b rfl (fun hc => ?_) (fun hc => ?_))
    exact hQq.get) : G := hwq ⟨x⟩
def heldL (L rel : List Rc) (a d : Int) : List Int := numL ((L.filter (heldB rel a d)).map Rc.id)
def embL (L : List Rc) (a d : Int) : List Int := numL ((L.filter (embB a d)).map Rc.id)
def hidL (L : List Rc) (a b d : Int) : List Int := numL ((L.filter (aboutB a b d)).map Rc.clause)
/-- What comes back: a slice of the call's own, of numbers. -/
abbrev NumV (w : World) (L : List Int) (v : Value) (w' : World) : Prop := ∃ z : Option Addr × Nat, True ∧ v = .slice z.1 L.length z.2 ∧ Mm w [A.grow 3 1 z.1 z.2 L.length (ints L)] w'
attribute [local irreducible] WC WL WX POp Then Again Fn NX W1 WA WO QL RP RA Yld LoopAt HC HL HX HN H1 HA HO HQ HB HP A.blk A.grow A.rd A.obj A.mp AgainH CutH
attribute [local irreducible] A.dfr A.loop
theorem Has_fn {B : Nat → List Rc} {vb : Value} (a b d : Int) (w : World) (hB : BaseV w vb B) (hl : (B 0).length ≤ 1000000) :
    Fn Tryz.prog 168 #[vb, zv a, zv b, zv d] w fun v w' => v = .bool ((B 0).any (hasB a b d)) ∧ Ext w w' := by
  obtain ⟨s, rfl, hs⟩ := hB
  have h0 := hs 0 (by decide)
  obtain ⟨a0, c0, e0, -⟩ := h0.shape
  refine enterH (l := [_, _, _, _]) rfl Tryz.ntmps168 rfl ?_
  refine hwXV ?_
  refine HL.one (H1.boxAgg (cs := row 8 s) rfl rfl (fun b4 => ?_))
  refine hwXV ?_
  refine HL.one (H1.box rfl rfl rfl (fun b5 => ?_))
  refine hwXV ?_
  refine HL.one (H1.box rfl rfl rfl (fun b6 => ?_))
  refine hwXV ?_
  refine HL.build (cs := qc 0 0 d) rfl rfl rfl ?_
  refine hwXV ?_
  refine HL.one (H1.alloc (cs := qc 0 0 0) rfl rfl (fun b9 => ?_))
  refine hwXV ?_
  refine HL.one (H1.stAgg (cs := qc 0 0 0) (vs := qc 0 0 d) rfl rfl rfl (by intro v hv; simp only [qc, List.mem_cons, List.not_mem_nil, or_false] at hv; rcases hv with rfl | rfl | rfl <;> rfl) rplA rfl ?_)
  refine hwXV ?_
  refine HL.one (H1.callx (vs := [s 0, .func (.func 234) #[] #[.pointer (some ⟨b5, 0, none⟩), .pointer (some ⟨b6, 0, none⟩), .pointer (some ⟨b9, 0, none⟩)]]) rfl rfl
    (fun w' hM => by
      rw [e0] at h0 ⊢
      exact containsFunc_fn a0 c0 (B 0) (hasB a b d) _ hl w' (h0.ext hM.ext) ⟨_, [], [.pointer (some ⟨b5, 0, none⟩), .pointer (some ⟨b6, 0, none⟩), .pointer (some ⟨b9, 0, none⟩)], rfl, inferInstance, fun w'' hx r _ => has1_fn r b5 b6 b9 a b d 0 0 w'' (cell_ext hx ((hM.blk (cs := [zv a]) memA).cell (i := 0) rfl)) (cell_ext hx ((hM.blk (cs := [zv b]) memA).cell (i := 0) rfl)) (fun i v hv => cell_ext hx ((hM.blk (cs := qc 0 0 d) memA).cell hv))⟩) ?_)
  refine hwXV ?_
  exact HX.ret1 rfl rfl fun w' hM => ⟨rfl, hM.ext⟩
theorem Consents_fn {B : Nat → List Rc} {vb : Value} (a b d : Int) (w : World) (hB : BaseV w vb B) (hl : (B 2).length ≤ 1000000) :
    Fn Tryz.prog 84 #[vb, zv a, zv b, zv d] w fun v w' => v = .bool ((B 2).any (aboutB a b d)) ∧ Ext w w' := by
  obtain ⟨s, rfl, hs⟩ := hB
  have h0 := hs 2 (by decide)
  obtain ⟨a0, c0, e0, -⟩ := h0.shape
  refine enterH (l := [_, _, _, _]) rfl Tryz.ntmps84 rfl ?_
  refine hwXV ?_
  refine HL.one (H1.boxAgg (cs := row 8 s) rfl rfl (fun b4 => ?_))
  refine hwXV ?_
  refine HL.build (cs := qc a b d) rfl rfl rfl ?_
  refine hwXV ?_
  refine HL.one (H1.callx (vs := [s 2, .func (.func 57) #[qV a b d] #[]]) rfl rfl
    (fun w' hM => by
      rw [e0] at h0 ⊢
      exact containsFunc_fn a0 c0 (B 2) (aboutB a b d) _ hl w' (h0.ext hM.ext) ⟨_, [qV a b d], [], rfl, inferInstance, fun w'' hx r _ => isAbout_fn a b d r w''⟩) ?_)
  refine hwXV ?_
  exact HX.ret1 rfl rfl fun w' hM => ⟨rfl, hM.ext⟩
theorem Embargoed_fn {B : Nat → List Rc} {vb : Value} (a d : Int) (w : World) (hB : BaseV w vb B) (hl : (B 3).length ≤ 1000000) :
    Fn Tryz.prog 83 #[vb, zv a, zv d] w (NumV w (embL (B 3) a d)) := by
  obtain ⟨s, rfl, hs⟩ := hB
  have h0 := hs 3 (by decide)
  obtain ⟨a0, c0, e0, -⟩ := h0.shape
  refine enterH (l := [_, _, _]) rfl Tryz.ntmps83 rfl ?_
  refine hwXV ?_
  refine HL.one (H1.boxAgg (cs := row 8 s) rfl rfl (fun b3' => ?_))
  refine hwXV ?_
  refine HL.one (H1.box rfl rfl rfl (fun b4 => ?_))
  refine hwXV ?_
  refine HL.build (cs := qc a 0 d) rfl rfl rfl ?_
  refine hwXV ?_
  refine HL.one (H1.alloc (cs := qc 0 0 0) rfl rfl (fun b7 => ?_))
  refine hwXV ?_
  refine HL.one (H1.stAgg (cs := qc 0 0 0) (vs := qc a 0 d) rfl rfl rfl (by intro v hv; simp only [qc, List.mem_cons, List.not_mem_nil, or_false] at hv; rcases hv with rfl | rfl | rfl <;> rfl) rplA rfl ?_)
  refine hwXV ?_
  refine HL.one (H1.callz (α := Nat × Nat) (V := fun z => .func (.func 114) #[] #[.pointer (some ⟨z.1, 0, none⟩), .pointer (some ⟨z.2, 0, none⟩)]) (Hn := fun z => [A.blk z.2 [.func (.func 164) #[] #[.pointer (some ⟨b4, 0, none⟩), .pointer (some ⟨b7, 0, none⟩)]] 126, A.blk z.1 [.slice a0 (B 3).length c0] 27]) (I := fun _ => True)
    (vs := [s 3, .func (.func 164) #[] #[.pointer (some ⟨b4, 0, none⟩), .pointer (some ⟨b7, 0, none⟩)]]) rfl rfl (fun w' hM => by rw [e0]; exact those_fn a0 (B 3).length c0 164 [] [.pointer (some ⟨b4, 0, none⟩), .pointer (some ⟨b7, 0, none⟩)] w') ?_)
  rintro ⟨b2, b3⟩ -
  refine hwXV ?_
  refine HL.one (H1.callz1 (α := Option Addr × Nat) (V := fun z => .slice z.1 (embL (B 3) a d).length z.2) (An := fun z => A.grow 3 1 z.1 z.2 (embL (B 3) a d).length (ints (embL (B 3) a d))) (I := fun _ => True) (vs := [.func (.func 114) #[] #[.pointer (some ⟨b2, 0, none⟩), .pointer (some ⟨b3, 0, none⟩)], fnV 165]) rfl rfl
    (fun w' hM => numbers_fn Rc.id 165 inferInstance id1_fn (L := B 3) (p := embB a d) w' hl (by rw [e0] at h0; exact h0.ext hM.ext) ⟨_, [], [.pointer (some ⟨b4, 0, none⟩), .pointer (some ⟨b7, 0, none⟩)], rfl, inferInstance, fun w'' hx r _ => emb1_fn r b4 b7 a d a 0 w'' (cell_ext hx ((hM.blk (cs := [zv a]) memA).cell (i := 0) rfl)) (fun i v hv => cell_ext hx ((hM.blk (cs := qc a 0 d) memA).cell hv))⟩
      ((hM.blk (cs := [.slice a0 (B 3).length c0]) memA).cell (i := 0) rfl) ((hM.blk (cs := [.func (.func 164) #[] #[.pointer (some ⟨b4, 0, none⟩), .pointer (some ⟨b7, 0, none⟩)]]) memA).cell (i := 0) rfl)) ?_)
  rintro ⟨az, cz⟩ -
  refine hwXV ?_
  exact HX.ret1 rfl rfl fun w' hM => ⟨(az, cz), trivial, rfl, hM.sub (by repeat (first | exact Hs.nil _ | (refine Hs.cons pickA ?_)))⟩
end Go.Sx
/- Plain: the numbers of chapter 17 as natural numbers. No program in sight. -/
namespace Go.Sx
def redL : List Nat := [0, 29, 58, 39, 116, 105, 78, 83, 232, 245, 210, 207, 156, 129, 166, 187]
def fewP (a b : Nat) : Nat → Nat
  | 0 => 0
  | i + 1 => if (b >>> i) &&& 1 = 1 then fewP a b i ^^^ (a <<< i) else fewP a b i
def fewN (a b : Nat) : Nat := (fewP a b 4 &&& 255) ^^^ redL.getD (fewP a b 4 >>> 8) 0
def sixteenN (a : Nat) : Nat := ((a <<< 4) &&& 255) ^^^ redL.getD (a >>> 4) 0
def mulN (a b : Nat) : Nat := fewN a (b &&& 15) ^^^ sixteenN (fewN a (b >>> 4))
def invP (a : Nat) : Nat → Nat × Nat
  | 0 => (1, a)
  | i + 1 => let q := mulN (invP a i).2 (invP a i).2; (mulN (invP a i).1 q, q)
def invN (a : Nat) : Nat := (invP a 7).1

theorem redL_lt : ∀ i, redL.getD i 0 < 256 := by
  intro i
  rcases Nat.lt_or_ge i 16 with h | h
  · have : ∀ j : Fin 16, redL.getD j.1 0 < 256 := by decide
    exact this ⟨i, h⟩
  · simp [redL, List.getD_eq_getElem?_getD, List.getElem?_eq_none (show [0, 29, 58, 39, 116, 105, 78, 83, 232, 245, 210, 207, 156, 129, 166, 187].length ≤ i from h)]
theorem shl_lt {a i k n : Nat} (h : a < 2 ^ k) (hk : k + i ≤ n) : a <<< i < 2 ^ n := by
  rw [Nat.shiftLeft_eq]
  calc a * 2 ^ i < 2 ^ k * 2 ^ i := Nat.mul_lt_mul_of_pos_right h (Nat.two_pow_pos i)
    _ = 2 ^ (k + i) := (Nat.pow_add 2 k i).symm
    _ ≤ 2 ^ n := Nat.pow_le_pow_right (by decide) hk
theorem fewN_lt {a b : Nat} : fewN a b < 256 :=
  Nat.xor_lt_two_pow (n := 8) (Nat.lt_of_le_of_lt Nat.and_le_right (by decide)) (redL_lt _)
theorem sixteenN_lt {a : Nat} : sixteenN a < 256 :=
  Nat.xor_lt_two_pow (n := 8) (Nat.lt_of_le_of_lt Nat.and_le_right (by decide)) (redL_lt _)
theorem mulN_lt {a b : Nat} : mulN a b < 256 := Nat.xor_lt_two_pow (n := 8) fewN_lt sixteenN_lt
end Go.Sx
namespace Go.Sx
/-- One step of a weight's denominator; of its numerator. -/
def belS (i acc h : Nat) : Nat := if h = i then acc else mulN acc (invN (i ^^^ h))
def outS (i x acc h : Nat) : Nat := if h = i then acc else mulN acc (x ^^^ h)
def bel (nums : List Nat) (i : Nat) : Nat := nums.foldl (belS i) 1
def belA (nums : List Nat) (j : Nat) : Nat := if j ∈ nums then bel nums j else 0
def wgt (nums : List Nat) (x i : Nat) : Nat := nums.foldl (outS i x) (bel nums i)
def wgtA (nums : List Nat) (x j : Nat) : Nat := if j ∈ nums then wgt nums x j else 0
/-- The k-th number. -/
def nu (nums : List Nat) (k : Nat) : Nat := nums.getD k 0
end Go.Sx
namespace Go.Sx
def fr (frs : List ByteArray) (i : Nat) : ByteArray := frs.getD i ByteArray.empty
def strs (l : List ByteArray) : List Value := l.map .string
def cmpF (frs : List ByteArray) (W : Nat → Nat) (at' acc i : Nat) : Nat := acc ^^^ mulN (W i) (sb (fr frs i) at')
def cmpS (frs : List ByteArray) (nums : List Nat) (W : Nat → Nat) (at' : Nat) : Nat := nums.foldl (cmpF frs W at') 0
def cmpStr (frs : List ByteArray) (nums : List Nat) (W : Nat → Nat) (m : Nat) : ByteArray := ⟨((List.range m).map fun q => UInt8.ofNat (cmpS frs nums W q)).toArray⟩
end Go.Sx
namespace Go.Sx
def mOf (l k : Nat) : Nat := (l + k - 1) / k
def zeros (n : Nat) : ByteArray := ⟨(List.replicate n (0 : UInt8)).toArray⟩
def padS (s : ByteArray) (k : Nat) : ByteArray := s ++ zeros (k * mOf s.size k - s.size)
def partOf (s : ByteArray) (k i : Nat) : ByteArray := (padS s k).extract (i * mOf s.size k) ((i + 1) * mOf s.size k)
def parts (s : ByteArray) (k : Nat) : List ByteArray := (List.range k).map (partOf s k)
/-- Fragment j of the string s. -/
def codeA (s : ByteArray) (k j : Nat) : ByteArray := if j < k then partOf s k j else cmpStr (parts s k) (List.range k) (wgtA (List.range k) j) (mOf s.size k)
def codeL (s : ByteArray) (k n : Nat) : List ByteArray := (List.range n).map (codeA s k)

end Go.Sx
namespace Go.Sx
def isC (k n : Int) : Prop := 1 ≤ k ∧ k ≤ n ∧ n ≤ 9
def tf (th : List Bool) (i : Nat) : Bool := th.getD i false
def bools (l : List Bool) : List Value := l.map .bool
def tnums (th : List Bool) (i k : Nat) : List Nat := ((List.range i).filter (tf th)).take k
def cN (th : List Bool) (k : Nat) : List Nat := tnums th th.length k
def cM (frs : List ByteArray) (th : List Bool) (k : Nat) : Nat := (fr frs (nu (cN th k) 0)).size
def cOut (frs : List ByteArray) (th : List Bool) (k j : Nat) : ByteArray := cmpStr frs (cN th k) (wgtA (cN th k) j) (cM frs th k)
def CompOK (frs : List ByteArray) (th : List Bool) (k : Int) : Prop :=
  isC k frs.length ∧ th.length = frs.length ∧ (cN th k.toNat).length = k.toNat ∧ (∀ i, i < frs.length → tf th i = true → (fr frs i).size = cM frs th k.toNat ∧ cM frs th k.toNat ≤ 4096) ∧
    ∀ i, i < frs.length → tf th i = true → cOut frs th k.toNat i = fr frs i
end Go.Sx
namespace Go.Sx
open Go
def catS (l : List ByteArray) : ByteArray := ⟨(l.map (·.data.toList)).flatten.toArray⟩
def allOut (frs : List ByteArray) (th : List Bool) (k : Nat) : List ByteArray := (List.range frs.length).map (cOut frs th k)
def catO (frs : List ByteArray) (th : List Bool) (k : Nat) : ByteArray := catS ((List.range k).map (cOut frs th k))
def FragOK (frs : List ByteArray) (th : List Bool) (k which : Int) : Prop := CompOK frs th k ∧ 0 ≤ which ∧ which < frs.length
/-- The string may be got back. -/
def JoinOK (frs : List ByteArray) (th : List Bool) (k len : Int) : Prop :=
  CompOK frs th k ∧ 0 ≤ len ∧ len ≤ 4096 * k ∧ (cM frs th k.toNat : Int) = (len + k - 1) / k ∧ ∀ j, len.toNat ≤ j → j < (catO frs th k.toNat).size → sb (catO frs th k.toNat) j = 0
end Go.Sx
namespace Go.Sx
open Go
def exAb : ByteArray := ByteArray.mk #[97, 98]
def exL : List ByteArray := [ByteArray.mk #[97], ByteArray.mk #[98], ByteArray.mk #[103]]
end Go.Sx
/- Plain, chapter 24: nodes, and which are valid. -/
namespace Go.Sx
open Go Go.RowKit
structure Nd where
  id : Int
  kind : Int
  pack : Int
  src : List Int
instance : Inhabited Nd := ⟨⟨0, 0, 0, []⟩⟩
/-- The cells of a node whose sources stand in a slice. -/
def ndC (n : Nd) (v : Value) : List Value := [zv n.id, zv n.kind, zv n.pack, v]
def ndV (n : Nd) (v : Value) : Value := .agg #[zv n.id, zv n.kind, zv n.pack, v]
def ndAt (l : List Nd) (i : Nat) : Nd := l.getD i default
/-- A slice of nodes. -/
structure RdN (w : World) (v : Value) (l : List Nd) (U : Nat → Value) : Prop where
  shape : ∃ a c, v = .slice a l.length c ∧ l.length ≤ c ∧ (l = [] ∨ ∃ b off, a = some ⟨b, off, none⟩ ∧ ∀ i, i < l.length → ∀ (j : Nat) (u : Value), (ndC (ndAt l i) (U i))[j]? = some u → w.cell? ⟨b, off + i * 4 + j, none⟩ = some u)
  src : ∀ i, i < l.length → Rd w (U i) (ints (ndAt l i).src)
theorem ndAt_take {l : List Nd} {i : Nat} (h : i < l.length) : l.take (i + 1) = l.take i ++ [ndAt l i] := by
  rw [List.take_add_one, List.getElem?_eq_getElem h]
  simp [ndAt, h]
/-- Strictly ascending. -/
def AscI (l : List Int) : Prop := l.Pairwise (· < ·)
instance (l : List Int) : Decidable (AscI l) := by unfold AscI; infer_instance
def getI (l : List Int) (i : Nat) : Int := l.getD i 0
/-- Numbers of nodes and packages. -/
def idOk (n : Int) : Prop := 1 ≤ n ∧ n ≤ 1000000
instance (n : Int) : Decidable (idOk n) := by unfold idOk; infer_instance
/-- The package of the node with a number, the last one's. -/
def pkOf : List Nd → Int → Option Int
  | [], _ => none
  | n :: l, i => match pkOf l i with
    | some p => some p
    | none => if i = n.id then some n.pack else none
theorem pkOf_snoc (l : List Nd) (n : Nd) (i : Int) : pkOf (l ++ [n]) i = if i = n.id then some n.pack else pkOf l i := by
  induction l with
  | nil => show (match (none : Option Int) with | some p => some p | none => if i = n.id then some n.pack else none) = _; rfl
  | cons m l ih =>
    show (match pkOf (l ++ [n]) i with | some p => some p | none => if i = m.id then some m.pack else none) = if i = n.id then some n.pack else (match pkOf l i with | some p => some p | none => if i = m.id then some m.pack else none)
    rw [ih]
    by_cases h : i = n.id
    · rw [if_pos h, if_pos h]
    · rw [if_neg h, if_neg h]
/-- The sources that were looked at: are they there, and is one of the own package? -/
def srcsOk (l : List Nd) (s : List Int) : Prop := ∀ x ∈ s, (pkOf l x).isSome = true
instance (l : List Nd) (s : List Int) : Decidable (srcsOk l s) := by unfold srcsOk; infer_instance
def ownB (l : List Nd) (pack : Int) (s : List Int) : Bool := s.any fun x => pkOf l x == some pack
/-- Whether a node can stand behind nodes. -/
def hasN (l : List Nd) (n : Nd) : Bool := decide (idOk n.id) && decide (idOk n.pack) && decide (1 ≤ n.kind) && decide (n.kind ≤ 5) && decide (n.src.length ≤ 8) && (decide (n.kind = 1) == decide (n.src.length = 0)) && decide (srcsOk l n.src) && (decide (n.kind = 1) || ownB l n.pack n.src) && decide (AscI n.src)
def allN (l : List Nd) : Nat → Bool
  | 0 => true
  | i + 1 => allN l i && hasN (l.take i) (ndAt l i)
def validN (l : List Nd) : Bool := allN l l.length && decide (l.length ≤ 400) && decide (AscI (l.map Nd.id))
end Go.Sx
/- Chapter 24: Valid: the walk. -/
namespace Go.Sx
open Go Go.Proofs Go.RowKit
section
variable {P : Program} {w : World} {t k e : TypeId} {q : IntKind} {b : Nat} {l : List (Int × Value)} {o : Obj} {z : Value} {sz bb : Nat}
theorem run_lookup_mq2 (ht : P.underlying t = some (.map k e)) (hk : P.underlying k = some (.int q)) [hi : ITy P e z sz bb] (hb : w.heap[b]? = some o) (ho : mqP q l o) (x : Int) :
    (Instr.lookup t (.map (some b)) (.int q x) true).run P w = .ok (.tuple #[(mget l x).getD z, .bool (mget l x).isSome]) w := by
  obtain ⟨es, clk, rfl, h⟩ := ho
  have hf := run_findKey_int (P := P) (w := w) hk x es.toList l h.ents
  unfold Instr.lookup
  simp only [Sem.run_bind, run_underlying ht, Result.andThen, run_getMap hb, Sem.run_pure, run_checkKey_int hk _ 9999 x, hf]
  rw [← midx_get]
  cases midx l x with
  | none => simp [run_zeroValue (h := hi)]
  | some p => simp
end
section
variable {P : Program} {r : Option Nat} {N : Nat} {ds : List Deferred} {ol rest : List Oper} {Q : Post} {E : Env} {w0 : World} {H : List Atom} {next : Act → World → Prop} {g : Option (Nat × Bool)}
variable {d : Nat} {t ty : TypeId} {pos : String} {af : Array Edge} {x y z : Operand}
theorem H1.mqget2 {b : Nat} {k e : TypeId} {q : IntKind} {l : List (Int × Value)} {n : Int} {zv : Value} {sz bb : Nat} [ht : UTy P t (.map k e)] [hk : UTy P k (.int q)] [hi : ITy P e zv sz bb] (hx : Env.ev E x = some (.map (some b))) (hy : Env.ev E y = some (.int q n))
    (hm : A.mq b q l ∈ H) (hd : Nat.blt d N = true) (h : HN N ds next ((d, .tuple #[(mget l n).getD zv, .bool (mget l n).isSome]) :: E) w0 H) : H1 P r N ds next ⟨some d, .lookup t x y true, ty, pos, af, g⟩ Q E w0 H := fun w hM => by
  obtain ⟨o, h1, h2⟩ : ∃ o, w.heap[b]? = some o ∧ mqP q l o := hM.all _ hm
  refine W1.run (v := .tuple #[(mget l n).getD zv, .bool (mget l n).isSome]) (w' := w) (fun a ha' => ?_) rfl hd (h w hM)
  simp only [execOp, ha'.ev hx, ha'.ev hy, Sem.run_bind, run_lookup_mq2 ht.is hk.is h1 h2 n, Result.andThen, Sem.run_pure]
end
theorem mget_mset2 (l : List (Int × Value)) (n : Int) (v : Value) (x : Int) : mget (mset l n v) x = if x = n then some v else mget l x := by
  induction l with
  | nil => rfl
  | cons p l ih =>
    obtain ⟨y, u⟩ := p
    show mget (if n = y then (n, v) :: l else (y, u) :: mset l n v) x = if x = n then some v else (if x = y then some u else mget l x)
    by_cases h : n = y
    · subst h
      rw [if_pos rfl]
      show (if x = n then some v else mget l x) = _
      by_cases h2 : x = n
      · rw [if_pos h2, if_pos h2]
      · rw [if_neg h2, if_neg h2, if_neg h2]
    · rw [if_neg h]
      show (if x = y then some u else mget (mset l n v) x) = _
      rw [ih]
      by_cases h2 : x = n
      · subst h2; rw [if_neg h, if_pos rfl, if_pos rfl]
      · rw [if_neg h2, if_neg h2]
/-- The map of the first nodes. -/
def trM (l : List Nd) (U : Nat → Value) : Nat → List (Int × Value)
  | 0 => []
  | i + 1 => mset (trM l U i) (ndAt l i).id (ndV (ndAt l i) (U i))
attribute [local irreducible] WC WL WX POp Then Again Fn NX W1 WA WO QL RP RA Yld LoopAt HC HL HX HN H1 HA HO HQ HB HP A.blk A.grow A.rd A.obj A.mp AgainH CutH
attribute [local irreducible] A.mq A.mit
end Go.Sx
/- A slice of the call's own that is fresh, as an atom. -/
namespace Go.Sx
open Go Go.RowKit
/-- A slice of the call's own, as an atom. -/
theorem Mm.ownFresh {w w' : World} {e : TypeId} {sz n c : Nat} {a : Option Addr} {xs : List Value} (hx : Ext w w') (h : w'.ownsRow w.heap.size e sz (.slice a n c) n xs) : Mm w [A.grow e sz a c n xs] w' := by
  refine (Mm.nil hx).cons ⟨h.1, ?_⟩ ?_ fun b hb => ?_
  · rcases h.2 with h2 | ⟨g, cap, cur, hv, -, rest⟩
    · exact .inl h2
    · exact .inr ⟨g, cap, cur, hv, Nat.zero_le _, rest⟩
  · show (Option.toList _).Nodup
    cases (Value.slice a n c).ownBlock <;> simp
  · have hb' : (Value.slice a n c).ownBlock = some b := by simpa [A.grow] using hb
    have := h.lt b hb'
    exact ⟨by simp [fps], this.1, this.2⟩
theorem own_shape {w : World} {base : Nat} {e : TypeId} {sz n : Nat} {v : Value} {xs : List Value} (h : w.ownsRow base e sz v n xs) : ∃ a c, v = .slice a n c ∧ (n = 0 ∨ ∃ b, a = some ⟨b, 0, none⟩) := by
  rcases h.2 with ⟨rfl, rfl⟩ | ⟨g, cap, cur, rfl, -⟩
  · exact ⟨none, 0, rfl, .inl rfl⟩
  · exact ⟨_, cap, rfl, .inr ⟨g, rfl⟩⟩
end Go.Sx
/- The library's Clone and Equal at numbers, as the walks use them. -/
namespace Go.Sx
open Go Go.Proofs Go.RowKit
theorem rd_clone {w : World} {b off c : Nat} {l : List Int} (hR : Rd w (.slice (some ⟨b, off, none⟩) l.length c) (ints l)) : ∀ j, j < l.length → w.cell? ⟨b, off + j, none⟩ = some (.int .i64 (l.getD j 0)) := fun _ hj => hR.cell (ints_get hj)
theorem clone_fn (v : Value) (l : List Int) (hl : l.length ≤ 1000000) (w : World) (hR : Rd w v (ints l)) :
    Fn Tryz.prog 89 #[v] w fun u w' => ∃ z : Option Addr × Nat, (l.length = 0 ∨ ∃ b, z.1 = some ⟨b, 0, none⟩) ∧ u = .slice z.1 l.length z.2 ∧ Mm w [A.grow 3 1 z.1 z.2 l.length (ints l)] w' := by
  obtain ⟨a, c, rfl, hc⟩ := hR.isInts
  by_cases hne : l = []
  · subst hne
    cases a with
    | none =>
      refine Calls.mono (Tryz.slices_Clone_int_nil 0 c w) ?_
      rintro e w' ⟨rfl, rfl⟩
      exact ⟨_, rfl, (none, 0), .inl rfl, rfl, (Mm.refl _).grow0 _ _⟩
    | some a =>
      refine Calls.mono (Tryz.slices_Clone_int_zero a c w) ?_
      rintro e w' ⟨v', rfl, h1, h2, h3⟩
      obtain ⟨a', c', rfl, ha⟩ := own_shape h1
      exact ⟨_, rfl, (a', c'), ha, rfl, Mm.ownFresh h3 h1⟩
  · obtain ⟨b, off, rfl, hb⟩ := hR.iat hne
    refine Calls.mono (Tryz.slices_Clone_int b off l.length c l w (Nat.le_refl _) (by omega) (rd_clone hR)) ?_
    rintro e w' ⟨v', rfl, h1, h2, h3⟩
    rw [List.take_length] at h1
    obtain ⟨a', c', rfl, ha⟩ := own_shape h1
    exact ⟨_, rfl, (a', c'), ha, rfl, Mm.ownFresh h3 h1⟩
end Go.Sx
/- Questions about things: what the walks of slices.IndexFunc and slices.ContainsFunc stand on. -/
namespace Go.Sx
open Go Go.Proofs Go.RowKit
/-- A function value that answers a question about things. -/
def PQ {α : Type} (w : World) (fv : Value) (V : α → Value) (ok : α → Prop) (p : α → Bool) : Prop :=
  ∃ (f : FuncId) (pre cap : List Value), fv = .func (.func f) pre.toArray cap.toArray ∧ CallOk Tryz.prog f ∧ ∀ w', Ext w w' → ∀ x, ok x → Fn Tryz.prog f (pre ++ [V x] ++ cap).toArray w' fun v w'' => v = .bool (p x) ∧ Ext w' w''
theorem PQ.ext {α : Type} {w w' : World} {fv : Value} {V : α → Value} {ok : α → Prop} {p : α → Bool} (h : PQ w fv V ok p) (k : Ext w w') : PQ w' fv V ok p := by
  obtain ⟨f, pre, cap, h1, h2, h3⟩ := h
  exact ⟨f, pre, cap, h1, h2, fun w'' hx => h3 w'' (k.trans hx)⟩
section
variable {r : Option Nat} {N : Nat} {ds : List Deferred} {Q : Post} {E : Env} {w0 w : World} {H : List Atom} {next : Act → World → Prop} {g : Option (Nat × Bool)}
variable {d : Nat} {t t' ty e : TypeId} {pos : String} {af : Array Edge} {y z : Operand}
theorem H1.callpq {α : Type} {V : α → Value} {ok : α → Prop} {p : α → Bool} {d : Option Nat} {fv : Value} {x : α} {args : List Operand} {ats : Array TypeId} (hp : ∀ w, Mm w0 H w → PQ w fv V ok p) (hl : ok x) (hd : dOk d N = true) (hx : Env.ev E z = some fv) (ha : Env.evs E args = some [V x])
    (h : HN N ds next (putE d (.bool (p x)) E) w0 H) : H1 Tryz.prog r N ds next ⟨d, .call ⟨.value z, args.toArray, ats⟩, ty, pos, af, g⟩ Q E w0 H := fun w hM => by
  obtain ⟨f, pre, cap, rfl, hf, hc⟩ := hp w hM
  exact W1.enter hd (fun a hr => by
    have hm : Array.map a.eval args.toArray = [V x].toArray := by simp [hr.evs ha]
    simp [execOp, resolve, hm, hr.ev hx, Deferred.ofValue, invoke, hf.run]) (hc w (Ext.refl w) x hl) (by
    rintro v w' ⟨rfl, hx'⟩; exact h _ (hM.more hx'))
end
/-- The first place, or -1. -/
def FirstN (n : Nat) (p : Nat → Bool) (k : Int) : Prop := (k = -1 ∧ ∀ i, i < n → p i = false) ∨ ∃ j : Nat, k = (j : Int) ∧ j < n ∧ (∀ i, i < j → p i = false) ∧ p j = true
def anyN (n : Nat) (p : Nat → Bool) : Bool := (List.range n).any p
theorem FirstN.any {n : Nat} {p : Nat → Bool} {k : Int} (h : FirstN n p k) : decide (0 ≤ k) = anyN n p := by
  rw [Bool.eq_iff_iff, decide_eq_true_eq]
  unfold anyN
  rw [List.any_eq_true]
  rcases h with ⟨rfl, h⟩ | ⟨j, rfl, hj, -, hp⟩
  · constructor
    · intro h0; exact absurd h0 (by decide)
    · rintro ⟨i, hi, hp⟩
      rw [h i (List.mem_range.1 hi)] at hp; cases hp
  · exact ⟨fun _ => ⟨j, List.mem_range.2 hj, hp⟩, fun _ => Int.natCast_nonneg j⟩
def getB (l : List ByteArray) (i : Nat) : ByteArray := l.getD i default
end Go.Sx
/- Slices whose elements take several cells: the walks of slices.IndexFunc and slices.ContainsFunc. -/
namespace Go.Sx
open Go Go.Proofs Go.RowKit
theorem hwF0 {G G2 : Prop} (x : G2) (hwq : Hold G2 → G := by
    intro hQq
    repeat' (first | apply HL.fold | apply HA.fold | apply HL.nil | apply HX.n_then | apply HC.seq | apply HC.region | refine HL.pa ?_ | refine HL.ga rfl ?_ | refine HL.na rfl ?_ | refine HL.nu rfl rfl ?_ | apply HC.block | apply HC.skip | apply HC.exit | apply HC.ret | apply HX.e_block | refine HX.e_other rfl ?_ | apply HX.e_then | apply HX.e_again | apply HX.n_block | apply HX.r_then | apply HX.r_block | apply HX.r_again | refine HC.cond_yes rfl ?_ | refine HC.cond_no rfl ?_ | refine HL.one (H1.ldb rfl memA rfl rfl ?_) | refine HC.cond rfl (fun hc => ?_) (fun hc => ?_) | refine HC.cond_b rfl (fun hc => ?_) (fun hc => ?_))
    exact hQq.get) : G := hwq ⟨x⟩
/-- A slice of elements of several cells. -/
def RdK (w : World) (v : Value) (n sz : Nat) (f : Nat → List Value) : Prop :=
  ∃ a c, v = .slice a n c ∧ n ≤ c ∧ (n = 0 ∨ ∃ b off, a = some ⟨b, off, none⟩ ∧ ∀ i, i < n → ∀ (j : Nat) (u : Value), (f i)[j]? = some u → w.cell? ⟨b, off + i * sz + j, none⟩ = some u)
theorem RdK.ext {w w' : World} {v : Value} {n sz : Nat} {f : Nat → List Value} (h : RdK w v n sz f) (k : Ext w w') : RdK w' v n sz f := by
  obtain ⟨a, c, h1, h2, h3⟩ := h
  refine ⟨a, c, h1, h2, ?_⟩
  rcases h3 with h3 | ⟨b, off, h4, h5⟩
  · exact .inl h3
  · exact .inr ⟨b, off, h4, fun i hi j u hu => cell_ext k (h5 i hi j u hu)⟩
theorem RdK.cell {w : World} {a : Option Addr} {c n m sz : Nat} {f : Nat → List Value} (h : RdK w (.slice a m c) n sz f) {j : Nat} (hj : j < n) : ∃ b off, a = some ⟨b, off, none⟩ ∧ ∀ i, i < n → ∀ (j : Nat) (u : Value), (f i)[j]? = some u → w.cell? ⟨b, off + i * sz + j, none⟩ = some u := by
  obtain ⟨a', c', h1, -, h3⟩ := h
  cases h1
  rcases h3 with h3 | h3
  · omega
  · exact h3
theorem RdK.of_blk {w : World} {b n sz : Nat} {e : TypeId} {cs : List Value} {f : Nat → List Value} (h : Blk w b cs e) (hc : ∀ i, i < n → ∀ (j : Nat) (u : Value), (f i)[j]? = some u → cs[i * sz + j]? = some u) : RdK w (.slice (some ⟨b, 0, none⟩) n n) n sz f :=
  ⟨_, _, rfl, Nat.le_refl _, .inr ⟨b, 0, rfl, fun i hi j u hu => by rw [Nat.zero_add]; exact h.cell (hc i hi j u hu)⟩⟩
theorem anyN_no {n : Nat} {p : Nat → Bool} (h : ∀ i, i < n → p i = false) : anyN n p = false := by
  unfold anyN
  rw [List.any_eq_false]
  intro i hi
  rw [h i (List.mem_range.1 hi)]; decide
attribute [local irreducible] WC WL WX POp Then Again Fn NX W1 WA WO QL RP RA Yld LoopAt HC HL HX HN H1 HA HO HQ HB HP A.blk A.grow A.rd A.obj A.mp AgainH CutH
set_option maxHeartbeats 1000000 in
theorem indexCl_fn {v : Value} {n : Nat} {f : Nat → List Value} {p : Nat → Bool} {fv : Value} (hn1 : n ≤ 1000000) (hf : ∀ i, (f i).length = 6) (w : World) (hR : RdK w v n 6 f) (hp : PQ w fv (fun i => .agg (f i).toArray) (fun i => i < n) p) :
    Fn Tryz.prog 64 #[v, fv] w fun u w' => ∃ k : Int, FirstN n p k ∧ u = zv k ∧ Ext w w' := by
  obtain ⟨a, c, rfl, hc, -⟩ := id hR
  refine enterH (l := [_, _]) rfl Tryz.ntmps64 rfl ?_
  refine hwF0 ?_
  refine HC.loop (α := Nat) (fun j => [(0, .slice a n c), (1, fv), (7, zv (n : Int)), (8, zv (j : Int))]) (fun _ => []) (fun j => j ≤ n ∧ ∀ i, i < j → p i = false) (fun j => n - j) 0 ⟨Nat.zero_le _, fun i hi => absurd hi (Nat.not_lt_zero _)⟩ esA (Hs.refl _) ?_
  rintro j ⟨hj, hI⟩
  by_cases hlt : j < n
  · have hn : ((j : Nat) : Int) < (n : Int) := by omega
    obtain ⟨b, off, rfl, hb⟩ := hR.cell hlt
    have hcl := hb j hlt
    refine hwF0 ?_
    refine HL.one (H1.ldAggw (b := b) (off := off + j * 6) (vs := f j) rfl (hf j) (fun w' hM i u hu => cell_ext hM.ext (hcl i u hu)) rfl ?_)
    refine hwF0 ?_
    refine HL.one (H1.callpq (x := j) (fun w' hM => hp.ext hM.ext) hlt rfl rfl rfl ?_)
    cases hpr : p j
    · refine hwF0 ?_
      exact HX.again (j + 1) ⟨hlt, fun i hi => by
        by_cases e : i = j
        · rw [e]; exact hpr
        · exact hI i (by omega)⟩ (by omega) esA (Hs.refl _)
    · refine hwF0 ?_
      exact HX.ret1 rfl rfl fun w' hM => ⟨j, .inr ⟨j, rfl, hlt, hI, hpr⟩, rfl, hM.ext⟩
  have hn : ¬ ((j : Nat) : Int) < (n : Int) := by omega
  obtain rfl : j = n := by omega
  refine hwF0 ?_
  exact HX.ret1 rfl rfl fun w' hM => ⟨-1, .inl ⟨rfl, hI⟩, rfl, hM.ext⟩
theorem contCl_fn {v : Value} {n : Nat} {f : Nat → List Value} {p : Nat → Bool} {fv : Value} (hn1 : n ≤ 1000000) (hf : ∀ i, (f i).length = 6) (w : World) (hR : RdK w v n 6 f) (hp : PQ w fv (fun i => .agg (f i).toArray) (fun i => i < n) p) :
    Fn Tryz.prog 179 #[v, fv] w fun u w' => u = .bool (anyN n p) ∧ Ext w w' := by
  refine enterH (l := [_, _]) rfl Tryz.ntmps179 rfl ?_
  refine hwF0 ?_
  refine HL.one (H1.callp (α := Int) (V := zv) (I := fun k => FirstN n p k) (vs := [v, fv]) rfl rfl (fun w' hM => indexCl_fn hn1 hf w' (hR.ext hM.ext) (hp.ext hM.ext)) ?_)
  intro k hk
  refine hwF0 ?_
  exact HX.ret1 rfl rfl fun w' hM => ⟨congrArg Value.bool hk.any, hM.ext⟩
set_option maxHeartbeats 1000000 in
theorem indexLn_fn {v : Value} {n : Nat} {f : Nat → List Value} {p : Nat → Bool} {fv : Value} (hn1 : n ≤ 1000000) (hf : ∀ i, (f i).length = 2) (w : World) (hR : RdK w v n 2 f) (hp : PQ w fv (fun i => .agg (f i).toArray) (fun i => i < n) p) :
    Fn Tryz.prog 244 #[v, fv] w fun u w' => ∃ k : Int, FirstN n p k ∧ u = zv k ∧ Ext w w' := by
  obtain ⟨a, c, rfl, hc, -⟩ := id hR
  refine enterH (l := [_, _]) rfl Tryz.ntmps244 rfl ?_
  refine hwF0 ?_
  refine HC.loop (α := Nat) (fun j => [(0, .slice a n c), (1, fv), (7, zv (n : Int)), (8, zv (j : Int))]) (fun _ => []) (fun j => j ≤ n ∧ ∀ i, i < j → p i = false) (fun j => n - j) 0 ⟨Nat.zero_le _, fun i hi => absurd hi (Nat.not_lt_zero _)⟩ esA (Hs.refl _) ?_
  rintro j ⟨hj, hI⟩
  by_cases hlt : j < n
  · have hn : ((j : Nat) : Int) < (n : Int) := by omega
    obtain ⟨b, off, rfl, hb⟩ := hR.cell hlt
    have hcl := hb j hlt
    refine hwF0 ?_
    refine HL.one (H1.ldAggw (b := b) (off := off + j * 2) (vs := f j) rfl (hf j) (fun w' hM i u hu => cell_ext hM.ext (hcl i u hu)) rfl ?_)
    refine hwF0 ?_
    refine HL.one (H1.callpq (x := j) (fun w' hM => hp.ext hM.ext) hlt rfl rfl rfl ?_)
    cases hpr : p j
    · refine hwF0 ?_
      exact HX.again (j + 1) ⟨hlt, fun i hi => by
        by_cases e : i = j
        · rw [e]; exact hpr
        · exact hI i (by omega)⟩ (by omega) esA (Hs.refl _)
    · refine hwF0 ?_
      exact HX.ret1 rfl rfl fun w' hM => ⟨j, .inr ⟨j, rfl, hlt, hI, hpr⟩, rfl, hM.ext⟩
  have hn : ¬ ((j : Nat) : Int) < (n : Int) := by omega
  obtain rfl : j = n := by omega
  refine hwF0 ?_
  exact HX.ret1 rfl rfl fun w' hM => ⟨-1, .inl ⟨rfl, hI⟩, rfl, hM.ext⟩
theorem contLn_fn {v : Value} {n : Nat} {f : Nat → List Value} {p : Nat → Bool} {fv : Value} (hn1 : n ≤ 1000000) (hf : ∀ i, (f i).length = 2) (w : World) (hR : RdK w v n 2 f) (hp : PQ w fv (fun i => .agg (f i).toArray) (fun i => i < n) p) :
    Fn Tryz.prog 175 #[v, fv] w fun u w' => u = .bool (anyN n p) ∧ Ext w w' := by
  refine enterH (l := [_, _]) rfl Tryz.ntmps175 rfl ?_
  refine hwF0 ?_
  refine HL.one (H1.callp (α := Int) (V := zv) (I := fun k => FirstN n p k) (vs := [v, fv]) rfl rfl (fun w' hM => indexLn_fn hn1 hf w' (hR.ext hM.ext) (hp.ext hM.ext)) ?_)
  intro k hk
  refine hwF0 ?_
  exact HX.ret1 rfl rfl fun w' hM => ⟨congrArg Value.bool hk.any, hM.ext⟩
set_option maxHeartbeats 1000000 in
theorem indexSt_fn {v : Value} {n : Nat} {f : Nat → List Value} {p : Nat → Bool} {fv : Value} (hn1 : n ≤ 1000000) (hf : ∀ i, (f i).length = 2) (w : World) (hR : RdK w v n 2 f) (hp : PQ w fv (fun i => .agg (f i).toArray) (fun i => i < n) p) :
    Fn Tryz.prog 194 #[v, fv] w fun u w' => ∃ k : Int, FirstN n p k ∧ u = zv k ∧ Ext w w' := by
  obtain ⟨a, c, rfl, hc, -⟩ := id hR
  refine enterH (l := [_, _]) rfl Tryz.ntmps194 rfl ?_
  refine hwF0 ?_
  refine HC.loop (α := Nat) (fun j => [(0, .slice a n c), (1, fv), (7, zv (n : Int)), (8, zv (j : Int))]) (fun _ => []) (fun j => j ≤ n ∧ ∀ i, i < j → p i = false) (fun j => n - j) 0 ⟨Nat.zero_le _, fun i hi => absurd hi (Nat.not_lt_zero _)⟩ esA (Hs.refl _) ?_
  rintro j ⟨hj, hI⟩
  by_cases hlt : j < n
  · have hn : ((j : Nat) : Int) < (n : Int) := by omega
    obtain ⟨b, off, rfl, hb⟩ := hR.cell hlt
    have hcl := hb j hlt
    refine hwF0 ?_
    refine HL.one (H1.ldAggw (b := b) (off := off + j * 2) (vs := f j) rfl (hf j) (fun w' hM i u hu => cell_ext hM.ext (hcl i u hu)) rfl ?_)
    refine hwF0 ?_
    refine HL.one (H1.callpq (x := j) (fun w' hM => hp.ext hM.ext) hlt rfl rfl rfl ?_)
    cases hpr : p j
    · refine hwF0 ?_
      exact HX.again (j + 1) ⟨hlt, fun i hi => by
        by_cases e : i = j
        · rw [e]; exact hpr
        · exact hI i (by omega)⟩ (by omega) esA (Hs.refl _)
    · refine hwF0 ?_
      exact HX.ret1 rfl rfl fun w' hM => ⟨j, .inr ⟨j, rfl, hlt, hI, hpr⟩, rfl, hM.ext⟩
  have hn : ¬ ((j : Nat) : Int) < (n : Int) := by omega
  obtain rfl : j = n := by omega
  refine hwF0 ?_
  exact HX.ret1 rfl rfl fun w' hM => ⟨-1, .inl ⟨rfl, hI⟩, rfl, hM.ext⟩
theorem contSt_fn {v : Value} {n : Nat} {f : Nat → List Value} {p : Nat → Bool} {fv : Value} (hn1 : n ≤ 1000000) (hf : ∀ i, (f i).length = 2) (w : World) (hR : RdK w v n 2 f) (hp : PQ w fv (fun i => .agg (f i).toArray) (fun i => i < n) p) :
    Fn Tryz.prog 132 #[v, fv] w fun u w' => u = .bool (anyN n p) ∧ Ext w w' := by
  refine enterH (l := [_, _]) rfl Tryz.ntmps132 rfl ?_
  refine hwF0 ?_
  refine HL.one (H1.callp (α := Int) (V := zv) (I := fun k => FirstN n p k) (vs := [v, fv]) rfl rfl (fun w' hM => indexSt_fn hn1 hf w' (hR.ext hM.ext) (hp.ext hM.ext)) ?_)
  intro k hk
  refine hwF0 ?_
  exact HX.ret1 rfl rfl fun w' hM => ⟨congrArg Value.bool hk.any, hM.ext⟩
end Go.Sx
/-
  DERIVED: THE SHELF's CONTRACTS AT THIS DUMP, IN PLAIN WORDS (tools/lay-plain.mjs out of 'TryzShelf4.lean', which tools/lay-shelf.mjs wrote): THE SAME DECLARATIONS UNDER THE SAME NAMES: 'import', 'namespace', 'open', 'def', 'theorem' AND NOTHING ELSE: no command of the shelf's: FOR A HAND-IN. Each laying: the table of numbers ('.._ren') and one theorem, a field a fact of the dump's own or the kernel's comparison; each contract: ONE APPLICATION.
-/
namespace Go.Proofs
open Go.Shelf
def Tryz.idxP_ren : Go.Shelf.Ren := ⟨fun | 15 => 178 | 20 => 245 | n => n, fun | 9 => 9 | 23 => 252 | 3 => 3 | 4 => 4 | 0 => 0 | 21 => 21 | n => n, fun | n => n⟩
theorem Tryz.idxP : Go.Proofs.LaysGw.n15 Tryz.prog Tryz.idxP_ren := {
  mixed := by kernel_rfl
  f15 := Tryz.func178.trans (congrArg some (by kernel_rfl))
  f20 := Tryz.func245.trans (congrArg some (by kernel_rfl))
  t0 := Tryz.underlying0
  a0 := Tryz.isAgg0
  z0 := Tryz.sizeOf0
  v0 := Tryz.zeroValue0
  i0 := by kernel_rfl
  t3 := Tryz.underlying3
  a3 := Tryz.isAgg3
  z3 := Tryz.sizeOf3
  v3 := Tryz.zeroValue3
  i3 := by kernel_rfl
  t4 := Tryz.underlying4
  a4 := Tryz.isAgg4
  z4 := Tryz.sizeOf4
  v4 := Tryz.zeroValue4
  i4 := by kernel_rfl
  t9 := Tryz.underlying9
  a9 := Tryz.isAgg9
  z9 := Tryz.sizeOf9
  v9 := Tryz.zeroValue9
  i9 := by kernel_rfl
  t21 := Tryz.underlying21
  a21 := Tryz.isAgg21
  z21 := Tryz.sizeOf21
  v21 := Tryz.zeroValue21
  i21 := by kernel_rfl
  t23 := Tryz.underlying252
  a23 := Tryz.isAgg252
  z23 := Tryz.sizeOf252
  v23 := Tryz.zeroValue252
  i23 := by kernel_rfl }
def Tryz.conP_ren : Go.Shelf.Ren := ⟨fun | 17 => 204 | 15 => 178 | 20 => 245 | n => n, fun | 9 => 9 | 23 => 252 | 4 => 4 | 3 => 3 | 0 => 0 | 21 => 21 | n => n, fun | n => n⟩
theorem Tryz.conP : Go.Proofs.LaysGw.n17 Tryz.prog Tryz.conP_ren := {
  mixed := by kernel_rfl
  f15 := Tryz.func178.trans (congrArg some (by kernel_rfl))
  f17 := Tryz.func204.trans (congrArg some (by kernel_rfl))
  f20 := Tryz.func245.trans (congrArg some (by kernel_rfl))
  t0 := Tryz.underlying0
  a0 := Tryz.isAgg0
  z0 := Tryz.sizeOf0
  v0 := Tryz.zeroValue0
  i0 := by kernel_rfl
  t3 := Tryz.underlying3
  a3 := Tryz.isAgg3
  z3 := Tryz.sizeOf3
  v3 := Tryz.zeroValue3
  i3 := by kernel_rfl
  t4 := Tryz.underlying4
  a4 := Tryz.isAgg4
  z4 := Tryz.sizeOf4
  v4 := Tryz.zeroValue4
  i4 := by kernel_rfl
  t9 := Tryz.underlying9
  a9 := Tryz.isAgg9
  z9 := Tryz.sizeOf9
  v9 := Tryz.zeroValue9
  i9 := by kernel_rfl
  t21 := Tryz.underlying21
  a21 := Tryz.isAgg21
  z21 := Tryz.sizeOf21
  v21 := Tryz.zeroValue21
  i21 := by kernel_rfl
  t23 := Tryz.underlying252
  a23 := Tryz.isAgg252
  z23 := Tryz.sizeOf252
  v23 := Tryz.zeroValue252
  i23 := by kernel_rfl }
end Go.Proofs
/- content: lines, cells, documents without a raster are valid: the walks. -/
namespace Go.Sx
open Go Go.Proofs Go.RowKit
theorem hwF1 {G G2 : Prop} (x : G2) (hwq : Hold G2 → G := by
    intro hQq
    repeat' (first | refine HL.pa ?_ (POp.nilCheck rfl) | apply HL.fold | apply HA.fold | apply HL.nil | apply HX.n_then | apply HC.seq | apply HC.region | refine HL.pa ?_ | refine HL.ga rfl ?_ | refine HL.na rfl ?_ | refine HL.nu rfl rfl ?_ | apply HC.block | apply HC.skip | apply HC.exit | apply HC.ret | apply HX.e_block | refine HX.e_other rfl ?_ | apply HX.e_then | apply HX.e_again | apply HX.n_block | apply HX.r_then | apply HX.r_block | apply HX.r_again | refine HC.cond_yes rfl ?_ | refine HC.cond_no rfl ?_ | refine HL.one (H1.ldb rfl memA rfl rfl ?_) | refine HC.cond rfl (fun hc => ?_) (fun hc => ?_) | refine HC.cond_b rfl (fun hc => ?_) (fun hc => ?_))
    exact hQq.get) : G := hwq ⟨x⟩
theorem hnF1 {G G2 : Prop} (x : G2) (hwq : Hold G2 → G := by
    intro hQq
    repeat' (first | refine HL.pa ?_ (POp.nilCheck rfl) | apply HL.fold | apply HA.fold | apply HL.nil | apply HX.n_then | apply HC.seq | apply HC.region | refine HL.pa ?_ | refine HL.ga rfl ?_ | refine HL.na rfl ?_ | refine HL.nu rfl rfl ?_ | apply HC.block | apply HC.skip | apply HC.exit | apply HC.ret | apply HX.e_block | refine HX.e_other rfl ?_ | apply HX.e_then | apply HX.e_again | apply HX.n_block | apply HX.r_then | apply HX.r_block | apply HX.r_again | refine HC.cond_yes rfl ?_ | refine HC.cond_no rfl ?_ | refine HL.one (H1.ldb rfl memA rfl rfl ?_))
    exact hQq.get) : G := hwq ⟨x⟩
/-- Cells of a block that stay as they are. -/
def cellsO (b off : Nat) (vs : List Value) : List (Addr × Value) := vs.zipIdx.map fun p => (⟨b, off + p.2, none⟩, p.1)
theorem cellsO_mem {b off : Nat} {vs : List Value} {i : Nat} {v : Value} (h : vs[i]? = some v) : ((⟨b, off + i, none⟩ : Addr), v) ∈ cellsO b off vs := List.mem_map.2 ⟨(v, i), List.mk_mem_zipIdx_iff_getElem?.2 h, rfl⟩
theorem Keep.baseO {l : List (Addr × Value)} {w0 : World} {H : List Atom} {b off : Nat} {vs : List Value} (h0 : ∀ (i : Nat) (v : Value), vs[i]? = some v → w0.cell? ⟨b, off + i, none⟩ = some v) (h : Keep l w0 H) : Keep (cellsO b off vs ++ l) w0 H := fun w hM p hp => by
  rcases List.mem_append.1 hp with hp | hp
  · obtain ⟨⟨v, i⟩, h1, rfl⟩ := List.mem_map.1 hp
    exact cell_ext hM.ext (h0 _ _ (List.mk_mem_zipIdx_iff_getElem?.1 h1))
  · exact h w hM p hp
theorem cellsOL {b off : Nat} {vs : List Value} {l : List (Addr × Value)} {p : Addr × Value} (h : p ∈ cellsO b off vs) : p ∈ cellsO b off vs ++ l := List.mem_append_left _ h
theorem cellsOR {b off : Nat} {vs : List Value} {l : List (Addr × Value)} {p : Addr × Value} (h : p ∈ l) : p ∈ cellsO b off vs ++ l := List.mem_append_right _ h
section
variable {P : Program} {N : Nat} {ds : List Deferred} {ol : List Oper} {Q : Post} {E : Env} {w0 : World} {H : List Atom} {fuel : Nat} {listed : Array Bool} {ty : TypeId} {pos : String} {af : Array Edge} {l : List (Addr × Value)}
theorem HB.ldO [hq : QPanic Q] {d : Nat} {t : TypeId} {x : Operand} {b off : Nat} {vs : List Value} {z : Value} {n bb : Nat} [hat : ATy P t true] [hit : ITy P t z n bb] (i : Nat) (ho : ol[i]? = some ⟨some d, .load t x, ty, pos, af, none⟩) (hx : Env.ev E x = some (.pointer (some ⟨b, off, none⟩))) (hn : vs.length = n)
    (hc : ∀ i v, vs[i]? = some v → ((⟨b, off + i, none⟩ : Addr), v) ∈ l)
    (h : HB l P N ds ol fuel (listed.setIfInBounds i true) Q ((d, .agg vs.toArray) :: E) w0 H)
    (hne : (match x with | .tmp t => !(Nat.beq t d) | _ => true) = true := by exact rfl)
    (hs : (Region.noSelect ol.toArray && Region.free .any ol.toArray listed i && (Region.ready .any ol.toArray listed).contains i) = true := by kernel_rfl)
    (hd : Nat.blt d N = true := by exact rfl) : HB l P N ds ol (fuel + 1) listed Q E w0 H := fun w hM a ha => by
  simp only [Bool.and_eq_true] at hs
  have ho' : ol.toArray[i]? = some ⟨some d, .load t x, ty, pos, af, none⟩ := by simpa using ho
  refine anyC_load (t := t) (x := x) rfl rfl (fun d' hd' e => ?_) ho' hs.1.1 hs.1.2 hs.2 (fun c a w => hq.is c a _ _ w) (fun a' ha' w' hC => ?_) (h w hM _ (ha.put hd (.agg vs.toArray)))
  · cases hd'; subst e; simp at hne
  · have h1 : a'.eval x = .pointer (some ⟨b, off, none⟩) := ha'.trans (ha.ev hx)
    have h2 : ∀ i v, vs[i]? = some v → w'.cell? ⟨b, off + i, none⟩ = some v := fun i v hv => hC _ (hc i v hv)
    simp only [execOp, h1, Instr.loadAt, Instr.sureAddr, loadVar, Sem.run_bind, Sem.run_pure]
    simp [run_isAgg, run_sizeOf, loadCells, run_loadCellsFrom P w' b off vs h2 n 0 #[] (by omega), Result.andThen, Sem.run_bind]
end
theorem Fn.shapedF {P : Program} {f : FuncId} {args : Array Value} {w : World} {n : Nat} {e : TypeId} {xs : List Value} (h : Fn P f args w fun u w' => ∃ z : Option Addr × Nat, True ∧ u = .slice z.1 n z.2 ∧ Mm w [A.grow e 1 z.1 z.2 n xs] w') :
    Fn P f args w fun u w' => ∃ z : Option Addr × Nat, (n = 0 ∨ ∃ b, z.1 = some ⟨b, 0, none⟩) ∧ u = .slice z.1 n z.2 ∧ Mm w [A.grow e 1 z.1 z.2 n xs] w' := h.mono fun u w' hh => by
  obtain ⟨z, -, h2, h3⟩ := hh
  obtain ⟨a, c, e1, e2⟩ := own_shape (h3.own (.head _))
  cases e1
  exact ⟨z, e2, h2, h3⟩
/-- A cell of a table. -/
structure Cl where
  row : Int
  col : Int
  sum : Bool
  val : Int
  top : Int
  left : Int
def clC (c : Cl) : List Value := [zv c.row, zv c.col, .bool c.sum, zv c.val, zv c.top, zv c.left]
def lnC (l : ByteArray × Int) : List Value := [.string l.1, zv l.2]
theorem clC_one (c : Cl) : ∀ v ∈ clC c, v.oneCell' = true := by
  intro v hv
  simp only [clC, List.mem_cons, List.not_mem_nil, or_false] at hv
  rcases hv with rfl | rfl | rfl | rfl | rfl | rfl <;> rfl
structure ClOk (c : Cl) : Prop where
  row : 0 ≤ c.row ∧ c.row ≤ 31
  col : 0 ≤ c.col ∧ c.col ≤ 31
  sum : c.sum = true → c.val = 0 ∧ (0 ≤ c.top ∧ c.top ≤ c.row) ∧ (0 ≤ c.left ∧ c.left ≤ c.col)
  con : c.sum = false → (-1000000 ≤ c.val ∧ c.val ≤ 1000000) ∧ c.top = 0 ∧ c.left = 0
def notText (r : Nat) : Bool := decide ((r : Int) < 32) || decide ((r : Int) > 126)
structure LnOk (l : ByteArray × Int) : Prop where
  len : l.1.size ≤ 80
  text : Lib.idxFunc notText true l.1 = -1
  mark : 0 ≤ l.2 ∧ l.2 ≤ 7
attribute [local irreducible] WC WL WX POp Then Again Fn NX W1 WA WO QL RP RA Yld LoopAt HC HL HX HN H1 HA HO HQ HB HP A.blk A.grow A.rd A.obj A.mp AgainH CutH
attribute [local irreducible] A.mq A.mit
theorem cwithin_fn (n lo hi : Int) (w : World) : Fn Tryz.prog 118 #[zv n, zv lo, zv hi] w fun u w' => u = .bool (decide (lo ≤ n) && decide (n ≤ hi)) ∧ Ext w w' := by
  refine enterH (l := [_, _, _]) rfl Tryz.ntmps118 rfl ?_
  by_cases h1 : n ≥ lo
  · have h1' : lo ≤ n := h1
    refine hwF1 ?_
    exact HX.ret1 rfl rfl fun w' hM => ⟨by rw [decide_eq_true h1']; rfl, hM.ext⟩
  · have h1' : ¬ lo ≤ n := h1
    refine hwF1 ?_
    exact HX.ret1 rfl rfl fun w' hM => ⟨by rw [decide_eq_false h1']; rfl, hM.ext⟩
theorem cwithin_yes {n lo hi : Int} (h1 : lo ≤ n) (h2 : n ≤ hi) (w : World) : Fn Tryz.prog 118 #[zv n, zv lo, zv hi] w fun u w' => u = .bool true ∧ Ext w w' := (cwithin_fn n lo hi w).mono fun u w' h => ⟨by rw [h.1, decide_eq_true h1, decide_eq_true h2]; rfl, h.2⟩
theorem isOther_at (w : World) : PredAt Tryz.prog 177 #[] Go.Proofs.encR notText w := fun W r _ => by
  unfold FnGives
  by_cases h1 : (r : Int) < 32 <;> by_cases h2 : (r : Int) > 126
  all_goals
    go_enter Tryz.func177, Tryz.ntmps177
    go_wp2
    all_goals first | (exfalso; omega) | (go_ret; exact ⟨by simp [notText, h1, h2], 0, rfl⟩)
theorem sIndex_fn (s : ByteArray) (w : World) : Fn Tryz.prog 178 #[.string s, .func (.func 177) #[] #[]] w fun u w' => u = zv (Lib.idxFunc notText true s) ∧ Ext w w' := by
  have h : Calls Tryz.prog 178 #[.string s, .func (.func 177) #[] #[]] w _ := Any.strings_IndexFunc Tryz.idxP 177 #[] (enters_of Tryz.func177 (by kernel_rfl) rfl) notText s w (isOther_at w)
  unfold Fn
  refine Calls.mono h ?_
  rintro e w' ⟨h1, h2⟩
  exact ⟨_, h1, rfl, h2⟩
theorem isLine_fn (l : ByteArray × Int) (h : LnOk l) (w : World) : Fn Tryz.prog 101 #[.agg (lnC l).toArray] w fun u w' => u = .bool true ∧ Ext w w' := by
  obtain ⟨s, m⟩ := l
  have h1 := h.len
  have h2 := h.text
  have h3 := h.mark
  dsimp only at h1 h2 h3
  have h1' : ((s.size : Nat) : Int) ≤ 80 := by omega
  refine enterH (l := [_]) rfl Tryz.ntmps101 rfl ?_
  unfold lnC
  refine hwF1 ?_
  refine HL.one (H1.boxAgg (cs := [.string s, zv m]) rfl rfl (fun b1 => ?_))
  refine hwF1 ?_
  refine HL.one (H1.callx (vs := [_, _]) rfl rfl (fun w' _ => sIndex_fn s w') ?_)
  rw [h2]
  refine hwF1 ?_
  refine HL.one (H1.callx (vs := [_, _, _]) rfl rfl (fun w' _ => cwithin_yes h3.1 h3.2 w') ?_)
  refine hwF1 ?_
  exact HX.ret1 rfl rfl fun w' hM => ⟨rfl, hM.ext⟩
theorem isCell_fn (c : Cl) (h : ClOk c) (w : World) : Fn Tryz.prog 103 #[.agg (clC c).toArray] w fun u w' => u = .bool true ∧ Ext w w' := by
  obtain ⟨r, cc, sm, v, tp, lf⟩ := c
  have h1 := h.row
  have h2 := h.col
  have h3 := h.sum
  have h4 := h.con
  dsimp only at h1 h2 h3 h4
  refine enterH (l := [_]) rfl Tryz.ntmps103 rfl ?_
  unfold clC
  refine hwF1 ?_
  refine HL.one (H1.boxAgg (cs := [zv r, zv cc, .bool sm, zv v, zv tp, zv lf]) rfl rfl (fun b1 => ?_))
  refine hwF1 ?_
  refine HL.one (H1.callx (vs := [_, _, _]) rfl rfl (fun w' _ => cwithin_yes h1.1 h1.2 w') ?_)
  refine hwF1 ?_
  refine HL.one (H1.callx (vs := [_, _, _]) rfl rfl (fun w' _ => cwithin_yes h2.1 h2.2 w') ?_)
  cases sm with
  | true =>
    obtain ⟨e1, e2, e3⟩ := h3 rfl
    refine hwF1 ?_
    refine HL.one (H1.callx (vs := [_, _, _]) rfl rfl (fun w' _ => cwithin_yes e2.1 e2.2 w') ?_)
    refine hwF1 ?_
    refine HL.one (H1.callx (vs := [_, _, _]) rfl rfl (fun w' _ => cwithin_yes e3.1 e3.2 w') ?_)
    refine hwF1 ?_
    exact HX.ret1 rfl rfl fun w' hM => ⟨rfl, hM.ext⟩
  | false =>
    obtain ⟨e1, e2, e3⟩ := h4 rfl
    refine hwF1 ?_
    refine HL.one (H1.callx (vs := [_, _, _]) rfl rfl (fun w' _ => cwithin_yes e1.1 e1.2 w') ?_)
    refine hwF1 ?_
    exact HX.ret1 rfl rfl fun w' hM => ⟨by rw [decide_eq_true e3], hM.ext⟩
/- all: a predicate that holds everywhere -/
theorem allLn_fn {v : Value} {n : Nat} {L : Nat → ByteArray × Int} (hn1 : n ≤ 1000000) (hok : ∀ i, i < n → LnOk (L i)) (w : World) (hR : RdK w v n 2 fun i => lnC (L i)) :
    Fn Tryz.prog 100 #[v, .func (.func 101) #[] #[]] w fun u w' => u = .bool true ∧ Ext w w' := by
  refine enterH (l := [_, _]) rfl Tryz.ntmps100 rfl ?_
  refine hwF1 ?_
  refine HL.one (H1.box rfl rfl rfl (fun b3 => ?_))
  refine hwF1 ?_
  refine HL.one (H1.callx (u := .bool false) (vs := [v, .func (.func 176) #[] #[.pointer (some ⟨b3, 0, none⟩)]]) rfl rfl (fun w' hM => (contLn_fn (p := fun _ => false) hn1 (fun _ => rfl) w' (hR.ext hM.ext) ⟨_, [], [.pointer (some ⟨b3, 0, none⟩)], rfl, inferInstance, fun w2 hx i hi => ?_⟩).mono fun u w'' h => ⟨h.1.trans (by rw [anyN_no fun _ _ => rfl]), h.2⟩) ?_)
  · have hc : w2.cell? ⟨b3, 0, none⟩ = some (.func (.func 101) #[] #[]) := cell_ext hx ((hM.blk (b := b3) memA).cell rfl)
    have hl := hok i hi
    refine enterH (l := [_, _]) rfl Tryz.ntmps176 rfl ?_
    dsimp only
    generalize L i = l at hl ⊢
    unfold lnC
    refine hwF1 ?_
    refine HL.one (H1.boxAgg (cs := [.string l.1, zv l.2]) rfl rfl (fun b2 => ?_))
    refine hwF1 ?_
    refine HL.one (H1.ld0 rfl hc rfl ?_)
    refine hwF1 ?_
    refine HL.one (H1.ldAgg (vs := [.string l.1, zv l.2]) rfl memA rfl (fun i v hv => by rw [Nat.zero_add]; exact hv) rfl ?_)
    refine hwF1 ?_
    refine HL.one (H1.callv0 (u := .bool true) (cap := []) (vs := [.agg (lnC l).toArray]) rfl rfl rfl (fun w' _ => isLine_fn l hl w') ?_)
    refine hwF1 ?_
    exact HX.ret1 rfl rfl fun w' hM => ⟨rfl, hM.ext⟩
  refine hwF1 ?_
  exact HX.ret1 rfl rfl fun w' hM => ⟨rfl, hM.ext⟩
theorem allCl_fn {v : Value} {n : Nat} {L : Nat → Cl} (hn1 : n ≤ 1000000) (hok : ∀ i, i < n → ClOk (L i)) (w : World) (hR : RdK w v n 6 fun i => clC (L i)) :
    Fn Tryz.prog 102 #[v, .func (.func 103) #[] #[]] w fun u w' => u = .bool true ∧ Ext w w' := by
  refine enterH (l := [_, _]) rfl Tryz.ntmps102 rfl ?_
  refine hwF1 ?_
  refine HL.one (H1.box rfl rfl rfl (fun b3 => ?_))
  refine hwF1 ?_
  refine HL.one (H1.callx (u := .bool false) (vs := [v, .func (.func 180) #[] #[.pointer (some ⟨b3, 0, none⟩)]]) rfl rfl (fun w' hM => (contCl_fn (p := fun _ => false) hn1 (fun _ => rfl) w' (hR.ext hM.ext) ⟨_, [], [.pointer (some ⟨b3, 0, none⟩)], rfl, inferInstance, fun w2 hx i hi => ?_⟩).mono fun u w'' h => ⟨h.1.trans (by rw [anyN_no fun _ _ => rfl]), h.2⟩) ?_)
  · have hc : w2.cell? ⟨b3, 0, none⟩ = some (.func (.func 103) #[] #[]) := cell_ext hx ((hM.blk (b := b3) memA).cell rfl)
    have hl := hok i hi
    refine enterH (l := [_, _]) rfl Tryz.ntmps180 rfl ?_
    dsimp only
    generalize L i = l at hl ⊢
    unfold clC
    refine hwF1 ?_
    refine HL.one (H1.boxAgg (cs := [zv l.row, zv l.col, .bool l.sum, zv l.val, zv l.top, zv l.left]) rfl rfl (fun b2 => ?_))
    refine hwF1 ?_
    refine HL.one (H1.ld0 rfl hc rfl ?_)
    refine hwF1 ?_
    refine HL.one (H1.ldAgg (vs := [zv l.row, zv l.col, .bool l.sum, zv l.val, zv l.top, zv l.left]) rfl memA rfl (fun i v hv => by rw [Nat.zero_add]; exact hv) rfl ?_)
    refine hwF1 ?_
    refine HL.one (H1.callv0 (u := .bool true) (cap := []) (vs := [.agg (clC l).toArray]) rfl rfl rfl (fun w' _ => isCell_fn l hl w') ?_)
    refine hwF1 ?_
    exact HX.ret1 rfl rfl fun w' hM => ⟨rfl, hM.ext⟩
  refine hwF1 ?_
  exact HX.ret1 rfl rfl fun w' hM => ⟨rfl, hM.ext⟩
theorem trimE_fn (w : World) : Fn Tryz.prog 136 #[.string ⟨#[]⟩, .string ⟨#[48, 49]⟩] w fun u w' => u = .string ⟨#[]⟩ ∧ Ext w w' := by
  refine enterH (l := [_, _]) rfl Tryz.ntmps136 rfl ?_
  refine hwF1 ?_
  exact HX.ret1 rfl rfl fun w' hM => ⟨rfl, hM.ext⟩
theorem isRaster0_fn (vl vc : Value) (h1 : vl.oneCell' = true) (h2 : vc.oneCell' = true) (w : World) : Fn Tryz.prog 104 #[.agg #[vl, vc, zv 0, .string ⟨#[]⟩]] w fun u w' => u = .bool true ∧ Ext w w' := by
  refine enterH (l := [_]) rfl Tryz.ntmps104 rfl ?_
  refine hwF1 ?_
  refine HL.one (H1.boxAgg (cs := [vl, vc, zv 0, .string ⟨#[]⟩]) rfl rfl (fun b1 => ?_))
  refine hwF1 ?_
  refine HL.one (H1.callx (vs := [_, _, _]) rfl rfl (fun w' _ => cwithin_yes (by decide) (by decide) w') ?_)
  refine hwF1 ?_
  refine HL.one (H1.callx (vs := [_, _]) rfl rfl (fun w' _ => trimE_fn w') ?_)
  refine hwF1 ?_
  refine HC.quietS [(some 15, [1], []), (some 16, [15], [0]), (some 17, [16], [1]), (some 18, [17], [2]), (some 19, [18], [3]), (some 20, [1, 19], [4]), (some 21, [20, 19], [5, 4]), (some 22, [21, 19], [6, 4]), (some 23, [22, 19], [7, 4]), (some 24, [19, 23], [4, 8]), (some 25, [24], [9, 4]), (some 26, [1, 25], [10]), (some 27, [26, 25], [11, 10]), (some 28, [27, 25], [12, 10]), (some 29, [28, 25], [13, 10]), (some 30, [29, 25], [14, 10, 10]), (some 31, [1, 30], [15]), (some 32, [31, 30], [16, 15]), (some 33, [32, 30], [17, 15]), (some 34, [33, 30], [18, 15]), (some 35, [1, 30], [15]), (some 36, [35, 30], [20, 15]), (some 37, [36, 30], [21, 15]), (some 38, [1, 30], [15]), (some 39, [38, 30], [23, 15, 15]), (some 40, [37, 39, 30], [22, 24, 15]), (some 41, [34, 40, 30], [19, 25, 15]), (some 42, [30, 41, 25], [15, 26, 10]), (some 43, [42, 25], [27, 24, 10]), (some 44, [1, 43], [28]), (some 45, [44, 43], [29, 28, 28]), (some 46, [45, 43], [30, 30, 28]), (some 47, [43, 46, 25], [28, 31, 10]), (some 48, [25, 47], [10, 32]), (some 2, [48], [33, 31, 0, 1, 2, 3, 4, 5, 6, 7, 8, 9, 10, 11, 12, 13, 14, 15, 16, 17, 18, 19, 20, 21, 22, 23, 24, 25, 26, 27, 28, 29, 30, 31, 32, 33])] (by kernel_rfl) (by kernel_rfl) (by kernel_rfl) ?_
  repeat' (first | refine HQ.pa ?_ | refine HQ.ga rfl ?_ | refine HQ.na rfl ?_ | refine HQ.nu rfl ?_ | refine HQ.ldb rfl memA rfl rfl ?_)
  refine HQ.nil ?_
  refine hwF1 ?_
  exact HX.ret1 rfl rfl fun w' hM => ⟨rfl, hM.ext⟩
/-- The cells of a table stand in order. -/
def ClAsc (C : Nat → Cl) (n : Nat) : Prop := ∀ i, i + 1 < n → (C i).row < (C (i + 1)).row ∨ (C i).row = (C (i + 1)).row ∧ (C i).col < (C (i + 1)).col
set_option maxHeartbeats 4000000 in
theorem cvalidR_fn {vl vc : Value} {wd : Int} {bits : ByteArray} (hras : ∀ v1 v2 : Value, v1.oneCell' = true → v2.oneCell' = true → ∀ w : World, Fn Tryz.prog 104 #[.agg #[v1, v2, zv wd, .string bits]] w fun u w' => u = .bool true ∧ Ext w w') {nl nc : Nat} {L : Nat → ByteArray × Int} {C : Nat → Cl} (hnl : nl ≤ 64) (hnc : nc ≤ 64) (hL : ∀ i, i < nl → LnOk (L i)) (hC : ∀ i, i < nc → ClOk (C i)) (hA : ClAsc C nc) (w : World) (hRl : RdK w vl nl 2 fun i => lnC (L i)) (hRc : RdK w vc nc 6 fun i => clC (C i)) :
    Fn Tryz.prog 44 #[.agg #[vl, vc, zv wd, .string bits]] w fun u w' => u = .bool true ∧ Ext w w' := by
  obtain ⟨al, cl, rfl, -, -⟩ := id hRl
  obtain ⟨ac, cc, rfl, -, -⟩ := id hRc
  refine enterH (l := [_]) rfl Tryz.ntmps44 rfl ?_
  refine hwF1 ?_
  refine HL.one (H1.boxAgg (cs := [.slice al nl cl, .slice ac nc cc, zv wd, .string bits]) rfl rfl (fun b1 => ?_))
  refine hwF1 ?_
  refine HC.loop (α := Nat) (fun k => [(1, .pointer (some ⟨b1, 0, none⟩)), (3, .bool true), (4, zv ((k + 1 : Nat) : Int))]) (fun _ => [A.blk b1 [.slice al nl cl, .slice ac nc cc, zv wd, .string bits] 54]) (fun k => k = 0 ∨ k + 1 ≤ nc) (fun k => nc - k) 0 (.inl rfl) esA (by repeat (first | exact Hs.nil _ | (refine Hs.cons pickA ?_))) ?_
  intro k hk
  by_cases hlt : k + 1 < nc
  · have hn : ((k + 1 : Nat) : Int) < (nc : Int) := by omega
    obtain ⟨bc, offc, rfl, hb⟩ := hRc.cell (show k < nc by omega)
    have hx := hb k (by omega)
    have hy := hb (k + 1) (by omega)
    have hak := hA k hlt
    clear hb
    generalize C k = x at hx hak
    generalize C (k + 1) = y at hy hak
    have hn1 : ((k + 1 : Nat) : Int) - 1 < (nc : Int) := by omega
    refine hnF1 ?_
    refine HC.cut (α := Nat × Nat) (fun q => [(1, .pointer (some ⟨b1, 0, none⟩)), (3, .bool true), (4, zv ((k + 1 : Nat) : Int)), (5, .pointer (some ⟨q.1, 0, none⟩)), (6, .pointer (some ⟨q.2, 0, none⟩))]) (fun q => [A.blk b1 [.slice al nl cl, .slice (some ⟨bc, offc, none⟩) nc cc, zv wd, .string bits] 54, A.blk q.1 (clC x) 72, A.blk q.2 (clC y) 72]) (fun _ => True) ?_ ?_
    · refine HC.anyC ((⟨b1, 1, none⟩, .slice (some ⟨bc, offc, none⟩) nc cc) :: (cellsO bc (offc + k * 6) (clC x) ++ (cellsO bc (offc + (k + 1) * 6) (clC y) ++ []))) rfl ?_
      refine HB.pa 0 rfl ?_
      refine HB.ld 1 rfl rfl memD ?_
      refine HB.pa 2 rfl ?_
      refine HB.pa 3 rfl ?_ ((POp.sub rfl rfl (by omega) (by omega)).of (congrArg zv (show ((k + 1 : Nat) : Int) - 1 = ((k : Nat) : Int) by omega)))
      refine HB.pa 4 rfl ?_
      refine HB.ldO (b := bc) (off := offc + k * 6) (vs := clC x) 5 rfl rfl rfl (fun i v hv => .tail _ (cellsOL (cellsO_mem hv))) ?_
      refine HB.pa 6 rfl ?_
      refine HB.ld 7 rfl rfl memD ?_
      refine HB.pa 8 rfl ?_
      refine HB.pa 9 rfl ?_
      refine HB.ldO (b := bc) (off := offc + (k + 1) * 6) (vs := clC y) 10 rfl rfl rfl (fun i v hv => .tail _ (cellsOR (cellsOL (cellsO_mem hv)))) ?_
      refine HB.all (by (exact Keep.blk (b := b1) memD rfl (Keep.baseO hx (Keep.baseO hy Keep.nil)))) [11, 12] (by kernel_rfl) rfl ⟨⟨_, rfl, ?_⟩, ⟨_, rfl, ?_⟩, trivial⟩
      · refine HP.one ?_
        refine H1.alloc (cs := [zv 0, zv 0, .bool false, zv 0, zv 0, zv 0]) rfl rfl (fun b5 => ?_)
        apply HB.fold
        refine HB.all (by (exact Keep.blk (b := b1) memD rfl (Keep.baseO hx (Keep.baseO hy Keep.nil)))) [12] (by kernel_rfl) rfl ⟨⟨_, rfl, ?_⟩, trivial⟩
        refine HP.one ?_
        refine H1.alloc (cs := [zv 0, zv 0, .bool false, zv 0, zv 0, zv 0]) rfl rfl (fun b6 => ?_)
        apply HB.fold
        refine HB.all (by (exact Keep.blk (b := b1) memD rfl (Keep.baseO hx (Keep.baseO hy Keep.nil)))) [13] (by kernel_rfl) rfl ⟨⟨_, rfl, ?_⟩, trivial⟩
        refine HP.one ?_
        refine H1.stAgg (b := b5) (cs := [zv 0, zv 0, .bool false, zv 0, zv 0, zv 0]) (vs := clC x) rfl rfl rfl (clC_one x) rplA rfl ?_
        apply HB.fold
        refine HB.all (by (exact Keep.blk (b := b1) memD rfl (Keep.baseO hx (Keep.baseO hy Keep.nil)))) [14] (by kernel_rfl) rfl ⟨⟨_, rfl, ?_⟩, trivial⟩
        refine HP.one ?_
        refine H1.stAgg (b := b6) (cs := [zv 0, zv 0, .bool false, zv 0, zv 0, zv 0]) (vs := clC y) rfl rfl rfl (clC_one y) rplA rfl ?_
        apply HB.fold
        refine HB.done (by (exact Keep.blk (b := b1) memD rfl (Keep.baseO hx (Keep.baseO hy Keep.nil)))) (by kernel_rfl) ?_
        exact HX.cut (b5, b6) trivial esA (by repeat (first | exact Hs.nil _ | (refine Hs.cons pickA ?_)))
      · refine HP.one ?_
        refine H1.alloc (cs := [zv 0, zv 0, .bool false, zv 0, zv 0, zv 0]) rfl rfl (fun b6 => ?_)
        apply HB.fold
        refine HB.all (by (exact Keep.blk (b := b1) memD rfl (Keep.baseO hx (Keep.baseO hy Keep.nil)))) [11] (by kernel_rfl) rfl ⟨⟨_, rfl, ?_⟩, trivial⟩
        refine HP.one ?_
        refine H1.alloc (cs := [zv 0, zv 0, .bool false, zv 0, zv 0, zv 0]) rfl rfl (fun b5 => ?_)
        apply HB.fold
        refine HB.all (by (exact Keep.blk (b := b1) memD rfl (Keep.baseO hx (Keep.baseO hy Keep.nil)))) [13] (by kernel_rfl) rfl ⟨⟨_, rfl, ?_⟩, trivial⟩
        refine HP.one ?_
        refine H1.stAgg (b := b5) (cs := [zv 0, zv 0, .bool false, zv 0, zv 0, zv 0]) (vs := clC x) rfl rfl rfl (clC_one x) rplA rfl ?_
        apply HB.fold
        refine HB.all (by (exact Keep.blk (b := b1) memD rfl (Keep.baseO hx (Keep.baseO hy Keep.nil)))) [14] (by kernel_rfl) rfl ⟨⟨_, rfl, ?_⟩, trivial⟩
        refine HP.one ?_
        refine H1.stAgg (b := b6) (cs := [zv 0, zv 0, .bool false, zv 0, zv 0, zv 0]) (vs := clC y) rfl rfl rfl (clC_one y) rplA rfl ?_
        apply HB.fold
        refine HB.done (by (exact Keep.blk (b := b1) memD rfl (Keep.baseO hx (Keep.baseO hy Keep.nil)))) (by kernel_rfl) ?_
        exact HX.cut (b5, b6) trivial esA (by repeat (first | exact Hs.nil _ | (refine Hs.cons pickA ?_)))
    rintro ⟨b5, b6⟩ -
    dsimp only
    unfold clC
    rcases hak with h1 | ⟨h1, h2⟩
    · refine hwF1 ?_
      exact HX.again (k + 1) (.inr (by omega)) (by show nc - (k + 1) < nc - k; omega) esA (by repeat (first | exact Hs.nil _ | (refine Hs.cons pickA ?_)))
    · have h1' : ¬ x.row < y.row := by omega
      refine hwF1 ?_
      exact HX.again (k + 1) (.inr (by omega)) (by show nc - (k + 1) < nc - k; omega) (by refine ⟨rfl, ?_, rfl, trivial⟩; show some (Value.bool (decide (x.col < y.col))) = _; rw [decide_eq_true h2]) (by repeat (first | exact Hs.nil _ | (refine Hs.cons pickA ?_)))
  have hn : ¬ ((k + 1 : Nat) : Int) < (nc : Int) := by omega
  have p1 : ((nl : Nat) : Int) ≤ 64 := by omega
  have p2 : ((nc : Nat) : Int) ≤ 64 := by omega
  refine hwF1 ?_
  refine HL.one (H1.callx (vs := [_, _]) rfl rfl (fun w' hM => allLn_fn (by omega) hL w' (hRl.ext hM.ext)) ?_)
  refine hwF1 ?_
  refine HL.one (H1.callx (vs := [_, _]) rfl rfl (fun w' hM => allCl_fn (by omega) hC w' (hRc.ext hM.ext)) ?_)
  refine hwF1 ?_
  refine HL.one (H1.ldAgg (b := b1) (vs := [.slice al nl cl, .slice ac nc cc, zv wd, .string bits]) rfl memA rfl (fun i v hv => by rw [Nat.zero_add]; exact hv) rfl ?_)
  refine hwF1 ?_
  refine HL.build (cs := [.slice al nl cl, .slice ac nc cc, zv wd, .string bits]) rfl rfl rfl ?_
  refine hwF1 ?_
  refine HL.one (H1.callx (vs := [_]) rfl rfl (fun w' _ => hras (.slice al nl cl) (.slice ac nc cc) rfl rfl w') ?_)
  refine hwF1 ?_
  exact HX.ret1 rfl rfl fun w' hM => ⟨rfl, hM.ext⟩
theorem cvalid_fn {vl vc : Value} {nl nc : Nat} {L : Nat → ByteArray × Int} {C : Nat → Cl} (hnl : nl ≤ 64) (hnc : nc ≤ 64) (hL : ∀ i, i < nl → LnOk (L i)) (hC : ∀ i, i < nc → ClOk (C i)) (hA : ClAsc C nc) (w : World) (hRl : RdK w vl nl 2 fun i => lnC (L i)) (hRc : RdK w vc nc 6 fun i => clC (C i)) :
    Fn Tryz.prog 44 #[.agg #[vl, vc, zv 0, .string ⟨#[]⟩]] w fun u w' => u = .bool true ∧ Ext w w' :=
  cvalidR_fn (fun v1 v2 h1 h2 w => isRaster0_fn v1 v2 h1 h2 w) hnl hnc hL hC hA w hRl hRc
end Go.Sx
/- Chapter 2: the words of a block: the walks. -/
namespace Go.Sx
open Go Go.Proofs Go.RowKit
def nats (l : List Nat) : List Value := l.map fun n : Nat => zv (n : Int)
def ws (l : List UInt32) : List Value := l.map w32
attribute [local irreducible] WC WL WX POp Then Again Fn NX W1 WA WO QL RP RA Yld LoopAt HC HL HX HN H1 HA HO HQ HB HP A.blk A.grow A.rd A.obj A.mp AgainH CutH
end Go.Sx
/- Chapter 2: the words of a block, and what a block does to a state: the walks. -/
namespace Go.Sx
open Go Go.Proofs Go.RowKit
def schW (l : List UInt8) (i : Nat) : List Value := row 64 fun j => w32 (if j < i then wW l j else 0)
attribute [local irreducible] WC WL WX POp Then Again Fn NX W1 WA WO QL RP RA Yld LoopAt HC HL HX HN H1 HA HO HQ HB HP A.blk A.grow A.rd A.obj A.mp AgainH CutH
attribute [local irreducible] wordAt mixW
end Go.Sx
/- Chapter 2: what a block does to a state: the walk. -/
namespace Go.Sx
open Go Go.Proofs Go.RowKit
/-- The table of package digest. -/
def RoundG (w : World) : Prop := ∀ i v, (ws kL)[i]? = some v → w.cell? ⟨0, i, none⟩ = some v
def addL (s v : S8) (i : Nat) : List Value := row 8 fun j => w32 (if j < i then s.l.getD j 0 + v.l.getD j 0 else s.l.getD j 0)
attribute [local irreducible] WC WL WX POp Then Again Fn NX W1 WA WO QL RP RA Yld LoopAt HC HL HX HN H1 HA HO HQ HB HP A.blk A.grow A.rd A.obj A.mp AgainH CutH
attribute [local irreducible] mixW kL
end Go.Sx
/-
  The layer with atoms: bytes of a string to which more is added; strings out of bytes.
-/
namespace Go.Sx
open Go Go.RowKit
/-- Cells that may grow; nothing of them is shared with a string. -/
def A.gb (e : TypeId) (b c n : Nat) (xs : List Value) : Atom :=
  A.obj b fun o => ∃ cur fz, o = .cells cur e fz ∧ (∀ q, q < cur.size → ¬ (fz.1 ≤ q ∧ q < fz.2)) ∧ n ≤ c ∧ cur.size = c ∧ cur.toList.take n = xs ∧ xs.length = n
section
variable {P : Program} {r : Option Nat} {N : Nat} {ds : List Deferred} {ol rest : List Oper} {Q : Post} {E : Env} {w0 : World} {H : List Atom} {next : Act → World → Prop} {g : Option (Nat × Bool)}
variable {d : Nat} {t ty : TypeId} {pos : String} {af : Array Edge} {x y : Operand}
end
end Go.Sx
/-
  The layer with atoms: parts of a block that are stored whole; strings copied into a block; slices of the call's own that are cleared and cut.
-/
namespace Go.Sx
open Go Go.RowKit
section
variable {P : Program} {r : Option Nat} {N : Nat} {ds : List Deferred} {ol rest : List Oper} {Q : Post} {E : Env} {w0 : World} {H : List Atom} {next : Act → World → Prop} {g : Option (Nat × Bool)}
variable {d : Option Nat} {t ty : TypeId} {pos : String} {af : Array Edge} {x y : Operand}
end
end Go.Sx
/- Chapter 2: the digest of a string: the walks. -/
namespace Go.Sx
open Go Go.Proofs Go.RowKit
def dgC (s : S8) (m : Nat) : List Value := row 32 fun q => b8 (if q < m then (digL s).getD q 0 else 0)
attribute [local irreducible] WC WL WX POp Then Again Fn NX W1 WA WO QL RP RA Yld LoopAt HC HL HX HN H1 HA HO HQ HB HP A.blk A.grow A.rd A.obj A.mp AgainH CutH
attribute [local irreducible] mixW kL digL
end Go.Sx
/- Chapter 2: Sum and Chain: the walks. -/
namespace Go.Sx
open Go Go.Proofs Go.RowKit
attribute [local irreducible] WC WL WX POp Then Again Fn NX W1 WA WO QL RP RA Yld LoopAt HC HL HX HN H1 HA HO HQ HB HP A.blk A.grow A.rd A.obj A.mp AgainH CutH
attribute [local irreducible] A.gb kL digL shaI shaT
end Go.Sx
/- Chapter 2: marked digests; Chain: the walks. -/
namespace Go.Sx
open Go Go.Proofs Go.RowKit
def mkB (m : UInt8) : ByteArray := ByteArray.mk #[m]
def markS (m : UInt8) (l : List ByteArray) : ByteArray := sumS (mkB m ++ catS l)
def chainS (h r : ByteArray) : ByteArray := markS 2 [h, r]
theorem markS_size (m : UInt8) (l : List ByteArray) : (markS m l).size = 32 := sumS_size _
theorem chainS_size (h r : ByteArray) : (chainS h r).size = 32 := sumS_size _
attribute [local irreducible] WC WL WX POp Then Again Fn NX W1 WA WO QL RP RA Yld LoopAt HC HL HX HN H1 HA HO HQ HB HP A.blk A.grow A.rd A.obj A.mp AgainH CutH
attribute [local irreducible] sumS
end Go.Sx
/- Plain, chapter 2: the root of a list: by a stack of complete parts, and by halves. -/
namespace Go.Sx
open Go Go.RowKit
def nodeS (a b : ByteArray) : ByteArray := markS 1 [a, b]
def leafS (s : ByteArray) : ByteArray := markS 0 [s]
theorem nodeS_size (a b : ByteArray) : (nodeS a b).size = 32 := markS_size _ _
/-- Equal parts become one. -/
def mergeR : List (Nat × ByteArray) → List (Nat × ByteArray)
  | [] => []
  | [x] => [x]
  | x :: y :: r => if y.1 = x.1 then mergeR ((2 * x.1, nodeS y.2 x.2) :: r) else x :: y :: r
termination_by l => l.length
def stkR (l : List ByteArray) : List (Nat × ByteArray) := l.foldl (fun st s => mergeR ((1, leafS s) :: st)) []
def topR (out : ByteArray) (r : List (Nat × ByteArray)) : ByteArray := r.foldl (fun out y => nodeS y.2 out) out
def topS : List (Nat × ByteArray) → ByteArray
  | [] => sumS ⟨#[]⟩
  | x :: r => topR x.2 r
def rootS (l : List ByteArray) : ByteArray := topS (stkR l)
def sumR (l : List (Nat × ByteArray)) : Nat := (l.map Prod.fst).sum
def leftN (n : Nat) : Nat := 2 ^ Nat.log2 (n - 1)
theorem leftN_lt {n : Nat} (h : 2 ≤ n) : leftN n < n := by
  have := Nat.log2_self_le (n := n - 1) (by omega)
  unfold leftN; omega
theorem leftN_pos (n : Nat) : 0 < leftN n := Nat.two_pow_pos _
theorem leftN_eq {n j : Nat} (h1 : 2 ^ j < n) (h2 : n ≤ 2 * 2 ^ j) : leftN n = 2 ^ j := by
  have h3 := Nat.two_pow_pos j
  have h4 : Nat.log2 (n - 1) = j := (Nat.log2_eq_iff (by omega)).2 ⟨by omega, by rw [Nat.pow_succ]; omega⟩
  unfold leftN
  rw [h4]
def mroot (l : List ByteArray) : ByteArray :=
  if _h : 2 ≤ l.length then nodeS (mroot (l.take (leftN l.length))) (mroot (l.drop (leftN l.length))) else match l with
    | [] => sumS ⟨#[]⟩
    | x :: _ => leafS x
termination_by l.length
decreasing_by
  · rw [List.length_take]; have := leftN_lt _h; omega
  · rw [List.length_drop]; have := leftN_pos l.length; omega
theorem mroot_step {l : List ByteArray} (h : 2 ≤ l.length) : mroot l = nodeS (mroot (l.take (leftN l.length))) (mroot (l.drop (leftN l.length))) := by rw [mroot, dif_pos h]
theorem mroot_app {a b : List ByteArray} {j : Nat} (ha : a.length = 2 ^ j) (h1 : 0 < b.length) (h2 : b.length ≤ 2 ^ j) : mroot (a ++ b) = nodeS (mroot a) (mroot b) := by
  have hp := Nat.two_pow_pos j
  have hl : leftN (a ++ b).length = a.length := by rw [List.length_append, ha]; exact leftN_eq (by omega) (by omega)
  rw [mroot_step (by rw [List.length_append]; omega), hl, List.take_left, List.drop_left]
/-- Parts of a list, the last one first. -/
inductive Parts : List (Nat × ByteArray) → List ByteArray → Prop
  | nil : Parts [] []
  | cons {st : List (Nat × ByteArray)} {l c : List ByteArray} {j : Nat} : Parts st l → c.length = 2 ^ j → (∀ x, st.head? = some x → 2 ^ j < x.1) → Parts ((2 ^ j, mroot c) :: st) (l ++ c)
theorem parts_head {st : List (Nat × ByteArray)} {l : List ByteArray} (h : Parts st l) {x : Nat × ByteArray} (hx : st.head? = some x) : ∃ m, x.1 = 2 ^ m := by
  cases h with
  | nil => cases hx
  | cons => cases hx; exact ⟨_, rfl⟩
theorem pow_two_lt {i j : Nat} (h : 2 ^ i < 2 ^ j) : 2 * 2 ^ i ≤ 2 ^ j := by
  have h1 : i < j := (Nat.pow_lt_pow_iff_right (by decide)).1 h
  have := Nat.pow_le_pow_right (n := 2) (by decide) (show i + 1 ≤ j from h1)
  rw [Nat.pow_succ] at this; omega
end Go.Sx
/- Chapter 2: Leaf, Node and Root of digest: the walks. -/
namespace Go.Sx
open Go Go.Proofs Go.RowKit
section
variable {P : Program} {r : Option Nat} {N : Nat} {ds : List Deferred} {ol : List Oper} {Q : Post} {E : Env} {w0 : World} {H H2 : List Atom}
end
/-- The roots and the sizes of the parts, the largest one first. -/
def stW (st : List (Nat × ByteArray)) : List ByteArray := (st.map Prod.snd).reverse
def stS (st : List (Nat × ByteArray)) : List Int := (st.map fun x => (x.1 : Int)).reverse
/-- What the stack is while equal parts become one. -/
structure StkI (l : List ByteArray) (k : Nat) (st : List (Nat × ByteArray)) : Prop where
  tos : mergeR st = stkR (l.take (k + 1))
  ne : st ≠ []
  sum : sumR st = k + 1
  sz : ∀ x ∈ st, x.2.size = 32
  len : st.length ≤ k + 1
attribute [local irreducible] WC WL WX POp Then Again Fn NX W1 WA WO QL RP RA Yld LoopAt HC HL HX HN H1 HA HO HQ HB HP A.blk A.grow A.rd A.obj A.mp AgainH CutH
attribute [local irreducible] sumS A.dfr A.loop
end Go.Sx
/- TopHidden: slices of the call's own whose elements take several cells; plain words of redacted copies. -/
namespace Go.Sx
open Go Go.Proofs Go.RowKit
/-- The cells of the first n elements. -/
def flatC (f : Nat → List Value) : Nat → List Value
  | 0 => []
  | n + 1 => flatC f n ++ f n
section
variable {f g : Nat → List Value} {sz : Nat}
theorem flatC_len (hf : ∀ i, (f i).length = sz) : ∀ n, (flatC f n).length = n * sz
  | 0 => by rw [Nat.zero_mul]; rfl
  | n + 1 => by rw [flatC, List.length_append, flatC_len hf n, hf, Nat.succ_mul]
theorem flatC_congr : ∀ {n : Nat}, (∀ i, i < n → f i = g i) → flatC f n = flatC g n
  | 0, _ => rfl
  | n + 1, h => by rw [flatC, flatC, flatC_congr fun i hi => h i (by omega), h n (by omega)]
end
section
variable {P : Program} {r : Option Nat} {N : Nat} {ds : List Deferred} {Q : Post} {E : Env} {w0 : World} {H : List Atom} {next : Act → World → Prop} {gg : Option (Nat × Bool)}
variable {t ty : TypeId} {pos : String} {af : Array Edge} {x y : Operand}
/-- A store of an element of several cells. -/
theorem H1.stgAgg {b o c n sz : Nat} {xs xs' vs : List Value} {e : TypeId} {z : Value} {m bb : Nat} {H' : List Atom} [hi : ITy P t z m bb] (hx : Env.ev E x = some (.pointer (some ⟨b, o, none⟩))) (hy : Env.ev E y = some (.agg vs.toArray))
    (hn : vs.length = m) (h1 : ∀ v ∈ vs, v.oneCell' = true) (hl : o + vs.length ≤ xs.length) (he : xs.take o ++ vs ++ xs.drop (o + vs.length) = xs') (hr : Rpl (A.grow e sz (some ⟨b, 0, none⟩) c n xs) (A.grow e sz (some ⟨b, 0, none⟩) c n xs') H H')
    (h : HN N ds next E w0 H') : H1 P r N ds next ⟨none, .store t x y, ty, pos, af, gg⟩ Q E w0 H := fun w hM => by
  subst he
  have hown := hM.own hr.mem
  have hxl := hown.1
  rcases hown.2 with ⟨hv, -⟩ | ⟨g', cap, cur, hv, hbg, hg, hnc, hcm, hcs, htake⟩
  · cases hv
  · cases hv
    obtain ⟨rest, hrest⟩ : ∃ rest, cur.toList = xs ++ rest := ⟨_, by rw [← htake]; exact (List.take_append_drop _ _).symm⟩
    have hll : o + vs.length ≤ cur.toList.length := by rw [hrest, List.length_append]; omega
    have hcurl : cur.toList.length = cur.size := Array.length_toList
    have hs := run_storeCells_at P b o e vs 0 cur w hg (by omega) h1
    simp only [Nat.add_zero] at hs
    have hnew : cur.toList.take o ++ vs ++ cur.toList.drop (o + vs.length) = (xs.take o ++ vs ++ xs.drop (o + vs.length)) ++ rest := by
      rw [hrest, List.take_append_of_le_length (by omega), List.drop_append_of_le_length (by omega)]
      simp only [List.append_assoc]
    have hxl' : (xs.take o ++ vs ++ xs.drop (o + vs.length)).length = xs.length := by
      simp only [List.length_append, List.length_take, List.length_drop]; omega
    refine W1.skip (w' := w.setRow b ((cur.toList.take o ++ vs ++ cur.toList.drop (o + vs.length)).toArray)) (fun a ha => ?_) rfl rfl (h _ (hM.turn hr rfl rfl rfl (by simp [World.setRow]) (fun q hq hq' => ?_) ?_ (by simp [A.grow, Value.ownBlock]) fun b' hb' => .inl (by simpa [A.grow, Value.ownBlock] using hb')))
    · simp only [execOp, ha.ev hx, ha.ev hy, Instr.storeAt, Instr.sureAddr, storeVar, Sem.run_bind, Sem.run_pure, Result.andThen]
      subst hn
      simp only [run_sizeOf, Value.cells, List.size_toArray, ne_eq, not_true, if_false]
      simp only [hs]
    · have hne : ¬ b = q := fun e => hq' (by simp [A.grow, Value.ownBlock, e])
      simp [World.setRow, Array.getElem?_modify, hne]
    · refine ⟨by rw [hxl']; exact hxl, .inr ⟨b, c, ((cur.toList.take o ++ vs ++ cur.toList.drop (o + vs.length)).toArray), rfl, hbg, ?_, hnc, hcm, ?_, ?_⟩⟩
      · simp [World.setRow, Array.getElem?_modify, hg]
      · rw [hnew, List.size_toArray, List.length_append, hxl', ← List.length_append, ← hrest, hcurl]; exact hcs
      · rw [hnew, List.toList_toArray, List.take_append_of_le_length (by rw [hxl', hxl]; exact Nat.le_refl _), List.take_of_length_le (by rw [hxl', hxl]; exact Nat.le_refl _)]
end
section
variable {P : Program} {N : Nat} {ds : List Deferred} {E : Env} {t t' ty e : TypeId} {x y : Operand}
theorem run_equalIn_snil [h : UTy P t (.slice e)] (w : World) (d : Nat) (a : Option Addr) (n c : Nat) : (Op.equalIn (d + 1) t (.slice a n c) (.slice none 0 0)).run P w = .ok a.isNone w := by
  cases a <;> simp [Op.equalIn, Sem.run_bind, run_underlying h.is, Result.andThen]
theorem POp.snil [h : UTy P t (.slice e)] {a : Option Addr} {n c : Nat} {b : Bool} (hx : Env.ev E x = some (.slice a n c)) (hy : Env.ev E y = some (.slice none 0 0)) (hb : a.isNone = b) : POp P N ds E (.binOp .eql t x y t') ty (.bool b) :=
  POp.bin hx hy (fun w => by rw [eqGuard_at_slice]; rfl) fun w => by
    have e1 := run_equalIn_snil (P := P) (t := t) w 9999 a n c
    show ((Op.equalIn (9999 + 1) t (.slice a n c) (.slice none 0 0)) >>= fun r => pure (Value.bool r)).run P w = _
    rw [Sem.run_bind, e1, hb]; rfl
end
/- texts -/
/-- Bytes that can be printed. -/
def TxB (s : ByteArray) : Prop := ∀ b ∈ s.data.toList, 32 ≤ b.toNat ∧ b.toNat ≤ 126
/- leaves -/
/-- A leaf of a redacted copy. -/
structure Lf where
  shown : Bool
  text : ByteArray
  mark : Int
  salt : ByteArray
  dig : ByteArray
def lfC (x : Lf) : List Value := [.bool x.shown, .string x.text, zv x.mark, .string x.salt, .string x.dig]
def lfZ : Lf := ⟨false, ⟨#[]⟩, 0, ⟨#[]⟩, ⟨#[]⟩⟩
/-- A leaf that shows its line. -/
structure LfS (x : Lf) : Prop where
  sh : x.shown = true
  dig : x.dig = ⟨#[]⟩
  salt : x.salt.size = 16
  line : LnOk (x.text, x.mark)
/-- A leaf that hides its line. -/
structure LfH (x : Lf) : Prop where
  eq : x = ⟨false, ⟨#[]⟩, 0, ⟨#[]⟩, x.dig⟩
  dig : x.dig.size = 32
def LfOk (x : Lf) : Prop := LfS x ∨ LfH x
/-- What a leaf is worth. -/
def valX (x : Lf) : ByteArray := if x.shown = true then sumS (mkB 3 ++ x.salt ++ strN x.mark.toNat ++ x.text) else x.dig
/-- A leaf, hidden if it is to be. -/
def hideX (g : Bool) (x : Lf) : Lf := if g = true then ⟨false, ⟨#[]⟩, 0, ⟨#[]⟩, valX x⟩ else x
/-- So many of the first leaves are shown. -/
def shownN (L : Nat → Lf) : Nat → Nat
  | 0 => 0
  | n + 1 => shownN L n + if (L n).shown = true then 1 else 0
/-- What the first leaves are worth. -/
def valsX (L : Nat → Lf) (n : Nat) : List ByteArray := (List.range n).map fun i => valX (L i)
/-- The root of leaves. -/
def rootX (L : Nat → Lf) (n : Nat) : ByteArray := nodeS (leafS (strN n)) (rootS (valsX L n))
/- documents -/
/-- A raster of so many columns. -/
structure RaOk (wd : Nat) (bits : ByteArray) : Prop where
  le : wd ≤ 32
  bin : ∀ b ∈ bits.data.toList, b = 48 ∨ b = 49
  ht : ∃ h : Nat, bits.size = wd * h ∧ (wd = 0 ∨ 1 ≤ h ∧ h ≤ 32)
/-- A sequence of which one element is another one. -/
def updF {α : Type} (f : Nat → α) (i : Nat) (a : α) (j : Nat) : α := if j = i then a else f j
/-- The cells that were made, all ahead of place k. -/
structure MadeC (C : Nat → Cl) (i : Nat) (k : Int) : Prop where
  le : (i : Int) ≤ k
  ok : ∀ j, j < i → ClOk (C j)
  pos : ∀ j, j < i → 0 ≤ (C j).row ∧ 0 ≤ (C j).col ∧ (C j).col ≤ 4 ∧ (C j).row * 5 + (C j).col < k
  asc : ClAsc C i
end Go.Sx
/- TopDecided: the layer: maps of slices that are only read, appending nothing; comparing sets. -/
namespace Go.Sx
open Go Go.Proofs Go.RowKit
theorem hwBB {G G2 : Prop} (x : G2) (hwq : Hold G2 → G := by
    intro hQq
    repeat' (first | refine HL.pa ?_ (POp.nilCheck rfl) | apply HL.fold | apply HA.fold | apply HL.nil | apply HX.n_then | apply HC.seq | apply HC.region | refine HL.pa ?_ | refine HL.ga rfl ?_ | refine HL.na rfl ?_ | refine HL.nu rfl rfl ?_ | apply HC.block | apply HC.skip | apply HC.exit | apply HC.ret | apply HX.e_block | refine HX.e_other rfl ?_ | apply HX.e_then | apply HX.e_again | apply HX.n_block | apply HX.r_then | apply HX.r_block | apply HX.r_again | refine HC.cond_yes rfl ?_ | refine HC.cond_no rfl ?_ | refine HL.one (H1.ldb rfl memA rfl rfl ?_) | refine HC.cond rfl (fun hc => ?_) (fun hc => ?_) | refine HC.cond_b rfl (fun hc => ?_) (fun hc => ?_))
    exact hQq.get) : G := hwq ⟨x⟩
/-- A map that gives the clauses below each number. -/
def ForW (w : World) (b : Nat) (K : Int → List Rc) : Prop :=
  ∃ es clk l, w.heap[b]? = some (.map es clk) ∧ MQ .i64 l es clk ∧ ∀ p, (mget l p = none ∧ K p = []) ∨ ∃ a c, mget l p = some (.slice a (K p).length c) ∧ RdR w (.slice a (K p).length c) (K p)
theorem ForW.ext {w w' : World} {b : Nat} {K : Int → List Rc} (h : ForW w b K) (k : Ext w w') : ForW w' b K := by
  obtain ⟨es, clk, l, h1, h2, h3⟩ := h
  refine ⟨es, clk, l, by rw [k.block b (Array.getElem?_eq_some_iff.1 h1).1]; exact h1, h2, fun p => ?_⟩
  rcases h3 p with h | ⟨a, c, h4, h5⟩
  · exact .inl h
  · exact .inr ⟨a, c, h4, h5.ext k⟩
section
variable {P : Program} {r : Option Nat} {N : Nat} {ds : List Deferred} {Q : Post} {E : Env} {w0 : World} {H : List Atom} {next : Act → World → Prop} {g : Option (Nat × Bool)}
variable {d : Nat} {t ty : TypeId} {pos : String} {af : Array Edge} {x y : Operand}
theorem H1.fget {b : Nat} {k e : TypeId} {K : Int → List Rc} {n : Int} {sz bb : Nat} [ht : UTy P t (.map k e)] [hk : UTy P k (.int .i64)] [hi : ITy P e (.slice none 0 0) sz bb] (hx : Env.ev E x = some (.map (some b))) (hy : Env.ev E y = some (.int .i64 n))
    (hF : ForW w0 b K) (hd : Nat.blt d N = true) (h : ∀ a c, RdR w0 (.slice a (K n).length c) (K n) → HN N ds next ((d, .slice a (K n).length c) :: E) w0 H) : H1 P r N ds next ⟨some d, .lookup t x y false, ty, pos, af, g⟩ Q E w0 H := fun w hM => by
  obtain ⟨es, clk, l, h1, h2, h3⟩ := hF
  have hb : w.heap[b]? = some (.map es clk) := by rw [hM.ext.block b (Array.getElem?_eq_some_iff.1 h1).1]; exact h1
  obtain ⟨a, c, hv, hR⟩ : ∃ a c, (mget l n).getD (.slice none 0 0) = .slice a (K n).length c ∧ RdR w0 (.slice a (K n).length c) (K n) := by
    rcases h3 n with ⟨h4, h5⟩ | ⟨a, c, h4, h5⟩
    · rw [h4, h5]; exact ⟨none, 0, rfl, none, 0, rfl, Nat.le_refl _, .inl rfl⟩
    · rw [h4]; exact ⟨a, c, rfl, h5⟩
  refine W1.run (v := .slice a (K n).length c) (w' := w) (fun ac ha' => ?_) rfl hd (h a c hR w hM)
  simp only [execOp, ha'.ev hx, ha'.ev hy, Sem.run_bind, run_lookup_mq ht.is hk.is hb ⟨_, _, rfl, h2⟩ n, hv, Result.andThen, Sem.run_pure]
theorem run_append_zero {w : World} (base : Nat) (t ty e : TypeId) (i : TypeInfo) (size : Nat) (ht : P.underlying t = some (.slice e)) (hi : P.info? e = some i)
    (v : Value) (n c : Nat) (ao : Option Addr) (xs : List Value) (hown : w.ownsRow base e size v n xs) :
    (Builtin.append_ #[t, t] ty #[v, .slice ao 0 c]).run P w = .ok v w := by
  rcases hown.2 with ⟨rfl, rfl⟩ | ⟨g, cap, cur, rfl, _, _, hnc, _⟩
  · cases ao <;> simp [Builtin.append_, run_underlying ht, sizeOf, typeInfo, hi, Builtin.lenOf, Builtin.firstCells, loadCells, loadCellsFrom, Result.andThen]
  · cases ao <;> simp [Builtin.append_, run_underlying ht, sizeOf, typeInfo, hi, Builtin.lenOf, Builtin.firstCells, hnc, storeCells, loadCells, loadCellsFrom, Result.andThen]
/-- append, of numbers, to a slice that is not nil. -/
theorem H1.appI {e : TypeId} {z : Value} {bb b n m c c2 : Nat} {ao : Option Addr} {xs vs : List Value} {H' : Option Addr → Nat → List Atom} [h : UTy P t (.slice e)] [hi : ITy P e z 1 bb] (hzs : z.cells.size = 1) (hm : vs.length = m)
    (hx : Env.ev E x = some (.slice (some ⟨b, 0, none⟩) n c)) (hy : Env.ev E y = some (.slice ao m c2)) (hr : ∀ a' c', Rpl (A.grow e 1 (some ⟨b, 0, none⟩) c n xs) (A.grow e 1 a' c' (n + m) (xs ++ vs)) H (H' a' c'))
    (hR : ∀ w, Mm w0 H w → Rd w (.slice ao m c2) vs) (h1 : ∀ u ∈ vs, u.oneCell' = true) (hnm : n + m ≤ 1000000) (hb : bb ≤ 1000) (hd : Nat.blt d N = true)
    (hn : ∀ b' c', HN N ds next ((d, .slice (some ⟨b', 0, none⟩) (n + m) c') :: E) w0 (H' (some ⟨b', 0, none⟩) c')) :
    H1 P r N ds next ⟨some d, .call ⟨.builtin .append, #[x, y], #[t, t]⟩, ty, pos, af, g⟩ Q E w0 H := by
  subst hm
  by_cases h0 : vs = []
  · subst h0
    intro w hM
    obtain ⟨i, hi1, hi2, hi3, hi4⟩ := hi.parts
    have hsame : H = H' (some ⟨b, 0, none⟩) c := Rpl.same (x := A.grow e 1 (some ⟨b, 0, none⟩) c n xs) (by have := hr (some ⟨b, 0, none⟩) c; simpa using this)
    have hown := hM.own (hr (some ⟨b, 0, none⟩) c).mem
    have hrun := run_append_zero (P := P) 0 t ty e i 1 h.is hi1 (.slice (some ⟨b, 0, none⟩) n c) n c2 ao xs hown
    simp only [List.length_nil] at hy
    refine W1.run (v := .slice (some ⟨b, 0, none⟩) n c) (w' := w) (fun ac ha => ?_) rfl hd (by have := hn b c w (hsame ▸ hM); rwa [List.length_nil, Nat.add_zero] at this)
    simp only [execOp, resolve, invoke, Go.builtin, Sem.run_bind, Sem.run_pure, Result.andThen, List.map_toArray, List.map_cons, List.map_nil, ha.ev hx, ha.ev hy, hrun]
  · have hne : vs.length ≠ 0 := fun e => h0 (List.eq_nil_of_length_eq_zero e)
    cases ao with
    | none =>
      intro w hM
      obtain ⟨a', c', h2, h3, h4⟩ := hR w hM
      cases h2
      rcases h4 with h4 | ⟨b, off, h5, -⟩
      · exact absurd h4 h0
      · cases h5
    | some ad =>
      refine H1.app hzs (by decide) hx hy hr (by simp) (fun w hM j u hu => ?_) h1 hnm hb hd (fun a' c' ha => ?_)
      · obtain ⟨a', c', h2, h3, h4⟩ := hR w hM
        cases h2
        rcases h4 with h4 | ⟨b, off, h5, h6, h7⟩
        · exact absurd h4 h0
        · cases h5; rw [add_lit]; exact h7 j u hu
      · rcases ha with ha | ⟨b', rfl⟩
        · omega
        · exact hn b' c'
end
theorem drop_at {l : List Int} {i : Nat} (h : i < l.length) : l.drop i = at' l i :: l.drop (i + 1) := by
  rw [List.drop_eq_getElem_cons h]; simp [at', h]
/-- The first one is taken. -/
def tkA (a : List Int) : Option (List Int) → Bool
  | none => true
  | some b => decide (orI (cmpI a.length b.length) (cmpL a b) < 0)
theorem firstL_tk (a : List Int) (o : Option (List Int)) : firstL a o = if tkA a o = true then a else o.getD [] := by
  cases o with
  | none => rfl
  | some b =>
    show (if _ then a else b) = if decide _ = true then a else b
    by_cases h : orI (cmpI a.length b.length) (cmpL a b) < 0
    · rw [if_pos h, if_pos (decide_eq_true h)]
    · rw [if_neg h, if_neg (by rw [decide_eq_false h]; decide)]
attribute [local irreducible] WC WL WX POp Then Again Fn NX W1 WA WO QL RP RA Yld LoopAt HC HL HX HN H1 HA HO HQ HB HP A.blk A.grow A.rd A.obj A.mp AgainH CutH
attribute [local irreducible] A.mq A.mit
theorem cmpI_fn (x y : Int) (w : World) : Fn Tryz.prog 35 #[zv x, zv y] w fun v w' => v = zv (cmpI x y) ∧ w = w' := by
  unfold Fn
  exact Calls.mono (Tryz.cmp_Compare_int x y w) (by
    rintro e w' ⟨rfl, rfl⟩
    exact ⟨_, rfl, rfl, rfl⟩)
theorem compareL_fn {va vb : Value} {a b : List Int} (ha : a.length ≤ 1000000) (hb : b.length ≤ 1000000) (w : World) (hA : Rd w va (ints a)) (hB : Rd w vb (ints b)) :
    Fn Tryz.prog 172 #[va, vb] w fun v w' => v = zv (cmpL a b) ∧ Ext w w' := by
  obtain ⟨aa, ca, rfl, -⟩ := hA.isInts
  obtain ⟨ab, cb, rfl, -⟩ := hB.isInts
  refine enterH (l := [_, _]) rfl Tryz.ntmps172 rfl ?_
  refine hwBB ?_
  refine HC.loop (α := Nat) (fun k => [(0, .slice aa a.length ca), (1, .slice ab b.length cb), (9, .slice aa a.length ca), (10, zv (a.length : Int)), (11, zv (k : Int))]) (fun _ => []) (fun k => k ≤ a.length ∧ k ≤ b.length ∧ cmpL a b = cmpL (a.drop k) (b.drop k)) (fun k => a.length - k) 0 ⟨Nat.zero_le _, Nat.zero_le _, rfl⟩ esA (Hs.refl _) ?_
  rintro k ⟨hk1, hk2, hI⟩
  by_cases hlt : k < a.length
  rotate_left
  · obtain rfl : k = a.length := by omega
    have hn : ¬ ((a.length : Nat) : Int) < (a.length : Int) := by omega
    rw [List.drop_length] at hI
    by_cases h2 : a.length < b.length
    · have h2' : ((a.length : Nat) : Int) < (b.length : Int) := by omega
      rw [drop_at h2] at hI
      refine hwBB ?_
      exact HX.ret1 rfl rfl fun w' hM => ⟨by rw [hI]; rfl, hM.ext⟩
    · have h2' : ¬ ((a.length : Nat) : Int) < (b.length : Int) := by omega
      have : b.drop a.length = [] := List.drop_eq_nil_of_le (by omega)
      rw [this] at hI
      refine hwBB ?_
      exact HX.ret1 rfl rfl fun w' hM => ⟨by rw [hI]; rfl, hM.ext⟩
  have hn : ((k : Nat) : Int) < (a.length : Int) := by omega
  obtain ⟨b1, o1, rfl, -⟩ := hA.iat (fun e => by rw [e] at hlt; exact absurd hlt (Nat.not_lt_zero _))
  have hd1 := hA.cell (ints_get hlt)
  rw [drop_at hlt] at hI
  by_cases h2 : k < b.length
  rotate_left
  · have h2' : ((k : Nat) : Int) ≥ (b.length : Int) := by omega
    have : b.drop k = [] := List.drop_eq_nil_of_le (by omega)
    rw [this] at hI
    refine hwBB ?_
    refine HL.one (H1.ld0 rfl hd1 rfl ?_)
    refine hwBB ?_
    exact HX.ret1 rfl rfl fun w' hM => ⟨by rw [hI]; rfl, hM.ext⟩
  have h2' : ¬ ((k : Nat) : Int) ≥ (b.length : Int) := by omega
  obtain ⟨b2, o2, rfl, -⟩ := hB.iat (fun e => by rw [e] at h2; exact absurd h2 (Nat.not_lt_zero _))
  have hd2 := hB.cell (ints_get h2)
  rw [drop_at h2] at hI
  refine hwBB ?_
  refine HL.one (H1.ld0 rfl hd1 rfl ?_)
  refine hwBB ?_
  refine HL.one (H1.ld0 rfl hd2 rfl ?_)
  refine hwBB ?_
  refine HL.one (H1.call0 (vs := [_, _]) rfl rfl (fun w' _ => cmpI_fn (at' a k) (at' b k) w') ?_)
  by_cases h3 : cmpI (at' a k) (at' b k) = 0
  · rw [h3]
    have hI2 : cmpL a b = cmpL (a.drop (k + 1)) (b.drop (k + 1)) := by rw [hI, cmpL, if_neg (by rw [h3]; decide)]
    refine hwBB ?_
    exact HX.again (k + 1) ⟨hlt, h2, hI2⟩ (by show a.length - (k + 1) < a.length - k; omega) esA (Hs.refl _)
  · have hI2 : cmpL a b = cmpI (at' a k) (at' b k) := by rw [hI, cmpL, if_pos h3]
    refine hwBB ?_
    exact HX.ret1 rfl rfl fun w' hM => ⟨by rw [hI2], hM.ext⟩
theorem orI_fn {b o c : Nat} (x y : Int) (w : World) (h0 : w.cell? ⟨b, o, none⟩ = some (zv x)) (h1 : w.cell? ⟨b, o + 1, none⟩ = some (zv y)) :
    Fn Tryz.prog 171 #[.slice (some ⟨b, o, none⟩) 2 c] w fun v w' => v = zv (orI x y) ∧ Ext w w' := by
  refine enterH (l := [_]) rfl Tryz.ntmps171 rfl ?_
  refine hwBB ?_
  refine HC.loop (α := Nat) (fun k => [(3, zv 0), (6, .slice (some ⟨b, o, none⟩) 2 c), (7, zv 2), (8, zv (k : Int))]) (fun _ => []) (fun k => k ≤ 2 ∧ (1 ≤ k → x = 0) ∧ (2 ≤ k → y = 0)) (fun k => 2 - k) 0 ⟨by decide, fun h => by omega, fun h => by omega⟩ esA (Hs.refl _) ?_
  rintro k ⟨hk, hx, hy⟩
  have : k = 0 ∨ k = 1 ∨ k = 2 := by omega
  rcases this with rfl | rfl | rfl
  · by_cases e : x = 0
    · refine hwBB ?_
      refine HL.one (H1.ld0 rfl h0 rfl ?_)
      refine hwBB ?_
      exact HX.again 1 ⟨by decide, fun _ => e, fun h => by omega⟩ (by decide) esA (Hs.refl _)
    · refine hwBB ?_
      refine HL.one (H1.ld0 rfl h0 rfl ?_)
      refine hwBB ?_
      exact HX.ret1 rfl rfl fun w' hM => ⟨by unfold orI; rw [if_pos e], hM.ext⟩
  · have hx0 := hx (by decide)
    by_cases e : y = 0
    · refine hwBB ?_
      refine HL.one (H1.ld0 rfl h1 rfl ?_)
      refine hwBB ?_
      exact HX.again 2 ⟨by decide, fun _ => hx0, fun _ => e⟩ (by decide) esA (Hs.refl _)
    · refine hwBB ?_
      refine HL.one (H1.ld0 rfl h1 rfl ?_)
      refine hwBB ?_
      exact HX.ret1 rfl rfl fun w' hM => ⟨by unfold orI; rw [if_neg (by omega)], hM.ext⟩
  · have hx0 := hx (by decide)
    have hy0 := hy (by decide)
    refine hwBB ?_
    exact HX.ret1 rfl rfl fun w' hM => ⟨by unfold orI; rw [if_neg (by omega), hy0], hM.ext⟩
theorem first_fn {va : Value} {ab : Option Addr} {cb : Nat} {a : List Int} {o : Option (List Int)} (ha : a.length ≤ 1000000) (hb : (o.getD []).length ≤ 1000000) (hn : ab.isNone = o.isNone) (w : World) (hA : Rd w va (ints a)) (hB : Rd w (.slice ab (o.getD []).length cb) (ints (o.getD []))) :
    Fn Tryz.prog 91 #[va, .slice ab (o.getD []).length cb] w fun v w' => v = (if tkA a o = true then va else .slice ab (o.getD []).length cb) ∧ Ext w w' := by
  obtain ⟨aa, ca, rfl, -⟩ := id hA.isInts
  refine enterH (l := [_, _]) rfl Tryz.ntmps91 rfl ?_
  cases o with
  | none =>
    have e : ab = none := by cases ab with | none => rfl | some x => cases hn
    subst e
    refine hwBB ?_
    refine HL.pa ?_ (POp.snil (b := true) rfl rfl rfl)
    refine hwBB ?_
    exact HX.ret1 rfl rfl fun w' hM => ⟨rfl, hM.ext⟩
  | some b =>
    obtain ⟨ad, rfl⟩ : ∃ x, ab = some x := by cases ab with | none => cases hn | some x => exact ⟨x, rfl⟩
    dsimp only [Option.getD] at hb hB ⊢
    refine hwBB ?_
    refine HL.pa ?_ (POp.snil (b := false) rfl rfl rfl)
    refine hwBB ?_
    refine HL.one (H1.call0 (vs := [_, _]) rfl rfl (fun w' _ => cmpI_fn (a.length : Int) (b.length : Int) w') ?_)
    refine hwBB ?_
    refine HL.one (H1.callx (vs := [_, _]) rfl rfl (fun w' hM => compareL_fn ha hb w' (hA.ext hM.ext) (hB.ext hM.ext)) ?_)
    refine hwBB ?_
    refine HL.one (H1.lit (cs := [zv (cmpI a.length b.length), zv (cmpL a b)]) rfl rfl rfl rfl rfl rfl (fun b9 => ?_))
    refine hwBB ?_
    refine HL.one (H1.callx (vs := [_]) rfl rfl (fun w' hM => orI_fn (b := b9) (o := 0) (cmpI a.length b.length) (cmpL a b) w' ((hM.blk (b := b9) memA).cell rfl) ((hM.blk (b := b9) memA).cell rfl)) ?_)
    by_cases h : orI (cmpI a.length b.length) (cmpL a b) < 0
    · refine hwBB ?_
      exact HX.ret1 rfl rfl fun w' hM => ⟨by rw [if_pos (show tkA a (some b) = true from decide_eq_true h)], hM.ext⟩
    · refine hwBB ?_
      exact HX.ret1 rfl rfl fun w' hM => ⟨by rw [if_neg (show ¬ tkA a (some b) = true from fun h' => h (of_decide_eq_true h'))], hM.ext⟩
end Go.Sx
/- TopDecided: the best set: the walk. -/
namespace Go.Sx
open Go Go.Proofs Go.RowKit
theorem hwBC {G G2 : Prop} (x : G2) (hwq : Hold G2 → G := by
    intro hQq
    repeat' (first | refine HL.pa ?_ (POp.nilCheck rfl) | apply HL.fold | apply HA.fold | apply HL.nil | apply HX.n_then | apply HC.seq | apply HC.region | refine HL.pa ?_ | refine HL.ga rfl ?_ | refine HL.na rfl ?_ | refine HL.nu rfl rfl ?_ | apply HC.block | apply HC.skip | apply HC.exit | apply HC.ret | apply HX.e_block | refine HX.e_other rfl ?_ | apply HX.e_then | apply HX.e_again | apply HX.n_block | apply HX.r_then | apply HX.r_block | apply HX.r_again | refine HC.cond_yes rfl ?_ | refine HC.cond_no rfl ?_ | refine HL.one (H1.ldb rfl memA rfl rfl ?_) | refine HC.cond rfl (fun hc => ?_) (fun hc => ?_) | refine HC.cond_b rfl (fun hc => ?_) (fun hc => ?_))
    exact hQq.get) : G := hwq ⟨x⟩
theorem hbBC {G G2 : Prop} (x : G2) (hwq : Hold G2 → G := by
    intro hQq
    repeat' (first | refine HL.pa ?_ (POp.nilCheck rfl) | apply HL.fold | apply HA.fold | apply HL.nil | apply HX.n_then | apply HC.seq | apply HC.region | refine HL.pa ?_ | refine HL.ga rfl ?_ | refine HL.na rfl ?_ | refine HL.nu rfl rfl ?_ | apply HC.skip | apply HC.exit | apply HC.ret | apply HX.e_block | refine HX.e_other rfl ?_ | apply HX.e_then | apply HX.e_again | apply HX.n_block | apply HX.r_then | apply HX.r_block | apply HX.r_again | refine HC.cond_yes rfl ?_ | refine HC.cond_no rfl ?_ | refine HL.one (H1.ldb rfl memA rfl rfl ?_) | refine HC.cond rfl (fun hc => ?_) (fun hc => ?_) | refine HC.cond_b rfl (fun hc => ?_) (fun hc => ?_))
    exact hQq.get) : G := hwq ⟨x⟩
theorem ints_cat (a b : List Int) : ints a ++ ints b = ints (a ++ b) := by unfold ints; rw [List.map_append]
/-- What behind tells of below. -/
structure KOk (L : List Rc) (K : Int → List Rc) : Prop where
  uni : ∀ r ∈ L, ∀ s ∈ L, r.clause = s.clause → r = s
  pos : ∀ r ∈ L, 1 ≤ r.clause
  sub : ∀ p, (∀ x ∈ K p, x ∈ L ∧ x.party = p) ∧ ((K p).map Rc.clause).Nodup
  len : L.length ≤ 1000
theorem KOk.klen {L : List Rc} {K : Int → List Rc} (h : KOk L K) (p : Int) : (K p).length ≤ 1000 := by
  have := nd_len (h.sub p).2 (m := L.map Rc.clause) fun y hy => by
    obtain ⟨x, hx, rfl⟩ := List.mem_map.1 hy
    exact List.mem_map.2 ⟨x, ((h.sub p).1 x hx).1, rfl⟩
  rw [List.length_map, List.length_map] at this
  exact Nat.le_trans this h.len
/-- The captured variables of the closure. -/
structure LeaH (w : World) (bm b2 b3 b4 : Nat) (K : Int → List Rc) (want : Bool) : Prop where
  f : ForW w bm K
  c2 : w.cell? ⟨b2, 0, none⟩ = some (.map (some bm))
  c3 : w.cell? ⟨b3, 0, none⟩ = some (.func (.func 88) #[] #[.pointer (some ⟨b2, 0, none⟩), .pointer (some ⟨b3, 0, none⟩), .pointer (some ⟨b4, 0, none⟩)])
  c4 : w.cell? ⟨b4, 0, none⟩ = some (.bool want)
theorem LeaH.ext {w w' : World} {bm b2 b3 b4 : Nat} {K : Int → List Rc} {want : Bool} (h : LeaH w bm b2 b3 b4 K want) (k : Ext w w') : LeaH w' bm b2 b3 b4 K want :=
  ⟨h.f.ext k, cell_ext k h.c2, cell_ext k h.c3, cell_ext k h.c4⟩
abbrev LeaR (K : Int → List Rc) (want : Bool) (n : Nat) (c : Rc) (w : World) (u : Value) (w' : World) : Prop :=
  ∃ z : Option Addr × Nat, z.1.isNone = (leastF K want n c).isNone ∧ u = .slice z.1 ((leastF K want n c).getD []).length z.2 ∧ Mm w [A.grow 3 1 z.1 z.2 ((leastF K want n c).getD []).length (ints ((leastF K want n c).getD []))] w'
def recL (K : Int → List Rc) (want : Bool) : Nat → Rc → Option (List Int)
  | 0, _ => none
  | n + 1, x => leastF K want n x
def ksL (K : Int → List Rc) (n : Nat) (c : Rc) : List Rc := if n = 0 then [] else K c.clause
theorem leastF_go (K : Int → List Rc) (want : Bool) (n : Nat) (c : Rc) : leastF K want n c = goL (recL K want n) c.adm want (ksL K n c) [] none := by
  cases n with
  | zero => rfl
  | succ n => rfl
attribute [local irreducible] WC WL WX POp Then Again Fn NX W1 WA WO QL RP RA Yld LoopAt HC HL HX HN H1 HA HO HQ HB HP A.blk A.grow A.rd A.obj A.mp AgainH CutH
attribute [local irreducible] A.mq A.mit
set_option maxHeartbeats 8000000 in
theorem least1_step {L : List Rc} {K : Int → List Rc} (hk : KOk L K) {want : Bool} {bm b2 b3 b4 : Nat} (n i : Nat) (c : Rc) (hin : i + n = 8) (hup : Up L i c.clause 0)
    (ih : ∀ m, n = m + 1 → ∀ x, Up L (i + 1) x.clause 0 → ∀ w, LeaH w bm b2 b3 b4 K want → Fn Tryz.prog 88 #[recV x, zv ((i + 1 : Nat) : Int), .pointer (some ⟨b2, 0, none⟩), .pointer (some ⟨b3, 0, none⟩), .pointer (some ⟨b4, 0, none⟩)] w (LeaR K want m x w))
    (w : World) (hW : LeaH w bm b2 b3 b4 K want) :
    Fn Tryz.prog 88 #[recV c, zv (i : Int), .pointer (some ⟨b2, 0, none⟩), .pointer (some ⟨b3, 0, none⟩), .pointer (some ⟨b4, 0, none⟩)] w (LeaR K want n c w) := by
  have hkl := hk.klen c.clause
  have hLl := hk.len
  have hgo := leastF_go K want n c
  unfold LeaR
  generalize leastF K want n c = o at hgo ⊢
  refine enterH (l := [_, _, _, _, _]) rfl Tryz.ntmps88 rfl ?_
  refine hwBC ?_
  refine HL.one (H1.boxAgg (cs := rcells c) rfl rfl (fun b5 => ?_))
  refine hwBC ?_
  refine HL.one (H1.lit0 rfl (fun b8 => ?_))
  refine hwBC ?_
  refine HL.one (H1.ld0 rfl hW.c2 rfl ?_)
  refine hwBC ?_
  refine HL.one (H1.fget rfl rfl hW.f rfl (fun ak ck hKR => ?_))
  refine hbBC ?_
  refine HC.grow0 3 1 ?_
  refine HC.cut (α := List Int × Option (List Int) × (Nat × Nat) × (Option Addr × Nat)) (fun q => [(4, .pointer (some ⟨b4, 0, none⟩)), (5, .pointer (some ⟨b5, 0, none⟩)), (8, .slice (some ⟨q.2.2.1.1, 0, none⟩) q.1.length q.2.2.1.2), (9, .slice q.2.2.2.1 (q.2.1.getD []).length q.2.2.2.2)])
    (fun q => [A.grow 3 1 (some ⟨q.2.2.1.1, 0, none⟩) q.2.2.1.2 q.1.length (ints q.1), A.grow 3 1 q.2.2.2.1 q.2.2.2.2 (q.2.1.getD []).length (ints (q.2.1.getD [])), A.blk b5 (rcells c) 36])
    (fun q => goL (recL K want n) c.adm want [] q.1 q.2.1 = o ∧ q.1.length ≤ 1000 ∧ (q.2.1.getD []).length ≤ 1000 ∧ q.2.2.2.1.isNone = q.2.1.isNone) ?_ ?_
  · refine hwBC ?_
    refine HC.loop (α := Nat × List Int × Option (List Int) × (Nat × Nat) × (Option Addr × Nat)) (fun q => [(1, zv (i : Int)), (3, .pointer (some ⟨b3, 0, none⟩)), (4, .pointer (some ⟨b4, 0, none⟩)), (5, .pointer (some ⟨b5, 0, none⟩)), (8, .slice (some ⟨q.2.2.2.1.1, 0, none⟩) q.2.1.length q.2.2.2.1.2), (9, .slice q.2.2.2.2.1 (q.2.2.1.getD []).length q.2.2.2.2.2), (18, .slice ak (K c.clause).length ck), (19, zv ((K c.clause).length : Int)), (20, zv (q.1 : Int))])
      (fun q => [A.grow 3 1 (some ⟨q.2.2.2.1.1, 0, none⟩) q.2.2.2.1.2 q.2.1.length (ints q.2.1), A.grow 3 1 q.2.2.2.2.1 q.2.2.2.2.2 (q.2.2.1.getD []).length (ints (q.2.2.1.getD [])), A.blk b5 (rcells c) 36])
      (fun q => q.1 ≤ (K c.clause).length ∧ goL (recL K want n) c.adm want ((ksL K n c).drop q.1) q.2.1 q.2.2.1 = o ∧ GoI L c.clause ((ksL K n c).take q.1) q.2.1 q.2.2.1 ∧ q.2.2.2.2.1.isNone = q.2.2.1.isNone) (fun q => (K c.clause).length - q.1) (0, [], none, (b8, 0), (none, 0)) ⟨Nat.zero_le _, hgo.symm, GoI.zero _, rfl⟩ esA (by repeat (first | exact Hs.nil _ | (refine Hs.cons pickA ?_))) ?_
    rintro ⟨j, sum, best, ⟨bs, cs⟩, ab, cb⟩ ⟨hj, hG, hI, hnb⟩
    dsimp only at hj hG hI hnb ⊢
    have hsl := hI.len
    have hbl : (best.getD []).length ≤ L.length := by
      cases best with
      | none => exact Nat.zero_le _
      | some b => exact (hI.best b rfl).len
    have hend : (ksL K n c).drop j = [] → goL (recL K want n) c.adm want [] sum best = o := fun e => by rw [← e]; exact hG
    by_cases hlt : j < (K c.clause).length
    rotate_left
    · obtain rfl : j = (K c.clause).length := by omega
      have hn : ¬ (((K c.clause).length : Nat) : Int) < ((K c.clause).length : Int) := by omega
      have he := hend (by
        unfold ksL
        split
        · exact List.drop_nil
        · exact List.drop_length)
      refine hwBC ?_
      exact HX.cut (sum, best, (bs, cs), (ab, cb)) ⟨he, by show sum.length ≤ 1000; omega, by show (best.getD []).length ≤ 1000; omega, hnb⟩ esA (by repeat (first | exact Hs.nil _ | (refine Hs.cons pickA ?_)))
    have hn : ((j : Nat) : Int) < ((K c.clause).length : Int) := by omega
    obtain ⟨x, hx⟩ : ∃ x, (K c.clause)[j]? = some x := ⟨_, List.getElem?_eq_getElem hlt⟩
    obtain ⟨bl, off, rfl, -, hcell⟩ := hKR.at (fun e => by rw [e] at hlt; exact absurd hlt (Nat.not_lt_zero _))
    have hcl := hcell j x hx
    clear hcell
    refine hwBC ?_
    refine HL.one (H1.ldAggw (vs := rcells x) rfl rfl (fun w' hM i v hv => cell_ext hM.ext (hcl i v hv)) rfl ?_)
    refine hwBC ?_
    refine HL.one (H1.alloc (cs := rcells rcZ) rfl rfl (fun b11 => ?_))
    refine hwBC ?_
    refine HL.one (H1.stAgg (b := b11) (cs := rcells rcZ) (vs := rcells x) rfl rfl rfl (rcells_one x) rplA rfl ?_)
    cases n with
    | zero =>
      have hi8 : ((i : Nat) : Int) = 8 := by omega
      have he := hend List.drop_nil
      refine hwBC ?_
      exact HX.cut (sum, best, (bs, cs), (ab, cb)) ⟨he, by show sum.length ≤ 1000; omega, by show (best.getD []).length ≤ 1000; omega, hnb⟩ esA (by repeat (first | exact Hs.nil _ | (refine Hs.cons pickA ?_)))
    | succ m =>
      have hi8 : ¬ ((i : Nat) : Int) = 8 := by omega
      have hks : ksL K (m + 1) c = K c.clause := rfl
      rw [hks] at hG hI
      have hxm := (hk.sub c.clause).1 x (List.mem_of_getElem? hx)
      have hx0 : Up L (i + 1) x.clause 0 := by rw [Nat.add_comm]; exact Up.trans ⟨x, hxm.1, rfl, hxm.2⟩ hup
      have hdr : (K c.clause).drop j = x :: (K c.clause).drop (j + 1) := by
        rw [List.drop_eq_getElem_cons hlt]
        have := List.getElem?_eq_getElem hlt
        rw [hx] at this
        rw [Option.some.inj this]
      have htk : (K c.clause).take (j + 1) = (K c.clause).take j ++ [x] := by rw [List.take_add_one, hx]; rfl
      have hne : ∀ z ∈ (K c.clause).take j, z.clause ≠ x.clause := fun z hz e => by
        have h1 := (hk.sub c.clause).2
        rw [← List.take_append_drop j (K c.clause), hdr, List.map_append, List.nodup_append] at h1
        exact h1.2.2 z.clause (List.mem_map.2 ⟨z, hz, rfl⟩) x.clause (.head _) e
      rw [hdr, goL] at hG
      have hrec : recL K want (m + 1) x = leastF K want m x := rfl
      rw [hrec] at hG
      have hwy := fun t (h : leastF K want m x = some t) => least_why hk.uni hk.pos hk.sub hx0 h
      have hih := ih m rfl x hx0
      unfold LeaR at hih
      generalize leastF K want m x = ot at hG hwy hih
      refine hwBC ?_
      refine HL.one (H1.ld0 rfl hW.c3 rfl ?_)
      refine hwBC ?_
      refine HL.one (H1.ldAgg (b := b11) (vs := rcells x) rfl memA rfl (fun i v hv => by rw [Nat.zero_add]; exact hv) rfl ?_)
      refine hwBC ?_
      refine HL.one (H1.callvz (α := Option Addr × Nat) (V := fun z => .slice z.1 (ot.getD []).length z.2) (Hn := fun z => [A.grow 3 1 z.1 z.2 (ot.getD []).length (ints (ot.getD []))]) (I := fun z => z.1.isNone = ot.isNone) (f := 88) (cap := [.pointer (some ⟨b2, 0, none⟩), .pointer (some ⟨b3, 0, none⟩), .pointer (some ⟨b4, 0, none⟩)]) (vs := [recV x, zv ((i + 1 : Nat) : Int)]) rfl rfl rfl (fun w' hM => hih w' (hW.ext hM.ext)) ?_)
      rintro ⟨at', ct⟩ hat
      dsimp only at hat ⊢
      cases ot with
      | none =>
        dsimp only at hG
        subst hG
        refine hwBC ?_
        refine HL.pa ?_ (POp.snil (b := true) rfl rfl hat)
        refine hwBC ?_
        exact HX.ret1 rfl rfl fun w' hM => ⟨(ab, cb), hnb, rfl, hM.sub (by repeat (first | exact Hs.nil _ | (refine Hs.cons pickA ?_)))⟩
      | some t =>
        dsimp only at hG
        have hT := hwy t rfl
        have htl := hT.len
        have hst := hI.step hk.uni hk.pos hup hxm.1 hxm.2 hne hT
        have hstl := hst.len
        dsimp only [Option.getD]
        have e1 := ints_cat sum t
        have e2 : sum.length + t.length = (sum ++ t).length := List.length_append.symm
        refine hwBC ?_
        refine HL.pa ?_ (POp.snil (b := false) rfl rfl hat)
        refine hwBC ?_
        refine HL.one (H1.appI (b := bs) (m := t.length) (vs := ints t) rfl (by simp [ints]) rfl rfl (fun _ _ => by first | ((repeat (first | with_reducible exact Rpl.here | with_reducible apply Rpl.there)); done) | (repeat (first | exact Rpl.here | apply Rpl.there))) (fun w' hM => by have h := hM.gr (e := 3) (a := at') (c := ct) (n := t.length) (xs := ints t) memA; exact h) (ints_one t) (by omega) (by decide) rfl (fun bs' cs' => ?_))
        rw [e1, e2]
        generalize sum ++ t = sum' at hG hst hstl ⊢
        clear e1 e2 hI hsl hend
        have e3 : ints sum' ++ [zv x.clause] = ints (sum' ++ [x.clause]) := by unfold ints; rw [List.map_append]; rfl
        have e4 : sum'.length + 1 = (sum' ++ [x.clause]).length := by rw [List.length_append]; rfl
        refine hwBC ?_
        refine HC.cut (α := Nat × Nat) (fun q => [(1, zv (i : Int)), (3, .pointer (some ⟨b3, 0, none⟩)), (4, .pointer (some ⟨b4, 0, none⟩)), (5, .pointer (some ⟨b5, 0, none⟩)), (8, .slice (some ⟨bs', 0, none⟩) sum'.length cs'), (9, .slice ab (best.getD []).length cb), (13, .slice (some ⟨q.1, 0, none⟩) (sum' ++ [x.clause]).length q.2), (18, .slice (some ⟨bl, off, none⟩) (K c.clause).length ck), (19, zv ((K c.clause).length : Int)), (20, zv (j : Int))])
          (fun q => [A.grow 3 1 (some ⟨q.1, 0, none⟩) q.2 (sum' ++ [x.clause]).length (ints (sum' ++ [x.clause])), A.grow 3 1 (some ⟨bs', 0, none⟩) cs' sum'.length (ints sum'), A.grow 3 1 ab cb (best.getD []).length (ints (best.getD [])), A.blk b5 (rcells c) 36]) (fun _ => True) ?_ ?_
        · refine HC.anyC ([(⟨b11, 11, none⟩, zv x.clause)]) rfl ?_
          refine HB.pa 0 rfl ?_
          refine HB.pa 2 rfl ?_
          refine HB.ld 3 rfl rfl memD ?_
          refine HB.all (by repeat (first | exact Keep.nil | refine Keep.blk (by (repeat (first | exact List.Mem.head _ | apply List.Mem.tail)); done) rfl ?_ | refine Keep.grow (by (repeat (first | exact List.Mem.head _ | apply List.Mem.tail)); done) (by assumption) ?_ | refine Keep.base (by assumption) ?_)) [1, 4] (by kernel_rfl) rfl ⟨⟨_, rfl, ?_⟩, ⟨_, rfl, ?_⟩, trivial⟩
          · refine HP.one ?_
            refine H1.callz1 (α := Option Addr × Nat) (V := fun q => .slice q.1 sum'.length q.2) (An := fun q => A.grow 3 1 q.1 q.2 sum'.length (ints sum')) (I := fun _ => True) (vs := [_]) rfl rfl (fun w' hM => (clone_fn _ sum' (by omega) w' (by have h := hM.gr (e := 3) (a := some ⟨bs', 0, none⟩) (c := cs') (n := sum'.length) (xs := ints sum') memA; exact h)).mono fun u w'' h => by obtain ⟨q, -, h1, h2⟩ := h; exact ⟨q, trivial, h1, h2⟩) ?_
            rintro ⟨a13, c13⟩ -
            dsimp only
            apply HB.fold
            refine HB.all (by repeat (first | exact Keep.nil | refine Keep.blk (by (repeat (first | exact List.Mem.head _ | apply List.Mem.tail)); done) rfl ?_ | refine Keep.grow (by (repeat (first | exact List.Mem.head _ | apply List.Mem.tail)); done) (by assumption) ?_ | refine Keep.base (by assumption) ?_)) [4] (by kernel_rfl) rfl ⟨⟨_, rfl, ?_⟩, trivial⟩
            refine HP.one ?_
            refine H1.lit (cs := [zv x.clause]) rfl rfl rfl rfl rfl rfl (fun b9 => ?_)
            apply HB.fold
            refine HB.all (by repeat (first | exact Keep.nil | refine Keep.blk (by (repeat (first | exact List.Mem.head _ | apply List.Mem.tail)); done) rfl ?_ | refine Keep.grow (by (repeat (first | exact List.Mem.head _ | apply List.Mem.tail)); done) (by assumption) ?_ | refine Keep.base (by assumption) ?_)) [5] (by kernel_rfl) rfl ⟨⟨_, rfl, ?_⟩, trivial⟩
            refine HP.one ?_
            refine H1.app1 (u := zv x.clause) rfl rfl (fun _ _ => by first | ((repeat (first | with_reducible exact Rpl.here | with_reducible apply Rpl.there)); done) | (repeat (first | exact Rpl.here | apply Rpl.there))) memA rfl rfl (by omega) rfl rfl (fun a' c' => ?_)
            apply HB.fold
            refine HB.pa 6 rfl ?_
            refine HB.done (by repeat (first | exact Keep.nil | refine Keep.blk (by (repeat (first | exact List.Mem.head _ | apply List.Mem.tail)); done) rfl ?_ | refine Keep.grow (by (repeat (first | exact List.Mem.head _ | apply List.Mem.tail)); done) (by assumption) ?_ | refine Keep.base (by assumption) ?_)) (by kernel_rfl) ?_
            rw [e3, e4]
            exact HX.cut (a', c') trivial esA (by repeat (first | exact Hs.nil _ | (refine Hs.cons pickA ?_)))
          · refine HP.one ?_
            refine H1.lit (cs := [zv x.clause]) rfl rfl rfl rfl rfl rfl (fun b9 => ?_)
            apply HB.fold
            refine HB.all (by repeat (first | exact Keep.nil | refine Keep.blk (by (repeat (first | exact List.Mem.head _ | apply List.Mem.tail)); done) rfl ?_ | refine Keep.grow (by (repeat (first | exact List.Mem.head _ | apply List.Mem.tail)); done) (by assumption) ?_ | refine Keep.base (by assumption) ?_)) [1] (by kernel_rfl) rfl ⟨⟨_, rfl, ?_⟩, trivial⟩
            refine HP.one ?_
            refine H1.callz1 (α := Option Addr × Nat) (V := fun q => .slice q.1 sum'.length q.2) (An := fun q => A.grow 3 1 q.1 q.2 sum'.length (ints sum')) (I := fun _ => True) (vs := [_]) rfl rfl (fun w' hM => (clone_fn _ sum' (by omega) w' (by have h := hM.gr (e := 3) (a := some ⟨bs', 0, none⟩) (c := cs') (n := sum'.length) (xs := ints sum') memA; exact h)).mono fun u w'' h => by obtain ⟨q, -, h1, h2⟩ := h; exact ⟨q, trivial, h1, h2⟩) ?_
            rintro ⟨a13, c13⟩ -
            dsimp only
            apply HB.fold
            refine HB.all (by repeat (first | exact Keep.nil | refine Keep.blk (by (repeat (first | exact List.Mem.head _ | apply List.Mem.tail)); done) rfl ?_ | refine Keep.grow (by (repeat (first | exact List.Mem.head _ | apply List.Mem.tail)); done) (by assumption) ?_ | refine Keep.base (by assumption) ?_)) [5] (by kernel_rfl) rfl ⟨⟨_, rfl, ?_⟩, trivial⟩
            refine HP.one ?_
            refine H1.app1 (u := zv x.clause) rfl rfl (fun _ _ => by first | ((repeat (first | with_reducible exact Rpl.here | with_reducible apply Rpl.there)); done) | (repeat (first | exact Rpl.here | apply Rpl.there))) memA rfl rfl (by omega) rfl rfl (fun a' c' => ?_)
            apply HB.fold
            refine HB.pa 6 rfl ?_
            refine HB.done (by repeat (first | exact Keep.nil | refine Keep.blk (by (repeat (first | exact List.Mem.head _ | apply List.Mem.tail)); done) rfl ?_ | refine Keep.grow (by (repeat (first | exact List.Mem.head _ | apply List.Mem.tail)); done) (by assumption) ?_ | refine Keep.base (by assumption) ?_)) (by kernel_rfl) ?_
            rw [e3, e4]
            exact HX.cut (a', c') trivial esA (by repeat (first | exact Hs.nil _ | (refine Hs.cons pickA ?_)))
        rintro ⟨b13, c13⟩ -
        dsimp only
        generalize sum' ++ [x.clause] = fo at hG hst e4 ⊢
        have hsf := srtI_len fo
        refine hwBC ?_
        refine HL.one (H1.callk (α := Unit) (V := fun _ => .tuple #[]) (I := fun _ => True) (H' := fun _ => [A.grow 3 1 (some ⟨b13, 0, none⟩) c13 fo.length (ints (srtI fo)), A.grow 3 1 (some ⟨bs', 0, none⟩) cs' sum'.length (ints sum'), A.grow 3 1 ab cb (best.getD []).length (ints (best.getD [])), A.blk b5 (rcells c) 36]) (vs := [.slice (some ⟨b13, 0, none⟩) fo.length c13]) rfl rfl (fun w' hM => (sortI_fn hM Rpl.here (by omega)).mono fun v w2 h => ⟨(), trivial, h⟩) ?_)
        rintro - -
        by_cases htk2 : tkA (srtI fo) best = true
        · have hfi : firstL (srtI fo) best = srtI fo := by rw [firstL_tk, if_pos htk2]
          rw [hfi] at hG hst
          refine hwBC ?_
          refine HL.one (H1.callx (u := .slice (some ⟨b13, 0, none⟩) fo.length c13) (vs := [_, _]) rfl rfl (fun w' hM => (first_fn (va := .slice (some ⟨b13, 0, none⟩) fo.length c13) (a := srtI fo) (o := best) (by omega) (by omega) hnb w' (by have h := hM.gr (e := 3) (a := some ⟨b13, 0, none⟩) (c := c13) (n := fo.length) (xs := ints (srtI fo)) memA; exact h) (by have h := hM.gr (e := 3) (a := ab) (c := cb) (n := (best.getD []).length) (xs := ints (best.getD [])) memA; exact h)).mono fun u w'' h => ⟨h.1.trans (if_pos htk2), h.2⟩) ?_)
          rw [← hsf]
          refine hwBC ?_
          exact HX.again (j + 1, sum', some (srtI fo), (bs', cs'), (some ⟨b13, 0, none⟩, c13)) ⟨hlt, hG, (by show GoI L c.clause ((K c.clause).take (j + 1)) sum' (some (srtI fo)); rw [htk]; exact hst), rfl⟩ (by show (K c.clause).length - (j + 1) < (K c.clause).length - j; omega) esA (by repeat (first | exact Hs.nil _ | (refine Hs.cons pickA ?_)))
        · have hfi : firstL (srtI fo) best = best.getD [] := by rw [firstL_tk, if_neg htk2]
          rw [hfi] at hG hst
          have hbn : ab.isNone = false := by
            cases best with
            | none => exact absurd rfl htk2
            | some b => exact hnb
          refine hwBC ?_
          refine HL.one (H1.callx (u := .slice ab (best.getD []).length cb) (vs := [_, _]) rfl rfl (fun w' hM => (first_fn (va := .slice (some ⟨b13, 0, none⟩) fo.length c13) (a := srtI fo) (o := best) (by omega) (by omega) hnb w' (by have h := hM.gr (e := 3) (a := some ⟨b13, 0, none⟩) (c := c13) (n := fo.length) (xs := ints (srtI fo)) memA; exact h) (by have h := hM.gr (e := 3) (a := ab) (c := cb) (n := (best.getD []).length) (xs := ints (best.getD [])) memA; exact h)).mono fun u w'' h => ⟨h.1.trans (if_neg htk2), h.2⟩) ?_)
          refine hwBC ?_
          exact HX.again (j + 1, sum', some (best.getD []), (bs', cs'), (ab, cb)) ⟨hlt, hG, (by show GoI L c.clause ((K c.clause).take (j + 1)) sum' (some (best.getD [])); rw [htk]; exact hst), hbn⟩ (by show (K c.clause).length - (j + 1) < (K c.clause).length - j; omega) esA (by repeat (first | exact Hs.nil _ | (refine Hs.cons pickA ?_)))
  rintro ⟨sum, best, ⟨bs, cs⟩, ab, cb⟩ ⟨hG, hsl, hbl, hnb⟩
  dsimp only at hG hsl hbl hnb ⊢
  rw [goL] at hG
  by_cases hadm : c.adm = want
  rotate_left
  · rw [if_neg hadm] at hG
    subst hG
    have hb : (c.adm == want) = false := beq_false_of_ne hadm
    refine hwBC ?_
    refine HL.one (H1.ld0 rfl hW.c4 rfl ?_)
    refine hwBC ?_
    exact HX.ret1 rfl rfl fun w' hM => ⟨(ab, cb), hnb, rfl, hM.sub (by repeat (first | exact Hs.nil _ | (refine Hs.cons pickA ?_)))⟩
  rw [if_pos hadm] at hG
  subst hG
  have hb : (c.adm == want) = true := by rw [hadm]; exact beq_self_eq_true want
  have hsf := srtI_len sum
  dsimp only [Option.getD, Option.isNone]
  refine hwBC ?_
  refine HL.one (H1.ld0 rfl hW.c4 rfl ?_)
  refine hwBC ?_
  refine HL.one (H1.callk (α := Unit) (V := fun _ => .tuple #[]) (I := fun _ => True) (H' := fun _ => [A.grow 3 1 (some ⟨bs, 0, none⟩) cs sum.length (ints (srtI sum)), A.grow 3 1 ab cb (best.getD []).length (ints (best.getD [])), A.blk b5 (rcells c) 36]) (vs := [.slice (some ⟨bs, 0, none⟩) sum.length cs]) rfl rfl (fun w' hM => (sortI_fn hM Rpl.here (by omega)).mono fun v w2 h => ⟨(), trivial, h⟩) ?_)
  rintro - -
  by_cases htk2 : tkA (srtI sum) best = true
  · have hfi : firstL (srtI sum) best = srtI sum := by rw [firstL_tk, if_pos htk2]
    rw [hfi]
    refine hwBC ?_
    refine HL.one (H1.callx (u := .slice (some ⟨bs, 0, none⟩) sum.length cs) (vs := [_, _]) rfl rfl (fun w' hM => (first_fn (va := .slice (some ⟨bs, 0, none⟩) sum.length cs) (a := srtI sum) (o := best) (by omega) (by omega) hnb w' (by have h := hM.gr (e := 3) (a := some ⟨bs, 0, none⟩) (c := cs) (n := sum.length) (xs := ints (srtI sum)) memA; exact h) (by have h := hM.gr (e := 3) (a := ab) (c := cb) (n := (best.getD []).length) (xs := ints (best.getD [])) memA; exact h)).mono fun u w'' h => ⟨h.1.trans (if_pos htk2), h.2⟩) ?_)
    rw [← hsf]
    refine hwBC ?_
    exact HX.ret1 rfl rfl fun w' hM => ⟨(some ⟨bs, 0, none⟩, cs), rfl, rfl, hM.sub (by repeat (first | exact Hs.nil _ | (refine Hs.cons pickA ?_)))⟩
  · have hfi : firstL (srtI sum) best = best.getD [] := by rw [firstL_tk, if_neg htk2]
    rw [hfi]
    have hbn : ab.isNone = false := by
      cases best with
      | none => exact absurd rfl htk2
      | some b => exact hnb
    refine hwBC ?_
    refine HL.one (H1.callx (u := .slice ab (best.getD []).length cb) (vs := [_, _]) rfl rfl (fun w' hM => (first_fn (va := .slice (some ⟨bs, 0, none⟩) sum.length cs) (a := srtI sum) (o := best) (by omega) (by omega) hnb w' (by have h := hM.gr (e := 3) (a := some ⟨bs, 0, none⟩) (c := cs) (n := sum.length) (xs := ints (srtI sum)) memA; exact h) (by have h := hM.gr (e := 3) (a := ab) (c := cb) (n := (best.getD []).length) (xs := ints (best.getD [])) memA; exact h)).mono fun u w'' h => ⟨h.1.trans (if_neg htk2), h.2⟩) ?_)
    refine hwBC ?_
    exact HX.ret1 rfl rfl fun w' hM => ⟨(ab, cb), hbn, rfl, hM.sub (by repeat (first | exact Hs.nil _ | (refine Hs.cons pickA ?_)))⟩
theorem least1_fn {L : List Rc} {K : Int → List Rc} (hk : KOk L K) {want : Bool} {bm b2 b3 b4 : Nat} : ∀ (n i : Nat) (c : Rc), i + n = 8 → Up L i c.clause 0 → ∀ w, LeaH w bm b2 b3 b4 K want →
    Fn Tryz.prog 88 #[recV c, zv (i : Int), .pointer (some ⟨b2, 0, none⟩), .pointer (some ⟨b3, 0, none⟩), .pointer (some ⟨b4, 0, none⟩)] w (LeaR K want n c w)
  | 0, i, c, hin, hup, w, hW => least1_step hk 0 i c hin hup (fun m h => by omega) w hW
  | n + 1, i, c, hin, hup, w, hW => least1_step hk (n + 1) i c hin hup (fun m h x hx w' hW' => by
      obtain rfl : n = m := by omega
      exact least1_fn hk n (i + 1) x (by omega) hx w' hW') w hW
theorem least_fn {L : List Rc} {K : Int → List Rc} (hk : KOk L K) (want : Bool) (bm : Nat) (w : World) (hF : ForW w bm K) :
    Fn Tryz.prog 40 #[.map (some bm), .bool want] w (LeaR K want 8 rcZ w) := by
  refine enterH (l := [_, _]) rfl Tryz.ntmps40 rfl ?_
  refine hwBC ?_
  refine HL.one (H1.box rfl rfl rfl (fun b2 => ?_))
  refine hwBC ?_
  refine HL.one (H1.box rfl rfl rfl (fun b3 => ?_))
  refine hwBC ?_
  refine HL.one (H1.alloc (cs := [.nilFunc]) rfl rfl (fun b5 => ?_))
  refine hwBC ?_
  refine HL.one (H1.st (b := b5) rfl rfl (by intro _ h; cases h) (by intro _ h; cases h) rplA (by exact Nat.zero_lt_one) ?_)
  refine hwBC ?_
  refine HL.build (parts := []) (pv := []) (cs := rcells rcZ) rfl rfl rfl ?_
  refine hwBC ?_
  refine HL.one (H1.callvz (α := Option Addr × Nat) (V := fun z => .slice z.1 ((leastF K want 8 rcZ).getD []).length z.2) (Hn := fun z => [A.grow 3 1 z.1 z.2 ((leastF K want 8 rcZ).getD []).length (ints ((leastF K want 8 rcZ).getD []))]) (I := fun z => z.1.isNone = (leastF K want 8 rcZ).isNone) (f := 88) (cap := [.pointer (some ⟨b2, 0, none⟩), .pointer (some ⟨b5, 0, none⟩), .pointer (some ⟨b3, 0, none⟩)]) (vs := [recV rcZ, zv ((0 : Nat) : Int)]) rfl rfl rfl (fun w' hM => least1_fn hk 8 0 rcZ rfl rfl w' ⟨hF.ext hM.ext, (hM.blk (b := b2) memA).cell rfl, (hM.blk (b := b5) memA).cell rfl, (hM.blk (b := b3) memA).cell rfl⟩) ?_)
  rintro ⟨az, cz⟩ haz
  dsimp only at haz ⊢
  refine hwBC ?_
  exact HX.ret1 rfl rfl fun w' hM => ⟨(az, cz), haz, rfl, hM.sub (by repeat (first | exact Hs.nil _ | (refine Hs.cons pickA ?_)))⟩
end Go.Sx
