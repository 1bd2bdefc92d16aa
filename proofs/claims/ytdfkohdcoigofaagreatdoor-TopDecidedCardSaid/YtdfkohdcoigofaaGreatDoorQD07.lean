/- TopDecided: what suffices; the path: the walks. -/
import Derived.Test.YtdfkohdcoigofaaGreatDoorQD06
namespace Go.Sx
open Go Go.Proofs Go.RowKit
theorem hwBD {G G2 : Prop} (x : G2) (hwq : Hold G2 → G := by
    intro hQq
    repeat' (first | refine HL.pa ?_ (POp.nilCheck rfl) | apply HL.fold | apply HA.fold | apply HL.nil | apply HX.n_then | apply HC.seq | apply HC.region | refine HL.pa ?_ | refine HL.ga rfl ?_ | refine HL.na rfl ?_ | refine HL.nu rfl rfl ?_ | apply HC.block | apply HC.skip | apply HC.exit | apply HC.ret | apply HX.e_block | refine HX.e_other rfl ?_ | apply HX.e_then | apply HX.e_again | apply HX.n_block | apply HX.r_then | apply HX.r_block | apply HX.r_again | refine HC.cond_yes rfl ?_ | refine HC.cond_no rfl ?_ | refine HL.one (H1.ldb rfl memA rfl rfl ?_) | refine HC.cond rfl (fun hc => ?_) (fun hc => ?_) | refine HC.cond_b rfl (fun hc => ?_) (fun hc => ?_))
    exact hQq.get) : G := hwq ⟨x⟩
section
variable {P : Program} {N : Nat} {E : Env} {w0 : World} {H H' : List Atom}
/-- A result that is a variable's own cells, behind a range over a function. -/
theorem HX.retMcA {fn : Func} {p b D n bb : Nat} {ty e : TypeId} {z : Value} {cs : List Value} {R : Value → World → Prop} [ha : ATy P ty true] [hi : ITy P ty z n bb] (hr : fn.results = #[.cell p ty]) (hp : Env.g E p = some (.pointer (some ⟨b, 0, none⟩)))
    (hm : Pick (A.dfr D) H H') (hb : A.blk b cs e ∈ H') (hn : cs.length = n) (h : ∀ w, Mm w0 H' w → R (.agg cs.toArray) w) : HX N [markOf D] .ret (bodyPostM Fence.wide 0 P fn (RetP R)) E w0 H := fun w hM a ha' => by
  have hpm := hM.perm hm.perm
  obtain ⟨o, hD, rfl⟩ : ∃ o, w.heap[D]? = some o ∧ o = .deferred (some []) := hpm.all (A.dfr D) (List.Mem.head _)
  simp only [bodyPostM, ha'.defers]
  refine ⟨by simp, .inl ⟨D, _, rfl, run_takeDeferred hD, ?_⟩⟩
  have hM2 := hpm.drop1 (l := D) rfl (Upd1.put w D (.deferred none))
  have e1 : a.tmps.getD p undef = .pointer (some ⟨b, 0, none⟩) := by rw [Array.getD_eq_getD_getElem?, ha'.get _ _ hp]; rfl
  have e1' : a.tmps[p]?.getD undef = .pointer (some ⟨b, 0, none⟩) := by simpa using e1
  refine ⟨_, ?_, _, rfl, h _ hM2⟩
  have := run_loadVarAgg (P := P) (w := w.putObj D (.deferred none)) (t := ty) (b := b) (off := 0) hn fun i v hv => by rw [Nat.zero_add]; exact (hM2.blk hb).cell hv
  simp [results, hr, e1', asAddr, this]
end
/-- The captured variables of the closure. -/
structure SufH (w : World) (bm b2 b3 b4 b5 : Nat) (K : Int → List Rc) (S : List Int) (want : Bool) : Prop where
  f : ForW w bm K
  c2 : w.cell? ⟨b2, 0, none⟩ = some (.map (some bm))
  c3 : w.cell? ⟨b3, 0, none⟩ = some (.func (.func 97) #[] #[.pointer (some ⟨b2, 0, none⟩), .pointer (some ⟨b3, 0, none⟩), .pointer (some ⟨b4, 0, none⟩), .pointer (some ⟨b5, 0, none⟩)])
  c4 : ∃ vs, w.cell? ⟨b4, 0, none⟩ = some vs ∧ Rd w vs (ints S)
  c5 : w.cell? ⟨b5, 0, none⟩ = some (.bool want)
theorem SufH.ext {w w' : World} {bm b2 b3 b4 b5 : Nat} {K : Int → List Rc} {S : List Int} {want : Bool} (h : SufH w bm b2 b3 b4 b5 K S want) (k : Ext w w') : SufH w' bm b2 b3 b4 b5 K S want := by
  obtain ⟨h1, h2, h3, ⟨vs, h4, h5⟩, h6⟩ := h
  exact ⟨h1.ext k, cell_ext k h2, cell_ext k h3, ⟨vs, cell_ext k h4, h5.ext k⟩, cell_ext k h6⟩
def recS (K : Int → List Rc) (S : List Int) (want : Bool) : Nat → Rc → Bool
  | 0, _ => false
  | n + 1, x => sufF K S want n x
attribute [local irreducible] WC WL WX POp Then Again Fn NX W1 WA WO QL RP RA Yld LoopAt HC HL HX HN H1 HA HO HQ HB HP A.blk A.grow A.rd A.obj A.mp AgainH CutH
attribute [local irreducible] A.mq A.mit A.dfr A.loop
theorem indexI22_fn {v : Value} {l : List Int} (n : Int) (hl : l.length ≤ 1000000) (w : World) (hR : Rd w v (ints l)) :
    Fn Tryz.prog 174 #[v, zv n] w fun u w' => ∃ k : Int, ((k = -1 ∧ n ∉ l) ∨ (0 ≤ k ∧ n ∈ l)) ∧ u = zv k ∧ Ext w w' := by
  obtain ⟨a, c, rfl, hc⟩ := hR.isInts
  refine enterH (l := [_, _]) rfl Tryz.ntmps174 rfl ?_
  refine hwBD ?_
  refine HC.loop (α := Nat) (fun j => [(0, .slice a l.length c), (1, zv n), (7, zv (l.length : Int)), (8, zv (j : Int))]) (fun _ => []) (fun j => j ≤ l.length ∧ n ∉ l.take j) (fun j => l.length - j) 0 ⟨Nat.zero_le _, by simp⟩ esA (Hs.refl _) ?_
  rintro j ⟨hj, hI⟩
  by_cases hlt : j < l.length
  · have hn : ((j : Nat) : Int) < (l.length : Int) := by omega
    obtain ⟨b1, o1, rfl, -⟩ := hR.iat (fun e => by rw [e] at hlt; exact absurd hlt (Nat.not_lt_zero _))
    have hd1 := hR.cell (ints_get hlt)
    have h1 := take_at hlt
    by_cases e : n = at' l j
    · have hm : n ∈ l := e ▸ at_mem hlt
      refine hwBD ?_
      refine HL.one (H1.ld0 rfl hd1 rfl ?_)
      refine hwBD ?_
      exact HX.ret1 rfl rfl fun w' hM => ⟨j, .inr ⟨Int.natCast_nonneg j, hm⟩, rfl, hM.ext⟩
    · refine hwBD ?_
      refine HL.one (H1.ld0 rfl hd1 rfl ?_)
      refine hwBD ?_
      exact HX.again (j + 1) ⟨hlt, by rw [h1, List.mem_append, List.mem_singleton]; exact fun h => h.elim hI e⟩ (by show l.length - (j + 1) < l.length - j; omega) esA (Hs.refl _)
  have hn : ¬ ((j : Nat) : Int) < (l.length : Int) := by omega
  obtain rfl : j = l.length := by omega
  rw [List.take_length] at hI
  refine hwBD ?_
  exact HX.ret1 rfl rfl fun w' hM => ⟨-1, .inl ⟨rfl, hI⟩, rfl, hM.ext⟩
theorem containsI22_fn {v : Value} {l : List Int} (n : Int) (hl : l.length ≤ 1000000) (w : World) (hR : Rd w v (ints l)) :
    Fn Tryz.prog 98 #[v, zv n] w fun u w' => u = .bool (decide (n ∈ l)) ∧ Ext w w' := by
  refine enterH (l := [_, _]) rfl Tryz.ntmps98 rfl ?_
  refine hwBD ?_
  refine HL.one (H1.callp (α := Int) (V := zv) (I := fun k => (k = -1 ∧ n ∉ l) ∨ (0 ≤ k ∧ n ∈ l)) (vs := [_, _]) rfl rfl (fun w' hM => indexI22_fn n hl w' (hR.ext hM.ext)) ?_)
  rintro k (⟨rfl, h⟩ | ⟨h0, h⟩)
  · refine hwBD ?_
    exact HX.ret1 rfl rfl fun w' hM => ⟨by rw [decide_eq_false h]; rfl, hM.ext⟩
  · have h0' : k ≥ 0 := h0
    refine hwBD ?_
    exact HX.ret1 rfl rfl fun w' hM => ⟨by rw [decide_eq_true h, decide_eq_true h0'], hM.ext⟩
set_option maxHeartbeats 4000000 in
theorem suf1_step {L : List Rc} {K : Int → List Rc} (hk : KOk L K) {want : Bool} {S : List Int} (hS : S.length ≤ 1000000) {bm b2 b3 b4 b5 : Nat} (n i : Nat) (c : Rc) (hin : i + n = 8)
    (ih : ∀ m, n = m + 1 → ∀ x w, SufH w bm b2 b3 b4 b5 K S want → Fn Tryz.prog 97 #[recV x, zv ((i + 1 : Nat) : Int), .pointer (some ⟨b2, 0, none⟩), .pointer (some ⟨b3, 0, none⟩), .pointer (some ⟨b4, 0, none⟩), .pointer (some ⟨b5, 0, none⟩)] w fun u w' => u = .bool (sufF K S want m x) ∧ Ext w w')
    (w : World) (hW : SufH w bm b2 b3 b4 b5 K S want) :
    Fn Tryz.prog 97 #[recV c, zv (i : Int), .pointer (some ⟨b2, 0, none⟩), .pointer (some ⟨b3, 0, none⟩), .pointer (some ⟨b4, 0, none⟩), .pointer (some ⟨b5, 0, none⟩)] w fun u w' => u = .bool (sufF K S want n c) ∧ Ext w w' := by
  have hkl := hk.klen c.clause
  obtain ⟨vs, hvs, hRS⟩ := hW.c4
  refine enterH (l := [_, _, _, _, _, _]) rfl Tryz.ntmps97 rfl ?_
  cases n with
  | zero =>
    have hi8 : ¬ ((i : Nat) : Int) < 8 := by omega
    refine hwBD ?_
    refine HL.one (H1.boxAgg (cs := rcells c) rfl rfl (fun b6 => ?_))
    refine hwBD ?_
    refine HL.one (H1.ld0 rfl hW.c5 rfl ?_)
    refine hwBD ?_
    exact HX.ret1 rfl rfl fun w' hM => ⟨rfl, hM.ext⟩
  | succ m =>
    have hi8 : ((i : Nat) : Int) < 8 := by omega
    have hih := ih m rfl
    show HC _ _ _ _ _ _ _ _ _
    have hsf : sufF K S want (m + 1) c = goS (sufF K S want m) S (c.adm == want) (K c.clause) := rfl
    rw [hsf]
    generalize sufF K S want m = rec at hih ⊢
    refine hwBD ?_
    refine HL.one (H1.boxAgg (cs := rcells c) rfl rfl (fun b6 => ?_))
    refine hwBD ?_
    refine HL.one (H1.ld0 rfl hW.c2 rfl ?_)
    refine hwBD ?_
    refine HL.one (H1.fget rfl rfl hW.f rfl (fun ak ck hKR => ?_))
    refine hwBD ?_
    refine HC.loop (α := Nat) (fun j => [(1, zv (i : Int)), (3, .pointer (some ⟨b3, 0, none⟩)), (4, .pointer (some ⟨b4, 0, none⟩)), (5, .pointer (some ⟨b5, 0, none⟩)), (6, .pointer (some ⟨b6, 0, none⟩)), (16, .slice ak (K c.clause).length ck), (17, zv ((K c.clause).length : Int)), (18, zv (j : Int))]) (fun _ => [A.blk b6 (rcells c) 36])
      (fun j => j ≤ (K c.clause).length ∧ goS rec S (c.adm == want) (K c.clause) = goS rec S (c.adm == want) ((K c.clause).drop j)) (fun j => (K c.clause).length - j) 0 ⟨Nat.zero_le _, rfl⟩ esA (by repeat (first | exact Hs.nil _ | (refine Hs.cons pickA ?_))) ?_
    rintro j ⟨hj, hG⟩
    by_cases hlt : j < (K c.clause).length
    rotate_left
    · obtain rfl : j = (K c.clause).length := by omega
      have hn : ¬ (((K c.clause).length : Nat) : Int) < ((K c.clause).length : Int) := by omega
      rw [List.drop_length] at hG
      rw [hG]
      refine hwBD ?_
      refine HL.one (H1.ld0 rfl hW.c5 rfl ?_)
      refine hwBD ?_
      exact HX.ret1 rfl rfl fun w' hM => ⟨rfl, hM.ext⟩
    have hn : ((j : Nat) : Int) < ((K c.clause).length : Int) := by omega
    obtain ⟨x, hx⟩ : ∃ x, (K c.clause)[j]? = some x := ⟨_, List.getElem?_eq_getElem hlt⟩
    obtain ⟨bl, off, rfl, -, hcell⟩ := hKR.at (fun e => by rw [e] at hlt; exact absurd hlt (Nat.not_lt_zero _))
    have hcl := hcell j x hx
    clear hcell
    have hdr : (K c.clause).drop j = x :: (K c.clause).drop (j + 1) := by
      rw [List.drop_eq_getElem_cons hlt]
      have := List.getElem?_eq_getElem hlt
      rw [hx] at this
      rw [Option.some.inj this]
    rw [hdr, goS] at hG
    refine hwBD ?_
    refine HL.one (H1.ldAggw (vs := rcells x) rfl rfl (fun w' hM i v hv => cell_ext hM.ext (hcl i v hv)) rfl ?_)
    refine hwBD ?_
    refine HL.one (H1.alloc (cs := rcells rcZ) rfl rfl (fun b11 => ?_))
    refine hwBD ?_
    refine HL.one (H1.stAgg (b := b11) (cs := rcells rcZ) (vs := rcells x) rfl rfl rfl (rcells_one x) rplA rfl ?_)
    refine hwBD ?_
    refine HL.one (H1.ld0 rfl hW.c3 rfl ?_)
    refine hwBD ?_
    refine HL.one (H1.ldAgg (b := b11) (vs := rcells x) rfl memA rfl (fun i v hv => by rw [Nat.zero_add]; exact hv) rfl ?_)
    refine hwBD ?_
    refine HL.one (H1.callv0 (f := 97) (u := .bool (rec x)) (cap := [.pointer (some ⟨b2, 0, none⟩), .pointer (some ⟨b3, 0, none⟩), .pointer (some ⟨b4, 0, none⟩), .pointer (some ⟨b5, 0, none⟩)]) (vs := [recV x, zv ((i + 1 : Nat) : Int)]) rfl rfl rfl (fun w' hM => hih x w' (hW.ext hM.ext)) ?_)
    cases hrx : rec x with
    | false =>
      rw [hrx, if_pos rfl] at hG
      rw [hG]
      refine hwBD ?_
      exact HX.ret1 rfl rfl fun w' hM => ⟨rfl, hM.ext⟩
    | true =>
      rw [hrx, if_neg (by decide)] at hG
      refine hwBD ?_
      refine HL.one (H1.ld0 rfl hvs rfl ?_)
      by_cases hm : x.clause ∈ S
      · rw [if_pos hm] at hG
        rw [hG]
        refine hwBD ?_
        refine HL.one (H1.callx (u := .bool true) (vs := [_, _]) rfl rfl (fun w' hM => (containsI22_fn x.clause hS w' (hRS.ext hM.ext)).mono fun u w'' h => ⟨h.1.trans (by rw [decide_eq_true hm]), h.2⟩) ?_)
        refine hwBD ?_
        exact HX.ret1 rfl rfl fun w' hM => ⟨rfl, hM.ext⟩
      · rw [if_neg hm] at hG
        refine hwBD ?_
        refine HL.one (H1.callx (u := .bool false) (vs := [_, _]) rfl rfl (fun w' hM => (containsI22_fn x.clause hS w' (hRS.ext hM.ext)).mono fun u w'' h => ⟨h.1.trans (by rw [decide_eq_false hm]), h.2⟩) ?_)
        refine hwBD ?_
        exact HX.again (j + 1) ⟨hlt, hG⟩ (by show (K c.clause).length - (j + 1) < (K c.clause).length - j; omega) esA (by repeat (first | exact Hs.nil _ | (refine Hs.cons pickA ?_)))
theorem suf1_fn {L : List Rc} {K : Int → List Rc} (hk : KOk L K) {want : Bool} {S : List Int} (hS : S.length ≤ 1000000) {bm b2 b3 b4 b5 : Nat} : ∀ (n i : Nat) (c : Rc), i + n = 8 → ∀ w, SufH w bm b2 b3 b4 b5 K S want →
    Fn Tryz.prog 97 #[recV c, zv (i : Int), .pointer (some ⟨b2, 0, none⟩), .pointer (some ⟨b3, 0, none⟩), .pointer (some ⟨b4, 0, none⟩), .pointer (some ⟨b5, 0, none⟩)] w fun u w' => u = .bool (sufF K S want n c) ∧ Ext w w'
  | 0, i, c, hin, w, hW => suf1_step hk hS 0 i c hin (fun m h => by omega) w hW
  | n + 1, i, c, hin, w, hW => suf1_step hk hS (n + 1) i c hin (fun m h x w' hW' => by
      obtain rfl : n = m := by omega
      exact suf1_fn hk hS n (i + 1) x (by omega) w' hW') w hW
theorem suffices_fn {L : List Rc} {K : Int → List Rc} (hk : KOk L K) (want : Bool) {S : List Int} {vs : Value} (hv : vs.cells = #[vs]) (hS : S.length ≤ 1000000) (bm : Nat) (w : World) (hF : ForW w bm K) (hRS : Rd w vs (ints S)) :
    Fn Tryz.prog 42 #[.map (some bm), vs, .bool want] w fun u w' => u = .bool (sufF K S want 8 rcZ) ∧ Ext w w' := by
  refine enterH (l := [_, _, _]) rfl Tryz.ntmps42 rfl ?_
  refine hwBD ?_
  refine HL.one (H1.box rfl rfl rfl (fun b3 => ?_))
  refine hwBD ?_
  refine HL.one (H1.box rfl hv rfl (fun b4 => ?_))
  refine hwBD ?_
  refine HL.one (H1.box rfl rfl rfl (fun b5 => ?_))
  refine hwBD ?_
  refine HL.one (H1.alloc (cs := [.nilFunc]) rfl rfl (fun b7 => ?_))
  refine hwBD ?_
  refine HL.one (H1.st (b := b7) rfl rfl (by intro _ h; cases h) (by intro _ h; cases h) rplA (by exact Nat.zero_lt_one) ?_)
  refine hwBD ?_
  refine HL.build (parts := []) (pv := []) (cs := rcells rcZ) rfl rfl rfl ?_
  refine hwBD ?_
  refine HL.one (H1.callv0 (f := 97) (u := .bool (sufF K S want 8 rcZ)) (cap := [.pointer (some ⟨b3, 0, none⟩), .pointer (some ⟨b7, 0, none⟩), .pointer (some ⟨b4, 0, none⟩), .pointer (some ⟨b5, 0, none⟩)]) (vs := [recV rcZ, zv ((0 : Nat) : Int)]) rfl rfl rfl (fun w' hM => suf1_fn hk hS 8 0 rcZ rfl w' ⟨hF.ext hM.ext, (hM.blk (b := b3) memA).cell rfl, (hM.blk (b := b7) memA).cell rfl, ⟨vs, (hM.blk (b := b4) memA).cell rfl, hRS.ext hM.ext⟩, (hM.blk (b := b5) memA).cell rfl⟩) ?_)
  refine hwBD ?_
  exact HX.ret1 rfl rfl fun w' hM => ⟨rfl, hM.ext⟩
/- the path -/
set_option maxHeartbeats 1000000 in
theorem path1_fn {w0 : World} {K : Int → List Rc} {G : Rc → List Atom} {lp b1 bm : Nat} (hK : ∀ p, (K p).length ≤ 1000) (hF : ForW w0 bm K) (h1 : ∀ cur w, Mm w0 (G cur) w → w.cell? ⟨b1, 0, none⟩ = some (.map (some bm))) (cur0 : Rc)
    (hy : ∀ cur r w, Mm w0 (G cur) w → Yld Tryz.prog lp [recV r] w fun b w' => b = true ∧ ∃ _z : Unit, True ∧ Mm w0 (G r) w') :
    ∀ w, Mm w0 (G cur0) w → Fn Tryz.prog 169 (.func (.yield lp) #[] #[] :: [.pointer (some ⟨b1, 0, none⟩)]).toArray w fun _ w' => ∃ _z : Unit, True ∧ Mm w0 (G (lastF K 8 0 cur0)) w' := by
  intro w hM
  refine enterK (l := [_, _]) hM rfl Tryz.ntmps169 rfl ?_
  refine hwBD ?_
  refine HC.loop (α := Nat × Int × Rc) (fun q => [(0, .func (.yield lp) #[] #[]), (1, .pointer (some ⟨b1, 0, none⟩)), (3, zv q.2.1), (5, zv (q.1 : Int))]) (fun q => G q.2.2)
    (fun q => q.1 ≤ 8 ∧ lastF K (8 - q.1) q.2.1 q.2.2 = lastF K 8 0 cur0) (fun q => 8 - q.1) (0, 0, cur0) ⟨Nat.zero_le _, rfl⟩ esA (Hs.refl _) ?_
  rintro ⟨k, p, cur⟩ ⟨hk, hl⟩
  dsimp only at hk hl ⊢
  by_cases hlt : k < 8
  rotate_left
  · obtain rfl : k = 8 := by omega
    have hn : ¬ ((8 : Nat) : Int) < 8 := by decide
    rw [← hl]
    show HC _ _ _ _ _ _ _ _ (G cur)
    refine hwBD ?_
    exact HX.end0 rfl fun w' hM => ⟨(), trivial, hM⟩
  have hn : ((k : Nat) : Int) < 8 := by omega
  have e8 : 8 - k = (8 - (k + 1)) + 1 := by omega
  rw [e8, lastF] at hl
  have hkl := hK p
  refine hwBD ?_
  refine HL.one (H1.ldw rfl (fun w' hM => h1 cur w' hM) rfl ?_)
  refine hwBD ?_
  refine HL.one (H1.fget rfl rfl hF rfl (fun ak ck hKR => ?_))
  cases hKp : K p with
  | nil =>
    rw [hKp] at hl
    dsimp only at hl
    rw [← hl]
    dsimp only [List.length]
    refine hwBD ?_
    exact HX.ret0 rfl fun w' hM => ⟨(), trivial, hM⟩
  | cons r ks =>
    rw [hKp] at hl hKR hkl
    dsimp only at hl
    have hn0 : ¬ (((r :: ks).length : Nat) : Int) = 0 := by rw [List.length_cons]; omega
    have hn1 : (0 : Int) < (((r :: ks).length : Nat) : Int) := by rw [List.length_cons]; omega
    obtain ⟨bl, off, rfl, -, hcell⟩ := hKR.at (by simp)
    have hcl := hcell 0 r rfl
    clear hcell
    generalize (r :: ks).length = nk at hn0 hn1 hkl ⊢
    refine hwBD ?_
    refine HL.one (H1.ldAggw (vs := rcells r) rfl rfl (fun w' hM i v hv => cell_ext hM.ext (by have h := hcl i v hv; rw [Nat.zero_mul, Nat.add_zero] at h; exact h)) rfl ?_)
    refine hwBD ?_
    refine HL.one (H1.yield (α := Unit) (Hz := fun _ => G r) (I := fun _ => True) (vs := [recV r]) rfl rfl rfl (fun w' hM => hy cur r w' hM) ?_)
    rintro - -
    refine hwBD ?_
    refine HL.one (H1.ld0 rfl (by have h := hcl 11 (zv r.clause) rfl; rw [Nat.zero_mul, Nat.add_zero] at h; exact h) rfl ?_)
    refine hwBD ?_
    exact HX.again (k + 1, r.clause, r) ⟨hlt, hl⟩ (by show 8 - (k + 1) < 8 - k; omega) esA (Hs.refl _)
end Go.Sx
/- TopDecided: the last clause of the path; which clauses apply; whether clauses decide: the walks. -/
namespace Go.Sx
open Go Go.Proofs Go.RowKit
theorem hwBE {G G2 : Prop} (x : G2) (hwq : Hold G2 → G := by
    intro hQq
    repeat' (first | refine HL.pa ?_ (POp.nilCheck rfl) | apply HL.fold | apply HA.fold | apply HL.nil | apply HX.n_then | apply HC.seq | apply HC.region | refine HL.pa ?_ | refine HL.ga rfl ?_ | refine HL.na rfl ?_ | refine HL.nu rfl rfl ?_ | apply HC.block | apply HC.skip | apply HC.exit | apply HC.ret | apply HX.e_block | refine HX.e_other rfl ?_ | apply HX.e_then | apply HX.e_again | apply HX.n_block | apply HX.r_then | apply HX.r_block | apply HX.r_again | refine HC.cond_yes rfl ?_ | refine HC.cond_no rfl ?_ | refine HL.one (H1.ldb rfl memA rfl rfl ?_) | refine HC.cond rfl (fun hc => ?_) (fun hc => ?_) | refine HC.cond_b rfl (fun hc => ?_) (fun hc => ?_))
    exact hQq.get) : G := hwq ⟨x⟩
/-- A question. -/
structure Ask where
  person : Int
  purpose : Int
  pack : Int
  day : Int
def askC (a : Ask) : List Value := [zv a.person, zv a.purpose, zv a.pack, zv a.day]
/-- A clause applies. -/
def appB (B0 : List Rc) (a : Ask) (c : Rc) : Bool :=
  decide (c.start ≤ a.day) && (decide (a.day ≤ c.stop) && ((decide (c.pack = 0) || decide (c.pack = a.pack)) && ((decide (c.purpose = 0) || decide (c.purpose = a.purpose)) && (decide (c.role = 0) || B0.any (hasB a.person c.role a.day)))))
/-- Clauses decide. -/
def openB (B : Nat → List Rc) (a : Ask) : Bool := decide ((embL (B 3) a.pack a.day).length = 0) && (B 2).any (aboutB a.pack a.purpose a.day)
attribute [local irreducible] WC WL WX POp Then Again Fn NX W1 WA WO QL RP RA Yld LoopAt HC HL HX HN H1 HA HO HQ HB HP A.blk A.grow A.rd A.obj A.mp AgainH CutH
attribute [local irreducible] A.mq A.mit A.dfr A.loop embL
theorem path_fn (bm : Nat) (w : World) : Fn Tryz.prog 87 #[.map (some bm)] w fun u w' => ∃ b : Nat, True ∧ u = .func (.func 169) #[] #[.pointer (some ⟨b, 0, none⟩)] ∧ Mm w [A.blk b [.map (some bm)] 97] w' := by
  refine enterH (l := [_]) rfl Tryz.ntmps87 rfl ?_
  refine hwBE ?_
  refine HL.one (H1.box rfl rfl rfl (fun b1 => ?_))
  refine hwBE ?_
  exact HX.ret1 rfl rfl fun w' hM => ⟨b1, trivial, rfl, hM⟩
set_option maxHeartbeats 1000000 in
theorem last_fn {K : Int → List Rc} (hK : ∀ p, (K p).length ≤ 1000) (bm : Nat) (w : World) (hF : ForW w bm K) : Fn Tryz.prog 39 #[.map (some bm)] w fun u w' => u = recV (lastF K 8 0 rcZ) ∧ Ext w w' := by
  refine enterMH (l := [_]) rfl Tryz.ntmps39 rfl ?_
  refine hwBE ?_
  refine HL.one (H1.alloc (cs := rcells rcZ) rfl rfl (fun b2 => ?_))
  refine hwBE ?_
  refine HL.one (H1.alloc (cs := rcells rcZ) rfl rfl (fun b3 => ?_))
  refine hwBE ?_
  refine HL.one (H1.callz1 (vs := [.map (some bm)]) rfl rfl (fun w' _ => path_fn bm w') ?_)
  rintro b1 -
  refine hwBE ?_
  refine HC.rangeFunc (α := Unit) (lb := [.pointer (some ⟨b1, 0, none⟩)]) (fun _ => [A.blk b3 (rcells (lastF K 8 0 rcZ)) 36, A.blk b1 [.map (some bm)] 97, A.blk b2 (rcells rcZ) 36]) (fun _ => True) rfl ?_ ?_
  · intro D lp LL hL w1 hM1
    refine (path1_fn (bm := bm) (b1 := b1) (G := fun cur => LL .ready none :: A.dfr D :: [A.blk b3 (rcells cur) 36, A.blk b1 [.map (some bm)] 97, A.blk b2 (rcells rcZ) 36]) hK hF (fun cur w' hM => (hM.blk (b := b1) memA).cell rfl) rcZ ?_ w1 (hM1.sub (by repeat (first | exact Hs.nil _ | (refine Hs.cons pickA ?_))))).mono fun v w2 h => by
      obtain ⟨z, -, h2⟩ := h
      exact ⟨z, trivial, h2⟩
    intro cur r w' hM'
    refine Yld.ofH hL memA rfl rfl ?_ w' hM'
    dsimp only [List.zip_cons_cons, List.zip_nil_right, putAll]
    refine hwBE ?_
    refine HL.one (H1.alloc (cs := rcells rcZ) rfl rfl (fun b4 => ?_))
    refine hwBE ?_
    refine HL.one (H1.stAgg (b := b4) (cs := rcells rcZ) (vs := rcells r) rfl rfl rfl (rcells_one r) Rpl.here rfl ?_)
    refine hwBE ?_
    refine HX.ra hL rplA ?_
    refine hwBE ?_
    refine HL.one (H1.ldAgg (b := b4) (vs := rcells r) rfl memA rfl (fun i v hv => by rw [Nat.zero_add]; exact hv) rfl ?_)
    refine hwBE ?_
    refine HL.one (H1.stAgg (b := b3) (cs := rcells cur) (vs := rcells r) rfl rfl rfl (rcells_one r) rplA rfl ?_)
    refine hwBE ?_
    refine HX.rp_n hL rplA fun w'' hM => ⟨rfl, (), trivial, ?_⟩
    exact hM.sub (by repeat (first | exact Hs.nil _ | (refine Hs.cons pickA ?_)))
  · rintro D - -
    refine hwBE ?_
    refine HL.one (H1.ldAgg (b := b3) (vs := rcells (lastF K 8 0 rcZ)) rfl memA rfl (fun i v hv => by rw [Nat.zero_add]; exact hv) rfl ?_)
    refine hwBE ?_
    refine HL.one (H1.stAgg (b := b2) (cs := rcells rcZ) (vs := rcells (lastF K 8 0 rcZ)) rfl rfl rfl (rcells_one _) rplA rfl ?_)
    refine hwBE ?_
    exact HX.retMcA (b := b2) (cs := rcells (lastF K 8 0 rcZ)) rfl rfl Pick.here memA rfl fun w' hM => ⟨rfl, hM.ext⟩
theorem any0_fn (x y : Int) (w : World) : Fn Tryz.prog 167 #[zv x, zv y] w fun u w' => u = .bool (decide (x = 0) || decide (x = y)) ∧ Ext w w' := by
  refine enterH (l := [_, _]) rfl Tryz.ntmps167 rfl ?_
  by_cases h : x = 0
  · refine hwBE ?_
    exact HX.ret1 rfl rfl fun w' hM => ⟨by rw [decide_eq_true h]; rfl, hM.ext⟩
  · refine hwBE ?_
    exact HX.ret1 rfl rfl fun w' hM => ⟨by rw [decide_eq_false h]; rfl, hM.ext⟩
set_option maxHeartbeats 2000000 in
theorem applies_fn {B : Nat → List Rc} {vb : Value} (a : Ask) (c : Rc) (w : World) (hB : BaseV w vb B) (hl : (B 0).length ≤ 1000000) :
    Fn Tryz.prog 85 #[vb, recV c, .agg (askC a).toArray] w fun u w' => u = .bool (appB (B 0) a c) ∧ Ext w w' := by
  obtain ⟨s, rfl, hs⟩ := id hB
  obtain ⟨pe, pu, pk, d⟩ := a
  refine enterH (l := [_, _, _]) rfl Tryz.ntmps85 rfl ?_
  unfold appB askC
  dsimp only
  refine hwBE ?_
  refine HL.one (H1.boxAgg (cs := row 8 s) rfl rfl (fun b3 => ?_))
  refine hwBE ?_
  refine HL.one (H1.boxAgg (cs := rcells c) rfl rfl (fun b4 => ?_))
  refine hwBE ?_
  refine HL.one (H1.boxAgg (cs := [zv pe, zv pu, zv pk, zv d]) rfl rfl (fun b5 => ?_))
  by_cases h1 : c.start ≤ d
  rotate_left
  · refine hwBE ?_
    exact HX.ret1 rfl rfl fun w' hM => ⟨by rw [decide_eq_false h1]; rfl, hM.ext⟩
  rw [decide_eq_true h1, Bool.true_and]
  by_cases h2 : d ≤ c.stop
  rotate_left
  · refine hwBE ?_
    exact HX.ret1 rfl rfl fun w' hM => ⟨by rw [decide_eq_false h2]; rfl, hM.ext⟩
  rw [decide_eq_true h2, Bool.true_and]
  refine hwBE ?_
  refine HL.one (H1.callv0 (f := 167) (cap := []) (vs := [_, _]) rfl rfl rfl (fun w' _ => any0_fn c.pack pk w') ?_)
  cases h3 : (decide (c.pack = 0) || decide (c.pack = pk))
  · refine hwBE ?_
    exact HX.ret1 rfl rfl fun w' hM => ⟨rfl, hM.ext⟩
  rw [Bool.true_and]
  refine hwBE ?_
  refine HL.one (H1.callv0 (f := 167) (cap := []) (vs := [_, _]) rfl rfl rfl (fun w' _ => any0_fn c.purpose pu w') ?_)
  cases h4 : (decide (c.purpose = 0) || decide (c.purpose = pu))
  · refine hwBE ?_
    exact HX.ret1 rfl rfl fun w' hM => ⟨rfl, hM.ext⟩
  rw [Bool.true_and]
  by_cases h5 : c.role = 0
  · refine hwBE ?_
    exact HX.ret1 rfl rfl fun w' hM => ⟨by rw [decide_eq_true h5]; rfl, hM.ext⟩
  rw [decide_eq_false h5, Bool.false_or]
  refine hwBE ?_
  refine HL.one (H1.ldAgg (b := b3) (vs := row 8 s) rfl memA (row_len 8 _) (fun i v hv => by rw [Nat.zero_add]; exact hv) rfl ?_)
  refine hwBE ?_
  refine HL.one (H1.callx (vs := [_, _, _, _]) rfl rfl (fun w' hM => Has_fn (B := B) pe c.role d w' (hB.ext hM.ext) hl) ?_)
  refine hwBE ?_
  exact HX.ret1 rfl rfl fun w' hM => ⟨rfl, hM.ext⟩
theorem open_fn {B : Nat → List Rc} {vb : Value} (a : Ask) (w : World) (hB : BaseV w vb B) (hl : ∀ i, i < 8 → (B i).length ≤ 1000000) :
    Fn Tryz.prog 37 #[vb, .agg (askC a).toArray] w fun u w' => u = .bool (openB B a) ∧ Ext w w' := by
  obtain ⟨s, rfl, hs⟩ := id hB
  obtain ⟨pe, pu, pk, d⟩ := a
  refine enterH (l := [_, _]) rfl Tryz.ntmps37 rfl ?_
  unfold openB askC
  dsimp only
  refine hwBE ?_
  refine HL.one (H1.boxAgg (cs := row 8 s) rfl rfl (fun b2 => ?_))
  refine hwBE ?_
  refine HL.one (H1.boxAgg (cs := [zv pe, zv pu, zv pk, zv d]) rfl rfl (fun b3 => ?_))
  refine hwBE ?_
  refine HL.one (H1.ldAgg (b := b2) (vs := row 8 s) rfl memA (row_len 8 _) (fun i v hv => by rw [Nat.zero_add]; exact hv) rfl ?_)
  refine hwBE ?_
  refine HL.one (H1.callz1 (α := Option Addr × Nat) (V := fun z => .slice z.1 (embL (B 3) pk d).length z.2) (An := fun z => A.grow 3 1 z.1 z.2 (embL (B 3) pk d).length (ints (embL (B 3) pk d))) (I := fun _ => True) (vs := [.agg (row 8 s).toArray, zv pk, zv d]) rfl rfl (fun w' hM => Embargoed_fn (B := B) pk d w' (hB.ext hM.ext) (hl 3 (by decide))) ?_)
  rintro ⟨az, cz⟩ -
  dsimp only
  by_cases h1 : (embL (B 3) pk d).length = 0
  rotate_left
  · have h1' : ¬ (((embL (B 3) pk d).length : Nat) : Int) = 0 := by omega
    refine hwBE ?_
    exact HX.ret1 rfl rfl fun w' hM => ⟨by rw [decide_eq_false h1]; rfl, hM.ext⟩
  have h1' : (((embL (B 3) pk d).length : Nat) : Int) = 0 := by omega
  rw [decide_eq_true h1, Bool.true_and]
  refine hwBE ?_
  refine HL.one (H1.ldAgg (b := b2) (vs := row 8 s) rfl memA (row_len 8 _) (fun i v hv => by rw [Nat.zero_add]; exact hv) rfl ?_)
  refine hwBE ?_
  refine HL.one (H1.callx (vs := [_, _, _, _]) rfl rfl (fun w' hM => Consents_fn (B := B) pk pu d w' (hB.ext hM.ext) (hl 2 (by decide))) ?_)
  refine hwBE ?_
  exact HX.ret1 rfl rfl fun w' hM => ⟨rfl, hM.ext⟩
end Go.Sx
/- TopHidden: lines and leaves are compared. -/
namespace Go.Sx
open Go Go.Proofs Go.RowKit
def lnLits (l : ByteArray × Int) : List Lit := [.string l.1.data.toList, .int .i64 l.2]
def lfLits (x : Lf) : List Lit := [.bool x.shown, .string x.text.data.toList, .int .i64 x.mark, .string x.salt.data.toList, .string x.dig.data.toList]
end Go.Sx
/- TopHidden: package redact: salts, leaves, lists of leaves: the walks. -/
namespace Go.Sx
open Go Go.Proofs Go.RowKit
/-- The salt of a line. -/
def saltX (s : ByteArray) (i : Nat) : ByteArray := (sumS (strN i ++ s)).extract 0 16
attribute [local irreducible] WC WL WX POp Then Again Fn NX W1 WA WO QL RP RA Yld LoopAt HC HL HX HN H1 HA HO HQ HB HP A.blk A.grow A.rd A.obj A.mp AgainH CutH
attribute [local irreducible] A.mq A.mit A.dfr A.loop sumS
end Go.Sx
/- TopHidden: package redact: lists of leaves: the walks. -/
namespace Go.Sx
open Go Go.Proofs Go.RowKit
section
variable {P : Program} {r : Option Nat} {N : Nat} {ds : List Deferred} {Q : Post} {E : Env} {w0 : World} {H : List Atom} {next : Act → World → Prop} {gg : Option (Nat × Bool)}
variable {d : Nat} {t ty : TypeId} {pos : String} {af : Array Edge} {x y : Operand}
end
/-- The map of those that are hidden. -/
def awayL (l : List Int) : List (Int × Value) := l.foldl (fun m x => mset m x (.bool true)) []
/-- The leaves, of which the first are hidden as far as they are to be. -/
def hidAt (l : List Int) (L : Nat → Lf) (i j : Nat) : Lf := if j < i then hideX (decide ((j : Int) ∈ l)) (L j) else L j
/-- The lines that the first leaves show. -/
def lnsX (L : Nat → Lf) : Nat → List Value
  | 0 => []
  | n + 1 => if (L n).shown = true then lnsX L n ++ lnC ((L n).text, (L n).mark) else lnsX L n
attribute [local irreducible] WC WL WX POp Then Again Fn NX W1 WA WO QL RP RA Yld LoopAt HC HL HX HN H1 HA HO HQ HB HP A.blk A.grow A.rd A.obj A.mp AgainH CutH
attribute [local irreducible] A.mq A.mit A.dfr A.loop sumS
/- what the leaves are worth -/
end Go.Sx
/- TopDecided: the clauses by their numbers; sorting: the walks. -/
namespace Go.Sx
open Go Go.Proofs Go.RowKit
theorem hwBF {G G2 : Prop} (x : G2) (hwq : Hold G2 → G := by
    intro hQq
    repeat' (first | refine HL.pa ?_ (POp.nilCheck rfl) | apply HL.fold | apply HA.fold | apply HL.nil | apply HX.n_then | apply HC.seq | apply HC.region | refine HL.pa ?_ | refine HL.ga rfl ?_ | refine HL.na rfl ?_ | refine HL.nu rfl rfl ?_ | apply HC.block | apply HC.skip | apply HC.exit | apply HC.ret | apply HX.e_block | refine HX.e_other rfl ?_ | apply HX.e_then | apply HX.e_again | apply HX.n_block | apply HX.r_then | apply HX.r_block | apply HX.r_again | refine HC.cond_yes rfl ?_ | refine HC.cond_no rfl ?_ | refine HL.one (H1.ldb rfl memA rfl rfl ?_) | refine HC.cond rfl (fun hc => ?_) (fun hc => ?_) | refine HC.cond_b rfl (fun hc => ?_) (fun hc => ?_))
    exact hQq.get) : G := hwq ⟨x⟩
section
variable {P : Program} {r : Option Nat} {N : Nat} {ds : List Deferred} {ol l : List Oper} {Q : Post} {E : Env} {w0 : World} {H : List Atom}
/-- A map that stays as it is. -/
theorem HL.openmq {b : Nat} {q : IntKind} {L : List (Int × Value)} (h : ∀ es clk, MQ q L es clk → HL P r N ds ol l Q E w0 (A.mx b es clk :: H)) : HL P r N ds ol l Q E w0 (A.mq b q L :: H) := fun w hM => by
  obtain ⟨o, h1, es, clk, rfl, h2⟩ : ∃ o, w.heap[b]? = some o ∧ mqP q L o := hM.all _ (List.Mem.head _)
  exact h es clk h2 w (hM.head rfl ⟨_, h1, rfl⟩)
end
def cfC (x y : Rc) : Int := Lib.compareInt x.clause y.clause
theorem ltC (x y : Rc) : ltOf cfC x y = decide (x.clause < y.clause) := by
  unfold ltOf cfC Lib.compareInt
  by_cases h1 : x.clause < y.clause
  · simp [h1]
  · by_cases h2 : y.clause < x.clause <;> simp [h1, h2]
theorem swoC : Go.Sort.SWO (ltOf cfC) where
  irrefl x := by rw [ltC]; simp
  trans x y z h1 h2 := by rw [ltC] at *; simp at *; omega
  ntrans x y z h1 h2 := by rw [ltC] at *; simp at *; omega
theorem mset_newC : ∀ (l : List (Int × Value)) (n : Int) (v : Value), n ∉ l.map Prod.fst → mset l n v = l ++ [(n, v)]
  | [], n, v, _ => rfl
  | (y, u) :: l, n, v, h => by
    have h1 : ¬ n = y := fun e => h (by rw [e]; exact .head _)
    show (if n = y then (n, v) :: l else (y, u) :: mset l n v) = _
    rw [if_neg h1, mset_newC l n v fun hm => h (.tail _ hm)]; rfl
theorem mget_noneC : ∀ (l : List (Int × Value)) (n : Int), n ∉ l.map Prod.fst → mget l n = none
  | [], n, _ => rfl
  | (y, u) :: l, n, h => by
    have h1 : ¬ n = y := fun e => h (by rw [e]; exact .head _)
    show (if n = y then some u else mget l n) = _
    rw [if_neg h1]; exact mget_noneC l n fun hm => h (.tail _ hm)
/-- The clauses by their numbers. -/
def clsM (l : List Rc) : List (Int × Value) := l.map fun r => (r.clause, recV r)
theorem clsM_keys (l : List Rc) : (clsM l).map Prod.fst = l.map Rc.clause := by unfold clsM; rw [List.map_map]; rfl
attribute [local irreducible] WC WL WX POp Then Again Fn NX W1 WA WO QL RP RA Yld LoopAt
theorem growC1 (x y : Rc) (W : World) : Fn Tryz.prog 86 #[recV x, recV y] W fun v w' => v = zv (cfC x y) ∧ Gr W w' := by
  refine enter (l := [_, _]) rfl Tryz.ntmps86 rfl ?_
  repeat' (first | apply WL.fold | apply WA.fold | apply WL.nil | apply WX.n_then | apply WC.seq | apply WC.region | refine WL.pa ?_ | refine WL.ga rfl ?_ | refine WL.na rfl ?_ | refine WL.nu rfl rfl ?_ | apply WC.block | apply WC.skip | apply WC.exit | apply WC.ret | apply WX.e_block | refine WX.e_other rfl ?_ | apply WX.e_then | apply WX.e_again | apply WX.n_block | apply WX.r_then | apply WX.r_block | apply WX.r_again | refine WC.cond_yes rfl ?_ | refine WC.cond_no rfl ?_ | refine WC.cond rfl (fun hc => ?_) (fun hc => ?_) | refine WC.cond_b rfl (fun hc => ?_) (fun hc => ?_))
  refine WL.one (W1.box (v := recV x) rfl rfl ?_)
  apply WL.fold
  have hx0 : ∀ i v, (rcells x)[i]? = some v → (W.alloc (.cells (recV x).cells 36)).cell? ⟨W.heap.size, i, none⟩ = some v := fun i v h => (Blk.new W (rcells x) _).cell h
  have hG1 : Gr W (W.alloc (.cells (recV x).cells 36)) := (Gr.refl W).alloc _
  have hlt1 : W.heap.size < (W.alloc (.cells (recV x).cells 36)).heap.size := by rw [World.size_alloc]; exact Nat.lt_succ_self _
  generalize W.alloc (.cells (recV x).cells 36) = w1 at hx0 hG1 hlt1 ⊢
  repeat' (first | apply WL.fold | apply WA.fold | apply WL.nil | apply WX.n_then | apply WC.seq | apply WC.region | refine WL.pa ?_ | refine WL.ga rfl ?_ | refine WL.na rfl ?_ | refine WL.nu rfl rfl ?_ | apply WC.block | apply WC.skip | apply WC.exit | apply WC.ret | apply WX.e_block | refine WX.e_other rfl ?_ | apply WX.e_then | apply WX.e_again | apply WX.n_block | apply WX.r_then | apply WX.r_block | apply WX.r_again | refine WC.cond_yes rfl ?_ | refine WC.cond_no rfl ?_ | refine WC.cond rfl (fun hc => ?_) (fun hc => ?_) | refine WC.cond_b rfl (fun hc => ?_) (fun hc => ?_))
  refine WL.one (W1.box (v := recV y) rfl rfl ?_)
  apply WL.fold
  have hy0 : ∀ i v, (rcells y)[i]? = some v → (w1.alloc (.cells (recV y).cells 36)).cell? ⟨w1.heap.size, i, none⟩ = some v := fun i v h => (Blk.new w1 (rcells y) _).cell h
  have hx1 : ∀ i v, (rcells x)[i]? = some v → (w1.alloc (.cells (recV y).cells 36)).cell? ⟨W.heap.size, i, none⟩ = some v := fun i v h => cell_ext (Ext.alloc w1 _) (hx0 i v h)
  have hG2 : Gr W (w1.alloc (.cells (recV y).cells 36)) := hG1.alloc _
  generalize w1.alloc (.cells (recV y).cells 36) = w2 at hy0 hx1 hG2 ⊢
  repeat' (first | apply WL.fold | apply WA.fold | apply WL.nil | apply WX.n_then | apply WC.seq | apply WC.region | refine WL.pa ?_ | refine WL.ga rfl ?_ | refine WL.na rfl ?_ | refine WL.nu rfl rfl ?_ | apply WC.block | apply WC.skip | apply WC.exit | apply WC.ret | apply WX.e_block | refine WX.e_other rfl ?_ | apply WX.e_then | apply WX.e_again | apply WX.n_block | apply WX.r_then | apply WX.r_block | apply WX.r_again | refine WC.cond_yes rfl ?_ | refine WC.cond_no rfl ?_ | refine WC.cond rfl (fun hc => ?_) (fun hc => ?_) | refine WC.cond_b rfl (fun hc => ?_) (fun hc => ?_))
  refine WL.load rfl (hx1 11 _ rfl) rfl ?_
  repeat' (first | apply WL.fold | apply WA.fold | apply WL.nil | apply WX.n_then | apply WC.seq | apply WC.region | refine WL.pa ?_ | refine WL.ga rfl ?_ | refine WL.na rfl ?_ | refine WL.nu rfl rfl ?_ | apply WC.block | apply WC.skip | apply WC.exit | apply WC.ret | apply WX.e_block | refine WX.e_other rfl ?_ | apply WX.e_then | apply WX.e_again | apply WX.n_block | apply WX.r_then | apply WX.r_block | apply WX.r_again | refine WC.cond_yes rfl ?_ | refine WC.cond_no rfl ?_ | refine WC.cond rfl (fun hc => ?_) (fun hc => ?_) | refine WC.cond_b rfl (fun hc => ?_) (fun hc => ?_))
  refine WL.load rfl (hy0 11 _ rfl) rfl ?_
  repeat' (first | apply WL.fold | apply WA.fold | apply WL.nil | apply WX.n_then | apply WC.seq | apply WC.region | refine WL.pa ?_ | refine WL.ga rfl ?_ | refine WL.na rfl ?_ | refine WL.nu rfl rfl ?_ | apply WC.block | apply WC.skip | apply WC.exit | apply WC.ret | apply WX.e_block | refine WX.e_other rfl ?_ | apply WX.e_then | apply WX.e_again | apply WX.n_block | apply WX.r_then | apply WX.r_block | apply WX.r_again | refine WC.cond_yes rfl ?_ | refine WC.cond_no rfl ?_ | refine WC.cond rfl (fun hc => ?_) (fun hc => ?_) | refine WC.cond_b rfl (fun hc => ?_) (fun hc => ?_))
  refine WL.one (W1.call (vs := [zv x.clause, zv y.clause]) rfl rfl (compareG _ _ w2) ?_)
  rintro v w3 ⟨rfl, hg3⟩
  apply WL.fold
  repeat' (first | apply WL.fold | apply WA.fold | apply WL.nil | apply WX.n_then | apply WC.seq | apply WC.region | refine WL.pa ?_ | refine WL.ga rfl ?_ | refine WL.na rfl ?_ | refine WL.nu rfl rfl ?_ | apply WC.block | apply WC.skip | apply WC.exit | apply WC.ret | apply WX.e_block | refine WX.e_other rfl ?_ | apply WX.e_then | apply WX.e_again | apply WX.n_block | apply WX.r_then | apply WX.r_block | apply WX.r_again | refine WC.cond_yes rfl ?_ | refine WC.cond_no rfl ?_ | refine WC.cond rfl (fun hc => ?_) (fun hc => ?_) | refine WC.cond_b rfl (fun hc => ?_) (fun hc => ?_))
  exact WX.ret1 rfl rfl ⟨rfl, hG2.trans hg3⟩
end Go.Sx
namespace Go.Sx
open Go Go.Proofs Go.RowKit
theorem cmpLaysC (blk off size : Nat) (w : World) : CmpLays Tryz.prog 86 #[] rcells 15 cfC blk off size w := fun m os dk _ x y => by
  refine Calls.mono (growC1 x y _) ?_
  rintro e w' ⟨v, rfl, rfl, q, os', hw⟩
  exact ⟨rfl, q, os', hw⟩
theorem sortC_fn {w0 w : World} {H : List Atom} {H' : List Rc → List Atom} {a : Option Addr} {c : Nat} {l : List Rc} (hM : Mm w0 H w) (hl : l.length ≤ 1000000)
    (hr : ∀ l' : List Rc, l'.length = l.length → Rpl (A.grow 36 15 a c l.length (rcl l)) (A.grow 36 15 a c l'.length (rcl l')) H (H' l')) :
    Fn Tryz.prog 33 #[.slice a l.length c, fnV 86] w fun v w' => ∃ l', (l'.Perm l ∧ l'.Pairwise fun x y => x.clause ≤ y.clause) ∧ v = .tuple #[] ∧ Mm w0 (H' l') w' := by
  by_cases h0 : l = []
  · subst h0
    refine Calls.mono (AnyF.slices_SortFunc_none Tryz.sortR a c (fnV 86) w) ?_
    rintro e w' ⟨rfl, rfl⟩
    exact ⟨_, rfl, [], ⟨List.Perm.refl _, List.Pairwise.nil⟩, rfl, Rpl.same (hr [] rfl) ▸ hM⟩
  have hne : l.length ≠ 0 := fun e => h0 (List.eq_nil_of_length_eq_zero e)
  have hown := hM.own (hr l rfl).mem
  obtain ⟨b, cur, rfl, hg, hnc, hcm, hcs, htake⟩ : ∃ b cur, a = some ⟨b, 0, none⟩ ∧ w.heap[b]? = some (.cells cur 36 (0, 0)) ∧ l.length ≤ c ∧ c ≤ maxLen ∧ cur.size = c * 15 ∧ cur.toList.take (l.length * 15) = rcl l := by
    rcases hown.2 with ⟨-, h2⟩ | ⟨g, cap, cur, hv, -, hg, hnc, hcm, hcs, ht⟩
    · exact absurd h2 hne
    · cases hv; exact ⟨g, cur, rfl, hg, hnc, hcm, hcs, ht⟩
  have hlt := (Array.getElem?_eq_some_iff.1 hg).1
  have hfs : ∀ l : List Rc, (Go.Sort.flatK rcells 15 l.toArray).size = l.length * 15 := fun l => by simp [Go.Sort.flatK]
  have hH : Go.Sort.HoldsK rcells 15 w b 0 l.toArray := fun j hj => by
    rw [hfs] at hj
    have h1 : (rcl l)[j]? = some (Go.Sort.flatK rcells 15 l.toArray)[j]! := by
      rw [← flatK_rcl]
      have hj' : j < (Go.Sort.flatK rcells 15 l.toArray).size := by rw [hfs]; exact hj
      exact arr_at hj'
    rw [Nat.zero_add]
    exact ⟨ownsRow_cell hown h1, by simp [World.frozen?, hg]⟩
  have eg : ∀ args w, (callFunc 86 args).run Tryz.prog w = .ok (.enter 86 args) w := CallOk.run
  have hS := AnyQ.slices_SortFunc Tryz.sortR 15 Tryz.isAgg36 Tryz.sizeOf36 rcells rcells_len rcells_one cfC swoC 86 #[] b 0 c l.toArray w eg (cmpLaysC b 0 _ w) hH hlt (by simp; omega)
  refine Calls.mono hS ?_
  rintro e w' ⟨rfl, d', n, os, hp, hs, rfl⟩
  have hsz : d'.size = l.length := by have := hp.1; simpa using this
  obtain ⟨l', rfl⟩ : ∃ l' : List Rc, d' = l'.toArray := ⟨d'.toList, by simp⟩
  have hl' : l'.length = l.length := by simpa using hsz
  have hperm : l'.Perm l := by
    have h1 := hp.2.2
    have e1 : l'.toArray.extract 0 l.toArray.size = l'.toArray := by
      rw [show l.toArray.size = l'.toArray.size by simp [hl']]; exact Array.extract_size
    have e2 : l.toArray.extract 0 l.toArray.size = l.toArray := Array.extract_size
    rw [e1, e2] at h1
    simpa using h1
  have hsort : l'.Pairwise fun x y => x.clause ≤ y.clause := by
    refine List.pairwise_iff_getElem.2 fun i j hi hj hij => ?_
    have h1 := hs i j (Nat.zero_le _) hij (by simp; omega)
    rw [ltC, decide_eq_false_iff_not] at h1
    simp [hi, hj] at h1
    omega
  refine ⟨_, rfl, l', ⟨hperm, hsort⟩, rfl, hM.turn (hr l' hl') rfl rfl rfl ?_ (fun k hk hkb => ?_) ?_ (by simp [A.grow, Value.ownBlock]) (fun b' hb' => .inl (by simpa [A.grow, Value.ownBlock] using hb'))⟩
  · simp [sortWorldK, Go.Sort.putRowK, Go.Sort.grow, Go.Sort.putRow, Go.Sort.mapBlock, Go.Sort.ahead]
  · have hkb' : ¬ b = k := fun e => hkb (by subst e; simp [A.grow, Value.ownBlock])
    have hs1 : (Go.Sort.putRow id (Go.Sort.ahead w n) b 0 (Go.Sort.flatK rcells 15 l'.toArray)).heap.size = w.heap.size := by simp [Go.Sort.putRow, Go.Sort.mapBlock, Go.Sort.ahead]
    show ((Go.Sort.putRow id (Go.Sort.ahead w n) b 0 (Go.Sort.flatK rcells 15 l'.toArray)).heap ++ os)[k]? = _
    rw [Array.getElem?_append, if_pos (by rw [hs1]; exact hk)]
    show (w.heap.modify b _)[k]? = _
    rw [Array.getElem?_modify, if_neg hkb']
  · rw [hl']
    refine ⟨by rw [rcl_len, hl'], .inr ⟨b, c, Go.Sort.putCells id 0 (Go.Sort.flatK rcells 15 l'.toArray) cur, rfl, Nat.zero_le _, ?_, hnc, hcm, by simp [Go.Sort.putCells, hcs], ?_⟩⟩
    · have hm : (Go.Sort.putRow id (Go.Sort.ahead w n) b 0 (Go.Sort.flatK rcells 15 l'.toArray)).heap[b]? = some (.cells (Go.Sort.putCells id 0 (Go.Sort.flatK rcells 15 l'.toArray) cur) 36 (0, 0)) := by
        simp [Go.Sort.putRow, Go.Sort.mapBlock, Go.Sort.ahead, Array.getElem?_modify, hg, Go.Sort.onCells]
      have hs1 : (Go.Sort.putRow id (Go.Sort.ahead w n) b 0 (Go.Sort.flatK rcells 15 l'.toArray)).heap.size = w.heap.size := by simp [Go.Sort.putRow, Go.Sort.mapBlock, Go.Sort.ahead]
      show ((Go.Sort.putRow id (Go.Sort.ahead w n) b 0 (Go.Sort.flatK rcells 15 l'.toArray)).heap ++ os)[b]? = _
      rw [Array.getElem?_append, if_pos (by rw [hs1]; exact hlt), hm]
    · have h1 := putCells_id (Go.Sort.flatK rcells 15 l'.toArray) cur (by rw [hfs, hcs, hl']; exact Nat.mul_le_mul_right _ hnc)
      rw [hfs, hl', flatK_rcl] at h1
      exact h1
attribute [local irreducible] WC WL WX POp Then Again Fn NX W1 WA WO QL RP RA Yld LoopAt HC HL HX HN H1 HA HO HQ HB HP A.blk A.grow A.rd A.obj A.mp AgainH CutH
attribute [local irreducible] A.mq A.mit
theorem cloneR_fn {v : Value} {l : List Rc} (hl : l.length ≤ 1000000) (w : World) (hR : RdR w v l) :
    Fn Tryz.prog 93 #[v] w fun u w' => ∃ z : Option Addr × Nat, True ∧ u = .slice z.1 l.length z.2 ∧ Mm w [A.grow 36 15 z.1 z.2 l.length (rcl l)] w' := by
  obtain ⟨a, c, rfl, -, h⟩ := id hR
  refine enterH (l := [_]) rfl Tryz.ntmps93 rfl ?_
  cases a with
  | none =>
    have h0 : l = [] := by
      rcases h with h | ⟨b, off, h, -⟩
      · exact h
      · cases h
    subst h0
    refine HC.grow0 36 15 ?_
    refine hwBF ?_
    refine HL.pa ?_ (POp.snil (b := true) rfl rfl rfl)
    refine hwBF ?_
    exact HX.ret1 rfl rfl fun w' hM => ⟨(none, 0), trivial, rfl, hM⟩
  | some ad =>
    refine hwBF ?_
    refine HL.pa ?_ (POp.snil (b := false) rfl rfl rfl)
    refine hwBF ?_
    refine HL.one (H1.lit0 rfl (fun b5 => ?_))
    refine hwBF ?_
    refine HL.one (H1.app (m := l.length) (n := 0) (xs := []) (news := rcl l) rfl (by decide) rfl rfl (fun _ _ => by first | ((repeat (first | with_reducible exact Rpl.here | with_reducible apply Rpl.there)); done) | (repeat (first | exact Rpl.here | apply Rpl.there))) (by exact rcl_len l) (fun w' hM j u hj => ?_) (rcl_one l) (by omega) (by decide) rfl (fun a' c' ha => ?_))
    · have hjl : j < l.length * 15 := by have := (List.getElem?_eq_some_iff.1 hj).1; rwa [rcl_len] at this
      have hq : j / 15 < l.length := by omega
      have hm : j % 15 < 15 := Nat.mod_lt _ (by decide)
      have h8 : (rcells l[j / 15])[j % 15]? = some (rcells l[j / 15])[j % 15] := List.getElem?_eq_getElem (by rw [rcells_len]; exact hm)
      have h9 := rcl_get (List.getElem?_eq_getElem hq) (j % 15) _ h8
      rw [show j / 15 * 15 + j % 15 = j by omega, hj] at h9
      rcases h with h | ⟨b, off, h4, -, h5⟩
      · rw [h] at hq; cases hq
      · cases h4
        have h10 := h5 (j / 15) _ (List.getElem?_eq_getElem hq) (j % 15) _ h8
        rw [show off + j / 15 * 15 + j % 15 = off + j by omega] at h10
        rw [add_lit, Option.some.inj h9]
        exact cell_ext hM.ext h10
    rw [Nat.zero_add, List.nil_append] at *
    refine hwBF ?_
    exact HX.ret1 rfl rfl fun w' hM => ⟨(a', c'), trivial, rfl, hM.sub (by repeat (first | exact Hs.nil _ | (refine Hs.cons pickA ?_)))⟩
theorem cls1_fn (r : Rc) (h : 1 ≤ r.clause) (w : World) : Fn Tryz.prog 94 #[recV r] w fun v w' => v = .bool false ∧ Ext w w' := by
  have h1 : ¬ r.clause < 1 := by omega
  refine enterH (l := [_]) rfl Tryz.ntmps94 rfl ?_
  refine hwBF ?_
  refine HL.one (H1.boxAgg (cs := rcells r) rfl rfl (fun b1 => ?_))
  refine hwBF ?_
  exact HX.ret1 rfl rfl fun w' hM => ⟨by rw [decide_eq_false h1], hM.ext⟩
theorem cls2_fn (r : Rc) (w : World) : Fn Tryz.prog 96 #[recV r] w fun v w' => v = zv r.clause ∧ Ext w w' := by
  refine enterH (l := [_]) rfl Tryz.ntmps96 rfl ?_
  refine hwBF ?_
  refine HL.one (H1.boxAgg (cs := rcells r) rfl rfl (fun b1 => ?_))
  refine hwBF ?_
  exact HX.ret1 rfl rfl fun w' hM => ⟨rfl, hM.ext⟩
theorem indexNo_fn (a : Option Addr) (c : Nat) (l : List Rc) (hl : l.length ≤ 1000000) (hpos : ∀ r ∈ l, 1 ≤ r.clause) (w : World) (hR : RdR w (.slice a l.length c) l) :
    Fn Tryz.prog 173 #[.slice a l.length c, fnV 94] w fun v w' => v = zv (-1) ∧ Ext w w' := by
  refine enterH (l := [_, _]) rfl Tryz.ntmps173 rfl ?_
  refine hwBF ?_
  refine HC.loop (α := Nat) (fun j => [(0, .slice a l.length c), (1, fnV 94), (7, zv (l.length : Int)), (8, zv (j : Int))]) (fun _ => []) (fun j => j ≤ l.length) (fun j => l.length - j) 0 (Nat.zero_le _) esA (Hs.refl _) ?_
  intro j hj
  by_cases hlt : j < l.length
  · obtain ⟨r, hr⟩ : ∃ r, l[j]? = some r := ⟨_, List.getElem?_eq_getElem hlt⟩
    have hrm := List.mem_of_getElem? hr
    obtain ⟨bl, off, rfl, -, hcell⟩ := hR.at (fun e => by rw [e] at hlt; exact absurd hlt (Nat.not_lt_zero _))
    have hcl := hcell j r hr
    clear hcell
    refine hwBF ?_
    refine HL.one (H1.ldAggw (vs := rcells r) rfl rfl (fun w' hM i v hv => cell_ext hM.ext (hcl i v hv)) rfl ?_)
    refine hwBF ?_
    refine HL.one (H1.callv0 (f := 94) (u := .bool false) (cap := []) (vs := [recV r]) rfl rfl rfl (fun w' _ => cls1_fn r (hpos r hrm) w') ?_)
    refine hwBF ?_
    exact HX.again (j + 1) hlt (by show l.length - (j + 1) < l.length - j; omega) esA (Hs.refl _)
  have hn : ¬ ((j : Nat) : Int) < (l.length : Int) := by omega
  refine hwBF ?_
  exact HX.ret1 rfl rfl fun w' hM => ⟨rfl, hM.ext⟩
theorem delNo_fn (a : Option Addr) (c : Nat) (l : List Rc) (hl : l.length ≤ 1000000) (hpos : ∀ r ∈ l, 1 ≤ r.clause) (w : World) (hR : RdR w (.slice a l.length c) l) :
    Fn Tryz.prog 92 #[.slice a l.length c, fnV 94] w fun v w' => v = .slice a l.length c ∧ Ext w w' := by
  refine enterH (l := [_, _]) rfl Tryz.ntmps92 rfl ?_
  refine hwBF ?_
  refine HL.one (H1.callx (vs := [_, _]) rfl rfl (fun w' hM => indexNo_fn a c l hl hpos w' (hR.ext hM.ext)) ?_)
  refine hwBF ?_
  exact HX.ret1 rfl rfl fun w' hM => ⟨rfl, hM.ext⟩
set_option maxHeartbeats 2000000 in
theorem numbered_fn (a : Option Addr) (c : Nat) (l : List Rc) (hl : l.length ≤ 1000000) (hnd : (l.map Rc.clause).Nodup) (w : World) (hR : RdR w (.slice a l.length c) l) :
    Fn Tryz.prog 95 #[.slice a l.length c, fnV 96] w fun u w' => ∃ b : Nat, True ∧ u = .map (some b) ∧ Mm w [A.mq b .i64 (clsM l)] w' := by
  refine enterH (l := [_, _]) rfl Tryz.ntmps95 rfl ?_
  refine hwBF ?_
  refine HL.one (H1.mkmq .i64 rfl (fun bm => ?_))
  refine hwBF ?_
  refine HC.loop (α := Nat) (fun j => [(1, fnV 96), (5, .map (some bm)), (11, .slice a l.length c), (12, zv (l.length : Int)), (13, zv (j : Int))]) (fun j => [A.mq bm .i64 (clsM (l.take j))]) (fun j => j ≤ l.length) (fun j => l.length - j) 0 (Nat.zero_le _) esA (by repeat (first | exact Hs.nil _ | (refine Hs.cons pickA ?_))) ?_
  intro j hj
  by_cases hlt : j < l.length
  rotate_left
  · obtain rfl : j = l.length := by omega
    have hn : ¬ ((l.length : Nat) : Int) < (l.length : Int) := by omega
    rw [List.take_length]
    refine hwBF ?_
    exact HX.ret1 rfl rfl fun w' hM => ⟨bm, trivial, rfl, hM⟩
  have hn : ((j : Nat) : Int) < (l.length : Int) := by omega
  obtain ⟨r, hr⟩ : ∃ r, l[j]? = some r := ⟨_, List.getElem?_eq_getElem hlt⟩
  obtain ⟨bl, off, rfl, -, hcell⟩ := hR.at (fun e => by rw [e] at hlt; exact absurd hlt (Nat.not_lt_zero _))
  have hcl := hcell j r hr
  clear hcell
  have htk : l.take (j + 1) = l.take j ++ [r] := by rw [List.take_add_one, hr]; rfl
  have hno : r.clause ∉ (clsM (l.take j)).map Prod.fst := by
    rw [clsM_keys]
    intro hm
    have h1 := hnd
    rw [← List.take_append_drop (j + 1) l, htk, List.map_append, List.map_append, List.nodup_append] at h1
    have h2 := (List.nodup_append.1 h1.1).2.2 r.clause hm r.clause (.head _)
    exact h2 rfl
  have hg := mget_noneC _ _ hno
  have hs : clsM (l.take (j + 1)) = mset (clsM (l.take j)) r.clause (recV r) := by
    rw [mset_newC _ _ _ hno, htk]
    unfold clsM
    rw [List.map_append]; rfl
  refine hwBF ?_
  refine HL.one (H1.ldAggw (vs := rcells r) rfl rfl (fun w' hM i v hv => cell_ext hM.ext (hcl i v hv)) rfl ?_)
  refine hwBF ?_
  refine HL.one (H1.alloc (cs := rcells rcZ) rfl rfl (fun b7 => ?_))
  refine hwBF ?_
  refine HL.one (H1.stAgg (b := b7) (cs := rcells rcZ) (vs := rcells r) rfl rfl rfl (rcells_one r) rplA rfl ?_)
  refine hwBF ?_
  refine HL.one (H1.ldAgg (b := b7) (vs := rcells r) rfl memA rfl (fun i v hv => by rw [Nat.zero_add]; exact hv) rfl ?_)
  refine hwBF ?_
  refine HL.one (H1.callv0 (f := 96) (cap := []) (vs := [recV r]) rfl rfl rfl (fun w' _ => cls2_fn r w') ?_)
  refine hwBF ?_
  refine HL.one (H1.mqget2 rfl rfl memA rfl ?_)
  rw [hg]
  dsimp only [Option.getD, Option.isSome]
  refine hwBF ?_
  refine HL.one (H1.alloc (cs := rcells rcZ) rfl rfl (fun b8 => ?_))
  refine hwBF ?_
  refine HL.one (H1.stAgg (b := b8) (cs := rcells rcZ) (vs := rcells rcZ) rfl rfl rfl (rcells_one rcZ) rplA rfl ?_)
  refine hwBF ?_
  refine HC.any rfl ?_
  refine HA.pa 0 rfl ?_
  refine HA.pa 1 rfl ?_
  refine HA.all [2, 4] (by kernel_rfl) rfl ⟨⟨_, rfl, ?_⟩, ⟨_, rfl, ?_⟩, trivial⟩
  · refine HO.one ?_
    refine H1.ldAgg (b := b7) (vs := rcells r) rfl memA rfl (fun i v hv => by rw [Nat.zero_add]; exact hv) rfl ?_
    apply HA.fold
    refine HA.all [3, 4] (by kernel_rfl) rfl ⟨⟨_, rfl, ?_⟩, ⟨_, rfl, ?_⟩, trivial⟩
    · refine HO.one ?_
      refine H1.callv0 (f := 96) (cap := []) (vs := [recV r]) rfl rfl rfl (fun w' _ => cls2_fn r w') ?_
      apply HA.fold
      refine HA.all [4] (by kernel_rfl) rfl ⟨⟨_, rfl, ?_⟩, trivial⟩
      refine HO.one ?_
      refine H1.ldAgg (b := b7) (vs := rcells r) rfl memA rfl (fun i v hv => by rw [Nat.zero_add]; exact hv) rfl ?_
      apply HA.fold
      refine HA.all [5] (by kernel_rfl) rfl ⟨⟨_, rfl, ?_⟩, trivial⟩
      refine HO.one ?_
      refine H1.mqset rfl rfl rfl rplA ?_
      apply HA.fold
      refine HA.done (by kernel_rfl) ?_
      rw [← hs]
      refine hwBF ?_
      exact HX.again (j + 1) hlt (by show l.length - (j + 1) < l.length - j; omega) esA (by repeat (first | exact Hs.nil _ | (refine Hs.cons pickA ?_)))
    · refine HO.one ?_
      refine H1.ldAgg (b := b7) (vs := rcells r) rfl memA rfl (fun i v hv => by rw [Nat.zero_add]; exact hv) rfl ?_
      apply HA.fold
      refine HA.all [3] (by kernel_rfl) rfl ⟨⟨_, rfl, ?_⟩, trivial⟩
      refine HO.one ?_
      refine H1.callv0 (f := 96) (cap := []) (vs := [recV r]) rfl rfl rfl (fun w' _ => cls2_fn r w') ?_
      apply HA.fold
      refine HA.all [5] (by kernel_rfl) rfl ⟨⟨_, rfl, ?_⟩, trivial⟩
      refine HO.one ?_
      refine H1.mqset rfl rfl rfl rplA ?_
      apply HA.fold
      refine HA.done (by kernel_rfl) ?_
      rw [← hs]
      refine hwBF ?_
      exact HX.again (j + 1) hlt (by show l.length - (j + 1) < l.length - j; omega) esA (by repeat (first | exact Hs.nil _ | (refine Hs.cons pickA ?_)))
  · refine HO.one ?_
    refine H1.ldAgg (b := b7) (vs := rcells r) rfl memA rfl (fun i v hv => by rw [Nat.zero_add]; exact hv) rfl ?_
    apply HA.fold
    refine HA.all [2] (by kernel_rfl) rfl ⟨⟨_, rfl, ?_⟩, trivial⟩
    refine HO.one ?_
    refine H1.ldAgg (b := b7) (vs := rcells r) rfl memA rfl (fun i v hv => by rw [Nat.zero_add]; exact hv) rfl ?_
    apply HA.fold
    refine HA.all [3] (by kernel_rfl) rfl ⟨⟨_, rfl, ?_⟩, trivial⟩
    refine HO.one ?_
    refine H1.callv0 (f := 96) (cap := []) (vs := [recV r]) rfl rfl rfl (fun w' _ => cls2_fn r w') ?_
    apply HA.fold
    refine HA.all [5] (by kernel_rfl) rfl ⟨⟨_, rfl, ?_⟩, trivial⟩
    refine HO.one ?_
    refine H1.mqset rfl rfl rfl rplA ?_
    apply HA.fold
    refine HA.done (by kernel_rfl) ?_
    rw [← hs]
    refine hwBF ?_
    exact HX.again (j + 1) hlt (by show l.length - (j + 1) < l.length - j; omega) esA (by repeat (first | exact Hs.nil _ | (refine Hs.cons pickA ?_)))
theorem clauses_fn {B : Nat → List Rc} {vb : Value} (w : World) (hB : BaseV w vb B) (hl : (B 1).length ≤ 1000000) (hpos : ∀ r ∈ B 1, 1 ≤ r.clause) (hnd : ((B 1).map Rc.clause).Nodup) :
    Fn Tryz.prog 41 #[vb] w fun u w' => ∃ b : Nat, True ∧ u = .map (some b) ∧ Mm w [A.mq b .i64 (clsM (B 1))] w' := by
  obtain ⟨s, rfl, hs⟩ := hB
  have h0 := hs 1 (by decide)
  refine enterH (l := [_]) rfl Tryz.ntmps41 rfl ?_
  refine hwBF ?_
  refine HL.one (H1.boxAgg (cs := row 8 s) rfl rfl (fun b1 => ?_))
  refine hwBF ?_
  refine HL.one (H1.callz1 (α := Option Addr × Nat) (V := fun z => .slice z.1 (B 1).length z.2) (An := fun z => A.grow 36 15 z.1 z.2 (B 1).length (rcl (B 1))) (I := fun _ => True) (vs := [s 1]) rfl rfl (fun w' hM => cloneR_fn hl w' (h0.ext hM.ext)) ?_)
  rintro ⟨a6, c6⟩ -
  dsimp only
  refine hwBF ?_
  refine HL.one (H1.callx (vs := [_, _]) rfl rfl (fun w' hM => delNo_fn a6 c6 (B 1) hl hpos w' (hM.recs (l := B 1) memA)) ?_)
  refine hwBF ?_
  refine HL.one (H1.callz1 (α := Nat) (V := fun b => .map (some b)) (An := fun b => A.mq b .i64 (clsM (B 1))) (I := fun _ => True) (vs := [_, _]) rfl rfl (fun w' hM => numbered_fn a6 c6 (B 1) hl hnd w' (hM.recs (l := B 1) memA)) ?_)
  rintro bm -
  refine hwBF ?_
  exact HX.ret1 rfl rfl fun w' hM => ⟨bm, trivial, rfl, hM.sub (by repeat (first | exact Hs.nil _ | (refine Hs.cons pickA ?_)))⟩
end Go.Sx
/- TopDecided: which clauses lie below which: the walk. -/
namespace Go.Sx
open Go Go.Proofs Go.RowKit
theorem hwBG {G G2 : Prop} (x : G2) (hwq : Hold G2 → G := by
    intro hQq
    repeat' (first | refine HL.pa ?_ (POp.nilCheck rfl) | apply HL.fold | apply HA.fold | apply HL.nil | apply HX.n_then | apply HC.seq | apply HC.region | refine HL.pa ?_ | refine HL.ga rfl ?_ | refine HL.na rfl ?_ | refine HL.nu rfl rfl ?_ | apply HC.block | apply HC.skip | apply HC.exit | apply HC.ret | apply HX.e_block | refine HX.e_other rfl ?_ | apply HX.e_then | apply HX.e_again | apply HX.n_block | apply HX.r_then | apply HX.r_block | apply HX.r_again | refine HC.cond_yes rfl ?_ | refine HC.cond_no rfl ?_ | refine HL.one (H1.ldb rfl memA rfl rfl ?_) | refine HC.cond rfl (fun hc => ?_) (fun hc => ?_) | refine HC.cond_b rfl (fun hc => ?_) (fun hc => ?_))
    exact hQq.get) : G := hwq ⟨x⟩
theorem hbBG {G G2 : Prop} (x : G2) (hwq : Hold G2 → G := by
    intro hQq
    repeat' (first | refine HL.pa ?_ (POp.nilCheck rfl) | apply HL.fold | apply HA.fold | apply HL.nil | apply HX.n_then | apply HC.seq | apply HC.region | refine HL.pa ?_ | refine HL.ga rfl ?_ | refine HL.na rfl ?_ | refine HL.nu rfl rfl ?_ | apply HC.skip | apply HC.exit | apply HC.ret | apply HX.e_block | refine HX.e_other rfl ?_ | apply HX.e_then | apply HX.e_again | apply HX.n_block | apply HX.r_then | apply HX.r_block | apply HX.r_again | refine HC.cond_yes rfl ?_ | refine HC.cond_no rfl ?_ | refine HL.one (H1.ldb rfl memA rfl rfl ?_) | refine HC.cond rfl (fun hc => ?_) (fun hc => ?_) | refine HC.cond_b rfl (fun hc => ?_) (fun hc => ?_))
    exact hQq.get) : G := hwq ⟨x⟩
/-- The cells of a block from its beginning on. -/
def cellsB (b : Nat) (vs : List Value) : List (Addr × Value) := vs.zipIdx.map fun p => (⟨b, p.2, none⟩, p.1)
theorem cellsB_mem {b : Nat} {vs : List Value} {i : Nat} {v : Value} (h : vs[i]? = some v) : ((⟨b, i, none⟩ : Addr), v) ∈ cellsB b vs := List.mem_map.2 ⟨(v, i), List.mk_mem_zipIdx_iff_getElem?.2 h, rfl⟩
theorem Keep.blkB {l : List (Addr × Value)} {w0 : World} {H : List Atom} {b : Nat} {vs : List Value} {e : TypeId} (hm : A.blk b vs e ∈ H) (h : Keep l w0 H) : Keep (cellsB b vs ++ l) w0 H := fun w hM p hp => by
  rcases List.mem_append.1 hp with hp | hp
  · obtain ⟨⟨v, i⟩, h1, rfl⟩ := List.mem_map.1 hp
    exact (hM.blk hm).cell (List.mk_mem_zipIdx_iff_getElem?.1 h1)
  · exact h w hM p hp
theorem cellsBL {b : Nat} {vs : List Value} {l : List (Addr × Value)} {p : Addr × Value} (h : p ∈ cellsB b vs) : p ∈ cellsB b vs ++ l := List.mem_append_left _ h
theorem cellsBR {b : Nat} {vs : List Value} {l : List (Addr × Value)} {p : Addr × Value} (h : p ∈ l) : p ∈ cellsB b vs ++ l := List.mem_append_right _ h
section
variable {P : Program} {N : Nat} {ds : List Deferred} {ol : List Oper} {Q : Post} {E : Env} {w0 : World} {H : List Atom} {fuel : Nat} {listed : Array Bool} {ty : TypeId} {pos : String} {af : Array Edge} {l : List (Addr × Value)}
theorem HB.ldB [hq : QPanic Q] {d : Nat} {t : TypeId} {x : Operand} {b : Nat} {vs : List Value} {z : Value} {n bb : Nat} [hat : ATy P t true] [hit : ITy P t z n bb] (i : Nat) (ho : ol[i]? = some ⟨some d, .load t x, ty, pos, af, none⟩) (hx : Env.ev E x = some (.pointer (some ⟨b, 0, none⟩))) (hn : vs.length = n)
    (hc : ∀ i v, vs[i]? = some v → ((⟨b, i, none⟩ : Addr), v) ∈ l)
    (h : HB l P N ds ol fuel (listed.setIfInBounds i true) Q ((d, .agg vs.toArray) :: E) w0 H)
    (hne : (match x with | .tmp t => !(Nat.beq t d) | _ => true) = true := by exact rfl)
    (hs : (Region.noSelect ol.toArray && Region.free .any ol.toArray listed i && (Region.ready .any ol.toArray listed).contains i) = true := by kernel_rfl)
    (hd : Nat.blt d N = true := by exact rfl) : HB l P N ds ol (fuel + 1) listed Q E w0 H := fun w hM a ha => by
  simp only [Bool.and_eq_true] at hs
  have ho' : ol.toArray[i]? = some ⟨some d, .load t x, ty, pos, af, none⟩ := by simpa using ho
  refine anyC_load (t := t) (x := x) rfl rfl (fun d' hd' e => ?_) ho' hs.1.1 hs.1.2 hs.2 (fun c a w => hq.is c a _ _ w) (fun a' ha' w' hC => ?_) (h w hM _ (ha.put hd (.agg vs.toArray)))
  · cases hd'; subst e; simp at hne
  · have h1 : a'.eval x = .pointer (some ⟨b, 0, none⟩) := ha'.trans (ha.ev hx)
    have h2 : ∀ i v, vs[i]? = some v → w'.cell? ⟨b, 0 + i, none⟩ = some v := fun i v hv => by rw [Nat.zero_add]; exact hC _ (hc i v hv)
    simp only [execOp, h1, Instr.loadAt, Instr.sureAddr, loadVar, Sem.run_bind, Sem.run_pure]
    simp [run_isAgg, run_sizeOf, loadCells, run_loadCellsFrom P w' b 0 vs h2 n 0 #[] (by omega), Result.andThen, Sem.run_bind]
end
theorem rpl_mapK {f f' : Int → Atom} {i : Int} (hne : ∀ j, j ≠ i → f j = f' j) : ∀ {L : List Int}, L.Nodup → i ∈ L → Rpl (f i) (f' i) (L.map f) (L.map f')
  | [], _, h => absurd h (by simp)
  | j :: L, hn, h => by
    have h1 := List.nodup_cons.1 hn
    by_cases e : j = i
    · subst e
      rw [List.map_cons, List.map_cons]
      have : L.map f = L.map f' := List.map_congr_left fun x hx => hne x fun e => h1.1 (e ▸ hx)
      rw [this]; exact Rpl.here
    · rw [List.map_cons, List.map_cons, hne j e]
      exact Rpl.there (rpl_mapK hne h1.2 ((List.mem_cons.1 h).resolve_left fun e' => e e'.symm))
def updI (q : Int → Slot) (i : Int) (x : Slot) : Int → Slot := fun j => if j = i then x else q j
theorem updI_same (q : Int → Slot) (i : Int) (x : Slot) : updI q i x i = x := if_pos rfl
theorem updI_ne (q : Int → Slot) {i j : Int} (x : Slot) (h : j ≠ i) : updI q i x j = q j := if_neg h
def insK (ks : List Int) (p : Int) : List Int := if p ∈ ks then ks else ks ++ [p]
theorem insK_cons {y p : Int} {ks : List Int} (h : p ≠ y) : insK (y :: ks) p = y :: insK ks p := by
  unfold insK
  by_cases h1 : p ∈ ks
  · rw [if_pos h1, if_pos (List.mem_cons_of_mem _ h1)]
  · rw [if_neg h1, if_neg fun h2 => (List.mem_cons.1 h2).elim h h1]; rfl
theorem insK_mem {ks : List Int} {p x : Int} : x ∈ insK ks p ↔ x = p ∨ x ∈ ks := by
  unfold insK
  by_cases h1 : p ∈ ks
  · rw [if_pos h1]; exact ⟨.inr, fun h => h.elim (fun e => e ▸ h1) id⟩
  · rw [if_neg h1, List.mem_append, List.mem_singleton, or_comm]
theorem insK_nd {ks : List Int} {p : Int} (h : ks.Nodup) : (insK ks p).Nodup := by
  unfold insK
  by_cases h1 : p ∈ ks
  · rw [if_pos h1]; exact h
  · rw [if_neg h1]
    exact List.nodup_append.2 ⟨h, by simp, fun a ha b hb e => h1 (by rw [List.mem_singleton] at hb; rw [← hb, ← e]; exact ha)⟩
/-- The lists by the party above. -/
def fmK (ks : List Int) (q : Int → Slot) : List (Int × Value) := ks.map fun p => (p, slot (q p))
def slotsK (ks : List Int) (q : Int → Slot) : List Atom := ks.map fun p => slotA (q p)
def qn : Int → Slot := fun _ => (none, 0, [])
theorem fmK_get (q : Int → Slot) : ∀ (ks : List Int) (p : Int), mget (fmK ks q) p = if p ∈ ks then some (slot (q p)) else none
  | [], p => by rw [if_neg (by simp)]; rfl
  | y :: ks, p => by
    show (if p = y then some (slot (q y)) else mget (fmK ks q) p) = _
    by_cases e : p = y
    · rw [if_pos e, e, if_pos (.head _)]
    · rw [if_neg e, fmK_get q ks p]
      by_cases h1 : p ∈ ks
      · rw [if_pos h1, if_pos (List.mem_cons_of_mem _ h1)]
      · rw [if_neg h1, if_neg fun h2 => (List.mem_cons.1 h2).elim e h1]
theorem fmK_getD {ks : List Int} {q : Int → Slot} {p : Int} (h : p ∉ ks → q p = (none, 0, [])) : (mget (fmK ks q) p).getD (.slice none 0 0) = slot (q p) := by
  rw [fmK_get]
  by_cases h1 : p ∈ ks
  · rw [if_pos h1]; rfl
  · rw [if_neg h1, h h1]; rfl
theorem fmK_set (q : Int → Slot) (x : Slot) : ∀ (ks : List Int) (p : Int), ks.Nodup → mset (fmK ks q) p (slot x) = fmK (insK ks p) (updI q p x)
  | [], p, _ => by
    show [(p, slot x)] = fmK (insK [] p) (updI q p x)
    have e : insK [] p = [p] := rfl
    rw [e]
    show _ = [(p, slot (updI q p x p))]
    rw [updI_same]
  | y :: ks, p, hn => by
    have h1 := List.nodup_cons.1 hn
    show (if p = y then (p, slot x) :: fmK ks q else (y, slot (q y)) :: mset (fmK ks q) p (slot x)) = _
    by_cases e : p = y
    · subst e
      have e2 : insK (p :: ks) p = p :: ks := if_pos (.head _)
      rw [if_pos rfl, e2]
      show _ = (p, slot (updI q p x p)) :: fmK ks (updI q p x)
      rw [updI_same]
      congr 1
      refine List.map_congr_left fun z hz => ?_
      rw [updI_ne q x fun (e : z = p) => h1.1 (e ▸ hz)]
    · rw [if_neg e, fmK_set q x ks p h1.2, insK_cons e]
      show _ = (y, slot (updI q p x y)) :: fmK (insK ks p) (updI q p x)
      rw [updI_ne q x fun h => e h.symm]
theorem fmK_push (q : Int → Slot) {ks : List Int} {p : Int} (hn : ks.Nodup) (r : Rc) (a' : Option Addr) (c' : Nat) : mset (fmK ks q) p (.slice a' ((q p).2.2.length + 1) c') = fmK (insK ks p) (updI q p (a', c', (q p).2.2 ++ [r])) := by
  rw [← fmK_set q _ ks p hn]
  congr 1
  unfold slot
  dsimp only
  rw [List.length_append]; rfl
theorem rpl_slotsK (q : Int → Slot) {ks : List Int} {p : Int} (hn : ks.Nodup) (h : p ∈ ks) (x : Slot) : Rpl (slotA (q p)) (slotA x) (slotsK ks q) (slotsK ks (updI q p x)) := by
  have := rpl_mapK (f := fun j => slotA (q j)) (f' := fun j => slotA (updI q p x j)) (i := p) (fun j hj => by show slotA (q j) = slotA (updI q p x j); rw [updI_ne q x hj]) hn h
  simp only [updI_same] at this
  exact this
theorem rpl_pushK (q : Int → Slot) {ks : List Int} {p : Int} (hn : ks.Nodup) (h : p ∈ ks) (r : Rc) (a' : Option Addr) (c' : Nat) :
    Rpl (A.grow 36 15 (q p).1 (q p).2.1 (q p).2.2.length (rcl (q p).2.2)) (A.grow 36 15 a' c' ((q p).2.2.length + 1) (rcl (q p).2.2 ++ rcells r)) (slotsK ks q) (slotsK ks (updI q p (a', c', (q p).2.2 ++ [r]))) := by
  have h1 := rpl_slotsK q hn h (a', c', (q p).2.2 ++ [r])
  have h2 : slotA (a', c', (q p).2.2 ++ [r]) = A.grow 36 15 a' c' ((q p).2.2.length + 1) (rcl (q p).2.2 ++ rcells r) := by
    unfold slotA
    dsimp only
    rw [List.length_append, rcl_app]
    simp [rcl]
  rw [h2] at h1
  exact h1
theorem Mm.slotIns {w0 w : World} {F : List Atom} {ks : List Int} {q : Int → Slot} {p : Int} (hM : Mm w0 (F ++ slotsK ks q) w) (h : p ∉ ks → q p = (none, 0, [])) : Mm w0 (F ++ slotsK (insK ks p) q) w := by
  unfold insK
  by_cases h1 : p ∈ ks
  · rw [if_pos h1]; exact hM
  · rw [if_neg h1]
    have e : slotsK (ks ++ [p]) q = slotsK ks q ++ [A.grow 36 15 none 0 0 []] := by
      unfold slotsK
      rw [List.map_append, List.map_singleton, h h1]; rfl
    rw [e, ← List.append_assoc]
    exact (hM.grow0 36 15).perm (List.perm_append_singleton _ _).symm
theorem HC.slotIns {P : Program} {r : Option Nat} {N : Nat} {ds : List Deferred} {Q : Post} {E : Env} {w0 : World} {co : Code} {F : List Atom} {ks : List Int} {q : Int → Slot} (p : Int) (h : p ∉ ks → q p = (none, 0, [])) (hn : HC P r N ds co Q E w0 (F ++ slotsK (insK ks p) q)) : HC P r N ds co Q E w0 (F ++ slotsK ks q) :=
  fun w hM => hn w (hM.slotIns h)
theorem cls_uniq {L : List Rc} {es : Array MapEntry} {clk : Nat} (hms : MQ .i64 (clsM L) es clk) (hn : L.Nodup) {e e' : MapEntry} (he : e ∈ es.toList) (he' : e' ∈ es.toList) {r : Rc} (hv : e.val = recV r) (hv' : e'.val = recV r) : e' = e := by
  obtain ⟨i, hi⟩ := List.mem_iff_getElem?.1 he
  obtain ⟨j, hj⟩ := List.mem_iff_getElem?.1 he'
  have hL : ∀ {i : Nat} {e : MapEntry}, es.toList[i]? = some e → e.val = recV r → L[i]? = some r := fun {i e} hi hv => by
    have h5 := congrArg (fun l => l[i]?) hms.ents
    unfold clsM at h5
    simp only [List.getElem?_map, hi, Option.map_some] at h5
    cases h6 : L[i]? with
    | none => rw [h6] at h5; cases h5
    | some z =>
      rw [h6] at h5
      simp only [Option.map_some, Option.some.injEq, Prod.mk.injEq] at h5
      rw [recV_inj (h5.2.symm.trans hv)]
  have h1 := hL hi hv
  have h2 := hL hj hv'
  have hlt : i < L.length := (List.getElem?_eq_some_iff.1 h1).1
  have e5 := (List.getElem?_inj hlt hn).1 (h1.trans h2.symm)
  subst e5
  rw [hi] at hj
  exact (Option.some.inj hj).symm
/-- What the lists hold while the clauses are ranged over. -/
structure GroI (es : Array MapEntry) (app : Rc → Bool) (seen : Array Nat) (ks : List Int) (q : Int → Slot) : Prop where
  nd : ks.Nodup
  out : ∀ p, p ∉ ks → q p = (none, 0, [])
  nds : ∀ p, (q p).2.2.Nodup
  mem : ∀ p r, r ∈ (q p).2.2 ↔ r.party = p ∧ app r = true ∧ ∃ e ∈ es.toList, e.born ∈ seen ∧ e.val = recV r
theorem GroI.nil (es : Array MapEntry) (app : Rc → Bool) : GroI es app #[] [] qn := ⟨List.nodup_nil, fun _ _ => rfl, fun _ => List.nodup_nil, fun p r => by
  constructor
  · intro h; exact absurd h (by simp [qn])
  · rintro ⟨-, -, e, -, h, -⟩; exact absurd h (by simp)⟩
theorem GroI.skip {L : List Rc} {es : Array MapEntry} {clk : Nat} {app : Rc → Bool} {seen : Array Nat} {ks : List Int} {q : Int → Slot} (h : GroI es app seen ks q) (hms : MQ .i64 (clsM L) es clk) {e : MapEntry} (he : e ∈ es.toList) {r : Rc} (hv : e.val = recV r) (ha : app r = false) : GroI es app (seen.push e.born) ks q :=
  ⟨h.nd, h.out, h.nds, fun p s => by
    rw [h.mem p s]
    constructor
    · rintro ⟨h1, h2, e', he', hs', hv'⟩
      exact ⟨h1, h2, e', he', Array.mem_push.2 (.inl hs'), hv'⟩
    · rintro ⟨h1, h2, e', he', hs', hv'⟩
      rcases Array.mem_push.1 hs' with h3 | h3
      · exact ⟨h1, h2, e', he', h3, hv'⟩
      · have e2 := stamp_inj hms.nd he' he h3
        subst e2
        have e3 := recV_inj (hv'.symm.trans hv)
        subst e3
        rw [ha] at h2; cases h2⟩
theorem GroI.push {L : List Rc} {es : Array MapEntry} {clk : Nat} {app : Rc → Bool} {seen : Array Nat} {ks : List Int} {q : Int → Slot} (h : GroI es app seen ks q) (hms : MQ .i64 (clsM L) es clk) (hn : L.Nodup) {e : MapEntry} (he : e ∈ es.toList) (hne : e.born ∉ seen) {r : Rc} (hv : e.val = recV r) (ha : app r = true) (a : Option Addr) (c : Nat) :
    GroI es app (seen.push e.born) (insK ks r.party) (updI q r.party (a, c, (q r.party).2.2 ++ [r])) := by
  have hno : r ∉ (q r.party).2.2 := fun hr => by
    obtain ⟨-, -, e', he', hs', hv'⟩ := (h.mem _ r).1 hr
    rw [cls_uniq hms hn he he' hv hv'] at hs'
    exact hne hs'
  refine ⟨insK_nd h.nd, fun p hp => ?_, fun p => ?_, fun p s => ?_⟩
  · rw [insK_mem, not_or] at hp
    rw [updI_ne _ _ hp.1]
    exact h.out p hp.2
  · by_cases e1 : p = r.party
    · subst e1
      rw [updI_same]
      refine List.nodup_append.2 ⟨h.nds _, by simp, fun a ha b hb e2 => ?_⟩
      obtain rfl := List.mem_singleton.1 hb
      exact hno (e2 ▸ ha)
    · rw [updI_ne _ _ e1]; exact h.nds p
  · by_cases e1 : p = r.party
    · subst e1
      rw [updI_same]
      show s ∈ _ ++ [r] ↔ _
      rw [List.mem_append, List.mem_singleton, h.mem _ s]
      constructor
      · rintro (⟨h1, h2, e', he', hs', hv'⟩ | rfl)
        · exact ⟨h1, h2, e', he', Array.mem_push.2 (.inl hs'), hv'⟩
        · exact ⟨rfl, ha, e, he, Array.mem_push.2 (.inr rfl), hv⟩
      · rintro ⟨h1, h2, e', he', hs', hv'⟩
        rcases Array.mem_push.1 hs' with h3 | h3
        · exact .inl ⟨h1, h2, e', he', h3, hv'⟩
        · have e2 := stamp_inj hms.nd he' he h3
          subst e2
          exact .inr (recV_inj (hv'.symm.trans hv))
    · rw [updI_ne _ _ e1, h.mem p s]
      constructor
      · rintro ⟨h1, h2, e', he', hs', hv'⟩
        exact ⟨h1, h2, e', he', Array.mem_push.2 (.inl hs'), hv'⟩
      · rintro ⟨h1, h2, e', he', hs', hv'⟩
        rcases Array.mem_push.1 hs' with h3 | h3
        · exact ⟨h1, h2, e', he', h3, hv'⟩
        · have e2 := stamp_inj hms.nd he' he h3
          subst e2
          have e3 := recV_inj (hv'.symm.trans hv)
          subst e3
          exact absurd h1.symm e1
/-- Ascending by the clause. -/
def ascC (L : List Rc) : Prop := L.Pairwise fun x y => x.clause < y.clause
theorem ascC_uniq : ∀ {L M : List Rc}, ascC L → ascC M → (∀ r, r ∈ L ↔ r ∈ M) → L = M
  | [], [], _, _, _ => rfl
  | [], b :: M, _, _, h => by have := (h b).2 (List.mem_cons_self ..); simp at this
  | a :: L, [], _, _, h => by have := (h a).1 (List.mem_cons_self ..); simp at this
  | a :: L, b :: M, hL, hM, h => by
    have h1 := List.pairwise_cons.1 hL
    have h2 := List.pairwise_cons.1 hM
    have e : a = b := by
      rcases List.mem_cons.1 ((h a).1 (List.mem_cons_self ..)) with e | ha
      · exact e
      · rcases List.mem_cons.1 ((h b).2 (List.mem_cons_self ..)) with e | hb
        · exact e.symm
        · have := h1.1 b hb
          have := h2.1 a ha
          omega
    subst e
    congr 1
    refine ascC_uniq h1.2 h2.2 fun r => ?_
    constructor
    · intro hr
      rcases List.mem_cons.1 ((h r).1 (List.mem_cons_of_mem _ hr)) with rfl | hr2
      · have := h1.1 r hr; omega
      · exact hr2
    · intro hr
      rcases List.mem_cons.1 ((h r).2 (List.mem_cons_of_mem _ hr)) with rfl | hr2
      · have := h2.1 r hr; omega
      · exact hr2
theorem ascC_nd {L : List Rc} (h : ascC L) : (L.map Rc.clause).Nodup := by
  unfold List.Nodup
  rw [List.pairwise_map]
  exact h.imp fun hxy => by omega
theorem ascC_inj {L : List Rc} (h : ascC L) : ∀ {x y : Rc}, x ∈ L → y ∈ L → x.clause = y.clause → x = y := fun {x y} hx hy e => by
  obtain ⟨i, hi⟩ := List.mem_iff_getElem?.1 hx
  obtain ⟨j, hj⟩ := List.mem_iff_getElem?.1 hy
  have h1 : (L.map Rc.clause)[i]? = some x.clause := by rw [List.getElem?_map, hi]; rfl
  have h2 : (L.map Rc.clause)[j]? = some x.clause := by rw [List.getElem?_map, hj, e]; rfl
  have hlt : i < (L.map Rc.clause).length := (List.getElem?_eq_some_iff.1 h1).1
  have e5 := (List.getElem?_inj hlt (ascC_nd h)).1 (h1.trans h2.symm)
  subst e5
  rw [hi] at hj
  exact Option.some.inj hj
theorem ascC_sorted {L M : List Rc} (hL : ascC L) (hn : M.Nodup) (hs : M.Pairwise fun x y => x.clause ≤ y.clause) (hm : ∀ r ∈ M, r ∈ L) : ascC M := by
  have h1 : M.Pairwise fun x y => x ∈ M ∧ y ∈ M ∧ (x.clause ≤ y.clause ∧ x ≠ y) := (List.Pairwise.and_mem.1 (hs.and hn))
  exact h1.imp fun {x y} h => by
    have : x.clause ≠ y.clause := fun e => h.2.2.2 (ascC_inj hL (hm x h.1) (hm y h.2.1) e)
    have := h.2.2.1
    omega
/-- The clauses that apply below a party. -/
def kOf (B : Nat → List Rc) (a : Ask) (p : Int) : List Rc := (B 1).filter fun c => appB (B 0) a c && decide (c.party = p)
theorem kOf_mem {B : Nat → List Rc} {a : Ask} {p : Int} {r : Rc} : r ∈ kOf B a p ↔ r.party = p ∧ appB (B 0) a r = true ∧ r ∈ B 1 := by
  unfold kOf
  rw [List.mem_filter, Bool.and_eq_true, decide_eq_true_eq]
  exact ⟨fun h => ⟨h.2.2, h.2.1, h.1⟩, fun h => ⟨h.2.2, h.2.1, h.1⟩⟩
/-- What is grown: the map and its lists. -/
structure GroZ where
  b : Nat
  es : Array MapEntry
  clk : Nat
  ks : List Int
  q : Int → Slot
def GroZ.atom (z : GroZ) : Atom := A.all (A.mx z.b z.es z.clk :: slotsK z.ks z.q)
structure GroZ.Ok (z : GroZ) (K : Int → List Rc) : Prop where
  mq : MQ .i64 (fmK z.ks z.q) z.es z.clk
  yes : ∀ p, p ∈ z.ks → (z.q p).2.2 = K p
  no : ∀ p, p ∉ z.ks → K p = []
theorem Mm.forW {w0 w : World} {H : List Atom} {z : GroZ} {K : Int → List Rc} (hM : Mm w0 H w) (hm : z.atom ∈ H) (h : z.Ok K) : ForW w z.b K := by
  have hp : ∀ x ∈ A.mx z.b z.es z.clk :: slotsK z.ks z.q, x.p w := hM.all _ hm
  obtain ⟨o, h1, rfl⟩ : ∃ o, w.heap[z.b]? = some o ∧ o = .map z.es z.clk := hp _ (.head _)
  refine ⟨z.es, z.clk, fmK z.ks z.q, h1, h.mq, fun p => ?_⟩
  by_cases hk : p ∈ z.ks
  · right
    have h2 : RdR w (.slice (z.q p).1 (z.q p).2.2.length (z.q p).2.1) (z.q p).2.2 := RdR.of_owns (hp _ (.tail _ (List.mem_map.2 ⟨p, hk, rfl⟩)))
    rw [← h.yes p hk]
    exact ⟨(z.q p).1, (z.q p).2.1, by rw [fmK_get, if_pos hk]; rfl, h2⟩
  · exact .inl ⟨by rw [fmK_get, if_neg hk], h.no p hk⟩
theorem zvC_inj {a b : Int} (h : (zv a : Value) = zv b) : a = b := by cases h; rfl
attribute [local irreducible] WC WL WX POp Then Again Fn NX W1 WA WO QL RP RA Yld LoopAt HC HL HX HN H1 HA HO HQ HB HP A.blk A.grow A.rd A.obj A.mp AgainH CutH
attribute [local irreducible] A.mq A.mx A.mit slotsK fmK embL
set_option maxHeartbeats 4000000 in
theorem grow_fn {B : Nat → List Rc} {vb : Value} (a : Ask) (w : World) (hB : BaseV w vb B) (hl : ∀ i, i < 8 → (B i).length ≤ 1000000) (hpos : ∀ r ∈ B 1, 1 ≤ r.clause) (hasc : ascC (B 1)) :
    Fn Tryz.prog 38 #[vb, .agg (askC a).toArray] w fun u w' => ∃ z : GroZ, z.Ok (kOf B a) ∧ u = .map (some z.b) ∧ Mm w [z.atom] w' := by
  obtain ⟨s, rfl, hs⟩ := id hB
  have hnd := ascC_nd hasc
  have hndL : (B 1).Nodup := hasc.imp fun {x y} h e => by rw [e] at h; omega
  refine enterH (l := [_, _]) rfl Tryz.ntmps38 rfl ?_
  refine hwBG ?_
  refine HL.one (H1.boxAgg (cs := row 8 s) rfl rfl (fun b2 => ?_))
  refine hwBG ?_
  refine HL.one (H1.boxAgg (cs := askC a) rfl rfl (fun b3 => ?_))
  refine hwBG ?_
  refine HL.one (H1.mkmq .i64 rfl (fun bf => ?_))
  refine hwBG ?_
  refine HL.one (H1.ldAgg (b := b2) (vs := row 8 s) rfl memA (row_len 8 _) (fun i v hv => by rw [Nat.zero_add]; exact hv) rfl ?_)
  refine hwBG ?_
  refine HL.one (H1.callz1 (α := Nat) (V := fun b => .map (some b)) (An := fun b => A.mq b .i64 (clsM (B 1))) (I := fun _ => True) (vs := [.agg (row 8 s).toArray]) rfl rfl (fun w' hM => clauses_fn w' (hB.ext hM.ext) (hl 1 (by decide)) hpos hnd) ?_)
  rintro bm -
  apply HL.fold
  refine HL.openmq fun es clk hms => ?_
  refine HL.one (H1.mqrange (es := es) (clk := clk) rfl (fun w' hM => hM.mx (.head _)) rfl (fun it => ?_))
  refine hbBG ?_
  refine HC.cut (α := List Int × (Int → Slot)) (fun _ => [(5, .map (some bf))]) (fun z => A.mq bf .i64 (fmK z.1 z.2) :: slotsK z.1 z.2)
    (fun z => z.1.Nodup ∧ (∀ p, p ∉ z.1 → z.2 p = (none, 0, [])) ∧ ∀ p, (z.2 p).2.2.Nodup ∧ ∀ r, r ∈ (z.2 p).2.2 ↔ r.party = p ∧ appB (B 0) a r = true ∧ r ∈ B 1) ?_ ?_
  · refine hwBG ?_
    refine HC.loop (α := Array Nat × List Int × (Int → Slot)) (fun _ => [(2, .pointer (some ⟨b2, 0, none⟩)), (3, .pointer (some ⟨b3, 0, none⟩)), (5, .map (some bf)), (13, .pointer (some ⟨it, 0, none⟩))])
      (fun z => A.mit it bm clk z.1 :: A.mx bm es clk :: A.mq bf .i64 (fmK z.2.1 z.2.2) :: A.blk b2 (row 8 s) 38 :: A.blk b3 (askC a) 32 :: slotsK z.2.1 z.2.2) (fun z => GroI es (appB (B 0) a) z.1 z.2.1 z.2.2) (fun z => mleft es z.1) (#[], [], qn) (GroI.nil es _) esA
      (by
        have e1 : fmK [] qn = [] := by unfold fmK; rfl
        have e2 : slotsK [] qn = [] := by unfold slotsK; rfl
        show Hs _ (A.mit it bm clk #[] :: A.mx bm es clk :: A.mq bf .i64 (fmK [] qn) :: A.blk b2 (row 8 s) 38 :: A.blk b3 (askC a) 32 :: slotsK [] qn)
        rw [e1, e2]
        repeat (first | exact Hs.nil _ | (refine Hs.cons pickA ?_))) ?_
    rintro ⟨seen, ks, q⟩ hI
    dsimp only at hI ⊢
    have hall : ∀ r, (∃ e ∈ es.toList, e.val = recV r) ↔ r ∈ B 1 := fun r => by
      constructor
      · rintro ⟨e, he, hv⟩
        obtain ⟨x, hx, h1, h2⟩ := hms.ent he
        unfold clsM at hx
        obtain ⟨p, hp, rfl⟩ := List.mem_map.1 hx
        rw [recV_inj (hv.symm.trans h2)]; exact hp
      · intro hr
        obtain ⟨e, he, h1, h2⟩ := hms.of (p := (r.clause, recV r)) (by unfold clsM; exact List.mem_map.2 ⟨r, hr, rfl⟩)
        exact ⟨e, he, h2⟩
    refine hwBG ?_
    refine HL.one (H1.mqnext (H' := fun s' => A.mit it bm clk s' :: A.mx bm es clk :: A.mq bf .i64 (fmK ks q) :: A.blk b2 (row 8 s) 38 :: A.blk b3 (askC a) 32 :: slotsK ks q) rfl (fun w' hM => hM.mx (.tail _ (.head _))) hms.born (fun s => Rpl.here) rfl (fun hseen => ?_) (fun e he hne => ?_))
    · refine hwBG ?_
      refine HX.cut (ks, q) ⟨hI.nd, hI.out, fun p => ⟨hI.nds p, fun r => ?_⟩⟩ esA (Hs.cons (Pick.there (Pick.there Pick.here)) (Hs.refl _).skip.skip.skip.skip)
      rw [hI.mem p r, ← hall r]
      exact ⟨fun h => ⟨h.1, h.2.1, by obtain ⟨e, he, -, hv⟩ := h.2.2; exact ⟨e, he, hv⟩⟩, fun h => ⟨h.1, h.2.1, by obtain ⟨e, he, hv⟩ := h.2.2; exact ⟨e, he, hseen e he, hv⟩⟩⟩
    obtain ⟨x, hx, hkey, hval⟩ := hms.ent he
    unfold clsM at hx
    obtain ⟨r, hr, rfl⟩ := List.mem_map.1 hx
    dsimp only at hkey hval
    rw [hkey, hval]
    refine hwBG ?_
    refine HL.one (H1.mqentry (e := e) rfl (fun w' hM => hM.mx (.tail _ (.head _))) he hms.nd (.head _) rfl ?_)
    rw [hkey, hval]
    refine hwBG ?_
    refine HL.one (H1.alloc (cs := rcells rcZ) rfl rfl (fun b7 => ?_))
    refine hwBG ?_
    refine HL.one (H1.stAgg (b := b7) (cs := rcells rcZ) (vs := rcells r) rfl rfl rfl (rcells_one _) rplA rfl ?_)
    refine hwBG ?_
    refine HL.one (H1.ldAgg (b := b2) (vs := row 8 s) rfl memA (row_len 8 _) (fun i v hv => by rw [Nat.zero_add]; exact hv) rfl ?_)
    refine hwBG ?_
    refine HL.one (H1.ldAgg (b := b7) (vs := rcells r) rfl memA rfl (fun i v hv => by rw [Nat.zero_add]; exact hv) rfl ?_)
    refine hwBG ?_
    refine HL.one (H1.ldAgg (b := b3) (vs := askC a) rfl memA rfl (fun i v hv => by rw [Nat.zero_add]; exact hv) rfl ?_)
    refine hwBG ?_
    refine HL.one (H1.callx (vs := [.agg (row 8 s).toArray, recV r, .agg (askC a).toArray]) rfl rfl (fun w' hM => applies_fn a r w' (hB.ext hM.ext) (hl 0 (by decide))) ?_)
    cases happ : appB (B 0) a r
    · refine hwBG ?_
      exact HX.again (seen.push e.born, ks, q) (hI.skip hms he hval happ) (mleft_lt he hne) esA (Hs.refl _).skip
    have hpush := hI.push hms hndL he hne hval happ
    have hlen : (q r.party).2.2.length + 1 ≤ 1000000 := by
      have h1 := (hpush none 0).nds r.party
      have h2 := (hpush none 0).mem r.party
      rw [updI_same] at h1 h2
      have h3 := nodup_len (l := B 1) h1 fun s hs => by
        obtain ⟨-, -, e', he', -, hv'⟩ := (h2 s).1 hs
        exact (hall s).1 ⟨e', he', hv'⟩
      have h4 := hl 1 (by decide)
      rw [List.length_append, List.length_singleton] at h3
      omega
    have hpm : r.party ∈ insK ks r.party := insK_mem.2 (.inl rfl)
    have hnk := insK_nd (p := r.party) hI.nd
    have hgd := fmK_getD (hI.out r.party)
    refine hwBG ?_
    refine HC.slotIns (F := [A.blk b7 (rcells r) 36, A.mit it bm clk (seen.push e.born), A.mx bm es clk, A.mq bf .i64 (fmK ks q), A.blk b2 (row 8 s) 38, A.blk b3 (askC a) 32]) r.party (hI.out r.party) ?_
    dsimp only [List.cons_append, List.nil_append]
    refine HC.anyC (cellsB b7 (rcells r) ++ []) rfl ?_
    refine HB.pa 0 rfl ?_
    refine HB.pa 1 rfl ?_
    refine HB.ld 2 rfl rfl (cellsBL (cellsB_mem (i := 13) rfl)) ?_
    refine HB.pa 3 rfl ?_
    refine HB.pa 4 rfl ?_
    refine HB.ld 5 rfl rfl (cellsBL (cellsB_mem (i := 13) rfl)) ?_
    refine HB.ldB (vs := rcells r) 7 rfl rfl rfl (fun i v hv => cellsBL (cellsB_mem hv)) ?_
    refine HB.all (by exact Keep.blkB memA Keep.nil) [6, 8] (by kernel_rfl) rfl ⟨⟨_, rfl, ?_⟩, ⟨_, rfl, ?_⟩, trivial⟩
    · refine HP.one ?_
      refine H1.mqget (l := fmK ks q) rfl rfl memA rfl ?_
      rw [hgd]
      apply HB.fold
      refine HB.all (by exact Keep.blkB memA Keep.nil) [8] (by kernel_rfl) rfl ⟨⟨_, rfl, ?_⟩, trivial⟩
      refine HP.one ?_
      refine H1.lit (cs := rcells r) rfl rfl rfl rfl rfl rfl (fun b8 => ?_)
      apply HB.fold
      refine HB.all (by exact Keep.blkB memA Keep.nil) [9] (by kernel_rfl) rfl ⟨⟨_, rfl, ?_⟩, trivial⟩
      refine HP.one ?_
      refine H1.app (e := 36) (sz := 15) (m := 1) (n := (q r.party).2.2.length) (a := (q r.party).1) (c := (q r.party).2.1) (xs := rcl (q r.party).2.2) (news := rcells r) rfl (by decide) rfl rfl (fun a' c' => Rpl.there (Rpl.there (Rpl.there (Rpl.there (Rpl.there (Rpl.there (Rpl.there (rpl_pushK q hnk hpm r a' c')))))))) rfl (fun w hM j u hu => by rw [add_lit, Nat.zero_add]; exact (hM.blk (.head _)).cell hu) (rcells_one r) hlen (by decide) rfl (fun a' c' _ => ?_)
      apply HB.fold
      refine HB.all (by exact Keep.blkB memA Keep.nil) [10] (by kernel_rfl) rfl ⟨⟨_, rfl, ?_⟩, trivial⟩
      refine HP.one ?_
      refine H1.mqset (l := fmK ks q) rfl rfl rfl (Rpl.there (Rpl.there (Rpl.there (Rpl.there Rpl.here)))) ?_
      rw [fmK_push q hI.nd r]
      apply HB.fold
      refine HB.done (by exact Keep.blkB memA Keep.nil) (by kernel_rfl) ?_
      refine hwBG ?_
      exact HX.again (seen.push e.born, insK ks r.party, updI q r.party (a', c', (q r.party).2.2 ++ [r])) (hpush a' c') (mleft_lt he hne) esA (Hs.refl _).skip.skip
    · refine HP.one ?_
      refine H1.lit (cs := rcells r) rfl rfl rfl rfl rfl rfl (fun b8 => ?_)
      apply HB.fold
      refine HB.all (by exact Keep.blkB memA Keep.nil) [6] (by kernel_rfl) rfl ⟨⟨_, rfl, ?_⟩, trivial⟩
      refine HP.one ?_
      refine H1.mqget (l := fmK ks q) rfl rfl memA rfl ?_
      rw [hgd]
      apply HB.fold
      refine HB.all (by exact Keep.blkB memA Keep.nil) [9] (by kernel_rfl) rfl ⟨⟨_, rfl, ?_⟩, trivial⟩
      refine HP.one ?_
      refine H1.app (e := 36) (sz := 15) (m := 1) (n := (q r.party).2.2.length) (a := (q r.party).1) (c := (q r.party).2.1) (xs := rcl (q r.party).2.2) (news := rcells r) rfl (by decide) rfl rfl (fun a' c' => Rpl.there (Rpl.there (Rpl.there (Rpl.there (Rpl.there (Rpl.there (Rpl.there (rpl_pushK q hnk hpm r a' c')))))))) rfl (fun w hM j u hu => by rw [add_lit, Nat.zero_add]; exact (hM.blk (.head _)).cell hu) (rcells_one r) hlen (by decide) rfl (fun a' c' _ => ?_)
      apply HB.fold
      refine HB.all (by exact Keep.blkB memA Keep.nil) [10] (by kernel_rfl) rfl ⟨⟨_, rfl, ?_⟩, trivial⟩
      refine HP.one ?_
      refine H1.mqset (l := fmK ks q) rfl rfl rfl (Rpl.there (Rpl.there (Rpl.there (Rpl.there Rpl.here)))) ?_
      rw [fmK_push q hI.nd r]
      apply HB.fold
      refine HB.done (by exact Keep.blkB memA Keep.nil) (by kernel_rfl) ?_
      refine hwBG ?_
      exact HX.again (seen.push e.born, insK ks r.party, updI q r.party (a', c', (q r.party).2.2 ++ [r])) (hpush a' c') (mleft_lt he hne) esA (Hs.refl _).skip.skip
  rintro ⟨ks, q⟩ ⟨hnk, hout, hq⟩
  dsimp only at hnk hout hq ⊢
  refine hwBG ?_
  refine HL.openmq fun es2 clk2 hms2 => ?_
  refine HL.one (H1.mqrange (es := es2) (clk := clk2) rfl (fun w' hM => hM.mx (.head _)) rfl (fun it => ?_))
  refine hwBG ?_
  refine HC.loop (α := Array Nat × (Int → Slot)) (fun _ => [(5, .map (some bf)), (33, .pointer (some ⟨it, 0, none⟩))])
    (fun z => A.mit it bf clk2 z.1 :: A.mx bf es2 clk2 :: slotsK ks z.2)
    (fun z => (∀ p, (z.2 p).1 = (q p).1 ∧ (z.2 p).2.1 = (q p).2.1 ∧ (z.2 p).2.2.Perm (q p).2.2) ∧ ∀ e ∈ es2.toList, e.born ∈ z.1 → ∀ p, e.key = zv p → (z.2 p).2.2.Pairwise fun x y => x.clause ≤ y.clause) (fun z => mleft es2 z.1) (#[], q)
    ⟨fun p => ⟨rfl, rfl, List.Perm.refl _⟩, fun e _ h => absurd h (by simp)⟩ esA (Hs.refl _) ?_
  rintro ⟨seen, q'⟩ ⟨hI, hS⟩
  dsimp only at hI hS ⊢
  have hsl : ∀ p, slot (q p) = slot (q' p) := fun p => by
    unfold slot
    rw [(hI p).1, (hI p).2.1, (hI p).2.2.length_eq]
  have hlq : ∀ p, (q' p).2.2.length ≤ 1000000 := fun p => by
    have h1 := nodup_len (l := B 1) (hq p).1 fun s hs => (((hq p).2 s).1 hs).2.2
    have h2 := (hI p).2.2.length_eq
    have h3 := hl 1 (by decide)
    omega
  refine hwBG ?_
  refine HL.one (H1.mqnext (H' := fun s' => A.mit it bf clk2 s' :: A.mx bf es2 clk2 :: slotsK ks q') rfl (fun w' hM => hM.mx (.tail _ (.head _))) hms2.born (fun s => Rpl.here) rfl (fun hseen => ?_) (fun e he hne => ?_))
  · refine hwBG ?_
    have hfm : fmK ks q = fmK ks q' := by
      unfold fmK
      exact List.map_congr_left fun p _ => by rw [hsl]
    have hK : ∀ p, (q' p).2.2 = kOf B a p := fun p => by
      have hmem : ∀ r, r ∈ (q' p).2.2 ↔ r.party = p ∧ appB (B 0) a r = true ∧ r ∈ B 1 := fun r => by rw [(hI p).2.2.mem_iff]; exact (hq p).2 r
      have hsort : (q' p).2.2.Pairwise fun x y => x.clause ≤ y.clause := by
        by_cases hp : p ∈ ks
        · obtain ⟨e, he, h1, -⟩ := hms2.of (p := (p, slot (q p))) (by unfold fmK; exact List.mem_map.2 ⟨p, hp, rfl⟩)
          exact hS e he (hseen e he) p h1
        · have h0 : (q' p).2.2 = [] := by
            have h1 := (hI p).2.2
            rw [hout p hp] at h1
            exact h1.eq_nil
          rw [h0]; exact List.Pairwise.nil
      refine ascC_uniq (ascC_sorted hasc ((hI p).2.2.nodup_iff.2 (hq p).1) hsort fun r hr => ((hmem r).1 hr).2.2) (List.Pairwise.filter _ hasc) fun r => ?_
      rw [hmem r]; exact kOf_mem.symm
    rw [hfm] at hms2
    refine HX.ret1 rfl rfl fun w' hM => ⟨⟨bf, es2, clk2, ks, q'⟩, ⟨hms2, fun p _ => hK p, fun p hp => ?_⟩, rfl, hM.tail.pack1⟩
    have h1 := (hI p).2.2
    rw [hout p hp] at h1
    rw [← hK p]; exact h1.eq_nil
  obtain ⟨x, hx, hkey, hval⟩ := hms2.ent he
  unfold fmK at hx
  obtain ⟨p, hp, rfl⟩ := List.mem_map.1 hx
  dsimp only at hkey hval
  rw [hsl] at hval
  rw [hkey, hval]
  refine hwBG ?_
  refine HL.one (H1.mqentry (e := e) rfl (fun w' hM => hM.mx (.tail _ (.head _))) he hms2.nd (.head _) rfl ?_)
  rw [hkey, hval]
  refine hwBG ?_
  refine HL.one (H1.callk (α := List Rc) (V := fun _ => .tuple #[]) (I := fun l' => l'.Perm (q' p).2.2 ∧ l'.Pairwise fun (x y : Rc) => x.clause ≤ y.clause) (H' := fun l' => A.mit it bf clk2 (seen.push e.born) :: A.mx bf es2 clk2 :: slotsK ks (updI q' p ((q' p).1, (q' p).2.1, l'))) (vs := [slot (q' p), fnV 86]) rfl rfl
    (fun w' hM => sortC_fn hM (hlq p) (fun l' hl' => Rpl.there (Rpl.there (rpl_slotsK q' hnk hp ((q' p).1, (q' p).2.1, l'))))) ?_)
  rintro l' ⟨hpm, hso⟩
  refine hwBG ?_
  refine HX.again (seen.push e.born, updI q' p ((q' p).1, (q' p).2.1, l')) ⟨fun j => ?_, fun e' he' hs' j hj => ?_⟩ (mleft_lt he hne) esA (Hs.refl _)
  · by_cases ej : j = p
    · subst ej
      dsimp only
      rw [updI_same]
      exact ⟨(hI j).1, (hI j).2.1, hpm.trans (hI j).2.2⟩
    · dsimp only
      rw [updI_ne _ _ ej]; exact hI j
  · dsimp only
    by_cases ej : j = p
    · subst ej
      rw [updI_same]; exact hso
    · rw [updI_ne _ _ ej]
      rcases Array.mem_push.1 hs' with h1 | h1
      · exact hS e' he' h1 j hj
      · have e1 : e' = e := stamp_inj hms2.nd he' he h1
        subst e1
        rw [hkey] at hj
        exact absurd (zvC_inj hj).symm ej
end Go.Sx
/- content.Value at the fixed example of the top laws: the walk. -/
namespace Go.Sx
open Go Go.Proofs Go.RowKit
theorem hwF2 {G G2 : Prop} (x : G2) (hwq : Hold G2 → G := by
    intro hQq
    repeat' (first | refine HL.pa ?_ (POp.nilCheck rfl) | apply HL.fold | apply HA.fold | apply HL.nil | apply HX.n_then | apply HC.seq | apply HC.region | refine HL.pa ?_ | refine HL.ga rfl ?_ | refine HL.na rfl ?_ | refine HL.nu rfl rfl ?_ | apply HC.block | apply HC.skip | apply HC.exit | apply HC.ret | apply HX.e_block | refine HX.e_other rfl ?_ | apply HX.e_then | apply HX.e_again | apply HX.n_block | apply HX.r_then | apply HX.r_block | apply HX.r_again | refine HC.cond_yes rfl ?_ | refine HC.cond_no rfl ?_ | refine HL.one (H1.ldb rfl memA rfl rfl ?_) | refine HC.cond rfl (fun hc => ?_) (fun hc => ?_) | refine HC.cond_b rfl (fun hc => ?_) (fun hc => ?_))
    exact hQq.get) : G := hwq ⟨x⟩
def xpC (i : Nat) : Cl := if i = 0 then ⟨0, 0, false, 5, 0, 0⟩ else if i = 1 then ⟨0, 1, false, 7, 0, 0⟩ else ⟨1, 1, true, 0, 0, 0⟩
def xpAb : ByteArray := ⟨#[65, 98]⟩
def xpL (_ : Nat) : ByteArray × Int := (xpAb, 2)
theorem xpAb_text : Lib.idxFunc notText true xpAb = -1 := by decide +kernel
theorem xpL_ok (i : Nat) : LnOk (xpL i) := ⟨by show 2 ≤ 80; decide, xpAb_text, by show (0 : Int) ≤ 2 ∧ (2 : Int) ≤ 7; decide⟩
theorem xpC_ok (i : Nat) : ClOk (xpC i) := by
  unfold xpC
  by_cases h0 : i = 0
  · rw [if_pos h0]
    exact ⟨by decide, by decide, fun h => (by cases h), fun _ => by decide⟩
  · rw [if_neg h0]
    by_cases h1 : i = 1
    · rw [if_pos h1]
      exact ⟨by decide, by decide, fun h => (by cases h), fun _ => by decide⟩
    · rw [if_neg h1]
      exact ⟨by decide, by decide, fun _ => by decide, fun h => (by cases h)⟩
theorem xpC_asc : ClAsc xpC 3 := fun i hi => by
  match i, hi with
  | 0, _ => exact .inr ⟨rfl, by decide⟩
  | 1, _ => exact .inl (by decide)
  | n + 2, h => omega
def xpV : List Int := [5, 7, 12]
attribute [local irreducible] WC WL WX POp Then Again Fn NX W1 WA WO QL RP RA Yld LoopAt HC HL HX HN H1 HA HO HQ HB HP A.blk A.grow A.rd A.obj A.mp AgainH CutH
attribute [local irreducible] A.mq A.mit
theorem value1_fn (x : Cl) (b4 b5 : Nat) (r c : Int) (w : World) (h4 : w.cell? ⟨b4, 0, none⟩ = some (zv r)) (h5 : w.cell? ⟨b5, 0, none⟩ = some (zv c)) :
    Fn Tryz.prog 65 #[.agg (clC x).toArray, .pointer (some ⟨b4, 0, none⟩), .pointer (some ⟨b5, 0, none⟩)] w fun u w' => u = .bool (decide (x.row = r) && decide (x.col = c)) ∧ Ext w w' := by
  refine enterH (l := [_, _, _]) rfl Tryz.ntmps65 rfl ?_
  unfold clC
  refine hwF2 ?_
  refine HL.one (H1.boxAgg (cs := [zv x.row, zv x.col, .bool x.sum, zv x.val, zv x.top, zv x.left]) rfl rfl (fun b3 => ?_))
  refine hwF2 ?_
  refine HL.one (H1.ld0 rfl h4 rfl ?_)
  by_cases h : x.row = r
  · refine hwF2 ?_
    refine HL.one (H1.ld0 rfl h5 rfl ?_)
    refine hwF2 ?_
    exact HX.ret1 rfl rfl fun w' hM => ⟨by rw [decide_eq_true h]; rfl, hM.ext⟩
  · refine hwF2 ?_
    exact HX.ret1 rfl rfl fun w' hM => ⟨by rw [decide_eq_false h]; rfl, hM.ext⟩
set_option maxHeartbeats 4000000 in
theorem values_fn (vl vc : Value) (hl1 : vl.oneCell' = true) (w : World) (hR : RdK w vc 3 6 fun i => clC (xpC i)) :
    Fn Tryz.prog 66 #[.agg #[vl, vc, zv 0, .string ⟨#[]⟩]] w fun u w' => ∃ z : Option Addr × Nat, True ∧ u = .slice z.1 3 z.2 ∧ Mm w [A.grow 3 1 z.1 z.2 3 (ints xpV)] w' := by
  obtain ⟨ac, cc, rfl, hcc, -⟩ := id hR
  obtain ⟨bc, offc, rfl, hb⟩ := hR.cell (show 0 < 3 by decide)
  refine enterH (l := [_]) rfl Tryz.ntmps66 rfl ?_
  refine hwF2 ?_
  refine HL.one (H1.boxAgg (cs := [vl, .slice (some ⟨bc, offc, none⟩) 3 cc, zv 0, .string ⟨#[]⟩]) rfl rfl (fun b1 => ?_))
  refine hwF2 ?_
  refine HC.grow0 3 1 ?_
  refine HC.loop (α := Nat × Option Addr × Nat) (fun q => [(1, .pointer (some ⟨b1, 0, none⟩)), (3, .slice q.2.1 q.1 q.2.2), (11, .slice (some ⟨bc, offc, none⟩) 3 cc), (12, zv 3), (13, zv (q.1 : Int))]) (fun q => [A.grow 3 1 q.2.1 q.2.2 q.1 (ints (xpV.take q.1)), A.blk b1 [vl, .slice (some ⟨bc, offc, none⟩) 3 cc, zv 0, .string ⟨#[]⟩] 140]) (fun q => q.1 ≤ 3 ∧ (0 < q.1 → ∃ b, q.2.1 = some ⟨b, 0, none⟩)) (fun q => 3 - q.1) (0, none, 0) ⟨Nat.zero_le _, fun h => absurd h (Nat.lt_irrefl _)⟩ esA (by repeat (first | exact Hs.nil _ | (refine Hs.cons pickA ?_))) ?_
  rintro ⟨k, a, c⟩ ⟨hk, hka⟩
  dsimp only at hk hka ⊢
  by_cases hlt : k < 3
  rotate_left
  · have hn : ¬ ((k : Nat) : Int) < 3 := by omega
    obtain rfl : k = 3 := by omega
    refine hwF2 ?_
    exact HX.ret1 rfl rfl fun w' hM => ⟨(a, c), trivial, rfl, hM.sub (by repeat (first | exact Hs.nil _ | (refine Hs.cons pickA ?_)))⟩
  have hn : ((k : Nat) : Int) < 3 := by omega
  have hx := hb k hlt
  by_cases hk2 : k = 2
  · subst hk2
    obtain ⟨ba, rfl⟩ := hka (by decide)
    have hex : xpC 2 = ⟨1, 1, true, 0, 0, 0⟩ := rfl
    rw [hex] at hx
    refine hwF2 ?_
    refine HL.one (H1.ldAggw (b := bc) (off := offc + 2 * 6) (vs := clC ⟨1, 1, true, 0, 0, 0⟩) rfl rfl (fun w' hM i u hu => cell_ext hM.ext (hx i u hu)) rfl ?_)
    refine hwF2 ?_
    refine HL.one (H1.alloc (cs := [zv 0, zv 0, .bool false, zv 0, zv 0, zv 0]) rfl rfl (fun b5 => ?_))
    refine hwF2 ?_
    refine HL.one (H1.stAgg (b := b5) (cs := [zv 0, zv 0, .bool false, zv 0, zv 0, zv 0]) (vs := clC ⟨1, 1, true, 0, 0, 0⟩) rfl rfl rfl (clC_one _) rplA rfl ?_)
    unfold clC
    refine hwF2 ?_
    refine HC.loop (α := Nat) (fun j => [(1, .pointer (some ⟨b1, 0, none⟩)), (3, .slice (some ⟨ba, 0, none⟩) 2 c), (4, zv 2), (5, .pointer (some ⟨b5, 0, none⟩)), (6, zv (if j = 0 then 0 else if j = 1 then 5 else 12)), (11, .slice (some ⟨bc, offc, none⟩) 3 cc), (12, zv 3), (13, zv 2), (26, .slice (some ⟨bc, offc, none⟩) 2 cc), (27, zv 2), (28, zv (j : Int))]) (fun _ => [A.blk b5 [zv 1, zv 1, .bool true, zv 0, zv 0, zv 0] 72, A.grow 3 1 (some ⟨ba, 0, none⟩) c 2 (ints (xpV.take 2)), A.blk b1 [vl, .slice (some ⟨bc, offc, none⟩) 3 cc, zv 0, .string ⟨#[]⟩] 140]) (fun j => j ≤ 2) (fun j => 2 - j) 0 (Nat.zero_le _) esA (by repeat (first | exact Hs.nil _ | (refine Hs.cons pickA ?_))) ?_
    intro j hj
    match j, hj with
    | 0, _ =>
      have hy := hb 0 (by decide)
      have hey : xpC 0 = ⟨0, 0, false, 5, 0, 0⟩ := rfl
      rw [hey] at hy
      refine hwF2 ?_
      refine HL.one (H1.ldAggw (b := bc) (off := offc + 0 * 6) (vs := clC ⟨0, 0, false, 5, 0, 0⟩) rfl rfl (fun w' hM i u hu => cell_ext hM.ext (hy i u hu)) rfl ?_)
      refine hwF2 ?_
      refine HL.one (H1.alloc (cs := [zv 0, zv 0, .bool false, zv 0, zv 0, zv 0]) rfl rfl (fun b8 => ?_))
      refine hwF2 ?_
      refine HL.one (H1.stAgg (b := b8) (cs := [zv 0, zv 0, .bool false, zv 0, zv 0, zv 0]) (vs := clC ⟨0, 0, false, 5, 0, 0⟩) rfl rfl rfl (clC_one _) rplA rfl ?_)
      unfold clC
      refine hwF2 ?_
      refine HL.one (H1.callx (vs := [_, _, _]) rfl rfl (fun w' _ => cwithin_yes (by decide) (by decide) w') ?_)
      refine hwF2 ?_
      refine HL.one (H1.callx (vs := [_, _, _]) rfl rfl (fun w' _ => cwithin_yes (by decide) (by decide) w') ?_)
      refine hwF2 ?_
      refine HL.one (H1.ldg (b := ba) (c := c) (n := 2) (vs := ints (xpV.take 2)) (v := zv 5) rfl memA rfl rfl ?_)
      refine hwF2 ?_
      exact HX.again 1 (by decide) (by decide) esA (by repeat (first | exact Hs.nil _ | (refine Hs.cons pickA ?_)))
    | 1, _ =>
      have hy := hb 1 (by decide)
      have hey : xpC 1 = ⟨0, 1, false, 7, 0, 0⟩ := rfl
      rw [hey] at hy
      refine hwF2 ?_
      refine HL.one (H1.ldAggw (b := bc) (off := offc + 1 * 6) (vs := clC ⟨0, 1, false, 7, 0, 0⟩) rfl rfl (fun w' hM i u hu => cell_ext hM.ext (hy i u hu)) rfl ?_)
      refine hwF2 ?_
      refine HL.one (H1.alloc (cs := [zv 0, zv 0, .bool false, zv 0, zv 0, zv 0]) rfl rfl (fun b8 => ?_))
      refine hwF2 ?_
      refine HL.one (H1.stAgg (b := b8) (cs := [zv 0, zv 0, .bool false, zv 0, zv 0, zv 0]) (vs := clC ⟨0, 1, false, 7, 0, 0⟩) rfl rfl rfl (clC_one _) rplA rfl ?_)
      unfold clC
      refine hwF2 ?_
      refine HL.one (H1.callx (vs := [_, _, _]) rfl rfl (fun w' _ => cwithin_yes (by decide) (by decide) w') ?_)
      refine hwF2 ?_
      refine HL.one (H1.callx (vs := [_, _, _]) rfl rfl (fun w' _ => cwithin_yes (by decide) (by decide) w') ?_)
      refine hwF2 ?_
      refine HL.one (H1.ldg (b := ba) (c := c) (n := 2) (vs := ints (xpV.take 2)) (v := zv 7) rfl memA rfl rfl ?_)
      refine hwF2 ?_
      exact HX.again 2 (by decide) (by decide) esA (by repeat (first | exact Hs.nil _ | (refine Hs.cons pickA ?_)))
    | 2, _ =>
      refine hwF2 ?_
      refine HL.one (H1.lit (cs := [zv 12]) rfl rfl rfl rfl rfl rfl (fun b8 => ?_))
      refine hwF2 ?_
      refine HL.one (H1.app1 (u := zv 12) rfl rfl (fun _ _ => by first | ((repeat (first | with_reducible exact Rpl.here | with_reducible apply Rpl.there)); done) | (repeat (first | exact Rpl.here | apply Rpl.there))) memA rfl rfl (by decide) rfl rfl (fun a2 c2 => ?_))
      refine hwF2 ?_
      exact HX.again (3, some ⟨a2, 0, none⟩, c2) ⟨Nat.le_refl _, fun _ => ⟨a2, rfl⟩⟩ (by show 3 - 3 < 3 - 2; decide) esA (by repeat (first | exact Hs.nil _ | (refine Hs.cons pickA ?_)))
    | n + 3, h => omega
  · obtain ⟨v, hv, hx2⟩ : ∃ v : Int, (v = 5 ∧ k = 0 ∨ v = 7 ∧ k = 1) ∧ ∃ cl, xpC k = ⟨0, cl, false, v, 0, 0⟩ := by
      match k, hlt with
      | 0, _ => exact ⟨5, .inl ⟨rfl, rfl⟩, 0, rfl⟩
      | 1, _ => exact ⟨7, .inr ⟨rfl, rfl⟩, 1, rfl⟩
      | 2, _ => exact absurd rfl hk2
      | n + 3, h => omega
    obtain ⟨cl, hx2⟩ := hx2
    rw [hx2] at hx
    have happ : ints (xpV.take k) ++ [zv v] = ints (xpV.take (k + 1)) := by
      rcases hv with ⟨rfl, rfl⟩ | ⟨rfl, rfl⟩ <;> rfl
    have hmm : min (max v (-1000000000000)) 1000000000000 = v := by omega
    refine hwF2 ?_
    refine HL.one (H1.ldAggw (b := bc) (off := offc + k * 6) (vs := clC ⟨0, cl, false, v, 0, 0⟩) rfl rfl (fun w' hM i u hu => cell_ext hM.ext (hx i u hu)) rfl ?_)
    refine hwF2 ?_
    refine HL.one (H1.alloc (cs := [zv 0, zv 0, .bool false, zv 0, zv 0, zv 0]) rfl rfl (fun b5 => ?_))
    refine hwF2 ?_
    refine HL.one (H1.stAgg (b := b5) (cs := [zv 0, zv 0, .bool false, zv 0, zv 0, zv 0]) (vs := clC ⟨0, cl, false, v, 0, 0⟩) rfl rfl rfl (clC_one _) rplA rfl ?_)
    unfold clC
    refine hwF2 ?_
    rw [hmm]
    refine HL.one (H1.lit (cs := [zv v]) rfl rfl rfl rfl rfl rfl (fun b8 => ?_))
    refine hwF2 ?_
    refine HL.one (H1.app1 (u := zv v) rfl rfl (fun _ _ => by first | ((repeat (first | with_reducible exact Rpl.here | with_reducible apply Rpl.there)); done) | (repeat (first | exact Rpl.here | apply Rpl.there))) memA rfl rfl (by omega) rfl rfl (fun a2 c2 => ?_))
    rw [happ]
    refine hwF2 ?_
    exact HX.again (k + 1, some ⟨a2, 0, none⟩, c2) ⟨hlt, fun _ => ⟨a2, rfl⟩⟩ (by show 3 - (k + 1) < 3 - k; omega) esA (by repeat (first | exact Hs.nil _ | (refine Hs.cons pickA ?_)))
set_option maxHeartbeats 2000000 in
theorem cvalue_fn (vl vc : Value) (w : World) (hRl : RdK w vl 1 2 fun i => lnC (xpL i)) (hRc : RdK w vc 3 6 fun i => clC (xpC i)) :
    Fn Tryz.prog 23 #[.agg #[vl, vc, zv 0, .string ⟨#[]⟩], zv 1, zv 1] w fun u w' => u = .tuple #[zv 12, .bool true] ∧ Ext w w' := by
  obtain ⟨al, cl, rfl, -, -⟩ := id hRl
  obtain ⟨ac, cc, rfl, -, -⟩ := id hRc
  refine enterH (l := [_, _, _]) rfl Tryz.ntmps23 rfl ?_
  refine hwF2 ?_
  refine HL.one (H1.boxAgg (cs := [.slice al 1 cl, .slice ac 3 cc, zv 0, .string ⟨#[]⟩]) rfl rfl (fun b3 => ?_))
  refine hwF2 ?_
  refine HL.one (H1.box rfl rfl rfl (fun b4 => ?_))
  refine hwF2 ?_
  refine HL.one (H1.box rfl rfl rfl (fun b5 => ?_))
  refine hwF2 ?_
  refine HL.one (H1.callx (u := zv 2) (vs := [.slice ac 3 cc, .func (.func 65) #[] #[.pointer (some ⟨b4, 0, none⟩), .pointer (some ⟨b5, 0, none⟩)]]) rfl rfl (fun w' hM => (indexCl_fn (p := fun i => decide ((xpC i).row = 1) && decide ((xpC i).col = 1)) (by decide) (fun _ => rfl) w' (hRc.ext hM.ext) ⟨_, [], [.pointer (some ⟨b4, 0, none⟩), .pointer (some ⟨b5, 0, none⟩)], rfl, inferInstance, fun w2 hx i _ => value1_fn (xpC i) b4 b5 1 1 w2 (cell_ext hx ((hM.blk (b := b4) (cs := [zv 1]) memA).cell (i := 0) rfl)) (cell_ext hx ((hM.blk (b := b5) (cs := [zv 1]) memA).cell (i := 0) rfl))⟩).mono fun u w'' h => by
    obtain ⟨k, h1, h2, h3⟩ := h
    refine ⟨?_, h3⟩
    rw [h2]
    rcases h1 with ⟨-, h1⟩ | ⟨j, rfl, hj, h4, h5⟩
    · have := h1 2 (by decide); cases this
    · match j, hj with
      | 0, _ => cases h5
      | 1, _ => cases h5
      | 2, _ => rfl
      | n + 3, h => omega) ?_)
  refine hwF2 ?_
  refine HL.one (H1.ldAgg (b := b3) (vs := [.slice al 1 cl, .slice ac 3 cc, zv 0, .string ⟨#[]⟩]) rfl memA rfl (fun i v hv => by rw [Nat.zero_add]; exact hv) rfl ?_)
  refine hwF2 ?_
  refine HL.one (H1.callx (vs := [_]) rfl rfl (fun w' hM => cvalid_fn (by decide) (by decide) (fun i _ => xpL_ok i) (fun i _ => xpC_ok i) xpC_asc w' (hRl.ext hM.ext) (hRc.ext hM.ext)) ?_)
  refine hwF2 ?_
  refine HL.one (H1.ldAgg (b := b3) (vs := [.slice al 1 cl, .slice ac 3 cc, zv 0, .string ⟨#[]⟩]) rfl memA rfl (fun i v hv => by rw [Nat.zero_add]; exact hv) rfl ?_)
  refine hwF2 ?_
  refine HL.build (cs := [.slice al 1 cl, .slice ac 3 cc, zv 0, .string ⟨#[]⟩]) rfl rfl rfl ?_
  refine hwF2 ?_
  refine HL.one (H1.callz (vs := [_]) rfl rfl (fun w' hM => (values_fn (.slice al 1 cl) (.slice ac 3 cc) rfl w' (hRc.ext hM.ext)).shapedF) ?_)
  rintro ⟨az, cz⟩ hz
  dsimp only at hz ⊢
  obtain ⟨bz, rfl⟩ := hz.resolve_left (by decide)
  refine hwF2 ?_
  refine HL.one (H1.ldg (b := bz) (c := cz) (n := 3) (vs := ints xpV) (v := zv 12) rfl memA rfl rfl ?_)
  refine hwF2 ?_
  exact HX.ret2 rfl rfl rfl fun w' hM => ⟨rfl, hM.ext⟩
end Go.Sx
/- content.Property at the fixed example of the top laws: the walk. -/
namespace Go.Sx
open Go Go.Proofs Go.RowKit
theorem hwF3 {G G2 : Prop} (x : G2) (hwq : Hold G2 → G := by
    intro hQq
    repeat' (first | refine HL.pa ?_ (POp.nilCheck rfl) | apply HL.fold | apply HA.fold | apply HL.nil | apply HX.n_then | apply HC.seq | apply HC.region | refine HL.pa ?_ | refine HL.ga rfl ?_ | refine HL.na rfl ?_ | refine HL.nu rfl rfl ?_ | apply HC.block | apply HC.skip | apply HC.exit | apply HC.ret | apply HX.e_block | refine HX.e_other rfl ?_ | apply HX.e_then | apply HX.e_again | apply HX.n_block | apply HX.r_then | apply HX.r_block | apply HX.r_again | refine HC.cond_yes rfl ?_ | refine HC.cond_no rfl ?_ | refine HL.one (H1.ldb rfl memA rfl rfl ?_) | refine HC.cond rfl (fun hc => ?_) (fun hc => ?_) | refine HC.cond_b rfl (fun hc => ?_) (fun hc => ?_))
    exact hQq.get) : G := hwq ⟨x⟩
abbrev bldE (eb : TypeId) (b : Nat) (p : Option Addr) (a : Option Addr) (c : Nat) (ys : List UInt8) (H : List Atom) : List Atom := A.blk b [.pointer p, .slice a ys.length c] eb :: A.grow 5 1 a c ys.length (ub ys) :: H
section
variable {P : Program} {r : Option Nat} {N : Nat} {ds : List Deferred} {Q : Post} {E : Env} {w0 : World} {H : List Atom} {next : Act → World → Prop} {g : Option (Nat × Bool)}
theorem H1.callvk {α : Type} {V : α → Value} {H' : α → List Atom} {I : α → Prop} {d : Option Nat} {x : Operand} {f : FuncId} {cap : List Value} {args : List Operand} {ats : Array TypeId} {ty : TypeId} {pos : String} {af : Array Edge} {vs : List Value}
    [hf : CallOk P f] (hd : dOk d N = true) (hx : Env.ev E x = some (.func (.func f) #[] cap.toArray)) (ha : Env.evs E args = some vs) (hc : ∀ w, Mm w0 H w → Fn P f (vs ++ cap).toArray w fun v w' => ∃ z, I z ∧ v = V z ∧ Mm w0 (H' z) w')
    (h : ∀ z, I z → HN N ds next (putE d (V z) E) w0 (H' z)) :
    H1 P r N ds next ⟨d, .call ⟨.value x, args.toArray, ats⟩, ty, pos, af, g⟩ Q E w0 H := fun w hM => W1.callv hd hx ha (hc w hM) (by
    rintro v w' ⟨z, hz, rfl, hn⟩; exact h z hz w' hn)
theorem H1.mqins {t : TypeId} {x y z : Operand} {ty : TypeId} {pos : String} {af : Array Edge} {b : Nat} {k e : TypeId} {q : IntKind} {l : List (Int × Value)} {n : Int} {v : Value} {H' : List Atom} [ht : UTy P t (.map k e)] [hk : UTy P k (.int q)] (hx : Env.ev E x = some (.map (some b))) (hy : Env.ev E y = some (.int q n)) (hz : Env.ev E z = some v)
    (hr : Rpl (A.mq b q l) (A.mq b q (mset l n v)) H H') (h : HN N ds next E w0 H') : H1 P r N ds next ⟨none, .insert t x y z, ty, pos, af, g⟩ Q E w0 H := fun w hM => by
  obtain ⟨o, hb, ho⟩ : ∃ o, w.heap[b]? = some o ∧ mqP q l o := hM.all _ hr.mem
  obtain ⟨o', hrun, ho'⟩ := run_mapUpdate_mq (P := P) ht.is hk.is hb ho n v
  have hlt := (Array.getElem?_eq_some_iff.1 hb).1
  refine W1.skip (w' := w.putObj b o') (fun a ha => ?_) rfl rfl (h _ (hM.turn hr rfl rfl rfl (by simp) (fun k _ hk' => ?_) ⟨o', World.putObj_heap_same hlt, ho'⟩ (by simp [A.mq, A.obj]) fun b' hb' => .inl hb'))
  · simp only [execOp, ha.ev hx, ha.ev hy, ha.ev hz, Sem.run_bind, hrun, Result.andThen, Sem.run_pure]
  · exact World.putObj_heap_other (by simpa [A.mq, A.obj] using hk')
theorem H1.mqyes {t : TypeId} {x y : Operand} {d : Nat} {ty : TypeId} {pos : String} {af : Array Edge} {b : Nat} {k e : TypeId} {q : IntKind} {l : List (Int × Value)} {n : Int} {v zv : Value} {sz bb : Nat} [ht : UTy P t (.map k e)] [hk : UTy P k (.int q)] [hi : ITy P e zv sz bb] (hx : Env.ev E x = some (.map (some b))) (hy : Env.ev E y = some (.int q n))
    (hm : A.mq b q l ∈ H) (hg : mget l n = some v) (hd : Nat.blt d N = true) (h : HN N ds next ((d, .tuple #[v, .bool true]) :: E) w0 H) : H1 P r N ds next ⟨some d, .lookup t x y true, ty, pos, af, g⟩ Q E w0 H :=
  H1.mqget2 (hi := hi) hx hy hm hd (by rw [hg]; exact h)
end
attribute [local irreducible] WC WL WX POp Then Again Fn NX W1 WA WO QL RP RA Yld LoopAt HC HL HX HN H1 HA HO HQ HB HP A.blk A.grow A.rd A.obj A.mp AgainH CutH
theorem copyCheckE_fn {w0 w : World} {H : List Atom} {b : Nat} {p : Option Addr} {s : Value} (hM : Mm w0 (A.blk b [.pointer p, s] 152 :: H) w) (hp : p = none ∨ p = some ⟨b, 0, none⟩) :
    Fn Tryz.prog 252 #[.pointer (some ⟨b, 0, none⟩)] w fun v w' => v = .tuple #[] ∧ Mm w0 (A.blk b [.pointer (some ⟨b, 0, none⟩), s] 152 :: H) w' := by
  refine enterK (l := [_]) hM rfl Tryz.ntmps252 rfl ?_
  rcases hp with rfl | rfl
  · refine hwF3 ?_
    refine HL.pa ?_ (POp.pnil1 rfl rfl)
    refine hwF3 ?_
    refine HL.one (H1.toUnsafe (cs := [.pointer none, s]) rfl memA rfl (Nat.zero_lt_succ 1) rfl ?_)
    refine hwF3 ?_
    refine HL.one (H1.noEscape Tryz.func272 (by kernel_rfl) (by kernel_rfl) (by kernel_rfl) (by kernel_rfl) rfl rfl ?_)
    refine hwF3 ?_
    refine HL.one (H1.fromUnsafe (cs := [.pointer none, s]) rfl memA (by kernel_rfl) rfl ?_)
    refine hwF3 ?_
    refine HL.one (H1.st rfl rfl (by intro _ h; cases h) (by intro _ h; cases h) rplA (by simp) ?_)
    refine hwF3 ?_
    exact HX.end0 rfl fun w' hM => ⟨rfl, hM⟩
  · refine hwF3 ?_
    refine HL.pa ?_ (POp.pnil0 rfl rfl)
    refine hwF3 ?_
    refine HL.pa ?_ (POp.pneq rfl rfl)
    refine hwF3 ?_
    exact HX.end0 rfl fun w' hM => ⟨rfl, hM⟩
theorem writeStringE_fn {w0 w : World} {H : List Atom} {b c : Nat} {p a : Option Addr} {ys : List UInt8} (s : ByteArray) (hM : Mm w0 (bldE 152 b p a c ys H) w) (hp : p = none ∨ p = some ⟨b, 0, none⟩) (hs : ys.length + s.size ≤ 1000000) :
    Fn Tryz.prog 190 #[.pointer (some ⟨b, 0, none⟩), .string s] w fun v w' => ∃ q : Option Addr × Nat, True ∧ v = .tuple #[zv (s.size : Int), .nilIface] ∧ Mm w0 (bldE 152 b (some ⟨b, 0, none⟩) q.1 q.2 (ys ++ s.data.toList) H) w' := by
  refine enterK (l := [_, _]) hM rfl Tryz.ntmps190 rfl ?_
  refine hwF3 ?_
  refine HL.one (H1.callk (α := Unit) (V := fun _ => .tuple #[]) (I := fun _ => True) (H' := fun _ => bldE 152 b (some ⟨b, 0, none⟩) a c ys H) (vs := [.pointer (some ⟨b, 0, none⟩)]) rfl rfl (fun w' hM => (copyCheckE_fn hM hp).mono fun v w' h => ⟨(), trivial, h⟩) ?_)
  rintro - -
  refine hwF3 ?_
  refine HL.one (H1.appS rfl rfl (fun _ _ => by first | ((repeat (first | with_reducible exact Rpl.here | with_reducible apply Rpl.there)); done) | (repeat (first | exact Rpl.here | apply Rpl.there))) hs rfl (fun a' c' => ?_))
  refine hwF3 ?_
  refine HL.one (H1.st rfl rfl (by intro _ h; cases h) (by intro _ h; cases h) rplA (by simp) ?_)
  refine hwF3 ?_
  exact HX.ret2 rfl rfl rfl fun w' hM => ⟨(a', c'), trivial, rfl, hM⟩
set_option maxHeartbeats 1000000 in
theorem builderStringE_fn {eb : TypeId} {w0 w : World} {H : List Atom} {b c : Nat} {p a : Option Addr} {ys : List UInt8} (hM : Mm w0 (bldE eb b p a c ys H) w) (h0 : ys ≠ []) :
    Fn Tryz.prog 68 #[.pointer (some ⟨b, 0, none⟩)] w fun v w' => v = .string ⟨ys.toArray⟩ ∧ Mm w0 H w' := by
  have hne : ys.length ≠ 0 := by simpa using h0
  refine enterK (l := [_]) hM rfl Tryz.ntmps68 rfl ?_
  refine HC.openg (e := 5) (a := a) (xs := ub ys) memA hne ?_
  rintro g rfl
  refine hwF3 ?_
  refine HC.capOfG (e := 5) (xs := ub ys) memA fun hcap => ?_
  have hc0 : c ≠ 0 := by omega
  refine HC.anyC ([(⟨b, 1, none⟩, .slice (some ⟨g, 0, none⟩) ys.length c)]) rfl ?_
  refine HB.pa 0 rfl ?_
  refine HB.pa 1 rfl ?_ (POp.nilCheck rfl)
  refine HB.pa 2 rfl ?_
  refine HB.ld 3 rfl rfl memD ?_
  refine HB.pa 4 rfl ?_ (POp.sliceData rfl hc0)
  refine HB.pa 5 rfl ?_
  refine HB.pa 6 rfl ?_ (POp.nilCheck rfl)
  refine HB.pa 7 rfl ?_
  refine HB.ld 8 rfl rfl memD ?_
  refine HB.pa 9 rfl ?_
  refine HB.all (by repeat (first | exact Keep.nil | refine Keep.blk (by (repeat (first | exact List.Mem.head _ | apply List.Mem.tail)); done) rfl ?_ | refine Keep.grow (by (repeat (first | exact List.Mem.head _ | apply List.Mem.tail)); done) (by assumption) ?_ | refine Keep.base (by assumption) ?_)) [10] (by kernel_rfl) rfl ⟨⟨_, rfl, ?_⟩, trivial⟩
  refine HP.one ?_
  refine H1.unsafeStr (b := g) (c := c) (ys := ys) (by kernel_rfl) rfl rfl h0 (Pick.there Pick.here) rfl ?_
  apply HB.fold
  refine HB.pa 11 rfl ?_
  refine HB.done (by repeat (first | exact Keep.nil | refine Keep.blk (by (repeat (first | exact List.Mem.head _ | apply List.Mem.tail)); done) rfl ?_ | refine Keep.grow (by (repeat (first | exact List.Mem.head _ | apply List.Mem.tail)); done) (by assumption) ?_ | refine Keep.base (by assumption) ?_)) (by kernel_rfl) ?_
  refine hwF3 ?_
  exact HX.ret1 rfl rfl fun w' hM => ⟨rfl, hM.tail⟩
set_option maxHeartbeats 1000000 in
theorem cnumbers_fn {w0 w : World} {H : List Atom} {b bl c : Nat} {p a : Option Addr} {ys : List UInt8} (n : Nat) (hn : n ≤ 1099511627776) (hM : Mm w0 (bldE 152 b p a c ys (A.blk bl [zv (n : Int)] 3 :: H)) w) (hp : p = none ∨ p = some ⟨b, 0, none⟩) (hlen : ys.length ≤ 900000) :
    Fn Tryz.prog 120 #[.pointer (some ⟨b, 0, none⟩), .slice (some ⟨bl, 0, none⟩) 1 1] w fun v w' => ∃ q : Option Addr × Nat, True ∧ v = .tuple #[] ∧ Mm w0 (bldE 152 b (some ⟨b, 0, none⟩) q.1 q.2 (ys ++ (strN n).data.toList) H) w' := by
  have hsz := strN_size (n := n) (by omega)
  have hszl : (strN n).data.toList.length = (strN n).size := by rw [Array.length_toList]; rfl
  refine enterK (l := [_, _]) hM rfl Tryz.ntmps120 rfl ?_
  refine hwF3 ?_
  refine HC.loop (α := Nat × Option Addr × Option Addr × Nat) (fun z => [(0, .pointer (some ⟨b, 0, none⟩)), (8, .slice (some ⟨bl, 0, none⟩) 1 1), (9, zv 1), (10, zv (z.1 : Int))])
    (fun z => bldE 152 b z.2.1 z.2.2.1 z.2.2.2 (if z.1 = 0 then ys else ys ++ (strN n).data.toList) (A.blk bl [zv (n : Int)] 3 :: H)) (fun z => z.1 ≤ 1 ∧ (z.2.1 = none ∨ z.2.1 = some ⟨b, 0, none⟩) ∧ (z.1 = 1 → z.2.1 = some ⟨b, 0, none⟩)) (fun z => 1 - z.1) (0, p, a, c) ⟨Nat.zero_le _, hp, fun h => (by cases h)⟩ esA
    (Hs.refl _) ?_
  rintro ⟨j, p', a', c'⟩ ⟨hj, hp', hp1⟩
  dsimp only at hj hp' hp1 ⊢
  by_cases h0 : j = 0
  · subst h0
    rw [if_pos rfl]
    refine hwF3 ?_
    refine HL.one (H1.callx (vs := [zv (n : Int)]) rfl rfl (fun w' _ => putInt_fn n (by omega) w') ?_)
    refine hwF3 ?_
    refine HL.one (H1.callk (α := Option Addr × Nat) (V := fun _ => .tuple #[zv ((strN n).size : Int), .nilIface]) (I := fun _ => True) (H' := fun q => bldE 152 b (some ⟨b, 0, none⟩) q.1 q.2 (ys ++ (strN n).data.toList) (A.blk bl [zv (n : Int)] 3 :: H)) (vs := [.pointer (some ⟨b, 0, none⟩), .string (strN n)]) rfl rfl
      (fun w' hM => writeStringE_fn (strN n) hM hp' (by omega)) ?_)
    rintro ⟨a2, c2⟩ -
    refine hwF3 ?_
    exact HX.again (1, some ⟨b, 0, none⟩, a2, c2) ⟨Nat.le_refl _, .inr rfl, fun _ => rfl⟩ (by show 1 - 1 < 1 - 0; decide) esA (Hs.refl _)
  · obtain rfl : j = 1 := by omega
    obtain rfl := hp1 rfl
    rw [if_neg (by decide)]
    refine hwF3 ?_
    exact HX.end0 rfl fun w' hM => ⟨(a', c'), trivial, rfl, hM.sub (Hs.cons Pick.here (Hs.cons Pick.here (Hs.refl _).skip))⟩
theorem ctext_fn {w0 w : World} {H : List Atom} {b c : Nat} {p a : Option Addr} {ys : List UInt8} (s : ByteArray) (hs : s.size ≤ 1000) (hM : Mm w0 (bldE 152 b p a c ys H) w) (hp : p = none ∨ p = some ⟨b, 0, none⟩) (hlen : ys.length ≤ 900000) :
    Fn Tryz.prog 121 #[.pointer (some ⟨b, 0, none⟩), .string s] w fun v w' => ∃ q : Option Addr × Nat, True ∧ v = .tuple #[] ∧ Mm w0 (bldE 152 b (some ⟨b, 0, none⟩) q.1 q.2 (ys ++ (strN s.size ++ s).data.toList) H) w' := by
  have hsz := strN_size (n := s.size) (by omega)
  have hsz2 : (strN s.size ++ s).size = (strN s.size).size + s.size := ByteArray.size_append
  refine enterK (l := [_, _]) hM rfl Tryz.ntmps121 rfl ?_
  refine hwF3 ?_
  refine HL.one (H1.callx (vs := [.string s]) rfl rfl (fun w' _ => putString_fn s (by omega) w') ?_)
  refine hwF3 ?_
  refine HL.one (H1.callk (α := Option Addr × Nat) (V := fun _ => .tuple #[zv ((strN s.size ++ s).size : Int), .nilIface]) (I := fun _ => True) (H' := fun q => bldE 152 b (some ⟨b, 0, none⟩) q.1 q.2 (ys ++ (strN s.size ++ s).data.toList) H) (vs := [.pointer (some ⟨b, 0, none⟩), .string (strN s.size ++ s)]) rfl rfl
    (fun w' hM => writeStringE_fn (strN s.size ++ s) hM hp (by omega)) ?_)
  rintro ⟨a2, c2⟩ -
  refine hwF3 ?_
  exact HX.end0 rfl fun w' hM => ⟨(a2, c2), trivial, rfl, hM⟩
def xpS1 : List UInt8 := [] ++ (strN 1).data.toList
def xpS2 : List UInt8 := xpS1 ++ (strN xpAb.size ++ xpAb).data.toList
set_option maxHeartbeats 2000000 in
theorem prop1_fn {w0 w : World} {H : List Atom} {b : Nat} (vl vc : Value) (hlv : vl.oneCell' = true) (hcv : vc.oneCell' = true) (hRl : ∀ w', Ext w0 w' → RdK w' vl 1 2 fun i => lnC (xpL i)) (hM : Mm w0 (bldE 152 b none none 0 [] H) w) :
    Fn Tryz.prog 119 #[.agg #[vl, vc, zv 0, .string ⟨#[]⟩], .pointer (some ⟨b, 0, none⟩)] w fun v w' => ∃ q : Option Addr × Nat, True ∧ v = .tuple #[] ∧ Mm w0 (bldE 152 b (some ⟨b, 0, none⟩) q.1 q.2 xpS2 H) w' := by
  obtain ⟨al, cl, rfl, -, -⟩ := id (hRl w0 (Ext.refl _))
  obtain ⟨bl0, offl, rfl, hb⟩ := (hRl w0 (Ext.refl _)).cell (show 0 < 1 by decide)
  have hx := hb 0 (by decide)
  have hl1 : xpS1.length ≤ 1000 := by decide +kernel
  refine enterK (l := [_, _]) hM rfl Tryz.ntmps119 rfl ?_
  refine hwF3 ?_
  refine HL.one (H1.boxAgg (cs := [.slice (some ⟨bl0, offl, none⟩) 1 cl, vc, zv 0, .string ⟨#[]⟩]) rfl rfl (fun b2 => ?_))
  refine hwF3 ?_
  refine HL.one (H1.lit (cs := [zv 1]) rfl rfl rfl rfl rfl rfl (fun b8 => ?_))
  refine hwF3 ?_
  refine HL.one (H1.callk (α := Option Addr × Nat) (V := fun _ => .tuple #[]) (I := fun _ => True) (H' := fun q => bldE 152 b (some ⟨b, 0, none⟩) q.1 q.2 xpS1 (A.blk b2 [.slice (some ⟨bl0, offl, none⟩) 1 cl, vc, zv 0, .string ⟨#[]⟩] 140 :: H)) (vs := [.pointer (some ⟨b, 0, none⟩), .slice (some ⟨b8, 0, none⟩) 1 1]) rfl rfl
    (fun w' hM => cnumbers_fn (p := none) (a := none) (c := 0) (ys := []) 1 (by decide) (hM.sub (Hs.cons (Pick.there (Pick.there Pick.here)) (Hs.cons (Pick.there (Pick.there Pick.here)) (Hs.cons Pick.here (Hs.cons Pick.here (Hs.refl _)))))) (.inl rfl) (by decide)) ?_)
  rintro ⟨a2, c2⟩ -
  dsimp only
  refine hwF3 ?_
  refine HC.loop (α := Nat × Option Addr × Nat) (fun z => [(1, .pointer (some ⟨b, 0, none⟩)), (15, .slice (some ⟨bl0, offl, none⟩) 1 cl), (16, zv 1), (17, zv (z.1 : Int))])
    (fun z => bldE 152 b (some ⟨b, 0, none⟩) z.2.1 z.2.2 (if z.1 = 0 then xpS1 else xpS2) (A.blk b2 [.slice (some ⟨bl0, offl, none⟩) 1 cl, vc, zv 0, .string ⟨#[]⟩] 140 :: H)) (fun z => z.1 ≤ 1) (fun z => 1 - z.1) (0, a2, c2) (Nat.zero_le _) esA (Hs.refl _) ?_
  rintro ⟨j, a', c'⟩ hj
  dsimp only at hj ⊢
  by_cases h0 : j = 0
  · subst h0
    rw [if_pos rfl]
    refine hwF3 ?_
    refine HL.one (H1.ldAggw (b := bl0) (off := offl + 0 * 2) (vs := lnC (xpL 0)) rfl rfl (fun w' hM i u hu => cell_ext hM.ext (hx i u hu)) rfl ?_)
    refine hwF3 ?_
    refine HL.one (H1.alloc (cs := [.string ⟨#[]⟩, zv 0]) rfl rfl (fun b5 => ?_))
    refine hwF3 ?_
    refine HL.one (H1.stAgg (b := b5) (cs := [.string ⟨#[]⟩, zv 0]) (vs := [.string xpAb, zv 2]) rfl rfl rfl (by intro v hv; simp only [List.mem_cons, List.not_mem_nil, or_false] at hv; rcases hv with rfl | rfl <;> rfl) rplA rfl ?_)
    refine hwF3 ?_
    refine HL.one (H1.callk (α := Option Addr × Nat) (V := fun _ => .tuple #[]) (I := fun _ => True) (H' := fun q => bldE 152 b (some ⟨b, 0, none⟩) q.1 q.2 xpS2 (A.blk b2 [.slice (some ⟨bl0, offl, none⟩) 1 cl, vc, zv 0, .string ⟨#[]⟩] 140 :: H)) (vs := [.pointer (some ⟨b, 0, none⟩), .string xpAb]) rfl rfl
      (fun w' hM => ctext_fn xpAb (by decide) (hM.sub (Hs.cons (Pick.there Pick.here) (Hs.cons (Pick.there Pick.here) (Hs.cons (Pick.there Pick.here) (Hs.refl _).skip)))) (.inr rfl) (by omega)) ?_)
    rintro ⟨a3, c3⟩ -
    refine hwF3 ?_
    exact HX.again (1, a3, c3) (Nat.le_refl _) (by show 1 - 1 < 1 - 0; decide) esA (Hs.refl _)
  · obtain rfl : j = 1 := by omega
    rw [if_neg (by decide)]
    refine hwF3 ?_
    exact HX.end0 rfl fun w' hM => ⟨(a', c'), trivial, rfl, hM.sub (Hs.cons Pick.here (Hs.cons Pick.here (Hs.refl _).skip))⟩
theorem xpS2_eq : (⟨xpS2.toArray⟩ : ByteArray) = ⟨#[2, 4, 65, 98]⟩ := by decide +kernel
def propL : List (Int × Value) := [(1, .func (.func 119) #[] #[]), (2, .func (.func 122) #[] #[]), (3, .func (.func 123) #[] #[]), (4, .func (.func 125) #[] #[]), (5, .func (.func 126) #[] #[]), (6, .func (.func 127) #[] #[]), (7, .func (.func 129) #[] #[]), (8, .func (.func 130) #[] #[])]
theorem props_fn (w : World) : Fn Tryz.prog 67 #[] w fun v w' => ∃ b : Nat, True ∧ v = .map (some b) ∧ Mm w [A.mq b .i64 propL] w' := by
  refine enterH (l := []) rfl Tryz.ntmps67 rfl ?_
  refine hwF3 ?_
  refine HL.one (H1.mkmq .i64 rfl (fun bm => ?_))
  refine hwF3 ?_
  refine HL.one (H1.mqins (H' := [A.mq bm .i64 [(1, .func (.func 119) #[] #[])]]) rfl rfl rfl Rpl.here ?_)
  refine hwF3 ?_
  refine HL.one (H1.mqins (H' := [A.mq bm .i64 [(1, .func (.func 119) #[] #[]), (2, .func (.func 122) #[] #[])]]) rfl rfl rfl Rpl.here ?_)
  refine hwF3 ?_
  refine HL.one (H1.mqins (H' := [A.mq bm .i64 [(1, .func (.func 119) #[] #[]), (2, .func (.func 122) #[] #[]), (3, .func (.func 123) #[] #[])]]) rfl rfl rfl Rpl.here ?_)
  refine hwF3 ?_
  refine HL.one (H1.mqins (H' := [A.mq bm .i64 [(1, .func (.func 119) #[] #[]), (2, .func (.func 122) #[] #[]), (3, .func (.func 123) #[] #[]), (4, .func (.func 125) #[] #[])]]) rfl rfl rfl Rpl.here ?_)
  refine hwF3 ?_
  refine HL.one (H1.mqins (H' := [A.mq bm .i64 [(1, .func (.func 119) #[] #[]), (2, .func (.func 122) #[] #[]), (3, .func (.func 123) #[] #[]), (4, .func (.func 125) #[] #[]), (5, .func (.func 126) #[] #[])]]) rfl rfl rfl Rpl.here ?_)
  refine hwF3 ?_
  refine HL.one (H1.mqins (H' := [A.mq bm .i64 [(1, .func (.func 119) #[] #[]), (2, .func (.func 122) #[] #[]), (3, .func (.func 123) #[] #[]), (4, .func (.func 125) #[] #[]), (5, .func (.func 126) #[] #[]), (6, .func (.func 127) #[] #[])]]) rfl rfl rfl Rpl.here ?_)
  refine hwF3 ?_
  refine HL.one (H1.mqins (H' := [A.mq bm .i64 [(1, .func (.func 119) #[] #[]), (2, .func (.func 122) #[] #[]), (3, .func (.func 123) #[] #[]), (4, .func (.func 125) #[] #[]), (5, .func (.func 126) #[] #[]), (6, .func (.func 127) #[] #[]), (7, .func (.func 129) #[] #[])]]) rfl rfl rfl Rpl.here ?_)
  refine hwF3 ?_
  refine HL.one (H1.mqins (H' := [A.mq bm .i64 [(1, .func (.func 119) #[] #[]), (2, .func (.func 122) #[] #[]), (3, .func (.func 123) #[] #[]), (4, .func (.func 125) #[] #[]), (5, .func (.func 126) #[] #[]), (6, .func (.func 127) #[] #[]), (7, .func (.func 129) #[] #[]), (8, .func (.func 130) #[] #[])]]) rfl rfl rfl Rpl.here ?_)
  refine hwF3 ?_
  exact HX.ret1 rfl rfl fun w' hM => ⟨bm, trivial, rfl, hM⟩
end Go.Sx
/- content.Property at the fixed example: the walk, whole. -/
namespace Go.Sx
open Go Go.Proofs Go.RowKit
theorem hwF4 {G G2 : Prop} (x : G2) (hwq : Hold G2 → G := by
    intro hQq
    repeat' (first | refine HL.pa ?_ (POp.nilCheck rfl) | apply HL.fold | apply HA.fold | apply HL.nil | apply HX.n_then | apply HC.seq | apply HC.region | refine HL.pa ?_ | refine HL.ga rfl ?_ | refine HL.na rfl ?_ | refine HL.nu rfl rfl ?_ | apply HC.block | apply HC.skip | apply HC.exit | apply HC.ret | apply HX.e_block | refine HX.e_other rfl ?_ | apply HX.e_then | apply HX.e_again | apply HX.n_block | apply HX.r_then | apply HX.r_block | apply HX.r_again | refine HC.cond_yes rfl ?_ | refine HC.cond_no rfl ?_ | refine HL.one (H1.ldb rfl memA rfl rfl ?_) | refine HC.cond rfl (fun hc => ?_) (fun hc => ?_) | refine HC.cond_b rfl (fun hc => ?_) (fun hc => ?_))
    exact hQq.get) : G := hwq ⟨x⟩
attribute [local irreducible] WC WL WX POp Then Again Fn NX W1 WA WO QL RP RA Yld LoopAt HC HL HX HN H1 HA HO HQ HB HP A.blk A.grow A.rd A.obj A.mp AgainH CutH
attribute [local irreducible] A.mq A.mit
set_option maxHeartbeats 2000000 in
theorem cprop_fn (vl vc : Value) (w : World) (hRl : RdK w vl 1 2 fun i => lnC (xpL i)) (hRc : RdK w vc 3 6 fun i => clC (xpC i)) :
    Fn Tryz.prog 24 #[.agg #[vl, vc, zv 0, .string ⟨#[]⟩], zv 1] w fun u w' => u = .tuple #[.string ⟨#[2, 4, 65, 98]⟩, zv 0] ∧ Ext w w' := by
  obtain ⟨al, cl, rfl, -, -⟩ := id hRl
  obtain ⟨ac, cc, rfl, -, -⟩ := id hRc
  have hne : xpS2 ≠ [] := by decide +kernel
  refine enterH (l := [_, _]) rfl Tryz.ntmps24 rfl ?_
  refine hwF4 ?_
  refine HL.one (H1.boxAgg (cs := [.slice al 1 cl, .slice ac 3 cc, zv 0, .string ⟨#[]⟩]) rfl rfl (fun b2 => ?_))
  refine hwF4 ?_
  refine HL.one (H1.callz (vs := []) rfl rfl (fun w' _ => props_fn w') ?_)
  rintro bm -
  refine hwF4 ?_
  refine HL.one (H1.mqyes (b := bm) (l := propL) (q := .i64) rfl rfl memA (v := .func (.func 119) #[] #[]) rfl rfl ?_)
  refine hwF4 ?_
  refine HL.one (H1.ldAgg (b := b2) (vs := [.slice al 1 cl, .slice ac 3 cc, zv 0, .string ⟨#[]⟩]) rfl memA rfl (fun i v hv => by rw [Nat.zero_add]; exact hv) rfl ?_)
  refine hwF4 ?_
  refine HL.one (H1.callx (vs := [_]) rfl rfl (fun w' hM => cvalid_fn (by decide) (by decide) (fun i _ => xpL_ok i) (fun i _ => xpC_ok i) xpC_asc w' (hRl.ext hM.ext) (hRc.ext hM.ext)) ?_)
  refine hwF4 ?_
  refine HL.build (parts := []) (pv := []) (cs := [.pointer none, .slice none 0 0]) rfl rfl rfl ?_
  refine hwF4 ?_
  refine HL.one (H1.boxAgg (cs := [.pointer none, .slice none 0 0]) rfl rfl (fun b8 => ?_))
  refine hwF4 ?_
  refine HL.one (H1.ldAgg (b := b2) (vs := [.slice al 1 cl, .slice ac 3 cc, zv 0, .string ⟨#[]⟩]) rfl memA rfl (fun i v hv => by rw [Nat.zero_add]; exact hv) rfl ?_)
  refine hwF4 ?_
  refine HL.build (cs := [.slice al 1 cl, .slice ac 3 cc, zv 0, .string ⟨#[]⟩]) rfl rfl rfl ?_
  refine hwF4 ?_
  refine HL.one (H1.callvk (α := Option Addr × Nat) (V := fun _ => .tuple #[]) (I := fun _ => True) (H' := fun q => bldE 152 b8 (some ⟨b8, 0, none⟩) q.1 q.2 xpS2 []) (cap := []) (vs := [.agg #[.slice al 1 cl, .slice ac 3 cc, zv 0, .string ⟨#[]⟩], .pointer (some ⟨b8, 0, none⟩)]) rfl rfl rfl
    (fun w' hM => prop1_fn (.slice al 1 cl) (.slice ac 3 cc) rfl rfl (fun w2 hx => hRl.ext hx) ((hM.grow0 5 1).sub (by repeat (first | exact Hs.nil _ | (refine Hs.cons pickA ?_))))) ?_)
  rintro ⟨a2, c2⟩ -
  dsimp only
  refine hwF4 ?_
  refine HL.one (H1.callk (α := Unit) (V := fun _ => .string ⟨xpS2.toArray⟩) (I := fun _ => True) (H' := fun _ => []) (vs := [.pointer (some ⟨b8, 0, none⟩)]) rfl rfl (fun w' hM => (builderStringE_fn hM hne).mono fun v w'' h => ⟨(), trivial, h.1, h.2⟩) ?_)
  rintro - -
  rw [xpS2_eq]
  refine hwF4 ?_
  exact HX.ret2 rfl rfl rfl fun w' hM => ⟨rfl, hM.ext⟩
end Go.Sx
/- abstraction.Apply at the fixed example of the top laws: the layer, and the small functions. -/
namespace Go.Sx
open Go Go.Proofs Go.RowKit
theorem hwF5 {G G2 : Prop} (x : G2) (hwq : Hold G2 → G := by
    intro hQq
    repeat' (first | refine HL.pa ?_ (POp.nilCheck rfl) | apply HL.fold | apply HA.fold | apply HL.nil | apply HX.n_then | apply HC.seq | apply HC.region | refine HL.pa ?_ | refine HL.ga rfl ?_ | refine HL.na rfl ?_ | refine HL.nu rfl rfl ?_ | apply HC.block | apply HC.skip | apply HC.exit | apply HC.ret | apply HX.e_block | refine HX.e_other rfl ?_ | apply HX.e_then | apply HX.e_again | apply HX.n_block | apply HX.r_then | apply HX.r_block | apply HX.r_again | refine HC.cond_yes rfl ?_ | refine HC.cond_no rfl ?_ | refine HL.one (H1.ldb rfl memA rfl rfl ?_) | refine HC.cond rfl (fun hc => ?_) (fun hc => ?_) | refine HC.cond_b rfl (fun hc => ?_) (fun hc => ?_))
    exact hQq.get) : G := hwq ⟨x⟩
section
variable {P : Program} {r : Option Nat} {N : Nat} {ds : List Deferred} {ol rest : List Oper} {Q : Post} {E : Env} {w0 : World} {H : List Atom}
/-- A function is deferred with its arguments. -/
theorem HL.deferA {f : FuncId} {args : List Operand} {ats : Array TypeId} {ty : TypeId} {pos : String} {af : Array Edge} {vs : List Value} (ha : Env.evs E args = some vs) (h : HL P none N ({ target := .fn (.func f) #[], args := vs.toArray } :: ds) ol rest Q E w0 H) :
    HL P none N ds ol (⟨none, .defer ⟨.value (.func f), args.toArray, ats⟩, ty, pos, af, none⟩ :: rest) Q E w0 H := fun w hM a hr => by
  refine wpListIn_plain rfl (fun K hK => ?_)
  refine ⟨fun _ _ => trivial, ?_⟩
  have hm : Array.map a.eval args.toArray = vs.toArray := by simp [hr.evs ha]
  have hrun : (execOp a.eval ⟨none, .defer ⟨.value (.func f), args.toArray, ats⟩, ty, pos, af, none⟩).run P w = .ok (.defer { target := .fn (.func f) #[], args := vs.toArray }) w := by
    simp [execOp, resolve, hm, Act.eval, Deferred.ofValue]
  show Oper.uponIn _ _ _ _ _ _ _ ((Oper.semAt none a.eval _).run P w)
  rw [Oper.semAt_none, hrun]
  refine hK _ _ (h w hM _ ⟨hr.size, ?_, hr.get⟩)
  show _ :: a.defers = _
  rw [hr.defers]
theorem leaves_oneA {fn : Func} {f : FuncId} {vs : List Value} {u u' : FrameMode} {w : World} {tmps : Array Value} {R : Ending → World → Prop} {R' : World → Prop} [hf : CallOk P f] (hu : u ≠ .run) (hs : settle u' = .returning) (hD : DFn P f vs.toArray u u' w R')
    (h : ∀ w', R' w' → ∃ v, (results fn tmps).run P w' = .ok v w' ∧ R (.returned v) w') : LeavesIn Fence.wide 0 P fn tmps R [{ target := .fn (.func f) #[], args := vs.toArray }] u w := by
  refine leavesIn_cons (f := f) (args := vs.toArray) hu (by simp [Fence.wide]) (by
    have : vs.toArray ++ (#[] : Array Value) = vs.toArray := by simp
    simp [invoke, hf.run]) (fun _ _ => trivial) (hD.mono ?_)
  rintro e v w' ⟨rfl, rfl, hR⟩
  dsimp only
  rw [hs]
  exact h w' hR
theorem HX.doorA {fn : Func} {f : FuncId} {vs : List Value} {u' : FrameMode} {R : Ending → World → Prop} {R' : World → World → Prop} [hf : CallOk P f] (hs : settle u' = .returning) (hD : ∀ w, Mm w0 H w → DFn P f vs.toArray .returning u' w (R' w))
    (h : ∀ w w', Mm w0 H w → R' w w' → ∀ a, Rep N [{ target := .fn (.func f) #[], args := vs.toArray }] E a → ∃ v, (results fn a.tmps).run P w' = .ok v w' ∧ R (.returned v) w') :
    HX N [{ target := .fn (.func f) #[], args := vs.toArray }] .ret (bodyPostDIn Fence.wide 0 P fn R) E w0 H := fun w hM a ha => by
  simp only [bodyPostDIn, ha.defers]
  exact leaves_oneA (by intro e; cases e) hs (hD w hM) fun w' hR => h w w' hM hR a ha
theorem res_cellsT {fn : Func} {a : Act} {w : World} {p q : Nat} {t1 t2 : TypeId} {b4 b5 : Nat} {v1 v2 : Value} [h1 : ATy P t1 false] [h2 : ATy P t2 false] (hr : fn.results = #[.cell p t1, .cell q t2]) (ha : Rep N ds E a)
    (e1 : Env.g E p = some (.pointer (some ⟨b4, 0, none⟩))) (e2 : Env.g E q = some (.pointer (some ⟨b5, 0, none⟩))) (c1 : w.cell? ⟨b4, 0, none⟩ = some v1) (c2 : w.cell? ⟨b5, 0, none⟩ = some v2) :
    (results fn a.tmps).run P w = .ok (.tuple #[v1, v2]) w := by
  have g1 : a.tmps[p]?.getD undef = .pointer (some ⟨b4, 0, none⟩) := by rw [ha.get _ _ e1]; rfl
  have g2 : a.tmps[q]?.getD undef = .pointer (some ⟨b5, 0, none⟩) := by rw [ha.get _ _ e2]; rfl
  have l1 : (loadVar t1 ⟨b4, 0, none⟩).run P w = .ok v1 w := by
    simp only [loadVar, Sem.run_bind, run_isAgg]
    simp [Result.andThen, c1]
  have l2 : (loadVar t2 ⟨b5, 0, none⟩).run P w = .ok v2 w := by
    simp only [loadVar, Sem.run_bind, run_isAgg]
    simp [Result.andThen, c2]
  simp [results, hr, g1, g2, asAddr, l1, l2]
theorem Rep.consT {a : Act} (h : Rep N ds E a) {k : Nat} {v : Value} (hk : a.tmps[k]? = some v) : Rep N ds ((k, v) :: E) a := by
  refine ⟨h.size, h.defers, fun t u ht => ?_⟩
  simp only [Env.g] at ht
  by_cases e : k = t
  · subst e
    rw [beq_same, cond_true] at ht
    rw [hk]; exact ht
  · rw [beq_ne e, cond_false] at ht
    exact h.get t u ht
theorem Rep.nilT {a : Act} (h : a.tmps.size = N) (hd : a.defers = []) : Rep N [] [] a := ⟨h, hd, fun t v h => by simp [Env.g] at h⟩
end
theorem POp.ifaceNil {N : Nat} {ds : List Deferred} {E : Env} {k : Nat} {t' ty : TypeId} (hx : Env.ev E (.tmp k) = some .nilIface) : POp Tryz.prog N ds E (.binOp .eql 20 (.tmp k) (.const .nilIface) t') ty (.bool true) :=
  POp.bin hx rfl (fun w => by kernel_rfl) fun w => by kernel_rfl
attribute [local irreducible] WC WL WX POp Then Again Fn NX W1 WA WO QL RP RA Yld LoopAt HC HL HX HN H1 HA HO HQ HB HP A.blk A.grow A.rd A.obj A.mp AgainH CutH
set_option maxHeartbeats 1000000 in
theorem caught_no {w : World} (b6 b7 : Nat) : DFn Tryz.prog 69 #[.pointer (some ⟨b6, 0, none⟩), .pointer (some ⟨b7, 0, none⟩)] .returning .returning w (fun w' => Ext w w') := by
  refine callsDIn_of_wpSIn Tryz.func69 rfl trivial fun c₀ cs hu => ?_
  apply wpSIn_seq
  apply wpSIn_region
  have hrec : recoverD (c₀ :: cs) = none := by simp [recoverD, hu]
  simp [wpOpsSIn, go_sem, hrec, Tryz.ntmps69, Exit.thenS, Region.wanted]
  have hc : c₀ = { c₀ with mode := .returning } := frame_same hu
  rw [hc]
  refine wpS_of_HC (N := 18) (E := [(7, .nilIface)]) (Mm.refl w) (Rep.consT (Rep.nilT (by simp) rfl) (by rfl)) ?_
  refine hwF5 ?_
  refine HL.pa ?_ (POp.ifaceNil rfl)
  refine hwF5 ?_
  exact HX.endS rfl fun w' hM => ⟨rfl, rfl, hM.ext⟩
theorem awithin_yes {n lo hi : Int} (h1 : lo ≤ n) (h2 : n ≤ hi) (w : World) : Fn Tryz.prog 131 #[zv n, zv lo, zv hi] w fun u w' => u = .bool true ∧ Ext w w' := by
  refine enterH (l := [_, _, _]) rfl Tryz.ntmps131 rfl ?_
  refine hwF5 ?_
  exact HX.ret1 rfl rfl fun w' hM => ⟨by rw [decide_eq_true h2], hM.ext⟩
theorem amust_yes (w : World) : Fn Tryz.prog 70 #[.bool true] w fun u w' => u = .tuple #[] ∧ Ext w w' := by
  refine enterH (l := [_]) rfl Tryz.ntmps70 rfl ?_
  refine hwF5 ?_
  exact HX.end0 rfl fun w' hM => ⟨rfl, hM.ext⟩
theorem anone_yes (w : World) : Fn Tryz.prog 138 #[zv 0] w fun u w' => u = .bool true ∧ Ext w w' := by
  refine enterH (l := [_]) rfl Tryz.ntmps138 rfl ?_
  refine hwF5 ?_
  exact HX.ret1 rfl rfl fun w' hM => ⟨rfl, hM.ext⟩
theorem each_fn (g : FuncId) (w : World) : Fn Tryz.prog 139 #[.func (.func g) #[] #[]] w fun u w' => ∃ b : Nat, True ∧ u = .func (.func 208) #[] #[.pointer (some ⟨b, 0, none⟩)] ∧ Mm w [A.blk b [.func (.func g) #[] #[]] 218] w' := by
  refine enterH (l := [_]) rfl Tryz.ntmps139 rfl ?_
  refine hwF5 ?_
  refine HL.one (H1.box rfl rfl rfl (fun b1 => ?_))
  refine hwF5 ?_
  exact HX.ret1 rfl rfl fun w' hM => ⟨b1, trivial, rfl, hM⟩
theorem index1_fn (b : Nat) (w : World) (hc : w.cell? ⟨b, 0, none⟩ = some (zv 1)) : Fn Tryz.prog 174 #[.slice (some ⟨b, 0, none⟩) 1 1, zv 1] w fun u w' => u = zv 0 ∧ Ext w w' := by
  refine enterH (l := [_, _]) rfl Tryz.ntmps174 rfl ?_
  refine hwF5 ?_
  refine HC.loop (α := Unit) (fun _ => [(0, .slice (some ⟨b, 0, none⟩) 1 1), (1, zv 1), (7, zv 1), (8, zv 0)]) (fun _ => []) (fun _ => True) (fun _ => 0) () trivial esA (by repeat (first | exact Hs.nil _ | (refine Hs.cons pickA ?_))) ?_
  rintro - -
  refine hwF5 ?_
  refine HL.one (H1.ld0 rfl hc rfl ?_)
  refine hwF5 ?_
  exact HX.ret1 rfl rfl fun w' hM => ⟨rfl, hM.ext⟩
theorem contains1_fn (b : Nat) (w : World) (hc : w.cell? ⟨b, 0, none⟩ = some (zv 1)) : Fn Tryz.prog 98 #[.slice (some ⟨b, 0, none⟩) 1 1, zv 1] w fun u w' => u = .bool true ∧ Ext w w' := by
  refine enterH (l := [_, _]) rfl Tryz.ntmps98 rfl ?_
  refine hwF5 ?_
  refine HL.one (H1.callx (vs := [_, _]) rfl rfl (fun w' hM => index1_fn b w' (cell_ext hM.ext hc)) ?_)
  refine hwF5 ?_
  exact HX.ret1 rfl rfl fun w' hM => ⟨rfl, hM.ext⟩
end Go.Sx
/- abstraction.kinds and abstraction.Valid at the fixed example: the walks. -/
namespace Go.Sx
open Go Go.Proofs Go.RowKit
theorem hwF6 {G G2 : Prop} (x : G2) (hwq : Hold G2 → G := by
    intro hQq
    repeat' (first | refine HL.pa ?_ (POp.nilCheck rfl) | apply HL.fold | apply HA.fold | apply HL.nil | apply HX.n_then | apply HC.seq | apply HC.region | refine HL.pa ?_ | refine HL.ga rfl ?_ | refine HL.na rfl ?_ | refine HL.nu rfl rfl ?_ | apply HC.block | apply HC.skip | apply HC.exit | apply HC.ret | apply HX.e_block | refine HX.e_other rfl ?_ | apply HX.e_then | apply HX.e_again | apply HX.n_block | apply HX.r_then | apply HX.r_block | apply HX.r_again | refine HC.cond_yes rfl ?_ | refine HC.cond_no rfl ?_ | refine HL.one (H1.ldb rfl memA rfl rfl ?_) | refine HC.cond rfl (fun hc => ?_) (fun hc => ?_) | refine HC.cond_b rfl (fun hc => ?_) (fun hc => ?_))
    exact hQq.get) : G := hwq ⟨x⟩
def kC (s e : Nat) (R : List Value) : List Value := .slice none 0 0 :: .nilFunc :: .nilFunc :: .slice (some ⟨s, 0, none⟩) 1 1 :: .func (.func 138) #[] #[] :: .func (.func 208) #[] #[.pointer (some ⟨e, 0, none⟩)] :: R
theorem kC_len {s e : Nat} {R : List Value} (h : R.length = 15) : (kC s e R).length = 21 := by simp [kC, h]
theorem kC_one {s e : Nat} {R : List Value} (h : ∀ v ∈ R, v.oneCell' = true) : ∀ v ∈ kC s e R, v.oneCell' = true := by
  intro v hv
  simp only [kC, List.mem_cons] at hv
  rcases hv with rfl | rfl | rfl | rfl | rfl | rfl | hv
  any_goals rfl
  exact h v hv
attribute [local irreducible] WC WL WX POp Then Again Fn NX W1 WA WO QL RP RA Yld LoopAt HC HL HX HN H1 HA HO HQ HB HP A.blk A.grow A.rd A.obj A.mp AgainH CutH
attribute [local irreducible] A.mq A.mit
set_option maxHeartbeats 4000000 in
theorem kinds_fn (w : World) : Fn Tryz.prog 73 #[] w fun u w' => ∃ z : Nat × Nat × List Value, (z.2.2.length = 15 ∧ ∀ v ∈ z.2.2, v.oneCell' = true) ∧ u = .agg (kC z.1 z.2.1 z.2.2).toArray ∧ Mm w [A.blk z.1 [zv 1] 3, A.blk z.2.1 [.func (.func 140) #[] #[]] 218] w' := by
  refine enterH (l := []) rfl Tryz.ntmps73 rfl ?_
  refine hwF6 ?_
  refine HL.one (H1.alloc (cs := [.slice none 0 0, .nilFunc, .nilFunc, .slice none 0 0, .nilFunc, .nilFunc, .slice none 0 0, .nilFunc, .nilFunc, .slice none 0 0, .nilFunc, .nilFunc, .slice none 0 0, .nilFunc, .nilFunc, .slice none 0 0, .nilFunc, .nilFunc, .slice none 0 0, .nilFunc, .nilFunc]) rfl rfl (fun b0 => ?_))
  refine hwF6 ?_
  refine HL.one (H1.lit (cs := [zv 1]) rfl rfl rfl rfl rfl rfl (fun s0 => ?_))
  refine hwF6 ?_
  refine HL.one (H1.callz (vs := [.func (.func 140) #[] #[]]) rfl rfl (fun w' _ => each_fn 140 w') ?_)
  rintro e0 -
  refine hwF6 ?_
  refine HL.build (cs := [.slice (some ⟨s0, 0, none⟩) 1 1, .func (.func 138) #[] #[], .func (.func 208) #[] #[.pointer (some ⟨e0, 0, none⟩)]]) rfl rfl rfl ?_
  refine hwF6 ?_
  refine HL.one (H1.lit (cs := [zv 1]) rfl rfl rfl rfl rfl rfl (fun s1 => ?_))
  refine hwF6 ?_
  refine HL.one (H1.callz (vs := [.func (.func 141) #[] #[]]) rfl rfl (fun w' _ => each_fn 141 w') ?_)
  rintro e1 -
  refine hwF6 ?_
  refine HL.build (cs := [.slice (some ⟨s1, 0, none⟩) 1 1, .func (.func 138) #[] #[], .func (.func 208) #[] #[.pointer (some ⟨e1, 0, none⟩)]]) rfl rfl rfl ?_
  refine hwF6 ?_
  refine HL.one (H1.lit (cs := [zv 3, zv 5]) rfl rfl rfl rfl rfl rfl (fun s2 => ?_))
  refine hwF6 ?_
  refine HL.one (H1.callz (vs := [.func (.func 143) #[] #[]]) rfl rfl (fun w' _ => each_fn 143 w') ?_)
  rintro e2 -
  refine hwF6 ?_
  refine HL.build (cs := [.slice (some ⟨s2, 0, none⟩) 2 2, .func (.func 142) #[] #[], .func (.func 208) #[] #[.pointer (some ⟨e2, 0, none⟩)]]) rfl rfl rfl ?_
  refine hwF6 ?_
  refine HL.one (H1.lit (cs := [zv 2]) rfl rfl rfl rfl rfl rfl (fun s3 => ?_))
  refine hwF6 ?_
  refine HL.one (H1.callz (vs := [.func (.func 145) #[] #[]]) rfl rfl (fun w' _ => each_fn 145 w') ?_)
  rintro e3 -
  refine hwF6 ?_
  refine HL.build (cs := [.slice (some ⟨s3, 0, none⟩) 1 1, .func (.func 144) #[] #[], .func (.func 208) #[] #[.pointer (some ⟨e3, 0, none⟩)]]) rfl rfl rfl ?_
  refine hwF6 ?_
  refine HL.one (H1.lit (cs := [zv 6, zv 7]) rfl rfl rfl rfl rfl rfl (fun s4 => ?_))
  refine hwF6 ?_
  refine HL.build (cs := [.slice (some ⟨s4, 0, none⟩) 2 2, .func (.func 138) #[] #[], .func (.func 146) #[] #[]]) rfl rfl rfl ?_
  refine hwF6 ?_
  refine HL.one (H1.lit (cs := [zv 1, zv 2, zv 3, zv 4, zv 5, zv 6, zv 7, zv 8]) rfl rfl rfl rfl rfl rfl (fun s5 => ?_))
  refine hwF6 ?_
  refine HL.build (cs := [.slice (some ⟨s5, 0, none⟩) 8 8, .func (.func 138) #[] #[], .func (.func 147) #[] #[]]) rfl rfl rfl ?_
  refine hwF6 ?_
  refine HL.build (cs := [.slice none 0 0, .nilFunc, .nilFunc, .slice (some ⟨s0, 0, none⟩) 1 1, .func (.func 138) #[] #[], .func (.func 208) #[] #[.pointer (some ⟨e0, 0, none⟩)], .slice (some ⟨s1, 0, none⟩) 1 1, .func (.func 138) #[] #[], .func (.func 208) #[] #[.pointer (some ⟨e1, 0, none⟩)], .slice (some ⟨s2, 0, none⟩) 2 2, .func (.func 142) #[] #[], .func (.func 208) #[] #[.pointer (some ⟨e2, 0, none⟩)], .slice (some ⟨s3, 0, none⟩) 1 1, .func (.func 144) #[] #[], .func (.func 208) #[] #[.pointer (some ⟨e3, 0, none⟩)], .slice (some ⟨s4, 0, none⟩) 2 2, .func (.func 138) #[] #[], .func (.func 146) #[] #[], .slice (some ⟨s5, 0, none⟩) 8 8, .func (.func 138) #[] #[], .func (.func 147) #[] #[]]) rfl rfl rfl ?_
  refine hwF6 ?_
  have h1 : ∀ v ∈ ([.slice (some ⟨s1, 0, none⟩) 1 1, .func (.func 138) #[] #[], .func (.func 208) #[] #[.pointer (some ⟨e1, 0, none⟩)], .slice (some ⟨s2, 0, none⟩) 2 2, .func (.func 142) #[] #[], .func (.func 208) #[] #[.pointer (some ⟨e2, 0, none⟩)], .slice (some ⟨s3, 0, none⟩) 1 1, .func (.func 144) #[] #[], .func (.func 208) #[] #[.pointer (some ⟨e3, 0, none⟩)], .slice (some ⟨s4, 0, none⟩) 2 2, .func (.func 138) #[] #[], .func (.func 146) #[] #[], .slice (some ⟨s5, 0, none⟩) 8 8, .func (.func 138) #[] #[], .func (.func 147) #[] #[]] : List Value), v.oneCell' = true := by
    intro v hv
    simp only [List.mem_cons, List.not_mem_nil, or_false] at hv
    rcases hv with rfl | rfl | rfl | rfl | rfl | rfl | rfl | rfl | rfl | rfl | rfl | rfl | rfl | rfl | rfl <;> rfl
  refine HL.one (H1.stAgg (b := b0) (cs := [.slice none 0 0, .nilFunc, .nilFunc, .slice none 0 0, .nilFunc, .nilFunc, .slice none 0 0, .nilFunc, .nilFunc, .slice none 0 0, .nilFunc, .nilFunc, .slice none 0 0, .nilFunc, .nilFunc, .slice none 0 0, .nilFunc, .nilFunc, .slice none 0 0, .nilFunc, .nilFunc]) (vs := kC s0 e0 [.slice (some ⟨s1, 0, none⟩) 1 1, .func (.func 138) #[] #[], .func (.func 208) #[] #[.pointer (some ⟨e1, 0, none⟩)], .slice (some ⟨s2, 0, none⟩) 2 2, .func (.func 142) #[] #[], .func (.func 208) #[] #[.pointer (some ⟨e2, 0, none⟩)], .slice (some ⟨s3, 0, none⟩) 1 1, .func (.func 144) #[] #[], .func (.func 208) #[] #[.pointer (some ⟨e3, 0, none⟩)], .slice (some ⟨s4, 0, none⟩) 2 2, .func (.func 138) #[] #[], .func (.func 146) #[] #[], .slice (some ⟨s5, 0, none⟩) 8 8, .func (.func 138) #[] #[], .func (.func 147) #[] #[]]) rfl rfl rfl (kC_one h1) rplA rfl ?_)
  refine hwF6 ?_
  exact HX.retc1 (b := b0) (cs := kC s0 e0 [.slice (some ⟨s1, 0, none⟩) 1 1, .func (.func 138) #[] #[], .func (.func 208) #[] #[.pointer (some ⟨e1, 0, none⟩)], .slice (some ⟨s2, 0, none⟩) 2 2, .func (.func 142) #[] #[], .func (.func 208) #[] #[.pointer (some ⟨e2, 0, none⟩)], .slice (some ⟨s3, 0, none⟩) 1 1, .func (.func 144) #[] #[], .func (.func 208) #[] #[.pointer (some ⟨e3, 0, none⟩)], .slice (some ⟨s4, 0, none⟩) 2 2, .func (.func 138) #[] #[], .func (.func 146) #[] #[], .slice (some ⟨s5, 0, none⟩) 8 8, .func (.func 138) #[] #[], .func (.func 147) #[] #[]]) rfl rfl memA rfl fun w' hM => ⟨(s0, e0, [.slice (some ⟨s1, 0, none⟩) 1 1, .func (.func 138) #[] #[], .func (.func 208) #[] #[.pointer (some ⟨e1, 0, none⟩)], .slice (some ⟨s2, 0, none⟩) 2 2, .func (.func 142) #[] #[], .func (.func 208) #[] #[.pointer (some ⟨e2, 0, none⟩)], .slice (some ⟨s3, 0, none⟩) 1 1, .func (.func 144) #[] #[], .func (.func 208) #[] #[.pointer (some ⟨e3, 0, none⟩)], .slice (some ⟨s4, 0, none⟩) 2 2, .func (.func 138) #[] #[], .func (.func 146) #[] #[], .slice (some ⟨s5, 0, none⟩) 8 8, .func (.func 138) #[] #[], .func (.func 147) #[] #[]]), ⟨rfl, h1⟩, rfl, hM.sub (by repeat (first | exact Hs.nil _ | (refine Hs.cons pickA ?_)))⟩
theorem avalid1_fn {s b5 b2 : Nat} (w : World) (h3 : w.cell? ⟨b5, 3, none⟩ = some (.slice (some ⟨s, 0, none⟩) 1 1)) (h4 : w.cell? ⟨b5, 4, none⟩ = some (.func (.func 138) #[] #[])) (h2 : w.cell? ⟨b2, 0, none⟩ = some (zv 1)) (hs : w.cell? ⟨s, 0, none⟩ = some (zv 1)) :
    Fn Tryz.prog 133 #[.agg #[zv 1, zv 0], .pointer (some ⟨b5, 0, none⟩), .pointer (some ⟨b2, 0, none⟩)] w fun u w' => u = .bool false ∧ Ext w w' := by
  refine enterH (l := [_, _, _]) rfl Tryz.ntmps133 rfl ?_
  refine hwF6 ?_
  refine HL.one (H1.boxAgg (cs := [zv 1, zv 0]) rfl rfl (fun b3 => ?_))
  refine hwF6 ?_
  refine HC.anyC ([(⟨b3, 0, none⟩, zv 1), (⟨b3, 1, none⟩, zv 0), (⟨b5, 3, none⟩, .slice (some ⟨s, 0, none⟩) 1 1), (⟨b5, 4, none⟩, .func (.func 138) #[] #[]), (⟨b2, 0, none⟩, zv 1)]) rfl ?_
  refine HB.pa 0 rfl ?_
  refine HB.ld 1 rfl rfl memD ?_
  refine HB.all (by repeat (first | exact Keep.nil | refine Keep.blk (by (repeat (first | exact List.Mem.head _ | apply List.Mem.tail)); done) rfl ?_ | refine Keep.grow (by (repeat (first | exact List.Mem.head _ | apply List.Mem.tail)); done) (by assumption) ?_ | refine Keep.base (by assumption) ?_)) [2] (by kernel_rfl) rfl ⟨⟨_, rfl, ?_⟩, trivial⟩
  refine HP.one ?_
  refine H1.callx (vs := [_, _, _]) rfl rfl (fun w' _ => awithin_yes (by decide) (by decide) w') ?_
  apply HB.fold
  refine HB.pa 3 rfl ?_
  refine HB.pa 4 rfl ?_
  first | refine HB.ga 5 rfl rfl ?_ | refine HB.na 5 rfl rfl ?_ | refine HB.nu 5 rfl rfl ?_
  refine HB.ldg 6 rfl rfl rfl memD ?_
  first | refine HB.ga 7 rfl rfl ?_ | refine HB.na 7 rfl rfl ?_ | refine HB.nu 7 rfl rfl ?_
  first | refine HB.ga 8 rfl rfl ?_ | refine HB.na 8 rfl rfl ?_ | refine HB.nu 8 rfl rfl ?_
  refine HB.ldg 9 rfl rfl rfl memD ?_
  refine HB.ldg 10 rfl rfl rfl memD ?_
  refine HB.all (by repeat (first | exact Keep.nil | refine Keep.blk (by (repeat (first | exact List.Mem.head _ | apply List.Mem.tail)); done) rfl ?_ | refine Keep.grow (by (repeat (first | exact List.Mem.head _ | apply List.Mem.tail)); done) (by assumption) ?_ | refine Keep.base (by assumption) ?_)) [11] (by kernel_rfl) rfl ⟨⟨_, rfl, ?_⟩, trivial⟩
  refine HP.one_a rfl ?_
  refine H1.callx (vs := [_, _]) rfl rfl (fun w' hM => contains1_fn s w' (cell_ext hM.ext hs)) ?_
  apply HB.fold
  first | refine HB.ga 12 rfl rfl ?_ | refine HB.na 12 rfl rfl ?_ | refine HB.nu 12 rfl rfl ?_
  refine HB.pa 13 rfl ?_
  refine HB.pa 14 rfl ?_
  first | refine HB.ga 15 rfl rfl ?_ | refine HB.na 15 rfl rfl ?_ | refine HB.nu 15 rfl rfl ?_
  refine HB.ldg 16 rfl rfl rfl memD ?_
  first | refine HB.ga 17 rfl rfl ?_ | refine HB.na 17 rfl rfl ?_ | refine HB.nu 17 rfl rfl ?_
  first | refine HB.ga 18 rfl rfl ?_ | refine HB.na 18 rfl rfl ?_ | refine HB.nu 18 rfl rfl ?_
  refine HB.ldg 19 rfl rfl rfl memD ?_
  first | refine HB.ga 20 rfl rfl ?_ | refine HB.na 20 rfl rfl ?_ | refine HB.nu 20 rfl rfl ?_
  refine HB.ldg 21 rfl rfl rfl memD ?_
  refine HB.all (by repeat (first | exact Keep.nil | refine Keep.blk (by (repeat (first | exact List.Mem.head _ | apply List.Mem.tail)); done) rfl ?_ | refine Keep.grow (by (repeat (first | exact List.Mem.head _ | apply List.Mem.tail)); done) (by assumption) ?_ | refine Keep.base (by assumption) ?_)) [22] (by kernel_rfl) rfl ⟨⟨_, rfl, ?_⟩, trivial⟩
  refine HP.one_a rfl ?_
  refine H1.callv0 (u := .bool true) (cap := []) (vs := [_]) rfl rfl rfl (fun w' _ => anone_yes w') ?_
  apply HB.fold
  first | refine HB.ga 23 rfl rfl ?_ | refine HB.na 23 rfl rfl ?_ | refine HB.nu 23 rfl rfl ?_
  refine HB.pa 24 rfl ?_
  refine HB.pa 25 rfl ?_
  refine HB.done (by repeat (first | exact Keep.nil | refine Keep.blk (by (repeat (first | exact List.Mem.head _ | apply List.Mem.tail)); done) rfl ?_ | refine Keep.grow (by (repeat (first | exact List.Mem.head _ | apply List.Mem.tail)); done) (by assumption) ?_ | refine Keep.base (by assumption) ?_)) (by kernel_rfl) ?_
  refine hwF6 ?_
  exact HX.ret1 rfl rfl fun w' hM => ⟨rfl, hM.ext⟩
set_option maxHeartbeats 1000000 in
theorem avalid_fn (v : Value) (w : World) (hR : RdK w v 1 2 fun _ => [zv 1, zv 0]) : Fn Tryz.prog 71 #[zv 1, v] w fun u w' => u = .bool true ∧ Ext w w' := by
  obtain ⟨av, cv, rfl, -, -⟩ := id hR
  refine enterH (l := [_, _]) rfl Tryz.ntmps71 rfl ?_
  refine hwF6 ?_
  refine HL.one (H1.box rfl rfl rfl (fun b2 => ?_))
  refine hwF6 ?_
  refine HL.one (H1.callz (vs := []) rfl rfl (fun w' _ => kinds_fn w') ?_)
  rintro ⟨s, e, R⟩ ⟨hR1, hR2⟩
  dsimp only at hR1 hR2 ⊢
  refine hwF6 ?_
  refine HL.one (H1.alloc (cs := [.slice none 0 0, .nilFunc, .nilFunc, .slice none 0 0, .nilFunc, .nilFunc, .slice none 0 0, .nilFunc, .nilFunc, .slice none 0 0, .nilFunc, .nilFunc, .slice none 0 0, .nilFunc, .nilFunc, .slice none 0 0, .nilFunc, .nilFunc, .slice none 0 0, .nilFunc, .nilFunc]) rfl rfl (fun b5 => ?_))
  refine hwF6 ?_
  refine HL.one (H1.stAgg (b := b5) (cs := [.slice none 0 0, .nilFunc, .nilFunc, .slice none 0 0, .nilFunc, .nilFunc, .slice none 0 0, .nilFunc, .nilFunc, .slice none 0 0, .nilFunc, .nilFunc, .slice none 0 0, .nilFunc, .nilFunc, .slice none 0 0, .nilFunc, .nilFunc, .slice none 0 0, .nilFunc, .nilFunc]) (vs := kC s e R) rfl rfl (kC_len hR1) (kC_one hR2) rplA (kC_len hR1) ?_)
  refine hwF6 ?_
  refine HL.one (H1.callx (vs := [_, _, _]) rfl rfl (fun w' _ => awithin_yes (by decide) (by decide) w') ?_)
  refine hwF6 ?_
  refine HL.one (H1.callx (u := .bool false) (vs := [.slice av 1 cv, .func (.func 133) #[] #[.pointer (some ⟨b5, 0, none⟩), .pointer (some ⟨b2, 0, none⟩)]]) rfl rfl (fun w' hM => (contSt_fn (p := fun _ => false) (by decide) (fun _ => rfl) w' (hR.ext hM.ext) ⟨_, [], [.pointer (some ⟨b5, 0, none⟩), .pointer (some ⟨b2, 0, none⟩)], rfl, inferInstance, fun w2 hx i hi => avalid1_fn (s := s) w2 (cell_ext hx ((hM.blk (b := b5) (cs := kC s e R) memA).cell (i := 3) rfl)) (cell_ext hx ((hM.blk (b := b5) (cs := kC s e R) memA).cell (i := 4) rfl)) (cell_ext hx ((hM.blk (b := b2) (cs := [zv 1]) memA).cell (i := 0) rfl)) (cell_ext hx ((hM.blk (b := s) (cs := [zv 1]) memA).cell (i := 0) rfl))⟩).mono fun u w'' h => ⟨h.1.trans (by rw [anyN_no fun _ _ => rfl]), h.2⟩) ?_)
  refine hwF6 ?_
  exact HX.ret1 rfl rfl fun w' hM => ⟨rfl, hM.ext⟩
end Go.Sx
