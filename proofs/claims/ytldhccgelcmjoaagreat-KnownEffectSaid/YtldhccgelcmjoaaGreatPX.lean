/- From a function's contract to a row's statement: arguments that are numbers, arrays of numbers, slices of arrays of numbers, records. -/
import Derived.Test.YtldhccgelcmjoaaGreatV0
import Derived.Test.YtldhccgelcmjoaaGreatRows
import Derived.ProofKit
import Derived.OpenShut
import Derived.LaidMore
import Derived.Lay
import Derived.SevenTiedAt
import Derived.Stop.Joined
import Derived.Deep.Onto
import Derived.Laws.IdiomArrays
import Derived.Test.YtldhccgelcmjoaaGreatRow
import Derived.Carry
namespace Go.Sx
open Go Go.ChangeShapes Go.WideShapes Go.ChangeAt Go.RowKit
section
variable {H : Type} {enc : TypeId × Value → H} {P : Program} {w : World} {b : Nat} {sp : Nat → Bool} {hd : Bool}
theorem args_cons {t : TypeId} {ts : List TypeId} {vs : List Value} {ds : List (DataW H)} {ps : List MemPlace} (h : DataW.TrodAll enc P w b sp hd (t :: ts) vs ds ps) :
    ∃ v vs' d ds' p q, vs = v :: vs' ∧ ds = d :: ds' ∧ ps = p ++ q ∧ DataW.Trod enc P w b sp hd t v d p ∧ DataW.TrodAll enc P w b sp hd ts vs' ds' q := by
  cases vs with
  | nil => exact h.elim
  | cons v vs =>
    cases ds with
    | nil => exact h.elim
    | cons d ds =>
      obtain ⟨p, q, h1, h2, h3⟩ := h
      exact ⟨v, vs, d, ds, p, q, rfl, rfl, h3, h1, h2⟩
theorem args_nil {vs : List Value} {ds : List (DataW H)} {ps : List MemPlace} (h : DataW.TrodAll enc P w b sp hd [] vs ds ps) : vs = [] ∧ ds = [] ∧ ps = [] := by
  cases vs with
  | cons v vs => exact h.elim
  | nil => cases ds with
    | cons d ds => exact h.elim
    | nil => exact ⟨rfl, rfl, h⟩
theorem trodAll_ext (hl : laidOutB P = true) {W W' : World} (hx : Below W.heap.size W W') : ∀ {ts : List TypeId} {vs : List Value} {ds : List (DataW H)} {ps : List MemPlace}, (ts.all fun t => P.readableRec t && decide (t < P.types.size)) = true →
    DataW.TrodAll enc P W 0 (fun _ => true) true ts vs ds ps → (∀ p ∈ ps, p.block < W.heap.size) → ∀ sp : Nat → Bool, (∀ p ∈ ps, sp p.block = true) → DataW.TrodAll enc P W' 0 sp true ts vs ds ps
  | [], [], [], _, _, h, _, _, _ => h
  | [], [], _ :: _, _, _, h, _, _, _ => h.elim
  | [], _ :: _, _, _, _, h, _, _, _ => h.elim
  | _ :: _, [], _, _, _, h, _, _, _ => h.elim
  | _ :: _, _ :: _, [], _, _, h, _, _, _ => h.elim
  | t :: ts, v :: vs, d :: ds, ps, ht, h, hlt, sp, hsp => by
    obtain ⟨p, q, h1, h2, rfl⟩ := h
    simp only [List.all_cons, Bool.and_eq_true, decide_eq_true_eq] at ht
    refine ⟨p, q, ?_, trodAll_ext hl hx ht.2 h2 (fun x hx => hlt x (by simp [hx])) sp (fun x hx => hsp x (by simp [hx])), rfl⟩
    exact WideElems.Trod_stays hl ht.1.1 ht.1.2 h1 (fun x hx' => hx.same (hlt x (by simp [hx']))) (fun x hx' => hsp x (by simp [hx']))
end
end Go.Sx
namespace Go.Sx
open Go Go.Proofs Go.ChangeShapes Go.WideShapes Go.ChangeAt Go.RowKit
theorem ints_rowK (f : Nat → Int) (n : Nat) : ints ((List.range n).map f) = row n fun q => zv (f q) := by
  unfold ints row
  rw [List.map_map]; rfl
/-- The call has laid new blocks, and turned no old one. -/
theorem post_ext {H : Type} {enc : TypeId × Value → H} {P : Program} {f : Func} {s : ChangeSpec} {apart fresh handsOn again : Bool} {W W' : World} {args : Array Value} {v : Value} {ds gs : List (DataW H)} {before pa pv : List MemPlace} (hx : Ext W W')
    (hW : DataW.Whole enc P f.params.toList s.vars apart W args.toList ds gs before)
    (hres : ∀ (b : Nat) (sp : Nat → Bool) (hd : Bool), DataW.TrodAll enc P W' b sp hd f.resultTypes.toList (v.resultList f.resultTypes.size) (s.fn H (ds ++ gs)).results [])
    (hargs : ∀ sp : Nat → Bool, (∀ p ∈ before, sp p.block = true) → DataW.TrodAll enc P W' 0 sp true f.params.toList args.toList (s.fn H (ds ++ gs)).args pa)
    (hvars : ∀ sp : Nat → Bool, (∀ p ∈ before, sp p.block = true) → DataW.TrodVars enc P W' sp s.vars (s.fn H (ds ++ gs)).vars pv)
    (hps : before = pa ++ pv)
    (hok : ∀ (j : Nat) (t : TypeId) (r : Value), f.resultTypes[j]? = some t → (v.resultList f.resultTypes.size)[j]? = some r → Value.okWide P W' .any 0 t r) :
    s.post enc P f apart fresh handsOn again W args v W' := by
  have hlt : ∀ p ∈ before, p.block < W.heap.size := fun p hp => hW.lt p hp
  have hold : ∀ p ∈ before, (fun b => decide (b < W.heap.size)) p.block = true := fun p hp => by simpa using hW.lt p hp
  refine ⟨ds, gs, before, [], pa, pv, hW, hres _ _ _, hargs _ hold, hvars _ hold, (World.keptBut_refl W _).congr hx.os hx.output hx.block, fun _ => ?_⟩
  obtain ⟨_, _, _, _, _, hz, hn⟩ := hW
  refine ⟨hok, _, _, ([] ++ pa) ++ pv, ⟨[] ++ pa, pv, trodAll_append (hargs _ (fun _ _ => rfl)) (hres _ _ _), hvars _ (fun _ _ => rfl), rfl, ?_, ?_⟩, ?_⟩
  · intro b off hp
    have hp' : MemPlace.cell b off ∈ before := by rw [hps]; simpa using hp
    rw [World.frozen?_of_block (hx.block b (hlt _ hp'))]
    exact hz b off hp'
  · intro ha
    have := hn ha
    rw [hps] at this
    simpa using this
  · intro p hp _
    rw [hps]
    simpa using hp
theorem i64_of {x : Int} (h : (Lit.int .i64 x).wf = true) : i64W x := by
  simp only [Lit.wf, Bool.and_eq_true, decide_eq_true_eq] at h
  have e1 : IntKind.i64.min = -9223372036854775808 := rfl
  have e2 : IntKind.i64.max = 9223372036854775807 := rfl
  rw [e1, e2] at h
  exact h
theorem ownK : ownKnob Tryz.prog.godebug = none := by kernel_rfl
section
variable {H : Type} {enc : TypeId × Value → H} {P : Program} {W : World} {r : Reach} {b0 b : Nat} {sp : Nat → Bool} {hd : Bool} {v : Value} {d : DataW H} {p : List MemPlace}
theorem okWide_arr {t e n : Nat} (ht : P.underlying t = some (.array n e)) (h : Value.okWide P W r b0 t v) : ∃ cs, v = .agg cs ∧ cs.size = P.cellsOf t := by
  simp only [Value.okWide, ht] at h
  obtain ⟨cs, h1, h2, _⟩ := h
  exact ⟨cs, h1, h2⟩
theorem spot_none {W : World} {a : Addr} {v : Value} (h : W.cell? a = some v) : a = ⟨a.block, a.off, none⟩ ∧ a.block < W.heap.size := by
  unfold World.cell? at h
  split at h
  · rename_i c e f hc
    split at h
    · cases h
    · rename_i hs
      refine ⟨?_, (Array.getElem?_eq_some_iff.1 hc).1⟩
      cases a with
      | mk b o s => cases s <;> simp_all
  · cases h
def cellInt (W : World) (a : Addr) : Int := match W.cell? a with | some (.int _ z) => z | _ => 0
/-- A slice of numbers. -/
theorem open_sl {t e : Nat} (ht : P.underlying t = some (.slice e)) (he : P.underlying e = some (.int .i64)) (hce : P.cellsOf e = 1) (hv : Value.okWide P W r b0 t v) (h : DataW.Trod enc P W b sp hd t v d p) :
    ∃ l : List Int, Rd W v (ints l) ∧ (∀ x ∈ l, i64W x) ∧ l.length ≤ 9223372036854775807 := by
  obtain ⟨fuel, hf⟩ := h
  obtain ⟨a, n, c, rfl⟩ := okWide_slice ht hv
  have hcells : (Value.slice a n c).cells.toList = [Value.slice a n c] := rfl
  rw [hcells] at hf
  rcases DataW.trod_slice ht hf with ⟨h0, -⟩ | ⟨a', len, cap, elems, rest, m, -, hcs, -, hb, hlc, hm, hlen, hel, -, -⟩
  · cases h0
    exact ⟨[], ⟨_, _, rfl, Nat.le_refl _, .inl rfl⟩, by simp, by simp⟩
  · cases hcs
    have hnm : n ≤ 9223372036854775807 := by simp only [maxLen] at hm; omega
    have key : ∀ q, q < n → ∃ z, W.cell? (a'.add q) = some (.int .i64 z) ∧ (Lit.int .i64 z).wf = true := fun q hq => by
      have h1 := hel q hq
      rw [hce, Nat.mul_one, List.getElem?_eq_getElem (by omega)] at h1
      cases hcs : W.cells? b (a'.add q) 1 with
      | none => rw [hcs] at h1; cases h1
      | some cs =>
        rw [hcs] at h1
        simp only [Option.bind_some] at h1
        obtain ⟨z, e1, -, wz⟩ := DataW.trod_int he h1
        have h3 := (World.cells?_some hcs).2.2 0 (by decide)
        refine ⟨z, ?_, wz⟩
        rw [show (a'.add q).add 0 = a'.add q by simp [Addr.add]] at h3
        rw [h3, e1]; rfl
    by_cases hn0 : n = 0
    · subst hn0
      exact ⟨[], ⟨_, _, rfl, Nat.zero_le _, .inl rfl⟩, by simp, by simp⟩
    · obtain ⟨z0, hz0, -⟩ := key 0 (by omega)
      rw [show a'.add 0 = a' by simp [Addr.add]] at hz0
      obtain ⟨ha, hblk⟩ := spot_none hz0
      have hadd : ∀ q, a'.add q = ⟨a'.block, a'.off + q, none⟩ := fun q => by rw [ha, add_lit]
      have hk : ∀ q, q < n → W.cell? ⟨a'.block, a'.off + q, none⟩ = some (zv (cellInt W ⟨a'.block, a'.off + q, none⟩)) ∧ i64W (cellInt W ⟨a'.block, a'.off + q, none⟩) := fun q hq => by
        obtain ⟨z, hz, wz⟩ := key q hq
        rw [hadd] at hz
        have : cellInt W ⟨a'.block, a'.off + q, none⟩ = z := by unfold cellInt; rw [hz]
        rw [this]
        exact ⟨hz, i64_of wz⟩
      refine ⟨(List.range n).map fun q => cellInt W ⟨a'.block, a'.off + q, none⟩, ⟨some a', c, by rw [ints_len]; simp, by rw [ints_len]; simpa using hlc, .inr ⟨a'.block, a'.off, congrArg some ha, hblk, fun i u hu => ?_⟩⟩, fun x hx => ?_, by simpa using hnm⟩
      · rw [ints_rowK] at hu
        have hi : i < n := by
          have := (List.getElem?_eq_some_iff.1 hu).1
          rwa [row_len] at this
        rw [row_get _ hi] at hu
        cases hu
        exact (hk i hi).1
      · obtain ⟨q, hq, rfl⟩ := List.mem_map.1 hx
        exact (hk q (List.mem_range.1 hq)).2

/-- All cells of a type are numbers. -/
def intCellsB (P : Program) : Nat → TypeId → Bool
  | 0, _ => false
  | n + 1, t => match P.underlying t with
    | some (.int .i64) => Nat.beq (P.cellsOf t) 1
    | some (.array k e) => intCellsB P n e && Nat.beq (P.cellsOf t) (k * P.cellsOf e) && Nat.ble 1 (P.cellsOf e)
    | some (.struct fs) => (fs.toList.all fun f => intCellsB P n f.type) && (List.range (P.cellsOf t)).all fun j => (List.range fs.size).any fun i => match fs[i]? with | some f => Nat.ble f.offset j && Nat.blt j (f.offset + P.cellsOf f.type) | none => false
    | _ => false
theorem intCells : ∀ (n : Nat) (t : TypeId) (cs : List Value) (fuel : Nat) (x : DataW H × List MemPlace), intCellsB P n t = true → DataW.trod enc P W b sp hd fuel t cs = some x → cs.length = P.cellsOf t ∧ ∀ j, j < cs.length → ∃ z, cs[j]? = some (zv z) ∧ i64W z := by
  intro n
  induction n with
  | zero => intro t cs fuel x h; cases h
  | succ n ih =>
    intro t cs fuel x h hf
    simp only [intCellsB] at h
    split at h
    · rename_i ht
      have h1 : P.cellsOf t = 1 := Nat.eq_of_beq_eq_true h
      obtain ⟨z, e, -, hw⟩ := DataW.trod_int ht hf
      subst e
      refine ⟨by rw [h1]; rfl, fun j hj => ?_⟩
      have : j = 0 := by simpa using hj
      subst this
      exact ⟨z, rfl, i64_of hw⟩
    · rename_i k e ht
      rw [Bool.and_eq_true, Bool.and_eq_true] at h
      obtain ⟨⟨h1, h2⟩, h3⟩ := h
      have h2' : P.cellsOf t = k * P.cellsOf e := Nat.eq_of_beq_eq_true h2
      have h3' : 1 ≤ P.cellsOf e := Nat.le_of_ble_eq_true h3
      obtain ⟨xs, m, -, -, hl, hxl, hel⟩ := DataW.trod_array ht hf
      refine ⟨hl, fun j hj => ?_⟩
      rw [h2'] at hl
      have hi : j / P.cellsOf e < k := by
        rw [Nat.div_lt_iff_lt_mul h3']; omega
      have h4 := hel (j / P.cellsOf e) hi
      rw [List.getElem?_eq_getElem (by omega)] at h4
      obtain ⟨hlen, hz⟩ := ih e _ _ _ h1 h4
      have hm := Nat.mod_lt j h3'
      obtain ⟨z, hz, hw⟩ := hz (j % P.cellsOf e) (by rw [hlen]; exact hm)
      refine ⟨z, ?_, hw⟩
      rw [List.getElem?_take, if_pos hm, List.getElem?_drop] at hz
      rw [← hz]
      congr 1
      have := Nat.div_add_mod j (P.cellsOf e)
      rw [Nat.mul_comm] at this
      omega
    · rename_i fs ht
      rw [Bool.and_eq_true, List.all_eq_true, List.all_eq_true] at h
      obtain ⟨h1, h2⟩ := h
      obtain ⟨xs, m, -, -, hl, hxl, hel⟩ := DataW.trod_struct ht hf
      refine ⟨hl, fun j hj => ?_⟩
      have h3 := h2 j (List.mem_range.2 (by omega))
      rw [List.any_eq_true] at h3
      obtain ⟨i, hi, h4⟩ := h3
      have hi' := List.mem_range.1 hi
      cases hfi : fs[i]? with
      | none => rw [hfi] at h4; cases h4
      | some f =>
        rw [hfi] at h4
        simp only [Bool.and_eq_true] at h4
        have h5 : f.offset ≤ j := Nat.le_of_ble_eq_true h4.1
        have h6 : j < f.offset + P.cellsOf f.type := by simpa [Nat.blt_eq] using h4.2
        have h7 := hel i f hfi
        rw [List.getElem?_eq_getElem (by omega)] at h7
        have hmem : f ∈ fs.toList := by
          rw [← Array.getElem?_toList] at hfi
          exact List.mem_of_getElem? hfi
        obtain ⟨hlen, hz⟩ := ih f.type _ _ _ (h1 f hmem) h7
        obtain ⟨z, hz, hw⟩ := hz (j - f.offset) (by rw [hlen]; omega)
        refine ⟨z, ?_, hw⟩
        rw [List.getElem?_take, if_pos (by omega), List.getElem?_drop, show f.offset + (j - f.offset) = j by omega] at hz
        exact hz
    · cases h
/-- A row of numbers. -/
theorem intRow {n : Nat} {t : TypeId} {cs : List Value} {fuel : Nat} {x : DataW H × List MemPlace} (h : intCellsB P n t = true) (hf : DataW.trod enc P W b sp hd fuel t cs = some x) : ∃ zs : List Int, cs = ints zs ∧ zs.length = P.cellsOf t ∧ ∀ z ∈ zs, i64W z := by
  obtain ⟨hl, hz⟩ := intCells n t cs fuel x h hf
  have hch : ∃ g : Nat → Int, ∀ j, j < cs.length → cs[j]? = some (zv (g j)) ∧ i64W (g j) := by
    refine ⟨fun j => if h : j < cs.length then Classical.choose (hz j h) else 0, fun j hj => ?_⟩
    simp only [dif_pos hj]
    exact Classical.choose_spec (hz j hj)
  obtain ⟨g, hg⟩ := hch
  refine ⟨(List.range cs.length).map g, ?_, by simpa using hl, fun z hz => ?_⟩
  · rw [ints_rowK]
    apply List.ext_getElem?
    intro j
    by_cases hj : j < cs.length
    · rw [(hg j hj).1, row_get _ hj]
    · rw [List.getElem?_eq_none (by omega), List.getElem?_eq_none (by rw [row_len]; omega)]
  · obtain ⟨j, hj, rfl⟩ := List.mem_map.1 hz
    exact (hg j (List.mem_range.1 hj)).2
/-- A slice of structs (or arrays) of numbers, read in place: one cell. -/
theorem sl_rows {t e n fuel sz : Nat} {x : DataW H × List MemPlace} (ht : P.underlying t = some (.slice e)) (he : intCellsB P n e = true) (hce : P.cellsOf e = sz) (hsz : 0 < sz) (hf : DataW.trod enc P W b sp hd fuel t [v] = some x) :
    ∃ rows : List (List Int), (∃ (a : Option Addr) (c : Nat), v = .slice a rows.length c ∧ rows.length ≤ c ∧ (rows = [] ∨ ∃ b off, a = some ⟨b, off, none⟩ ∧ b < W.heap.size ∧ ∀ i rw j u, (rows.map ints)[i]? = some rw → rw[j]? = some u → W.cell? ⟨b, off + i * sz + j, none⟩ = some u)) ∧ (∀ r ∈ rows, r.length = sz ∧ ∀ z ∈ r, i64W z) ∧ rows.length ≤ maxLen := by
  rcases DataW.trod_slice ht hf with ⟨h0, -⟩ | ⟨a', n', c, elems, rest, m, -, hcs, -, hb, hlc, hm, hlen, hel, -, -⟩
  · cases h0
    exact ⟨[], ⟨_, _, rfl, Nat.le_refl _, .inl rfl⟩, by simp, Nat.zero_le _⟩
  · cases hcs
    have key : ∀ q, q < n' → ∃ zs : List Int, zs.length = sz ∧ (∀ z ∈ zs, i64W z) ∧ ∀ j u, (ints zs)[j]? = some u → W.cell? ((a'.add (q * sz)).add j) = some u := fun q hq => by
      have h1 := hel q hq
      rw [hce, List.getElem?_eq_getElem (by omega)] at h1
      cases hcl : W.cells? b (a'.add (q * sz)) sz with
      | none => rw [hcl] at h1; cases h1
      | some cs =>
        rw [hcl] at h1
        simp only [Option.bind_some] at h1
        obtain ⟨-, h5, h6⟩ := World.cells?_some hcl
        obtain ⟨zs, rfl, hl, hz⟩ := intRow he h1
        refine ⟨zs, by rw [hl, hce], hz, fun j u hu => ?_⟩
        have hj : j < sz := by
          have := (List.getElem?_eq_some_iff.1 hu).1
          rw [ints_len, hl, hce] at this; exact this
        rw [h6 j hj]; exact hu
    by_cases hn0 : n' = 0
    · subst hn0
      exact ⟨[], ⟨_, _, rfl, Nat.zero_le _, .inl rfl⟩, by simp, Nat.zero_le _⟩
    · have hch : ∃ Z : Nat → List Int, ∀ q, q < n' → (Z q).length = sz ∧ (∀ z ∈ Z q, i64W z) ∧ ∀ j u, (ints (Z q))[j]? = some u → W.cell? ((a'.add (q * sz)).add j) = some u := by
        refine ⟨fun q => if h : q < n' then Classical.choose (key q h) else [], fun q hq => ?_⟩
        simp only [dif_pos hq]
        exact Classical.choose_spec (key q hq)
      obtain ⟨Z, hZ⟩ := hch
      have h0 := hZ 0 (by omega)
      have hz0 := h0.2.2 0 _ (ints_get (by rw [h0.1]; exact hsz))
      rw [Nat.zero_mul, show (a'.add 0).add 0 = a' by simp [Addr.add]] at hz0
      obtain ⟨ha, hblk⟩ := spot_none hz0
      have hadd : ∀ q j, (a'.add (q * sz)).add j = ⟨a'.block, a'.off + q * sz + j, none⟩ := fun q j => by rw [ha, add_lit, add_lit]
      refine ⟨(List.range n').map Z, ⟨some a', c, by simp, by simpa using hlc, .inr ⟨a'.block, a'.off, congrArg some ha, hblk, fun i rw' j u hi hu => ?_⟩⟩, fun r hr => ?_, by simpa using (by omega : n' ≤ maxLen)⟩
      · rw [List.getElem?_map, List.getElem?_map] at hi
        have hin : i < n' := by
          refine Classical.byContradiction fun hn => ?_
          rw [List.getElem?_eq_none (by rw [List.length_range]; omega)] at hi
          cases hi
        rw [List.getElem?_range hin] at hi
        simp only [Option.map_some, Option.some.injEq] at hi
        subst hi
        have := (hZ i hin).2.2 j u hu
        rwa [hadd] at this
      · obtain ⟨q, hq, rfl⟩ := List.mem_map.1 hr
        have := hZ q (List.mem_range.1 hq)
        exact ⟨this.1, this.2.1⟩
end
end Go.Sx
namespace Go.Sx
open Go Go.Proofs Go.ChangeShapes Go.WideShapes Go.ChangeAt Go.RowKit
section
variable {H : Type} {enc : TypeId × Value → H} {W : World} {r : Reach} {b0 b : Nat} {sp : Nat → Bool} {hd : Bool} {v : Value} {d : DataW H} {p : List MemPlace}
theorem agg_cells {t : TypeId} {P : Program} {n : Nat} (ha : ∃ cs, v = .agg cs ∧ cs.size = P.cellsOf t) (hn : P.cellsOf t = n) : ∃ l : List Value, v = .agg l.toArray ∧ l.length = n ∧ v.cells.toList = l := by
  obtain ⟨cs, rfl, h⟩ := ha
  exact ⟨cs.toList, by simp, by simp [h, hn], rfl⟩
theorem okWide_struct {P : Program} {t : TypeId} {fs : Array Field} (ht : P.underlying t = some (.struct fs)) (h : Value.okWide P W r b0 t v) : ∃ cs, v = .agg cs ∧ cs.size = P.cellsOf t := by
  simp only [Value.okWide, ht] at h
  obtain ⟨cs, h1, h2, _⟩ := h
  exact ⟨cs, h1, h2⟩
theorem open_intK {t : TypeId} {P : Program} (ht : P.underlying t = some (.int .i64)) (hv : Value.okWide P W r b0 t v) (h : DataW.Trod enc P W b sp hd t v d p) : ∃ x : Int, v = zv x ∧ i64W x := by
  obtain ⟨z, rfl⟩ := okWide_int ht hv
  obtain ⟨fuel, hf⟩ := h
  have hf' : DataW.trod enc P W b sp hd fuel t [.int .i64 z] = some (d, p) := hf
  obtain ⟨z', e, -, hw⟩ := DataW.trod_int ht hf'
  cases e
  exact ⟨z, rfl, i64_of hw⟩
theorem open_boolK {t : TypeId} {P : Program} (ht : P.underlying t = some .bool) (hv : Value.okWide P W r b0 t v) : ∃ x : Bool, v = .bool x := by
  exact okWide_bool ht hv
set_option maxRecDepth 100000 in
/-- An array of numbers. -/
theorem open_arrK {t e n k : TypeId} (ht : Tryz.prog.underlying t = some (.array n e)) (hc : Tryz.prog.cellsOf t = k) (hi : intCellsB Tryz.prog 3 t = true) (hv : Value.okWide Tryz.prog W r b0 t v) (h : DataW.Trod enc Tryz.prog W b sp hd t v d p) :
    ∃ l : List Int, v = .agg (ints l).toArray ∧ l.length = k ∧ ∀ z ∈ l, i64W z := by
  obtain ⟨l, rfl, hl, hc'⟩ := agg_cells (okWide_arr ht hv) hc
  obtain ⟨fuel, hf⟩ := h
  rw [hc'] at hf
  obtain ⟨zs, rfl, h1, h2⟩ := intRow hi hf
  exact ⟨zs, rfl, by rw [h1, hc], h2⟩
set_option maxRecDepth 100000 in
theorem open_rowsK {t e sz : TypeId} (ht : Tryz.prog.underlying t = some (.slice e)) (hi : intCellsB Tryz.prog 3 e = true) (hc : Tryz.prog.cellsOf e = sz) (hsz : 0 < sz) (hv : Value.okWide Tryz.prog W r b0 t v) (h : DataW.Trod enc Tryz.prog W b sp hd t v d p) :
    ∃ rows : List (List Int), RdA sz W v rows ∧ (∀ r ∈ rows, r.length = sz ∧ ∀ z ∈ r, i64W z) ∧ rows.length ≤ maxLen := by
  obtain ⟨fuel, hf⟩ := h
  obtain ⟨a, n, c, rfl⟩ := okWide_slice ht hv
  have hcells : (Value.slice a n c).cells.toList = [Value.slice a n c] := rfl
  rw [hcells] at hf
  exact sl_rows ht hi hc hsz hf
end
theorem three {y : List Int} (h : y.length = 3) : ∃ a b c, y = [a, b, c] := by
  match y, h with
  | [a, b, c], _ => exact ⟨a, b, c, rfl⟩
theorem two {y : List Int} (h : y.length = 2) : ∃ a b, y = [a, b] := by
  match y, h with
  | [a, b], _ => exact ⟨a, b, rfl⟩
end Go.Sx

