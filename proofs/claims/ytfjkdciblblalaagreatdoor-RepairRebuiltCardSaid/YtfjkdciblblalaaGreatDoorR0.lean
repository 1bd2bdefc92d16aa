/- Chapter 19: small functions; slices.IndexFunc, ContainsFunc, IsSorted at numbers. -/
import Derived.Test.YtfjkdciblblalaaGreatDoorHB
import Derived.Test.YtfjkdciblblalaaGreatDoorTy2
import Derived.Test.YtfjkdciblblalaaGreatDoorShelf
namespace Go.Sx
open Go Go.Proofs
attribute [local irreducible] WC WL WX POp Then Again Fn NX W1 WA WO QL RP RA Yld LoopAt HC HL HX HN H1 HA HO HQ A.blk A.grow A.rd A.obj AgainH CutH
instance : Mixed Tryz.prog := ⟨by kernel_rfl⟩
def idxI (p : Int → Bool) (l : List Int) : Int := match l.findIdx? p with | some i => (i : Int) | none => -1
theorem idxI_none {p : Int → Bool} {l : List Int} (h : ∀ x ∈ l, p x = false) : idxI p l = -1 := by
  unfold idxI
  rw [List.findIdx?_eq_none_iff.2 h]
theorem idxI_some {p : Int → Bool} {l : List Int} {i : Nat} (hi : i < l.length) (h1 : p (at' l i) = true) (h2 : ∀ j, j < i → p (at' l j) = false) : idxI p l = i := by
  unfold idxI
  have : l.findIdx? p = some i := by
    rw [List.findIdx?_eq_some_iff_getElem]
    refine ⟨hi, by simpa [at', hi] using h1, fun j hj => ?_⟩
    have := h2 j hj
    have hj' : j < l.length := by omega
    simpa [at', hj'] using this
  rw [this]
theorem idxI_any (p : Int → Bool) (l : List Int) : decide (0 ≤ idxI p l) = l.any p := by
  unfold idxI
  cases h : l.findIdx? p with
  | none =>
    have := List.findIdx?_eq_none_iff.1 h
    have e : l.any p = false := by
      rw [List.any_eq_false]; intro x hx; rw [this x hx]; simp
    rw [e]; simp
  | some i =>
    rw [List.findIdx?_eq_some_iff_getElem] at h
    obtain ⟨hi, h1, -⟩ := h
    have e : l.any p = true := List.any_eq_true.2 ⟨_, List.getElem_mem hi, h1⟩
    rw [e]; simp
theorem indexFunc_fn {gf : FuncId} [CallOk Tryz.prog gf] (cap : List Value) (p : Int → Bool) (v : Value) (l : List Int) (hl : l.length ≤ 1000000) (w : World) (hR : Rd w v (ints l))
    (hp : ∀ x ∈ l, ∀ w', Ext w w' → Fn Tryz.prog gf (zv x :: cap).toArray w' fun u w'' => u = .bool (p x) ∧ Ext w' w'') :
    Fn Tryz.prog 84 #[v, .func (.func gf) #[] cap.toArray] w fun u w' => u = .int .i64 (idxI p l) ∧ Ext w w' := by
  obtain ⟨a, c, rfl, hc⟩ := hR.isInts
  refine enterH (l := [_, _]) rfl (Tryz.ntmps84) rfl ?_
  repeat' (first | apply HL.fold | apply HA.fold | apply HL.nil | apply HX.n_then | apply HC.seq | apply HC.region | refine HL.pa ?_ | refine HL.ga rfl ?_ | refine HL.na rfl ?_ | refine HL.nu rfl rfl ?_ | apply HC.block | apply HC.skip | apply HC.exit | apply HC.ret | apply HX.e_block | refine HX.e_other rfl ?_ | apply HX.e_then | apply HX.e_again | apply HX.n_block | apply HX.r_then | apply HX.r_block | apply HX.r_again | refine HC.cond_yes rfl ?_ | refine HC.cond_no rfl ?_ | refine HL.one (H1.ldb rfl memA rfl rfl ?_) | refine HC.cond rfl (fun hc => ?_) (fun hc => ?_) | refine HC.cond_b rfl (fun hc => ?_) (fun hc => ?_))
  refine HC.loop (α := Nat) (fun i => [(0, .slice a l.length c), (1, .func (.func gf) #[] cap.toArray), (6, .slice a l.length c), (7, .int .i64 l.length), (8, .int .i64 (i : Int))]) (fun _ => []) (fun i => i ≤ l.length ∧ ∀ j, j < i → p (at' l j) = false)
    (fun i => l.length - i) 0 ⟨by omega, fun j hj => absurd hj (Nat.not_lt_zero j)⟩ esA (by repeat (first | exact Hs.nil _ | (refine Hs.cons pickA ?_))) ?_
  rintro i ⟨hi, hno⟩
  by_cases hlt : i < l.length
  · obtain ⟨b, off, rfl, -⟩ := hR.iat (by intro e; rw [e] at hlt; simp at hlt)
    cases hb : p (at' l i) with
    | true =>
      repeat' (first | apply HL.fold | apply HA.fold | apply HL.nil | apply HX.n_then | apply HC.seq | apply HC.region | refine HL.pa ?_ | refine HL.ga rfl ?_ | refine HL.na rfl ?_ | refine HL.nu rfl rfl ?_ | apply HC.block | apply HC.skip | apply HC.exit | apply HC.ret | apply HX.e_block | refine HX.e_other rfl ?_ | apply HX.e_then | apply HX.e_again | apply HX.n_block | apply HX.r_then | apply HX.r_block | apply HX.r_again | refine HC.cond_yes rfl ?_ | refine HC.cond_no rfl ?_ | refine HL.one (H1.ldb rfl memA rfl rfl ?_) | refine HC.cond rfl (fun hc => ?_) (fun hc => ?_) | refine HC.cond_b rfl (fun hc => ?_) (fun hc => ?_))
      refine HL.one (H1.ld0 rfl (hR.cell (ints_get hlt)) rfl ?_)
      repeat' (first | apply HL.fold | apply HA.fold | apply HL.nil | apply HX.n_then | apply HC.seq | apply HC.region | refine HL.pa ?_ | refine HL.ga rfl ?_ | refine HL.na rfl ?_ | refine HL.nu rfl rfl ?_ | apply HC.block | apply HC.skip | apply HC.exit | apply HC.ret | apply HX.e_block | refine HX.e_other rfl ?_ | apply HX.e_then | apply HX.e_again | apply HX.n_block | apply HX.r_then | apply HX.r_block | apply HX.r_again | refine HC.cond_yes rfl ?_ | refine HC.cond_no rfl ?_ | refine HL.one (H1.ldb rfl memA rfl rfl ?_) | refine HC.cond rfl (fun hc => ?_) (fun hc => ?_) | refine HC.cond_b rfl (fun hc => ?_) (fun hc => ?_))
      refine HL.one (H1.callv0 rfl rfl rfl (fun w' hM => hp (at' l i) (at_mem hlt) w' hM.ext) ?_)
      rw [hb]
      repeat' (first | apply HL.fold | apply HA.fold | apply HL.nil | apply HX.n_then | apply HC.seq | apply HC.region | refine HL.pa ?_ | refine HL.ga rfl ?_ | refine HL.na rfl ?_ | refine HL.nu rfl rfl ?_ | apply HC.block | apply HC.skip | apply HC.exit | apply HC.ret | apply HX.e_block | refine HX.e_other rfl ?_ | apply HX.e_then | apply HX.e_again | apply HX.n_block | apply HX.r_then | apply HX.r_block | apply HX.r_again | refine HC.cond_yes rfl ?_ | refine HC.cond_no rfl ?_ | refine HL.one (H1.ldb rfl memA rfl rfl ?_) | refine HC.cond rfl (fun hc => ?_) (fun hc => ?_) | refine HC.cond_b rfl (fun hc => ?_) (fun hc => ?_))
      exact HX.ret1 rfl rfl fun w' hM => ⟨by rw [idxI_some hlt hb hno], hM.ext⟩
    | false =>
      repeat' (first | apply HL.fold | apply HA.fold | apply HL.nil | apply HX.n_then | apply HC.seq | apply HC.region | refine HL.pa ?_ | refine HL.ga rfl ?_ | refine HL.na rfl ?_ | refine HL.nu rfl rfl ?_ | apply HC.block | apply HC.skip | apply HC.exit | apply HC.ret | apply HX.e_block | refine HX.e_other rfl ?_ | apply HX.e_then | apply HX.e_again | apply HX.n_block | apply HX.r_then | apply HX.r_block | apply HX.r_again | refine HC.cond_yes rfl ?_ | refine HC.cond_no rfl ?_ | refine HL.one (H1.ldb rfl memA rfl rfl ?_) | refine HC.cond rfl (fun hc => ?_) (fun hc => ?_) | refine HC.cond_b rfl (fun hc => ?_) (fun hc => ?_))
      refine HL.one (H1.ld0 rfl (hR.cell (ints_get hlt)) rfl ?_)
      repeat' (first | apply HL.fold | apply HA.fold | apply HL.nil | apply HX.n_then | apply HC.seq | apply HC.region | refine HL.pa ?_ | refine HL.ga rfl ?_ | refine HL.na rfl ?_ | refine HL.nu rfl rfl ?_ | apply HC.block | apply HC.skip | apply HC.exit | apply HC.ret | apply HX.e_block | refine HX.e_other rfl ?_ | apply HX.e_then | apply HX.e_again | apply HX.n_block | apply HX.r_then | apply HX.r_block | apply HX.r_again | refine HC.cond_yes rfl ?_ | refine HC.cond_no rfl ?_ | refine HL.one (H1.ldb rfl memA rfl rfl ?_) | refine HC.cond rfl (fun hc => ?_) (fun hc => ?_) | refine HC.cond_b rfl (fun hc => ?_) (fun hc => ?_))
      refine HL.one (H1.callv0 rfl rfl rfl (fun w' hM => hp (at' l i) (at_mem hlt) w' hM.ext) ?_)
      rw [hb]
      repeat' (first | apply HL.fold | apply HA.fold | apply HL.nil | apply HX.n_then | apply HC.seq | apply HC.region | refine HL.pa ?_ | refine HL.ga rfl ?_ | refine HL.na rfl ?_ | refine HL.nu rfl rfl ?_ | apply HC.block | apply HC.skip | apply HC.exit | apply HC.ret | apply HX.e_block | refine HX.e_other rfl ?_ | apply HX.e_then | apply HX.e_again | apply HX.n_block | apply HX.r_then | apply HX.r_block | apply HX.r_again | refine HC.cond_yes rfl ?_ | refine HC.cond_no rfl ?_ | refine HL.one (H1.ldb rfl memA rfl rfl ?_) | refine HC.cond rfl (fun hc => ?_) (fun hc => ?_) | refine HC.cond_b rfl (fun hc => ?_) (fun hc => ?_))
      refine HX.again (i + 1) ⟨by omega, fun j hj => ?_⟩ (by omega) esA (by repeat (first | exact Hs.nil _ | (refine Hs.cons pickA ?_)))
      by_cases e : j = i
      · subst e; exact hb
      · exact hno j (by omega)
  · obtain rfl : i = l.length := by omega
    repeat' (first | apply HL.fold | apply HA.fold | apply HL.nil | apply HX.n_then | apply HC.seq | apply HC.region | refine HL.pa ?_ | refine HL.ga rfl ?_ | refine HL.na rfl ?_ | refine HL.nu rfl rfl ?_ | apply HC.block | apply HC.skip | apply HC.exit | apply HC.ret | apply HX.e_block | refine HX.e_other rfl ?_ | apply HX.e_then | apply HX.e_again | apply HX.n_block | apply HX.r_then | apply HX.r_block | apply HX.r_again | refine HC.cond_yes rfl ?_ | refine HC.cond_no rfl ?_ | refine HL.one (H1.ldb rfl memA rfl rfl ?_) | refine HC.cond rfl (fun hc => ?_) (fun hc => ?_) | refine HC.cond_b rfl (fun hc => ?_) (fun hc => ?_))
    refine HX.ret1 rfl rfl fun w' hM => ⟨?_, hM.ext⟩
    rw [idxI_none]
    intro x hx
    obtain ⟨j, hj, rfl⟩ := List.getElem_of_mem hx
    have := hno j hj
    simpa [at', hj] using this
theorem containsFunc_fn {gf : FuncId} [CallOk Tryz.prog gf] (cap : List Value) (p : Int → Bool) (v : Value) (l : List Int) (hl : l.length ≤ 1000000) (w : World) (hR : Rd w v (ints l))
    (hp : ∀ x ∈ l, ∀ w', Ext w w' → Fn Tryz.prog gf (zv x :: cap).toArray w' fun u w'' => u = .bool (p x) ∧ Ext w' w'') :
    Fn Tryz.prog 42 #[v, .func (.func gf) #[] cap.toArray] w fun u w' => u = .bool (l.any p) ∧ Ext w w' := by
  refine enterH (l := [_, _]) rfl (Tryz.ntmps42) rfl ?_
  repeat' (first | apply HL.fold | apply HA.fold | apply HL.nil | apply HX.n_then | apply HC.seq | apply HC.region | refine HL.pa ?_ | refine HL.ga rfl ?_ | refine HL.na rfl ?_ | refine HL.nu rfl rfl ?_ | apply HC.block | apply HC.skip | apply HC.exit | apply HC.ret | apply HX.e_block | refine HX.e_other rfl ?_ | apply HX.e_then | apply HX.e_again | apply HX.n_block | apply HX.r_then | apply HX.r_block | apply HX.r_again | refine HC.cond_yes rfl ?_ | refine HC.cond_no rfl ?_ | refine HL.one (H1.ldb rfl memA rfl rfl ?_) | refine HC.cond rfl (fun hc => ?_) (fun hc => ?_) | refine HC.cond_b rfl (fun hc => ?_) (fun hc => ?_))
  refine HL.one (H1.callx (vs := [v, .func (.func gf) #[] cap.toArray]) rfl rfl (fun w' hM => indexFunc_fn cap p v l hl w' (hM.rd0 hR) fun x hx w'' hx' => hp x hx w'' (hM.ext.trans hx')) ?_)
  repeat' (first | apply HL.fold | apply HA.fold | apply HL.nil | apply HX.n_then | apply HC.seq | apply HC.region | refine HL.pa ?_ | refine HL.ga rfl ?_ | refine HL.na rfl ?_ | refine HL.nu rfl rfl ?_ | apply HC.block | apply HC.skip | apply HC.exit | apply HC.ret | apply HX.e_block | refine HX.e_other rfl ?_ | apply HX.e_then | apply HX.e_again | apply HX.n_block | apply HX.r_then | apply HX.r_block | apply HX.r_again | refine HC.cond_yes rfl ?_ | refine HC.cond_no rfl ?_ | refine HL.one (H1.ldb rfl memA rfl rfl ?_) | refine HC.cond rfl (fun hc => ?_) (fun hc => ?_) | refine HC.cond_b rfl (fun hc => ?_) (fun hc => ?_))
  exact HX.ret1 rfl rfl fun w' hM => ⟨by rw [idxI_any], hM.ext⟩
end Go.Sx
/- Chapter 19: the library's Clone, Contains, Sort, Equal, IsSorted at numbers, as the walks use them. -/
namespace Go.Sx
open Go Go.Proofs Go.RowKit
section
variable {P : Program} {r : Option Nat} {N : Nat} {ds : List Deferred} {ol rest : List Oper} {Q : Post} {E : Env} {w0 : World} {H : List Atom} {next : Act → World → Prop} {g : Option (Nat × Bool)}
/-- A call that turns what is the caller's own. -/
theorem H1.callm {α : Type} {V : α → Value} {H' : α → List Atom} {I : α → Prop} {d : Option Nat} {f : FuncId} {args : List Operand} {ats : Array TypeId} {ty : TypeId} {pos : String} {af : Array Edge} {vs : List Value}
    [hf : CallOk P f] (hd : dOk d N = true) (ha : Env.evs E args = some vs) (hc : ∀ w, Mm w0 H w → Fn P f vs.toArray w fun v w' => ∃ z, I z ∧ v = V z ∧ Mm w0 (H' z) w')
    (h : ∀ z, I z → HN N ds next (putE d (V z) E) w0 (H' z)) :
    H1 P r N ds next ⟨d, .call ⟨.value (.func f), args.toArray, ats⟩, ty, pos, af, g⟩ Q E w0 H := fun w hM => W1.call hd ha (hc w hM) (by
    rintro v w' ⟨z, hz, rfl, hn⟩; exact h z hz w' hn)
end
theorem rd_clone {w : World} {b off c : Nat} {l : List Int} (hR : Rd w (.slice (some ⟨b, off, none⟩) l.length c) (ints l)) : ∀ j, j < l.length → w.cell? ⟨b, off + j, none⟩ = some (.int .i64 (l.getD j 0)) := fun _ hj => hR.cell (ints_get hj)
theorem ints_map (l : List Int) : l.map (Value.int .i64) = ints l := rfl
/-- A slice of the call's own, as an atom. -/
theorem Mm.ownFresh {w w' : World} {e : TypeId} {sz n c : Nat} {a : Option Addr} {xs : List Value} (hx : Ext w w') (h : w'.ownsRow w.heap.size e sz (.slice a n c) n xs) : Mm w [A.grow e sz a c n xs] w' := by
  refine (Mm.nil hx).cons ⟨h.1, ?_⟩ ?_ fun b hb => ?_
  · rcases h.2 with h2 | ⟨g, cap, cur, hv, -, rest⟩
    · exact .inl h2
    · exact .inr ⟨g, cap, cur, hv, Nat.zero_le _, rest⟩
  · show (Option.toList _).Nodup
    cases (Value.slice a n c).ownBlock <;> simp
  · have hb' : (Value.slice a n c).ownBlock = some b := by simpa [A.grow] using hb
    have := h.lt b hb'
    exact ⟨by simp [fps], this.1, this.2⟩
theorem own_shape {w : World} {base : Nat} {e : TypeId} {sz n : Nat} {v : Value} {xs : List Value} (h : w.ownsRow base e sz v n xs) : ∃ a c, v = .slice a n c ∧ (n = 0 ∨ ∃ b, a = some ⟨b, 0, none⟩) := by
  rcases h.2 with ⟨rfl, rfl⟩ | ⟨g, cap, cur, rfl, -⟩
  · exact ⟨none, 0, rfl, .inl rfl⟩
  · exact ⟨_, cap, rfl, .inr ⟨g, rfl⟩⟩
theorem clone_fn (v : Value) (l : List Int) (hl : l.length ≤ 1000000) (w : World) (hR : Rd w v (ints l)) :
    Fn Tryz.prog 40 #[v] w fun u w' => ∃ z : Option Addr × Nat, (l.length = 0 ∨ ∃ b, z.1 = some ⟨b, 0, none⟩) ∧ u = .slice z.1 l.length z.2 ∧ Mm w [A.grow 3 1 z.1 z.2 l.length (ints l)] w' := by
  obtain ⟨a, c, rfl, hc⟩ := hR.isInts
  by_cases hne : l = []
  · subst hne
    cases a with
    | none =>
      refine Calls.mono (Tryz.slices_Clone_int_nil 0 c w) ?_
      rintro e w' ⟨rfl, rfl⟩
      exact ⟨_, rfl, (none, 0), .inl rfl, rfl, (Mm.refl _).grow0 _ _⟩
    | some a =>
      refine Calls.mono (Tryz.slices_Clone_int_zero a c w) ?_
      rintro e w' ⟨v', rfl, h1, h2, h3⟩
      obtain ⟨a', c', rfl, ha⟩ := own_shape h1
      exact ⟨_, rfl, (a', c'), ha, rfl, Mm.ownFresh h3 h1⟩
  · obtain ⟨b, off, rfl, hb⟩ := hR.iat hne
    refine Calls.mono (Tryz.slices_Clone_int b off l.length c l w (Nat.le_refl _) (by omega) (rd_clone hR)) ?_
    rintro e w' ⟨v', rfl, h1, h2, h3⟩
    rw [List.take_length] at h1
    obtain ⟨a', c', rfl, ha⟩ := own_shape h1
    exact ⟨_, rfl, (a', c'), ha, rfl, Mm.ownFresh h3 h1⟩
theorem contains_fn (v : Value) (l : List Int) (x : Int) (hl : l.length ≤ 1000000) (w : World) (hR : Rd w v (ints l)) :
    Fn Tryz.prog 49 #[v, zv x] w fun u w' => u = .bool (l.contains x) ∧ w = w' := by
  obtain ⟨a, c, rfl, hc⟩ := hR.isInts
  by_cases hne : l = []
  · subst hne
    refine Calls.mono (Tryz.slices_Contains_int_empty a c x w) ?_
    rintro e w' ⟨rfl, rfl⟩
    exact ⟨_, rfl, rfl, rfl⟩
  · obtain ⟨b, off, rfl, hb⟩ := hR.iat hne
    refine Calls.mono (Tryz.slices_Contains_int b off l.length c l x w (Nat.le_refl _) (by omega) (rd_clone hR)) ?_
    rintro e w' ⟨rfl, rfl⟩
    rw [List.take_length]
    exact ⟨_, rfl, rfl, rfl⟩
def srt (l : List Int) : List Int := l.mergeSort fun x y => decide (x ≤ y)
theorem sort_own {w0 w : World} {H H' : List Atom} {b c : Nat} {l : List Int} (hM : Mm w0 H w) (hr : Rpl (A.grow 3 1 (some ⟨b, 0, none⟩) c l.length (ints l)) (A.grow 3 1 (some ⟨b, 0, none⟩) c l.length (ints (srt l))) H H') (hl : l.length ≤ 1000000) :
    Fn Tryz.prog 41 #[.slice (some ⟨b, 0, none⟩) l.length c] w fun v w' => v = .tuple #[] ∧ Mm w0 H' w' := by
  have hown := hM.own hr.mem
  rcases hown.2 with ⟨hv, -⟩ | ⟨g, cap, cur, hv, -, hg, hnc, hcm, hcs, htake⟩
  · cases hv
  cases hv
  have hlt := (Array.getElem?_eq_some_iff.1 hg).1
  have hcell : ∀ j, j < l.length → w.cell? ⟨b, j, none⟩ = some (zv (at' l j)) := fun j hj => ownsRow_cell hown (ints_get hj)
  refine Calls.mono (Tryz.slices_Sort_int b 0 c l w (fun j hj => ?_) hlt (by omega)) ?_
  · have hj' : j < l.length := by simpa using hj
    rw [Nat.zero_add, hcell j hj']
    refine ⟨?_, by simp [World.frozen?, hg]⟩
    simp [at', hj', zv, getElem!_pos]
  · rintro e w' ⟨rfl, n, os, rfl⟩
    refine ⟨_, rfl, rfl, hM.turn hr rfl rfl rfl ?_ (fun k hk hkb => ?_) ?_ (by simp [A.grow, Value.ownBlock]) (fun b' hb' => .inl (by simpa [A.grow, Value.ownBlock] using hb'))⟩
    · simp [Go.Sort.grow, Go.Sort.putRow, Go.Sort.mapBlock, Go.Sort.ahead]
    · have hkb' : ¬ b = k := fun e => hkb (by subst e; simp [A.grow, Value.ownBlock])
      have hs : (Go.Sort.putRow (Value.int .i64) (Go.Sort.ahead w n) b 0 (srt l).toArray).heap.size = w.heap.size := by simp [Go.Sort.putRow, Go.Sort.mapBlock, Go.Sort.ahead]
      show ((Go.Sort.putRow (Value.int .i64) (Go.Sort.ahead w n) b 0 (srt l).toArray).heap ++ os)[k]? = _
      rw [Array.getElem?_append, if_pos (by rw [hs]; exact hk)]
      show (w.heap.modify b _)[k]? = _
      rw [Array.getElem?_modify, if_neg hkb']
    · have hls : (srt l).length = l.length := by simp [srt]
      refine ⟨by simp [ints, hls], .inr ⟨b, c, Go.Sort.putCells (Value.int .i64) 0 (srt l).toArray cur, rfl, Nat.zero_le _, ?_, hnc, hcm, ?_, ?_⟩⟩
      · have hm : (Go.Sort.putRow (Value.int .i64) (Go.Sort.ahead w n) b 0 (srt l).toArray).heap[b]? = some (.cells (Go.Sort.putCells (Value.int .i64) 0 (srt l).toArray cur) 3 (0, 0)) := by
          simp [Go.Sort.putRow, Go.Sort.mapBlock, Go.Sort.ahead, Array.getElem?_modify, hg, Go.Sort.onCells]
        have hs : (Go.Sort.putRow (Value.int .i64) (Go.Sort.ahead w n) b 0 (srt l).toArray).heap.size = w.heap.size := by simp [Go.Sort.putRow, Go.Sort.mapBlock, Go.Sort.ahead]
        show (Go.Sort.grow (Go.Sort.putRow (Value.int .i64) (Go.Sort.ahead w n) b 0 (srt l).toArray) os).heap[b]? = _
        rw [Go.Sort.grow]
        simp only [Array.getElem?_append]
        rw [if_pos (by rw [hs]; exact hlt), hm]
      · simp [Go.Sort.putCells, hcs]
      · apply List.ext_getElem?
        intro i
        rw [List.getElem?_take]
        have hlen : l.length ≤ cur.size := by omega
        by_cases hi : i < l.length
        · rw [if_pos (by omega), ints_get (by rw [hls]; exact hi)]
          have hi2 : i < cur.size := by omega
          have hi3 : i < (srt l).length := by rw [hls]; exact hi
          simp [Go.Sort.putCells, hi2, at', zv, hi3]
        · rw [if_neg (by omega), List.getElem?_eq_none (by rw [ints_len, hls]; omega)]
end Go.Sx
/- Chapter 19: within; slices.Equal at numbers. -/
namespace Go.Sx
open Go Go.Proofs Go.RowKit
theorem equal_fn (v u : Value) (l m : List Int) (hl : l.length ≤ 1000000) (hm : m.length ≤ 1000000) (w : World) (hR : Rd w v (ints l)) (hS : Rd w u (ints m)) :
    Fn Tryz.prog 60 #[v, u] w fun u w' => u = .bool (decide (l = m)) ∧ Ext w w' := by
  obtain ⟨a, c, rfl, hc⟩ := hR.isInts
  obtain ⟨a', c', rfl, hc'⟩ := hS.isInts
  by_cases hlen : l.length = m.length
  · by_cases hne : l = []
    · subst hne
      have hm0 : m = [] := List.eq_nil_of_length_eq_zero hlen.symm
      subst hm0
      refine Calls.mono (Tryz.slices_Equal_int_empty a a' c 0 c' w (by omega)) ?_
      rintro e w' ⟨rfl, rfl⟩
      exact ⟨_, rfl, by simp, Ext.refl _⟩
    · obtain ⟨b, off, rfl, hb⟩ := hR.iat hne
      obtain ⟨b', off', rfl, hb'⟩ := hS.iat (by intro e; subst e; exact hne (List.eq_nil_of_length_eq_zero hlen))
      refine Calls.mono (Tryz.slices_Equal_int b off l.length c b' off' m.length c' l m w (Nat.le_refl _) (Nat.le_refl _) (by omega) (by omega) (rd_clone hR) (rd_clone hS)) ?_
      rintro e w' ⟨rfl, q, rfl⟩
      rw [List.take_length, List.take_length]
      refine ⟨_, rfl, ?_, ?_⟩
      · by_cases e : l = m <;> simp [e]
      · exact ⟨rfl, rfl, rfl, Nat.le_refl _, fun _ _ => rfl⟩
  · refine Calls.mono (Tryz.slices_Equal_int_lens a a' l.length c m.length c' w hlen) ?_
    rintro e w' ⟨rfl, rfl⟩
    refine ⟨_, rfl, ?_, Ext.refl _⟩
    have : ¬ l = m := fun e => hlen (by rw [e])
    simp [this]
attribute [local irreducible] WC WL WX POp Then Again Fn NX W1 WA WO QL RP RA Yld LoopAt HC HL HX HN H1 HA HO HQ A.blk A.grow A.rd A.obj AgainH CutH
theorem within_fn (n lo hi : Int) (w : World) : Fn Tryz.prog 56 #[zv n, zv lo, zv hi] w fun v w' => v = .bool (decide (lo ≤ n ∧ n ≤ hi)) ∧ w = w' := by
  refine enter (l := [.int .i64 n, .int .i64 lo, .int .i64 hi]) rfl Tryz.ntmps56 rfl ?_
  by_cases h1 : lo ≤ n <;> by_cases h2 : n ≤ hi
  all_goals
    repeat' (first | apply WL.fold | apply WA.fold | apply WL.nil | apply WX.n_then | apply WC.seq | apply WC.region | refine WL.pa ?_ | refine WL.ga rfl ?_ | refine WL.na rfl ?_ | refine WL.nu rfl rfl ?_ | apply WC.block | apply WC.skip | apply WC.exit | apply WC.ret | apply WX.e_block | refine WX.e_other rfl ?_ | apply WX.e_then | apply WX.e_again | apply WX.n_block | apply WX.r_then | apply WX.r_block | apply WX.r_again | refine WC.cond_yes rfl ?_ | refine WC.cond_no rfl ?_ | refine WC.cond rfl (fun hc => ?_) (fun hc => ?_) | refine WC.cond_b rfl (fun hc => ?_) (fun hc => ?_))
  all_goals exact WX.ret1 rfl rfl ⟨by simp [h1, h2], rfl⟩
end Go.Sx

