/- Chapter 25: slices.DeleteFunc at numbers: the walks. -/
import Derived.Test.YtlihcenahjgnmaaGreatDoorKD
import Derived.Test.YtlihcenahjgnmaaGreatDoorKL
namespace Go.Sx
open Go Go.Proofs Go.RowKit
section
variable {P : Program} {r : Option Nat} {N : Nat} {ds : List Deferred} {ol rest : List Oper} {Q : Post} {E : Env} {w0 : World} {H : List Atom} {next : Act → World → Prop} {g : Option (Nat × Bool)}
variable {d : Option Nat} {t ty : TypeId} {pos : String} {af : Array Edge} {x y : Operand}
/-- clear, of the end of a slice of the call's own. -/
theorem H1.clearT {e : TypeId} {z : Value} {bb b i m n c c2 : Nat} {xs : List Value} {H' : List Atom} [h : UTy P t (.slice e)] [hi : ITy P e z 1 bb] (hzc : z.cells = #[z]) (h1 : z.oneCell' = true)
    (hx : Env.ev E x = some (.slice (some ⟨b, i, none⟩) m c2)) (hl : xs.length = n) (hm : i + m = n) (hm0 : 0 < m) (hr : Rpl (A.grow e 1 (some ⟨b, 0, none⟩) c n xs) (A.grow e 1 (some ⟨b, 0, none⟩) c n (xs.take i ++ List.replicate m z)) H H') (hd : dOk d N = true) (hn : HN N ds next (putE d (.tuple #[]) E) w0 H') :
    H1 P r N ds next ⟨d, .call ⟨.builtin .clear, #[x], #[t]⟩, ty, pos, af, g⟩ Q E w0 H := fun w hM => by
  have hown := hM.own hr.mem
  obtain ⟨cur, hg, hnc, hcm, hcs, htk⟩ : ∃ cur, w.heap[b]? = some (.cells cur e (0, 0)) ∧ n ≤ c ∧ c ≤ maxLen ∧ cur.size = c * 1 ∧ cur.toList.take (n * 1) = xs := by
    rcases hown.2 with ⟨hv, -⟩ | ⟨q, cap, cur, hv, -, hg, hnc, hcm, hcs, htk⟩
    · cases hv
    · cases hv; exact ⟨cur, hg, hnc, hcm, hcs, htk⟩
  have hzr : (Builtin.zeroCells z.cells m).toList = List.replicate m z := by
    rw [hzc]
    unfold Builtin.zeroCells
    rw [Array.toList_map]
    refine List.eq_replicate_iff.2 ⟨by simp, fun v hv => ?_⟩
    obtain ⟨j, -, rfl⟩ := List.mem_map.1 hv
    simp [Nat.mod_one]
  have hst := run_storeCells_at P b i e (List.replicate m z) 0 cur w hg (by rw [List.length_replicate]; omega) (by intro v hv; rw [(List.mem_replicate.1 hv).2]; exact h1)
  simp only [Nat.add_zero, List.length_replicate] at hst
  obtain ⟨m', rfl⟩ : ∃ m', m = m' + 1 := ⟨m - 1, by omega⟩
  have hrun : (Builtin.clear_ #[t] ty #[.slice (some ⟨b, i, none⟩) (m' + 1) c2]).run P w = .ok (.tuple #[]) (w.setRow b (cur.toList.take i ++ List.replicate (m' + 1) z ++ cur.toList.drop (i + (m' + 1))).toArray) := by
    simp [Builtin.clear_, run_underlying h.is, run_zeroValue (h := hi), hzr, hst]
  have htk' : cur.toList.take n = xs := by rw [Nat.mul_one] at htk; exact htk
  refine W1.run (v := .tuple #[]) (w' := w.setRow b (cur.toList.take i ++ List.replicate (m' + 1) z ++ cur.toList.drop (i + (m' + 1))).toArray) (fun a ha => ?_) rfl hd (hn _ (hM.turn hr rfl rfl rfl (by simp [World.setRow]) (fun k hk hk' => ?_) ⟨?_, .inr ⟨b, c, (cur.toList.take i ++ List.replicate (m' + 1) z ++ cur.toList.drop (i + (m' + 1))).toArray, rfl, Nat.zero_le _, ?_, hnc, hcm, ?_, ?_⟩⟩ (by simp [A.grow, Value.ownBlock]) fun b' hb' => .inl hb'))
  · simp only [execOp, resolve, invoke, Go.builtin, Sem.run_bind, Sem.run_pure, Result.andThen, List.map_toArray, List.map_cons, List.map_nil, ha.ev hx, hrun]
  · have hne : ¬ b = k := fun e => hk' (by simp [A.grow, Value.ownBlock, e])
    simp [World.setRow, Array.getElem?_modify, hne]
  · rw [List.length_append, List.length_take, List.length_replicate]; omega
  · exact setRow_heap w b _ _ e _ hg
  · rw [List.size_toArray, List.length_append, List.length_append, List.length_take, List.length_replicate, List.length_drop, Array.length_toList]; omega
  · rw [List.toList_toArray, Nat.mul_one, ← htk', List.take_take, Nat.min_eq_left (by omega)]
    rw [List.take_append_of_le_length (by rw [List.length_append, List.length_take, List.length_replicate, Array.length_toList]; omega), List.take_of_length_le (by rw [List.length_append, List.length_take, List.length_replicate]; omega)]
/-- The first part of a slice of the call's own. -/
theorem ownsRow_pre {w : World} {base c n i : Nat} {e : TypeId} {a : Option Addr} {xs : List Value} (h : w.ownsRow base e 1 (.slice a n c) n xs) (hi : i ≤ n) (h0 : n ≠ 0) : w.ownsRow base e 1 (.slice a i c) i (xs.take i) := by
  have hl := h.1
  rcases h.2 with ⟨hv, hz⟩ | ⟨g, cap, cur, hv, hb, hg, hnc, hcm, hcs, htk⟩
  · exact absurd hz h0
  · cases hv
    exact ⟨by rw [List.length_take]; omega, .inr ⟨g, c, cur, rfl, hb, hg, by omega, hcm, hcs, by rw [← htk, List.take_take]; congr 1; omega⟩⟩
theorem HL.growPre {l : List Oper} {e : TypeId} {c n i : Nat} {a : Option Addr} {xs : List Value} {H' : List Atom} (hr : Rpl (A.grow e 1 a c n xs) (A.grow e 1 a c i (xs.take i)) H H') (hi : i ≤ n) (h0 : n ≠ 0) (h : HL P r N ds ol l Q E w0 H') : HL P r N ds ol l Q E w0 H := fun w hM =>
  h w (hM.turn hr rfl rfl rfl (Nat.le_refl _) (fun _ _ _ => rfl) (ownsRow_pre (hM.own hr.mem) hi h0) (by cases a <;> simp [A.grow, Value.ownBlock]) (fun b hb => .inl (by cases a <;> exact hb)))
theorem Mm.growPre {e : TypeId} {c n i : Nat} {a : Option Addr} {xs : List Value} {w : World} (hM : Mm w0 (A.grow e 1 a c n xs :: H) w) (hi : i ≤ n) (h0 : n ≠ 0) : Mm w0 (A.grow e 1 a c i (xs.take i) :: H) w :=
  hM.turn Rpl.here rfl rfl rfl (Nat.le_refl _) (fun _ _ _ => rfl) (ownsRow_pre (hM.own (.head _)) hi h0) (by cases a <;> simp [A.grow, Value.ownBlock]) (fun b hb => .inl (by cases a <;> exact hb))
end
/-- Which is the first that is struck. -/
def FirstI (l : List Int) (p : Int → Bool) (k : Int) : Prop := (k = -1 ∧ ∀ x ∈ l, p x = false) ∨ ∃ i : Nat, k = (i : Int) ∧ i < l.length ∧ (∀ x ∈ l.take i, p x = false) ∧ p (l.getD i 0) = true
theorem filt_all {l : List Int} {p : Int → Bool} (h : ∀ x ∈ l, p x = false) : l.filter (fun x => !p x) = l := List.filter_eq_self.2 fun x hx => by rw [h x hx]; rfl
theorem filt_step {l : List Int} {p : Int → Bool} {j : Nat} (h : j < l.length) : (l.take (j + 1)).filter (fun x => !p x) = if p (l.getD j 0) then (l.take j).filter (fun x => !p x) else (l.take j).filter (fun x => !p x) ++ [l.getD j 0] := by
  rw [take_at2 h, List.filter_append]
  generalize l.getD j 0 = x
  cases hp : p x <;> simp [hp]
theorem ints_set2 (l : List Int) (i : Nat) (x : Int) : (ints l).set i (zv x) = ints (l.set i x) := by unfold ints; rw [List.map_set]
theorem ints_len2 (l : List Int) : (ints l).length = l.length := by simp [ints]
theorem drop_at2 {l : List Int} {j : Nat} (h : j < l.length) : l.drop j = l.getD j 0 :: l.drop (j + 1) := by
  rw [List.drop_eq_getElem_cons h]
  simp [h]
theorem HC.capOfI {P : Program} {r : Option Nat} {N : Nat} {ds : List Deferred} {Q : Post} {E : Env} {w0 : World} {H : List Atom} {e : TypeId} {co : Code} {n c : Nat} {a : Option Addr} {xs : List Value} (hm : A.grow e 1 a c n xs ∈ H) (h : n ≤ c → HC P r N ds co Q E w0 H) : HC P r N ds co Q E w0 H := fun w hM => by
  refine h ?_ w hM
  rcases (hM.own hm).2 with ⟨h1, rfl⟩ | ⟨g, cap, cur, hv, -, -, hnc, -⟩
  · exact Nat.zero_le _
  · cases hv; exact hnc
attribute [local irreducible] WC WL WX POp Then Again Fn NX W1 WA WO QL RP RA Yld LoopAt HC HL HX HN H1 HA HO HQ HB HP A.blk A.grow A.rd A.obj A.mp AgainH CutH
theorem indexFI_fn {w0 : World} {H : List Atom} {f : FuncId} {cap : List Value} [hf : CallOk Tryz.prog f] (p : Int → Bool) (l : List Int) {a : Option Addr} {c : Nat} (hl : l.length ≤ 1000000) (hm : A.grow 3 1 a c l.length (ints l) ∈ H)
    (hp : ∀ x ∈ l, ∀ w, Mm w0 H w → Fn Tryz.prog f ([zv x] ++ cap).toArray w fun v w' => v = .bool (p x) ∧ Ext w w') (w : World) (hM : Mm w0 H w) :
    Fn Tryz.prog 92 #[.slice a l.length c, .func (.func f) #[] cap.toArray] w fun u w' => ∃ k : Int, FirstI l p k ∧ u = zv k ∧ Mm w0 H w' := by
  refine enterK (l := [_, _]) hM rfl Tryz.ntmps92 rfl ?_
  repeat' (first | apply HL.fold | apply HA.fold | apply HL.nil | apply HX.n_then | apply HC.seq | apply HC.region | refine HL.pa ?_ | refine HL.ga rfl ?_ | refine HL.na rfl ?_ | refine HL.nu rfl rfl ?_ | apply HC.block | apply HC.skip | apply HC.exit | apply HC.ret | apply HX.e_block | refine HX.e_other rfl ?_ | apply HX.e_then | apply HX.e_again | apply HX.n_block | apply HX.r_then | apply HX.r_block | apply HX.r_again | refine HC.cond_yes rfl ?_ | refine HC.cond_no rfl ?_ | refine HL.one (H1.ldb rfl memA rfl rfl ?_) | refine HC.cond rfl (fun hc => ?_) (fun hc => ?_) | refine HC.cond_b rfl (fun hc => ?_) (fun hc => ?_))
  refine HC.loop (α := Nat) (fun i => [(0, .slice a l.length c), (1, .func (.func f) #[] cap.toArray), (7, zv (l.length : Int)), (8, zv (i : Int))]) (fun _ => H) (fun i => i ≤ l.length ∧ ∀ x ∈ l.take i, p x = false) (fun i => l.length - i) 0 ⟨Nat.zero_le _, fun x hx => by rw [List.take_zero] at hx; cases hx⟩ esA (Hs.refl _) ?_
  rintro i ⟨hi, hpre⟩
  by_cases hlt : i < l.length
  · refine HC.openg hm (by omega) ?_
    rintro b rfl
    have hget := ints_get2 hlt
    have htk := take_at2 hlt
    have hmem : l.getD i 0 ∈ l := by simp [hlt]
    have hpx := hp _ hmem
    have hfi : p (l.getD i 0) = true → FirstI l p (i : Int) := fun h => .inr ⟨i, rfl, hlt, hpre, h⟩
    generalize l.getD i 0 = x at hget htk hpx hfi
    repeat' (first | apply HL.fold | apply HA.fold | apply HL.nil | apply HX.n_then | apply HC.seq | apply HC.region | refine HL.pa ?_ | refine HL.ga rfl ?_ | refine HL.na rfl ?_ | refine HL.nu rfl rfl ?_ | apply HC.block | apply HC.skip | apply HC.exit | apply HC.ret | apply HX.e_block | refine HX.e_other rfl ?_ | apply HX.e_then | apply HX.e_again | apply HX.n_block | apply HX.r_then | apply HX.r_block | apply HX.r_again | refine HC.cond_yes rfl ?_ | refine HC.cond_no rfl ?_ | refine HL.one (H1.ldb rfl memA rfl rfl ?_) | refine HC.cond rfl (fun hc => ?_) (fun hc => ?_) | refine HC.cond_b rfl (fun hc => ?_) (fun hc => ?_))
    refine HL.one (H1.ldg rfl hm hget rfl ?_)
    repeat' (first | apply HL.fold | apply HA.fold | apply HL.nil | apply HX.n_then | apply HC.seq | apply HC.region | refine HL.pa ?_ | refine HL.ga rfl ?_ | refine HL.na rfl ?_ | refine HL.nu rfl rfl ?_ | apply HC.block | apply HC.skip | apply HC.exit | apply HC.ret | apply HX.e_block | refine HX.e_other rfl ?_ | apply HX.e_then | apply HX.e_again | apply HX.n_block | apply HX.r_then | apply HX.r_block | apply HX.r_again | refine HC.cond_yes rfl ?_ | refine HC.cond_no rfl ?_ | refine HL.one (H1.ldb rfl memA rfl rfl ?_) | refine HC.cond rfl (fun hc => ?_) (fun hc => ?_) | refine HC.cond_b rfl (fun hc => ?_) (fun hc => ?_))
    refine HL.one (H1.callv0 (f := f) (u := .bool (p x)) (cap := cap) (vs := [zv x]) rfl rfl rfl (fun w' hM => hpx w' hM) ?_)
    cases hpv : p x
    · repeat' (first | apply HL.fold | apply HA.fold | apply HL.nil | apply HX.n_then | apply HC.seq | apply HC.region | refine HL.pa ?_ | refine HL.ga rfl ?_ | refine HL.na rfl ?_ | refine HL.nu rfl rfl ?_ | apply HC.block | apply HC.skip | apply HC.exit | apply HC.ret | apply HX.e_block | refine HX.e_other rfl ?_ | apply HX.e_then | apply HX.e_again | apply HX.n_block | apply HX.r_then | apply HX.r_block | apply HX.r_again | refine HC.cond_yes rfl ?_ | refine HC.cond_no rfl ?_ | refine HL.one (H1.ldb rfl memA rfl rfl ?_) | refine HC.cond rfl (fun hc => ?_) (fun hc => ?_) | refine HC.cond_b rfl (fun hc => ?_) (fun hc => ?_))
      refine HX.again (i + 1) ⟨hlt, fun y hy => ?_⟩ (by show l.length - (i + 1) < l.length - i; omega) esA (Hs.refl _)
      rw [htk] at hy
      rcases List.mem_append.1 hy with hy | hy
      · exact hpre y hy
      · rw [List.mem_singleton.1 hy]; exact hpv
    · repeat' (first | apply HL.fold | apply HA.fold | apply HL.nil | apply HX.n_then | apply HC.seq | apply HC.region | refine HL.pa ?_ | refine HL.ga rfl ?_ | refine HL.na rfl ?_ | refine HL.nu rfl rfl ?_ | apply HC.block | apply HC.skip | apply HC.exit | apply HC.ret | apply HX.e_block | refine HX.e_other rfl ?_ | apply HX.e_then | apply HX.e_again | apply HX.n_block | apply HX.r_then | apply HX.r_block | apply HX.r_again | refine HC.cond_yes rfl ?_ | refine HC.cond_no rfl ?_ | refine HL.one (H1.ldb rfl memA rfl rfl ?_) | refine HC.cond rfl (fun hc => ?_) (fun hc => ?_) | refine HC.cond_b rfl (fun hc => ?_) (fun hc => ?_))
      exact HX.ret1 rfl rfl fun w' hM => ⟨(i : Int), hfi hpv, rfl, hM⟩
  · obtain rfl : i = l.length := by omega
    rw [List.take_length] at hpre
    repeat' (first | apply HL.fold | apply HA.fold | apply HL.nil | apply HX.n_then | apply HC.seq | apply HC.region | refine HL.pa ?_ | refine HL.ga rfl ?_ | refine HL.na rfl ?_ | refine HL.nu rfl rfl ?_ | apply HC.block | apply HC.skip | apply HC.exit | apply HC.ret | apply HX.e_block | refine HX.e_other rfl ?_ | apply HX.e_then | apply HX.e_again | apply HX.n_block | apply HX.r_then | apply HX.r_block | apply HX.r_again | refine HC.cond_yes rfl ?_ | refine HC.cond_no rfl ?_ | refine HL.one (H1.ldb rfl memA rfl rfl ?_) | refine HC.cond rfl (fun hc => ?_) (fun hc => ?_) | refine HC.cond_b rfl (fun hc => ?_) (fun hc => ?_))
    exact HX.ret1 rfl rfl fun w' hM => ⟨-1, .inl ⟨rfl, hpre⟩, rfl, hM⟩
set_option maxHeartbeats 1000000 in
theorem deleteFI_fn {w0 : World} {K : List Atom} {f : FuncId} {cap : List Value} [hf : CallOk Tryz.prog f] (p : Int → Bool) (l : List Int) {a : Option Addr} {c : Nat} (hl : l.length ≤ 1000000)
    (hp : ∀ x ∈ l, ∀ a' c' n' xs' w, Mm w0 (A.grow 3 1 a' c' n' xs' :: K) w → Fn Tryz.prog f ([zv x] ++ cap).toArray w fun v w' => v = .bool (p x) ∧ Ext w w') (w : World) (hM : Mm w0 (A.grow 3 1 a c l.length (ints l) :: K) w) :
    Fn Tryz.prog 63 #[.slice a l.length c, .func (.func f) #[] cap.toArray] w fun u w' => u = .slice a (l.filter fun x => !p x).length c ∧ Mm w0 (A.grow 3 1 a c (l.filter fun x => !p x).length (ints (l.filter fun x => !p x)) :: K) w' := by
  refine enterK (l := [_, _]) hM rfl Tryz.ntmps63 rfl ?_
  repeat' (first | apply HL.fold | apply HA.fold | apply HL.nil | apply HX.n_then | apply HC.seq | apply HC.region | refine HL.pa ?_ | refine HL.ga rfl ?_ | refine HL.na rfl ?_ | refine HL.nu rfl rfl ?_ | apply HC.block | apply HC.skip | apply HC.exit | apply HC.ret | apply HX.e_block | refine HX.e_other rfl ?_ | apply HX.e_then | apply HX.e_again | apply HX.n_block | apply HX.r_then | apply HX.r_block | apply HX.r_again | refine HC.cond_yes rfl ?_ | refine HC.cond_no rfl ?_ | refine HL.one (H1.ldb rfl memA rfl rfl ?_) | refine HC.cond rfl (fun hc => ?_) (fun hc => ?_) | refine HC.cond_b rfl (fun hc => ?_) (fun hc => ?_))
  refine HL.one (H1.callk (α := Int) (V := fun k => zv k) (I := fun k => FirstI l p k) (H' := fun _ => A.grow 3 1 a c l.length (ints l) :: K) (vs := [.slice a l.length c, .func (.func f) #[] cap.toArray]) rfl rfl (fun w' hM => indexFI_fn p l hl (.head _) (fun x hx w2 hM2 => hp x hx _ _ _ _ w2 hM2) w' hM) ?_)
  rintro k (⟨rfl, hall⟩ | ⟨i0, rfl, hi0, hpre, hpi⟩)
  · rw [filt_all hall]
    repeat' (first | apply HL.fold | apply HA.fold | apply HL.nil | apply HX.n_then | apply HC.seq | apply HC.region | refine HL.pa ?_ | refine HL.ga rfl ?_ | refine HL.na rfl ?_ | refine HL.nu rfl rfl ?_ | apply HC.block | apply HC.skip | apply HC.exit | apply HC.ret | apply HX.e_block | refine HX.e_other rfl ?_ | apply HX.e_then | apply HX.e_again | apply HX.n_block | apply HX.r_then | apply HX.r_block | apply HX.r_again | refine HC.cond_yes rfl ?_ | refine HC.cond_no rfl ?_ | refine HL.one (H1.ldb rfl memA rfl rfl ?_) | refine HC.cond rfl (fun hc => ?_) (fun hc => ?_) | refine HC.cond_b rfl (fun hc => ?_) (fun hc => ?_))
    exact HX.ret1 rfl rfl fun w' hM => ⟨rfl, hM⟩
  have hne1 : ¬ (i0 : Int) = -1 := by omega
  repeat' (first | apply HL.fold | apply HA.fold | apply HL.nil | apply HX.n_then | apply HC.seq | apply HC.region | refine HL.pa ?_ | refine HL.ga rfl ?_ | refine HL.na rfl ?_ | refine HL.nu rfl rfl ?_ | apply HC.block | apply HC.skip | apply HC.exit | apply HC.ret | apply HX.e_block | refine HX.e_other rfl ?_ | apply HX.e_then | apply HX.e_again | apply HX.n_block | apply HX.r_then | apply HX.r_block | apply HX.r_again | refine HC.cond_yes rfl ?_ | refine HC.cond_no rfl ?_ | refine HL.one (H1.ldb rfl memA rfl rfl ?_) | refine HC.cond rfl (fun hc => ?_) (fun hc => ?_) | refine HC.cond_b rfl (fun hc => ?_) (fun hc => ?_))
  have hF0 : (l.take (i0 + 1)).filter (fun x => !p x) = l.take i0 := by
    rw [filt_step hi0, if_pos hpi]
    exact filt_all hpre
  refine HC.loop (α := Nat × List Int) (fun z => [(0, .slice a l.length c), (1, .func (.func f) #[] cap.toArray), (5, zv (((l.take z.1).filter fun x => !p x).length : Int)), (6, zv (z.1 : Int))])
    (fun z => A.grow 3 1 a c l.length (ints ((l.take z.1).filter (fun x => !p x) ++ z.2 ++ l.drop z.1)) :: K)
    (fun z => z.1 ≤ l.length ∧ ((l.take z.1).filter fun x => !p x).length + z.2.length = z.1 ∧ z.2 ≠ []) (fun z => l.length - z.1) (i0 + 1, [l.getD i0 0])
    ⟨hi0, by show ((l.take (i0 + 1)).filter fun x => !p x).length + 1 = i0 + 1; rw [hF0, List.length_take]; omega, by simp⟩ ⟨rfl, rfl, ?_, rfl, trivial⟩ ?_ ?_
  · show some (zv _) = some (zv _)
    rw [hF0, List.length_take, Nat.min_eq_left (by omega)]
  · show Hs _ (A.grow _ 1 a c l.length (ints ((l.take (i0 + 1)).filter (fun x => !p x) ++ [l.getD i0 0] ++ l.drop (i0 + 1))) :: K)
    rw [hF0, ← take_at2 hi0, List.take_append_drop]
    exact Hs.refl _
  rintro ⟨j, M⟩ ⟨hj, hlen, hM0⟩
  dsimp only at hj hlen hM0 ⊢
  have hMl : 0 < M.length := List.length_pos_iff.2 hM0
  refine HC.openg (e := 3) (sz := 1) (.head _) (by omega) ?_
  rintro b rfl
  by_cases hlt : j < l.length
  · have hfs := filt_step (p := p) hlt
    have hdr := drop_at2 hlt
    have hmem : l.getD j 0 ∈ l := by simp [hlt]
    have hpx := hp _ hmem
    obtain ⟨F, hF⟩ : ∃ F, F = (l.take j).filter fun x => !p x := ⟨_, rfl⟩
    rw [← hF] at hlen hfs ⊢
    generalize l.getD j 0 = x at hfs hdr hpx
    have hget : (ints (F ++ M ++ l.drop j))[j]? = some (zv x) := by
      unfold ints
      rw [List.getElem?_map, List.getElem?_append_right (by rw [List.length_append]; omega), List.length_append, hlen, Nat.sub_self, hdr]; rfl
    obtain ⟨m0, M', hMM⟩ := List.exists_cons_of_ne_nil hM0
    have hset : (F ++ M ++ l.drop j).set F.length x = F ++ [x] ++ (M' ++ [x]) ++ l.drop (j + 1) := by
      rw [hMM, hdr, List.append_assoc, List.set_append_right _ _ (Nat.le_refl _), Nat.sub_self]
      simp
    have hkeep : F ++ M ++ l.drop j = F ++ (M ++ [x]) ++ l.drop (j + 1) := by rw [hdr]; simp
    have hML : M.length = M'.length + 1 := by rw [hMM]; rfl
    repeat' (first | apply HL.fold | apply HA.fold | apply HL.nil | apply HX.n_then | apply HC.seq | apply HC.region | refine HL.pa ?_ | refine HL.ga rfl ?_ | refine HL.na rfl ?_ | refine HL.nu rfl rfl ?_ | apply HC.block | apply HC.skip | apply HC.exit | apply HC.ret | apply HX.e_block | refine HX.e_other rfl ?_ | apply HX.e_then | apply HX.e_again | apply HX.n_block | apply HX.r_then | apply HX.r_block | apply HX.r_again | refine HC.cond_yes rfl ?_ | refine HC.cond_no rfl ?_ | refine HL.one (H1.ldb rfl memA rfl rfl ?_) | refine HC.cond rfl (fun hc => ?_) (fun hc => ?_) | refine HC.cond_b rfl (fun hc => ?_) (fun hc => ?_))
    refine HL.one (H1.ldg rfl (.head _) hget rfl ?_)
    repeat' (first | apply HL.fold | apply HA.fold | apply HL.nil | apply HX.n_then | apply HC.seq | apply HC.region | refine HL.pa ?_ | refine HL.ga rfl ?_ | refine HL.na rfl ?_ | refine HL.nu rfl rfl ?_ | apply HC.block | apply HC.skip | apply HC.exit | apply HC.ret | apply HX.e_block | refine HX.e_other rfl ?_ | apply HX.e_then | apply HX.e_again | apply HX.n_block | apply HX.r_then | apply HX.r_block | apply HX.r_again | refine HC.cond_yes rfl ?_ | refine HC.cond_no rfl ?_ | refine HL.one (H1.ldb rfl memA rfl rfl ?_) | refine HC.cond rfl (fun hc => ?_) (fun hc => ?_) | refine HC.cond_b rfl (fun hc => ?_) (fun hc => ?_))
    refine HL.one (H1.callv0 (f := f) (u := .bool (p x)) (cap := cap) (vs := [zv x]) rfl rfl rfl (fun w' hM => hpx _ _ _ _ w' hM) ?_)
    cases hpv : p x
    · rw [hpv, if_neg (by decide)] at hfs
      repeat' (first | apply HL.fold | apply HA.fold | apply HL.nil | apply HX.n_then | apply HC.seq | apply HC.region | refine HL.pa ?_ | refine HL.ga rfl ?_ | refine HL.na rfl ?_ | refine HL.nu rfl rfl ?_ | apply HC.block | apply HC.skip | apply HC.exit | apply HC.ret | apply HX.e_block | refine HX.e_other rfl ?_ | apply HX.e_then | apply HX.e_again | apply HX.n_block | apply HX.r_then | apply HX.r_block | apply HX.r_again | refine HC.cond_yes rfl ?_ | refine HC.cond_no rfl ?_ | refine HL.one (H1.ldb rfl memA rfl rfl ?_) | refine HC.cond rfl (fun hc => ?_) (fun hc => ?_) | refine HC.cond_b rfl (fun hc => ?_) (fun hc => ?_))
      refine HL.one (H1.stg (b := b) (i := F.length) rfl rfl (by intro _ h; cases h) (by intro _ h; cases h) rplA (by rw [ints_len2, List.length_append, List.length_append, List.length_drop]; omega) ?_)
      rw [ints_set2, hset]
      repeat' (first | apply HL.fold | apply HA.fold | apply HL.nil | apply HX.n_then | apply HC.seq | apply HC.region | refine HL.pa ?_ | refine HL.ga rfl ?_ | refine HL.na rfl ?_ | refine HL.nu rfl rfl ?_ | apply HC.block | apply HC.skip | apply HC.exit | apply HC.ret | apply HX.e_block | refine HX.e_other rfl ?_ | apply HX.e_then | apply HX.e_again | apply HX.n_block | apply HX.r_then | apply HX.r_block | apply HX.r_again | refine HC.cond_yes rfl ?_ | refine HC.cond_no rfl ?_ | refine HL.one (H1.ldb rfl memA rfl rfl ?_) | refine HC.cond rfl (fun hc => ?_) (fun hc => ?_) | refine HC.cond_b rfl (fun hc => ?_) (fun hc => ?_))
      refine HX.again (j + 1, M' ++ [x]) ⟨hlt, by show _ + (M' ++ [x]).length = j + 1; rw [hfs, List.length_append, List.length_append]; show F.length + 1 + (M'.length + 1) = j + 1; omega, by simp⟩ (by show l.length - (j + 1) < l.length - j; omega) ⟨rfl, rfl, ?_, rfl, trivial⟩ (by dsimp only; rw [hfs]; exact Hs.refl _)
      show some (zv _) = some (zv _)
      rw [hfs, List.length_append]; rfl
    · rw [hpv, if_pos rfl] at hfs
      rw [hkeep]
      repeat' (first | apply HL.fold | apply HA.fold | apply HL.nil | apply HX.n_then | apply HC.seq | apply HC.region | refine HL.pa ?_ | refine HL.ga rfl ?_ | refine HL.na rfl ?_ | refine HL.nu rfl rfl ?_ | apply HC.block | apply HC.skip | apply HC.exit | apply HC.ret | apply HX.e_block | refine HX.e_other rfl ?_ | apply HX.e_then | apply HX.e_again | apply HX.n_block | apply HX.r_then | apply HX.r_block | apply HX.r_again | refine HC.cond_yes rfl ?_ | refine HC.cond_no rfl ?_ | refine HL.one (H1.ldb rfl memA rfl rfl ?_) | refine HC.cond rfl (fun hc => ?_) (fun hc => ?_) | refine HC.cond_b rfl (fun hc => ?_) (fun hc => ?_))
      exact HX.again (j + 1, M ++ [x]) ⟨hlt, by show _ + (M ++ [x]).length = j + 1; rw [hfs, List.length_append]; show F.length + (M.length + 1) = j + 1; omega, by simp⟩ (by show l.length - (j + 1) < l.length - j; omega) ⟨rfl, rfl, by show some (zv _) = some (zv _); rw [hfs], rfl, trivial⟩ (by dsimp only; rw [hfs]; exact Hs.refl _)
  · obtain rfl : j = l.length := by omega
    rw [List.take_length] at hlen ⊢
    obtain ⟨F, hF⟩ : ∃ F, F = l.filter fun x => !p x := ⟨_, rfl⟩
    rw [← hF] at hlen ⊢
    rw [List.drop_length, List.append_nil]
    refine HC.capOfI (e := 3) (.head _) fun hcap => ?_
    repeat' (first | apply HL.fold | apply HA.fold | apply HL.nil | apply HX.n_then | apply HC.seq | apply HC.region | refine HL.pa ?_ | refine HL.ga rfl ?_ | refine HL.na rfl ?_ | refine HL.nu rfl rfl ?_ | apply HC.block | apply HC.skip | apply HC.exit | apply HC.ret | apply HX.e_block | refine HX.e_other rfl ?_ | apply HX.e_then | apply HX.e_again | apply HX.n_block | apply HX.r_then | apply HX.r_block | apply HX.r_again | refine HC.cond_yes rfl ?_ | refine HC.cond_no rfl ?_ | refine HL.one (H1.ldb rfl memA rfl rfl ?_) | refine HC.cond rfl (fun hc => ?_) (fun hc => ?_) | refine HC.cond_b rfl (fun hc => ?_) (fun hc => ?_))
    refine HL.pa ?_ (POp.cut_l rfl rfl (by omega) (by omega) (by omega))
    rw [show 0 + ((F.length : Nat) : Int).toNat * 1 = F.length from by omega, show l.length - ((F.length : Nat) : Int).toNat = M.length from by omega]
    repeat' (first | apply HL.fold | apply HA.fold | apply HL.nil | apply HX.n_then | apply HC.seq | apply HC.region | refine HL.pa ?_ | refine HL.ga rfl ?_ | refine HL.na rfl ?_ | refine HL.nu rfl rfl ?_ | apply HC.block | apply HC.skip | apply HC.exit | apply HC.ret | apply HX.e_block | refine HX.e_other rfl ?_ | apply HX.e_then | apply HX.e_again | apply HX.n_block | apply HX.r_then | apply HX.r_block | apply HX.r_again | refine HC.cond_yes rfl ?_ | refine HC.cond_no rfl ?_ | refine HL.one (H1.ldb rfl memA rfl rfl ?_) | refine HC.cond rfl (fun hc => ?_) (fun hc => ?_) | refine HC.cond_b rfl (fun hc => ?_) (fun hc => ?_))
    refine HL.one (H1.clearT rfl rfl rfl (by rw [ints_len2, List.length_append]; omega) hlen hMl rplA rfl ?_)
    repeat' (first | apply HL.fold | apply HA.fold | apply HL.nil | apply HX.n_then | apply HC.seq | apply HC.region | refine HL.pa ?_ | refine HL.ga rfl ?_ | refine HL.na rfl ?_ | refine HL.nu rfl rfl ?_ | apply HC.block | apply HC.skip | apply HC.exit | apply HC.ret | apply HX.e_block | refine HX.e_other rfl ?_ | apply HX.e_then | apply HX.e_again | apply HX.n_block | apply HX.r_then | apply HX.r_block | apply HX.r_again | refine HC.cond_yes rfl ?_ | refine HC.cond_no rfl ?_ | refine HL.one (H1.ldb rfl memA rfl rfl ?_) | refine HC.cond rfl (fun hc => ?_) (fun hc => ?_) | refine HC.cond_b rfl (fun hc => ?_) (fun hc => ?_))
    refine HX.ret1 rfl rfl fun w' hM => ⟨by rw [Int.toNat_natCast], ?_⟩
    have hM2 := Mm.growPre (i := F.length) hM (by omega) (by omega)
    have e : (List.take F.length (ints (F ++ M)) ++ List.replicate M.length (zv 0)).take F.length = ints F := by
      have t1 : (ints (F ++ M)).take F.length = ints F := by unfold ints; rw [← List.map_take, List.take_left]
      rw [t1, List.take_append_of_le_length (by rw [ints_len2]; exact Nat.le_refl _), List.take_of_length_le (by rw [ints_len2]; exact Nat.le_refl _)]
    have e2 : List.replicate M.length (zv 0) = List.replicate M.length (Value.int IntKind.i64 0) := rfl
    rw [← e2] at hM2
    rw [e] at hM2
    exact hM2
end Go.Sx

