/- Chapter 25: a power failure: the library's functions, the walks. -/
import Derived.Test.YtionfblneloaiaaGreatDoorJR
import Derived.Test.YtionfblneloaiaaGreatDoorXS
import Derived.Test.YtionfblneloaiaaGreatDoorJL
import Derived.Test.YtionfblneloaiaaGreatDoorKL
namespace Go.Sx
open Go Go.Proofs Go.RowKit
theorem hwKF {G G2 : Prop} (x : G2) (hwq : Hold G2 → G := by
    intro hQq
    repeat' (first | refine HL.pa ?_ (POp.pnil1 rfl rfl) | refine HL.pa ?_ (POp.pnil0 rfl rfl) | refine HL.pa ?_ (POp.nilCheck rfl) | apply HL.fold | apply HA.fold | apply HL.nil | apply HX.n_then | apply HC.seq | apply HC.region | refine HL.pa ?_ | refine HL.ga rfl ?_ | refine HL.na rfl ?_ | refine HL.nu rfl rfl ?_ | apply HC.block | apply HC.skip | apply HC.exit | apply HC.ret | apply HX.e_block | refine HX.e_other rfl ?_ | apply HX.e_then | apply HX.e_again | apply HX.n_block | apply HX.r_then | apply HX.r_block | apply HX.r_again | refine HC.cond_yes rfl ?_ | refine HC.cond_no rfl ?_ | refine HL.one (H1.ldb rfl memA rfl rfl ?_) | refine HC.cond rfl (fun hc => ?_) (fun hc => ?_) | refine HC.cond_b rfl (fun hc => ?_) (fun hc => ?_))
    exact hQq.get) : G := hwq ⟨x⟩
theorem hbKF {G G2 : Prop} (x : G2) (hwq : Hold G2 → G := by
    intro hQq
    repeat' (first | refine HL.pa ?_ (POp.pnil1 rfl rfl) | refine HL.pa ?_ (POp.pnil0 rfl rfl) | refine HL.pa ?_ (POp.nilCheck rfl) | apply HL.fold | apply HA.fold | apply HL.nil | apply HX.n_then | apply HC.seq | apply HC.region | refine HL.pa ?_ | refine HL.ga rfl ?_ | refine HL.na rfl ?_ | refine HL.nu rfl rfl ?_ | apply HC.skip | apply HC.exit | apply HC.ret | apply HX.e_block | refine HX.e_other rfl ?_ | apply HX.e_then | apply HX.e_again | apply HX.n_block | apply HX.r_then | apply HX.r_block | apply HX.r_again | refine HC.cond_yes rfl ?_ | refine HC.cond_no rfl ?_ | refine HL.one (H1.ldb rfl memA rfl rfl ?_) | refine HC.cond rfl (fun hc => ?_) (fun hc => ?_) | refine HC.cond_b rfl (fun hc => ?_) (fun hc => ?_))
    exact hQq.get) : G := hwq ⟨x⟩
theorem ints_snoc2 (l : List Int) (x : Int) : ints l ++ [zv x] = ints (l ++ [x]) := by simp [ints]
theorem take_at2 {l : List Int} {i : Nat} (h : i < l.length) : l.take (i + 1) = l.take i ++ [l.getD i 0] := by
  rw [List.take_add_one, List.getElem?_eq_getElem h]
  simp [h]
theorem ints_get2 {l : List Int} {i : Nat} (h : i < l.length) : (ints l)[i]? = some (zv (l.getD i 0)) := by unfold ints; simp [h]
theorem rd_someI {w : World} {a : Option Addr} {n c : Nat} {l : List Int} (h : Rd w (.slice a n c) (ints l)) (hne : l ≠ []) : ∃ b off, a = some ⟨b, off, none⟩ := by
  obtain ⟨b, off, cc, e, -⟩ := h.at (by intro e; exact hne (by simpa [ints] using e))
  cases e
  exact ⟨b, off, rfl⟩
attribute [local irreducible] WC WL WX POp Then Again Fn NX W1 WA WO QL RP RA Yld LoopAt HC HL HX HN H1 HA HO HQ HB HP A.blk A.grow A.rd A.obj A.mp AgainH CutH
attribute [local irreducible] A.dfr A.loop
theorem values_fn (a : Option Addr) (n c : Nat) (w : World) : Fn Tryz.prog 74 #[.slice a n c] w fun u w' => ∃ b : Nat, True ∧ u = .func (.func 127) #[] #[.pointer (some ⟨b, 0, none⟩)] ∧ Mm w [A.blk b [.slice a n c] 38] w' := by
  refine enterH (l := [_]) rfl Tryz.ntmps74 rfl ?_
  refine hwKF ?_
  refine HL.one (H1.box rfl rfl rfl (fun b1 => ?_))
  refine hwKF ?_
  exact HX.ret1 rfl rfl fun w' hM => ⟨b1, trivial, rfl, hM⟩
theorem values1_fn {w0 : World} {K0 K1 : Atom} {Hq : Nat → Option Addr × Nat → List Atom} {b1 lp c : Nat} {a : Option Addr} {z0 : Option Addr × Nat} (l : List Int) (hR : Rd w0 (.slice a l.length c) (ints l)) (hb : w0.cell? ⟨b1, 0, none⟩ = some (.slice a l.length c)) (hl : l.length ≤ 1000000)
    (hy : ∀ q z, q < l.length → ∀ w, Mm w0 (K0 :: K1 :: Hq q z) w →
      Yld Tryz.prog lp [zv (l.getD q 0)] w fun b w' => b = true ∧ ∃ z' : Option Addr × Nat, True ∧ Mm w0 (K0 :: K1 :: Hq (q + 1) z') w') :
    ∀ w, Mm w0 (K0 :: K1 :: Hq 0 z0) w →
      Fn Tryz.prog 127 (.func (.yield lp) #[] #[] :: [.pointer (some ⟨b1, 0, none⟩)]).toArray w fun _ w' => ∃ z : Option Addr × Nat, True ∧ Mm w0 (K0 :: K1 :: Hq l.length z) w' := by
  intro w hM
  refine enterK (l := [_, _]) hM rfl Tryz.ntmps127 rfl ?_
  refine hwKF ?_
  refine HL.one (H1.ld0 rfl hb rfl ?_)
  refine hwKF ?_
  refine HC.loop (α := Nat × Option Addr × Nat) (fun z => [(0, .func (.yield lp) #[] #[]), (5, .slice a l.length c), (6, zv (l.length : Int)), (7, zv (z.1 : Int))]) (fun z => K0 :: K1 :: Hq z.1 z.2) (fun z => z.1 ≤ l.length) (fun z => l.length - z.1) (0, z0) (Nat.zero_le _) esA (Hs.refl _) ?_
  rintro ⟨q, z⟩ hq
  dsimp only at hq ⊢
  by_cases hlt : q < l.length
  · obtain ⟨b, off, rfl⟩ := rd_someI hR (by rintro rfl; simp at hlt)
    have hget := hR.cell (ints_get2 hlt)
    have hyq := hy q z hlt
    generalize l.getD q 0 = x at hget hyq
    refine hwKF ?_
    refine HL.one (H1.ld0 rfl hget rfl ?_)
    refine hwKF ?_
    refine HL.one (H1.yield rfl rfl rfl hyq ?_)
    rintro z' -
    refine hwKF ?_
    exact HX.again (q + 1, z') hlt (by show l.length - (q + 1) < l.length - q; omega) esA (Hs.refl _)
  · obtain rfl : q = l.length := by omega
    refine hwKF ?_
    exact HX.end0 rfl fun w' hM => ⟨z, trivial, hM⟩
theorem appendSeq_fn {b1 c : Nat} {a : Option Addr} (l : List Int) (w : World) (hR : Rd w (.slice a l.length c) (ints l)) (hb : Blk w b1 [.slice a l.length c] 38) (hl : l.length ≤ 900000) :
    Fn Tryz.prog 165 #[.slice none 0 0, .func (.func 127) #[] #[.pointer (some ⟨b1, 0, none⟩)]] w fun u w' => ∃ z : Option Addr × Nat, True ∧ u = .slice z.1 l.length z.2 ∧ Mm w [A.grow 3 1 z.1 z.2 l.length (ints l)] w' := by
  refine enterMH (l := [_, _]) rfl Tryz.ntmps165 rfl ?_
  refine hwKF ?_
  refine HL.one (H1.box rfl rfl rfl (fun b2 => ?_))
  refine hwKF ?_
  refine HC.grow0 3 1 ?_
  refine HC.sub [(2, .pointer (some ⟨b2, 0, none⟩)), (6, .func (.func 127) #[] #[.pointer (some ⟨b1, 0, none⟩)])] [A.blk b2 [.slice none 0 0] 38, A.grow 3 1 none 0 0 (ints (l.take 0))] ?_ esA (Hs.cons (Pick.there Pick.here) (Hs.cons Pick.here (Hs.nil _)))
  refine HC.rangeFunc (α := Option Addr × Nat) (lb := [.pointer (some ⟨b1, 0, none⟩)]) (fun z => [A.blk b2 [.slice z.1 l.length z.2] 38, A.grow 3 1 z.1 z.2 l.length (ints l)]) (fun _ => True) rfl ?_ ?_
  · intro D lp L hL w1 hM1
    refine (values1_fn (Hq := fun q z => [A.blk b2 [.slice z.1 q z.2] 38, A.grow 3 1 z.1 z.2 q (ints (l.take q))]) (z0 := (none, 0)) l hR (hb.cell rfl) (by omega) ?_ w1 hM1).mono fun v w2 h => ?_
    · rintro q ⟨aq, cq⟩ hq
      have htk := take_at2 hq
      generalize l.getD q 0 = x at htk
      dsimp only
      refine Yld.ofH hL memA rfl rfl ?_
      dsimp only [List.zip_cons_cons, List.zip_nil_right, putAll]
      refine hwKF ?_
      refine HX.ra hL rplA ?_
      refine hwKF ?_
      refine HL.one (H1.lit (cs := [zv x]) rfl rfl rfl rfl rfl rfl (fun b9 => ?_))
      refine hwKF ?_
      refine HL.one (H1.app1 (u := zv x) rfl rfl (fun _ _ => by first | ((repeat (first | with_reducible exact Rpl.here | with_reducible apply Rpl.there)); done) | (repeat (first | exact Rpl.here | apply Rpl.there))) memA rfl rfl (by omega) rfl rfl (fun a' c' => ?_))
      rw [ints_snoc2, ← htk]
      refine hwKF ?_
      refine HL.one (H1.st (b := b2) rfl rfl (by intro _ h; cases h) (by intro _ h; cases h) rplA (by exact Nat.zero_lt_one) ?_)
      refine hwKF ?_
      refine HX.rp_n hL rplA fun w' hM => ⟨rfl, (some ⟨a', 0, none⟩, c'), trivial, ?_⟩
      exact hM.tail
    · obtain ⟨z, h1, h2⟩ := h
      rw [List.take_length] at h2
      exact ⟨z, h1, h2⟩
  · rintro D ⟨az, cz⟩ -
    dsimp only
    refine hwKF ?_
    exact HX.retM1 rfl rfl Pick.here fun w' hM => ⟨(az, cz), trivial, rfl, hM.tail⟩
theorem collect_fn {b1 c : Nat} {a : Option Addr} (l : List Int) (w : World) (hR : Rd w (.slice a l.length c) (ints l)) (hb : Blk w b1 [.slice a l.length c] 38) (hl : l.length ≤ 900000) :
    Fn Tryz.prog 125 #[.func (.func 127) #[] #[.pointer (some ⟨b1, 0, none⟩)]] w fun u w' => ∃ z : Option Addr × Nat, True ∧ u = .slice z.1 l.length z.2 ∧ Mm w [A.grow 3 1 z.1 z.2 l.length (ints l)] w' := by
  refine enterH (l := [_]) rfl Tryz.ntmps125 rfl ?_
  refine hwKF ?_
  refine HL.one (H1.callz (vs := [.slice none 0 0, .func (.func 127) #[] #[.pointer (some ⟨b1, 0, none⟩)]]) rfl rfl (fun w' hM => appendSeq_fn l w' (hR.ext hM.ext) (blk_ext hb hM.ext) hl) ?_)
  rintro ⟨a2, c2⟩ -
  dsimp only
  refine hwKF ?_
  exact HX.ret1 rfl rfl fun w' hM => ⟨(a2, c2), trivial, rfl, hM⟩
theorem sorted_fn {b1 c : Nat} {a : Option Addr} (l : List Int) (w : World) (hR : Rd w (.slice a l.length c) (ints l)) (hb : Blk w b1 [.slice a l.length c] 38) (hl : l.length ≤ 900000) :
    Fn Tryz.prog 73 #[.func (.func 127) #[] #[.pointer (some ⟨b1, 0, none⟩)]] w fun u w' => ∃ z : Option Addr × Nat, True ∧ u = .slice z.1 (srtI l).length z.2 ∧ Mm w [A.grow 3 1 z.1 z.2 (srtI l).length (ints (srtI l))] w' := by
  rw [srtI_len]
  refine enterH (l := [_]) rfl Tryz.ntmps73 rfl ?_
  refine hwKF ?_
  refine HL.one (H1.callz (vs := [.func (.func 127) #[] #[.pointer (some ⟨b1, 0, none⟩)]]) rfl rfl (fun w' hM => collect_fn l w' (hR.ext hM.ext) (blk_ext hb hM.ext) hl) ?_)
  rintro ⟨a2, c2⟩ -
  dsimp only
  refine hwKF ?_
  refine HL.one (H1.callk (α := Unit) (V := fun _ => .tuple #[]) (I := fun _ => True) (H' := fun _ => [A.grow 3 1 a2 c2 l.length (ints (srtI l))]) (vs := [.slice a2 l.length c2]) rfl rfl (fun w' hM => (sortI_fn hM Rpl.here (by omega)).mono fun v w2 h => ⟨(), trivial, h⟩) ?_)
  rintro - -
  refine hwKF ?_
  exact HX.ret1 rfl rfl fun w' hM => ⟨(a2, c2), trivial, rfl, hM⟩
end Go.Sx
/- Chapter 25: slices.DeleteFunc at numbers: the walks. -/
namespace Go.Sx
open Go Go.Proofs Go.RowKit
section
variable {P : Program} {r : Option Nat} {N : Nat} {ds : List Deferred} {ol rest : List Oper} {Q : Post} {E : Env} {w0 : World} {H : List Atom} {next : Act → World → Prop} {g : Option (Nat × Bool)}
variable {d : Option Nat} {t ty : TypeId} {pos : String} {af : Array Edge} {x y : Operand}
/-- clear, of the end of a slice of the call's own. -/
theorem H1.clearT {e : TypeId} {z : Value} {bb b i m n c c2 : Nat} {xs : List Value} {H' : List Atom} [h : UTy P t (.slice e)] [hi : ITy P e z 1 bb] (hzc : z.cells = #[z]) (h1 : z.oneCell' = true)
    (hx : Env.ev E x = some (.slice (some ⟨b, i, none⟩) m c2)) (hl : xs.length = n) (hm : i + m = n) (hm0 : 0 < m) (hr : Rpl (A.grow e 1 (some ⟨b, 0, none⟩) c n xs) (A.grow e 1 (some ⟨b, 0, none⟩) c n (xs.take i ++ List.replicate m z)) H H') (hd : dOk d N = true) (hn : HN N ds next (putE d (.tuple #[]) E) w0 H') :
    H1 P r N ds next ⟨d, .call ⟨.builtin .clear, #[x], #[t]⟩, ty, pos, af, g⟩ Q E w0 H := fun w hM => by
  have hown := hM.own hr.mem
  obtain ⟨cur, hg, hnc, hcm, hcs, htk⟩ : ∃ cur, w.heap[b]? = some (.cells cur e (0, 0)) ∧ n ≤ c ∧ c ≤ maxLen ∧ cur.size = c * 1 ∧ cur.toList.take (n * 1) = xs := by
    rcases hown.2 with ⟨hv, -⟩ | ⟨q, cap, cur, hv, -, hg, hnc, hcm, hcs, htk⟩
    · cases hv
    · cases hv; exact ⟨cur, hg, hnc, hcm, hcs, htk⟩
  have hzr : (Builtin.zeroCells z.cells m).toList = List.replicate m z := by
    rw [hzc]
    unfold Builtin.zeroCells
    rw [Array.toList_map]
    refine List.eq_replicate_iff.2 ⟨by simp, fun v hv => ?_⟩
    obtain ⟨j, -, rfl⟩ := List.mem_map.1 hv
    simp [Nat.mod_one]
  have hst := run_storeCells_at P b i e (List.replicate m z) 0 cur w hg (by rw [List.length_replicate]; omega) (by intro v hv; rw [(List.mem_replicate.1 hv).2]; exact h1)
  simp only [Nat.add_zero, List.length_replicate] at hst
  obtain ⟨m', rfl⟩ : ∃ m', m = m' + 1 := ⟨m - 1, by omega⟩
  have hrun : (Builtin.clear_ #[t] ty #[.slice (some ⟨b, i, none⟩) (m' + 1) c2]).run P w = .ok (.tuple #[]) (w.setRow b (cur.toList.take i ++ List.replicate (m' + 1) z ++ cur.toList.drop (i + (m' + 1))).toArray) := by
    simp [Builtin.clear_, run_underlying h.is, run_zeroValue (h := hi), hzr, hst]
  have htk' : cur.toList.take n = xs := by rw [Nat.mul_one] at htk; exact htk
  refine W1.run (v := .tuple #[]) (w' := w.setRow b (cur.toList.take i ++ List.replicate (m' + 1) z ++ cur.toList.drop (i + (m' + 1))).toArray) (fun a ha => ?_) rfl hd (hn _ (hM.turn hr rfl rfl rfl (by simp [World.setRow]) (fun k hk hk' => ?_) ⟨?_, .inr ⟨b, c, (cur.toList.take i ++ List.replicate (m' + 1) z ++ cur.toList.drop (i + (m' + 1))).toArray, rfl, Nat.zero_le _, ?_, hnc, hcm, ?_, ?_⟩⟩ (by simp [A.grow, Value.ownBlock]) fun b' hb' => .inl hb'))
  · simp only [execOp, resolve, invoke, Go.builtin, Sem.run_bind, Sem.run_pure, Result.andThen, List.map_toArray, List.map_cons, List.map_nil, ha.ev hx, hrun]
  · have hne : ¬ b = k := fun e => hk' (by simp [A.grow, Value.ownBlock, e])
    simp [World.setRow, Array.getElem?_modify, hne]
  · rw [List.length_append, List.length_take, List.length_replicate]; omega
  · exact setRow_heap w b _ _ e _ hg
  · rw [List.size_toArray, List.length_append, List.length_append, List.length_take, List.length_replicate, List.length_drop, Array.length_toList]; omega
  · rw [List.toList_toArray, Nat.mul_one, ← htk', List.take_take, Nat.min_eq_left (by omega)]
    rw [List.take_append_of_le_length (by rw [List.length_append, List.length_take, List.length_replicate, Array.length_toList]; omega), List.take_of_length_le (by rw [List.length_append, List.length_take, List.length_replicate]; omega)]
/-- The first part of a slice of the call's own. -/
theorem ownsRow_pre {w : World} {base c n i : Nat} {e : TypeId} {a : Option Addr} {xs : List Value} (h : w.ownsRow base e 1 (.slice a n c) n xs) (hi : i ≤ n) (h0 : n ≠ 0) : w.ownsRow base e 1 (.slice a i c) i (xs.take i) := by
  have hl := h.1
  rcases h.2 with ⟨hv, hz⟩ | ⟨g, cap, cur, hv, hb, hg, hnc, hcm, hcs, htk⟩
  · exact absurd hz h0
  · cases hv
    exact ⟨by rw [List.length_take]; omega, .inr ⟨g, c, cur, rfl, hb, hg, by omega, hcm, hcs, by rw [← htk, List.take_take]; congr 1; omega⟩⟩
theorem HL.growPre {l : List Oper} {e : TypeId} {c n i : Nat} {a : Option Addr} {xs : List Value} {H' : List Atom} (hr : Rpl (A.grow e 1 a c n xs) (A.grow e 1 a c i (xs.take i)) H H') (hi : i ≤ n) (h0 : n ≠ 0) (h : HL P r N ds ol l Q E w0 H') : HL P r N ds ol l Q E w0 H := fun w hM =>
  h w (hM.turn hr rfl rfl rfl (Nat.le_refl _) (fun _ _ _ => rfl) (ownsRow_pre (hM.own hr.mem) hi h0) (by cases a <;> simp [A.grow, Value.ownBlock]) (fun b hb => .inl (by cases a <;> exact hb)))
theorem Mm.growPre {e : TypeId} {c n i : Nat} {a : Option Addr} {xs : List Value} {w : World} (hM : Mm w0 (A.grow e 1 a c n xs :: H) w) (hi : i ≤ n) (h0 : n ≠ 0) : Mm w0 (A.grow e 1 a c i (xs.take i) :: H) w :=
  hM.turn Rpl.here rfl rfl rfl (Nat.le_refl _) (fun _ _ _ => rfl) (ownsRow_pre (hM.own (.head _)) hi h0) (by cases a <;> simp [A.grow, Value.ownBlock]) (fun b hb => .inl (by cases a <;> exact hb))
end
/-- Which is the first that is struck. -/
def FirstI (l : List Int) (p : Int → Bool) (k : Int) : Prop := (k = -1 ∧ ∀ x ∈ l, p x = false) ∨ ∃ i : Nat, k = (i : Int) ∧ i < l.length ∧ (∀ x ∈ l.take i, p x = false) ∧ p (l.getD i 0) = true
theorem filt_all {l : List Int} {p : Int → Bool} (h : ∀ x ∈ l, p x = false) : l.filter (fun x => !p x) = l := List.filter_eq_self.2 fun x hx => by rw [h x hx]; rfl
theorem filt_step {l : List Int} {p : Int → Bool} {j : Nat} (h : j < l.length) : (l.take (j + 1)).filter (fun x => !p x) = if p (l.getD j 0) then (l.take j).filter (fun x => !p x) else (l.take j).filter (fun x => !p x) ++ [l.getD j 0] := by
  rw [take_at2 h, List.filter_append]
  generalize l.getD j 0 = x
  cases hp : p x <;> simp [hp]
theorem ints_set2 (l : List Int) (i : Nat) (x : Int) : (ints l).set i (zv x) = ints (l.set i x) := by unfold ints; rw [List.map_set]
theorem ints_len2 (l : List Int) : (ints l).length = l.length := by simp [ints]
theorem drop_at2 {l : List Int} {j : Nat} (h : j < l.length) : l.drop j = l.getD j 0 :: l.drop (j + 1) := by
  rw [List.drop_eq_getElem_cons h]
  simp [h]
theorem HC.capOfI {P : Program} {r : Option Nat} {N : Nat} {ds : List Deferred} {Q : Post} {E : Env} {w0 : World} {H : List Atom} {e : TypeId} {co : Code} {n c : Nat} {a : Option Addr} {xs : List Value} (hm : A.grow e 1 a c n xs ∈ H) (h : n ≤ c → HC P r N ds co Q E w0 H) : HC P r N ds co Q E w0 H := fun w hM => by
  refine h ?_ w hM
  rcases (hM.own hm).2 with ⟨h1, rfl⟩ | ⟨g, cap, cur, hv, -, -, hnc, -⟩
  · exact Nat.zero_le _
  · cases hv; exact hnc
attribute [local irreducible] WC WL WX POp Then Again Fn NX W1 WA WO QL RP RA Yld LoopAt HC HL HX HN H1 HA HO HQ HB HP A.blk A.grow A.rd A.obj A.mp AgainH CutH
theorem indexFI_fn {w0 : World} {H : List Atom} {f : FuncId} {cap : List Value} [hf : CallOk Tryz.prog f] (p : Int → Bool) (l : List Int) {a : Option Addr} {c : Nat} (hl : l.length ≤ 1000000) (hm : A.grow 3 1 a c l.length (ints l) ∈ H)
    (hp : ∀ x ∈ l, ∀ w, Mm w0 H w → Fn Tryz.prog f ([zv x] ++ cap).toArray w fun v w' => v = .bool (p x) ∧ Ext w w') (w : World) (hM : Mm w0 H w) :
    Fn Tryz.prog 128 #[.slice a l.length c, .func (.func f) #[] cap.toArray] w fun u w' => ∃ k : Int, FirstI l p k ∧ u = zv k ∧ Mm w0 H w' := by
  refine enterK (l := [_, _]) hM rfl Tryz.ntmps128 rfl ?_
  refine hwKF ?_
  refine HC.loop (α := Nat) (fun i => [(0, .slice a l.length c), (1, .func (.func f) #[] cap.toArray), (7, zv (l.length : Int)), (8, zv (i : Int))]) (fun _ => H) (fun i => i ≤ l.length ∧ ∀ x ∈ l.take i, p x = false) (fun i => l.length - i) 0 ⟨Nat.zero_le _, fun x hx => by rw [List.take_zero] at hx; cases hx⟩ esA (Hs.refl _) ?_
  rintro i ⟨hi, hpre⟩
  by_cases hlt : i < l.length
  · refine HC.openg hm (by omega) ?_
    rintro b rfl
    have hget := ints_get2 hlt
    have htk := take_at2 hlt
    have hmem : l.getD i 0 ∈ l := by simp [hlt]
    have hpx := hp _ hmem
    have hfi : p (l.getD i 0) = true → FirstI l p (i : Int) := fun h => .inr ⟨i, rfl, hlt, hpre, h⟩
    generalize l.getD i 0 = x at hget htk hpx hfi
    refine hwKF ?_
    refine HL.one (H1.ldg rfl hm hget rfl ?_)
    refine hwKF ?_
    refine HL.one (H1.callv0 (f := f) (u := .bool (p x)) (cap := cap) (vs := [zv x]) rfl rfl rfl (fun w' hM => hpx w' hM) ?_)
    cases hpv : p x
    · refine hwKF ?_
      refine HX.again (i + 1) ⟨hlt, fun y hy => ?_⟩ (by show l.length - (i + 1) < l.length - i; omega) esA (Hs.refl _)
      rw [htk] at hy
      rcases List.mem_append.1 hy with hy | hy
      · exact hpre y hy
      · rw [List.mem_singleton.1 hy]; exact hpv
    · refine hwKF ?_
      exact HX.ret1 rfl rfl fun w' hM => ⟨(i : Int), hfi hpv, rfl, hM⟩
  · obtain rfl : i = l.length := by omega
    rw [List.take_length] at hpre
    refine hwKF ?_
    exact HX.ret1 rfl rfl fun w' hM => ⟨-1, .inl ⟨rfl, hpre⟩, rfl, hM⟩
set_option maxHeartbeats 1000000 in
theorem deleteFI_fn {w0 : World} {K : List Atom} {f : FuncId} {cap : List Value} [hf : CallOk Tryz.prog f] (p : Int → Bool) (l : List Int) {a : Option Addr} {c : Nat} (hl : l.length ≤ 1000000)
    (hp : ∀ x ∈ l, ∀ a' c' n' xs' w, Mm w0 (A.grow 3 1 a' c' n' xs' :: K) w → Fn Tryz.prog f ([zv x] ++ cap).toArray w fun v w' => v = .bool (p x) ∧ Ext w w') (w : World) (hM : Mm w0 (A.grow 3 1 a c l.length (ints l) :: K) w) :
    Fn Tryz.prog 75 #[.slice a l.length c, .func (.func f) #[] cap.toArray] w fun u w' => u = .slice a (l.filter fun x => !p x).length c ∧ Mm w0 (A.grow 3 1 a c (l.filter fun x => !p x).length (ints (l.filter fun x => !p x)) :: K) w' := by
  refine enterK (l := [_, _]) hM rfl Tryz.ntmps75 rfl ?_
  refine hwKF ?_
  refine HL.one (H1.callk (α := Int) (V := fun k => zv k) (I := fun k => FirstI l p k) (H' := fun _ => A.grow 3 1 a c l.length (ints l) :: K) (vs := [.slice a l.length c, .func (.func f) #[] cap.toArray]) rfl rfl (fun w' hM => indexFI_fn p l hl (.head _) (fun x hx w2 hM2 => hp x hx _ _ _ _ w2 hM2) w' hM) ?_)
  rintro k (⟨rfl, hall⟩ | ⟨i0, rfl, hi0, hpre, hpi⟩)
  · rw [filt_all hall]
    refine hwKF ?_
    exact HX.ret1 rfl rfl fun w' hM => ⟨rfl, hM⟩
  have hne1 : ¬ (i0 : Int) = -1 := by omega
  refine hwKF ?_
  have hF0 : (l.take (i0 + 1)).filter (fun x => !p x) = l.take i0 := by
    rw [filt_step hi0, if_pos hpi]
    exact filt_all hpre
  refine HC.loop (α := Nat × List Int) (fun z => [(0, .slice a l.length c), (1, .func (.func f) #[] cap.toArray), (5, zv (((l.take z.1).filter fun x => !p x).length : Int)), (6, zv (z.1 : Int))])
    (fun z => A.grow 3 1 a c l.length (ints ((l.take z.1).filter (fun x => !p x) ++ z.2 ++ l.drop z.1)) :: K)
    (fun z => z.1 ≤ l.length ∧ ((l.take z.1).filter fun x => !p x).length + z.2.length = z.1 ∧ z.2 ≠ []) (fun z => l.length - z.1) (i0 + 1, [l.getD i0 0])
    ⟨hi0, by show ((l.take (i0 + 1)).filter fun x => !p x).length + 1 = i0 + 1; rw [hF0, List.length_take]; omega, by simp⟩ ⟨rfl, rfl, ?_, rfl, trivial⟩ ?_ ?_
  · show some (zv _) = some (zv _)
    rw [hF0, List.length_take, Nat.min_eq_left (by omega)]
  · show Hs _ (A.grow _ 1 a c l.length (ints ((l.take (i0 + 1)).filter (fun x => !p x) ++ [l.getD i0 0] ++ l.drop (i0 + 1))) :: K)
    rw [hF0, ← take_at2 hi0, List.take_append_drop]
    exact Hs.refl _
  rintro ⟨j, M⟩ ⟨hj, hlen, hM0⟩
  dsimp only at hj hlen hM0 ⊢
  have hMl : 0 < M.length := List.length_pos_iff.2 hM0
  refine HC.openg (e := 3) (sz := 1) (.head _) (by omega) ?_
  rintro b rfl
  by_cases hlt : j < l.length
  · have hfs := filt_step (p := p) hlt
    have hdr := drop_at2 hlt
    have hmem : l.getD j 0 ∈ l := by simp [hlt]
    have hpx := hp _ hmem
    obtain ⟨F, hF⟩ : ∃ F, F = (l.take j).filter fun x => !p x := ⟨_, rfl⟩
    rw [← hF] at hlen hfs ⊢
    generalize l.getD j 0 = x at hfs hdr hpx
    have hget : (ints (F ++ M ++ l.drop j))[j]? = some (zv x) := by
      unfold ints
      rw [List.getElem?_map, List.getElem?_append_right (by rw [List.length_append]; omega), List.length_append, hlen, Nat.sub_self, hdr]; rfl
    obtain ⟨m0, M', hMM⟩ := List.exists_cons_of_ne_nil hM0
    have hset : (F ++ M ++ l.drop j).set F.length x = F ++ [x] ++ (M' ++ [x]) ++ l.drop (j + 1) := by
      rw [hMM, hdr, List.append_assoc, List.set_append_right _ _ (Nat.le_refl _), Nat.sub_self]
      simp
    have hkeep : F ++ M ++ l.drop j = F ++ (M ++ [x]) ++ l.drop (j + 1) := by rw [hdr]; simp
    have hML : M.length = M'.length + 1 := by rw [hMM]; rfl
    refine hwKF ?_
    refine HL.one (H1.ldg rfl (.head _) hget rfl ?_)
    refine hwKF ?_
    refine HL.one (H1.callv0 (f := f) (u := .bool (p x)) (cap := cap) (vs := [zv x]) rfl rfl rfl (fun w' hM => hpx _ _ _ _ w' hM) ?_)
    cases hpv : p x
    · rw [hpv, if_neg (by decide)] at hfs
      refine hwKF ?_
      refine HL.one (H1.stg (b := b) (i := F.length) rfl rfl (by intro _ h; cases h) (by intro _ h; cases h) rplA (by rw [ints_len2, List.length_append, List.length_append, List.length_drop]; omega) ?_)
      rw [ints_set2, hset]
      refine hwKF ?_
      refine HX.again (j + 1, M' ++ [x]) ⟨hlt, by show _ + (M' ++ [x]).length = j + 1; rw [hfs, List.length_append, List.length_append]; show F.length + 1 + (M'.length + 1) = j + 1; omega, by simp⟩ (by show l.length - (j + 1) < l.length - j; omega) ⟨rfl, rfl, ?_, rfl, trivial⟩ (by dsimp only; rw [hfs]; exact Hs.refl _)
      show some (zv _) = some (zv _)
      rw [hfs, List.length_append]; rfl
    · rw [hpv, if_pos rfl] at hfs
      rw [hkeep]
      refine hwKF ?_
      exact HX.again (j + 1, M ++ [x]) ⟨hlt, by show _ + (M ++ [x]).length = j + 1; rw [hfs, List.length_append]; show F.length + (M.length + 1) = j + 1; omega, by simp⟩ (by show l.length - (j + 1) < l.length - j; omega) ⟨rfl, rfl, by show some (zv _) = some (zv _); rw [hfs], rfl, trivial⟩ (by dsimp only; rw [hfs]; exact Hs.refl _)
  · obtain rfl : j = l.length := by omega
    rw [List.take_length] at hlen ⊢
    obtain ⟨F, hF⟩ : ∃ F, F = l.filter fun x => !p x := ⟨_, rfl⟩
    rw [← hF] at hlen ⊢
    rw [List.drop_length, List.append_nil]
    refine HC.capOfI (e := 3) (.head _) fun hcap => ?_
    refine hwKF ?_
    refine HL.pa ?_ (POp.cut_l rfl rfl (by omega) (by omega) (by omega))
    rw [show 0 + ((F.length : Nat) : Int).toNat * 1 = F.length from by omega, show l.length - ((F.length : Nat) : Int).toNat = M.length from by omega]
    refine hwKF ?_
    refine HL.one (H1.clearT rfl rfl rfl (by rw [ints_len2, List.length_append]; omega) hlen hMl rplA rfl ?_)
    refine hwKF ?_
    refine HX.ret1 rfl rfl fun w' hM => ⟨by rw [Int.toNat_natCast], ?_⟩
    have hM2 := Mm.growPre (i := F.length) hM (by omega) (by omega)
    have e : (List.take F.length (ints (F ++ M)) ++ List.replicate M.length (zv 0)).take F.length = ints F := by
      have t1 : (ints (F ++ M)).take F.length = ints F := by unfold ints; rw [← List.map_take, List.take_left]
      rw [t1, List.take_append_of_le_length (by rw [ints_len2]; exact Nat.le_refl _), List.take_of_length_le (by rw [ints_len2]; exact Nat.le_refl _)]
    have e2 : List.replicate M.length (zv 0) = List.replicate M.length (Value.int IntKind.i64 0) := rfl
    rw [← e2] at hM2
    rw [e] at hM2
    exact hM2
end Go.Sx
/- Chapter 25: a power failure: Crash, the walk. -/
namespace Go.Sx
open Go Go.Proofs Go.RowKit
def outP (n : Nat) (i : Int) : Bool := decide (i < 0) || decide ((n : Int) ≤ i)
theorem numL_asc (l : List Int) : Asc (numL l) := numL_lt l
theorem order_crash (keep : List Int) (n : Nat) : (numL keep).filter (fun i => !outP n i) = (crashL keep n).map fun i : Nat => (i : Int) := order_eq (numL_asc keep) fun x => mem_numL
theorem pendC_get {l : List (Nat × ByteArray)} : ∀ {i : Nat}, i < l.length → (pendC l)[2 * i]? = some (zv ((pendAt l i).1 : Int)) ∧ (pendC l)[2 * i + 1]? = some (.string (pendAt l i).2) := by
  induction l with
  | nil => intro i h; cases h
  | cons x l ih =>
    intro i h
    have e : pendC (x :: l) = zv (x.1 : Int) :: .string x.2 :: pendC l := rfl
    cases i with
    | zero => rw [e]; exact ⟨rfl, rfl⟩
    | succ i =>
      have h2 := ih (i := i) (by rw [List.length_cons] at h; omega)
      rw [e, show 2 * (i + 1) = 2 * i + 1 + 1 from by omega]
      exact h2
attribute [local irreducible] WC WL WX POp Then Again Fn NX W1 WA WO QL RP RA Yld LoopAt HC HL HX HN H1 HA HO HQ HB HP A.blk A.grow A.rd A.obj A.mp AgainH CutH
theorem crash1_fn {w : World} {b3 bd n pc : Nat} {pa : Option Addr} (i : Int) (h3 : w.cell? ⟨b3, 0, none⟩ = some (.pointer (some ⟨bd, 0, none⟩))) (h4 : w.cell? ⟨bd, 4, none⟩ = some (.slice pa n pc)) :
    Fn Tryz.prog 76 ([zv i] ++ [Value.pointer (some ⟨b3, 0, none⟩)]).toArray w fun v w' => v = .bool (outP n i) ∧ Ext w w' := by
  refine enterH (l := [_, _]) rfl Tryz.ntmps76 rfl ?_
  by_cases h1 : i < 0
  · refine hwKF ?_
    exact HX.ret1 rfl rfl fun w' hM => ⟨by unfold outP; rw [decide_eq_true h1, Bool.true_or], hM.ext⟩
  · refine hwKF ?_
    refine HL.one (H1.ld0 rfl h3 rfl ?_)
    refine hwKF ?_
    refine HL.one (H1.ld0 rfl h4 rfl ?_)
    refine hwKF ?_
    exact HX.ret1 rfl rfl fun w' hM => ⟨by unfold outP; rw [decide_eq_false h1, Bool.false_or], hM.ext⟩
theorem settle2_fn {w0 w : World} {H : List Atom} {bd b1 b2 pc : Nat} {pa : Option Addr} {k : Dk} (hM : Mm w0 (dkH bd b1 b2 pa pc k H) w) (hl : k.vis.length = k.dur.length) :
    Fn Tryz.prog 77 #[.pointer (some ⟨bd, 0, none⟩), .slice (some ⟨b1, 0, none⟩) k.dur.length k.dur.length, .slice (some ⟨b2, 0, none⟩) k.vis.length k.vis.length] w fun v w' => v = .tuple #[] ∧
      Mm w0 (dkH bd b1 b2 pa pc { k with vis := k.dur, pend := [] } H) w' := by
  have hu1 := ub_len k.dur
  have hu2 := ub_len k.vis
  refine enterK (l := [_, _, _]) hM rfl Tryz.ntmps77 rfl ?_
  refine hwKF ?_
  refine HL.one (H1.copyB (b := b2) (cur := ub k.vis) (cs := ub k.dur) (cur' := ub k.dur) rfl rfl (by omega) (fun w' hM j v hv => ?_) (by
    intro v hv
    obtain ⟨x, -, rfl⟩ := List.mem_map.1 hv
    rfl) (by omega) ?_ rplA rfl ?_)
  · rw [add_lit, Nat.zero_add]
    exact (hM.blk (b := b1) (cs := ub k.dur) memA).cell hv
  · rw [List.take_zero, List.nil_append, Nat.zero_add, hu1, List.drop_of_length_le (by omega), List.append_nil]
  refine hwKF ?_
  refine HL.one (H1.clearG rfl (by intro v hv; rcases List.mem_cons.1 hv with rfl | hv; rfl; rcases List.mem_cons.1 hv with rfl | hv; rfl; cases hv) (by decide) rfl rplA rfl ?_)
  refine hwKF ?_
  refine HL.growCut (e := 106) (sz := 2) (a := pa) (c := pc) (n := k.pend.length) rplA ?_
  refine HL.pa ?_ (POp.pre_any rfl rfl (by decide) (by omega))
  refine hwKF ?_
  refine HL.one (H1.st rfl rfl (by intro _ h; cases h) (by intro _ h; cases h) rplA (by show 4 < 5; decide) ?_)
  refine hwKF ?_
  have e : (dkC b1 b2 pa pc k).set (0 + 4) (Value.slice pa (Int.toNat 0) pc) = dkC b1 b2 pa pc { k with vis := k.dur, pend := [] } := by
    show [_, _, _, _, _] = [_, _, _, _, _]
    rw [hl]; rfl
  rw [e]
  exact HX.end0 rfl fun w' hM => ⟨rfl, hM⟩
set_option maxHeartbeats 4000000 in
theorem crash_fn {w0 w : World} {H : List Atom} {bd b1 b2 pc ck : Nat} {pa ak : Option Addr} {k : Dk} (keep : List Int) (torn : Int) (ht1 : -9223372036854775808 ≤ torn) (ht2 : torn ≤ 9223372036854775807) (hM : Mm w0 (dkH bd b1 b2 pa pc k H) w) (hk : k.Ok) (hf : k.Fit) (hl : keep.length ≤ 1000)
    (hR : ∀ w', Mm w0 (dkH bd b1 b2 pa pc k H) w' → Rd w' (.slice ak keep.length ck) (ints keep)) :
    Fn Tryz.prog 33 #[.pointer (some ⟨bd, 0, none⟩), .slice ak keep.length ck, zv torn] w fun v w' => v = zv 0 ∧ Mm w0 (dkH bd b1 b2 pa pc (k.crash keep torn) H) w' := by
  have hlen := hk.len
  have hlo := hk.lo
  have hhi := hk.hi
  have hpn := hk.pend
  refine enterK (l := [_, _, _]) hM rfl Tryz.ntmps33 rfl ?_
  refine hwKF ?_
  refine HL.one (H1.box rfl rfl rfl (fun b3 => ?_))
  refine hwKF ?_
  refine HL.one (H1.callz (vs := [.slice ak keep.length ck]) rfl rfl (fun w' hM => values_fn ak keep.length ck w') ?_)
  rintro bv -
  refine hwKF ?_
  refine HL.one (H1.callz (vs := [.func (.func 127) #[] #[.pointer (some ⟨bv, 0, none⟩)]]) rfl rfl (fun w' hM => sorted_fn keep w' (hR w' (hM.sub (Hs.refl _).skip.skip)) (hM.blk (b := bv) memA) (by omega)) ?_)
  rintro ⟨ao, cs⟩ -
  dsimp only
  refine hwKF ?_
  have hsl : (srtI keep).length = keep.length := srtI_len keep
  refine HL.one (H1.callk (α := Unit) (V := fun _ => .slice ao (numL keep).length cs) (I := fun _ => True) (H' := fun _ => A.grow 3 1 ao cs (numL keep).length (ints (numL keep)) :: A.blk b3 [.pointer (some ⟨bd, 0, none⟩)] 25 :: dkH bd b1 b2 pa pc k H) (vs := [.slice ao (srtI keep).length cs]) rfl rfl (fun w' hM => (compactI_fn hM Rpl.here (by omega)).mono fun v w2 h => ⟨(), trivial, h.1, h.2.sub (Hs.cons Pick.here (Hs.cons (Pick.there Pick.here) (Hs.refl _).skip))⟩) ?_)
  rintro - -
  have hnl := numL_len keep
  refine hwKF ?_
  obtain ⟨L, hL⟩ : ∃ L, L = crashL keep k.pend.length := ⟨_, rfl⟩
  obtain ⟨L2, hL2⟩ : ∃ L2, L2 = L.map fun i : Nat => (i : Int) := ⟨_, rfl⟩
  have hord := order_crash keep k.pend.length
  rw [← hL, ← hL2] at hord
  have hLlt : ∀ i ∈ L, i < k.pend.length := fun i hi => crashL_lt (by rw [← hL]; exact hi)
  have hLl : L2.length = L.length := by rw [hL2, List.length_map]
  refine HL.one (H1.callk (α := Unit) (V := fun _ => .slice ao L2.length cs) (I := fun _ => True) (H' := fun _ => A.grow 3 1 ao cs L2.length (ints L2) :: A.blk b3 [.pointer (some ⟨bd, 0, none⟩)] 25 :: dkH bd b1 b2 pa pc k H) (vs := [.slice ao (numL keep).length cs, .func (.func 76) #[] #[.pointer (some ⟨b3, 0, none⟩)]]) rfl rfl
    (fun w' hM => by
      have h := deleteFI_fn (f := 76) (cap := [.pointer (some ⟨b3, 0, none⟩)]) (K := A.blk b3 [.pointer (some ⟨bd, 0, none⟩)] 25 :: dkH bd b1 b2 pa pc k H) (outP k.pend.length) (numL keep) (by omega) (fun x _ a' c' n' xs' w2 hM2 => crash1_fn x ((hM2.blk (b := b3) (cs := [.pointer (some ⟨bd, 0, none⟩)]) (.tail _ (.head _))).cell rfl) ((hM2.blk (b := bd) (cs := dkC b1 b2 pa pc k) (.tail _ (.tail _ (.head _)))).cell rfl)) w' hM
      rw [hord] at h
      exact h.mono fun v w2 h => ⟨(), trivial, h⟩) ?_)
  rintro - -
  have hL2l : L2.length ≤ 1000 := by
    have h1 : ((numL keep).filter fun i => !outP k.pend.length i).length ≤ (numL keep).length := List.length_filter_le _ _
    rw [hord] at h1
    omega
  refine hbKF ?_
  repeat refine HC.seq ?_
  have hcr : (k.crash keep torn).dur = applyL k.pend torn L k.dur := by show applyL k.pend torn (crashL keep k.pend.length) k.dur = _; rw [← hL]
  have hcrl := crash_len hf keep torn
  refine HC.cut (α := Unit) (fun _ => [(3, .pointer (some ⟨b3, 0, none⟩))]) (fun _ => A.blk b3 [.pointer (some ⟨bd, 0, none⟩)] 25 :: dkH bd b1 b2 pa pc { k with dur := (k.crash keep torn).dur } H) (fun _ => True) ?_ ?_
  · refine HC.block ?_
    refine HC.sub [(2, zv torn), (3, .pointer (some ⟨b3, 0, none⟩)), (7, .slice ao L2.length cs), (20, .slice ao L2.length cs), (21, zv (L2.length : Int)), (22, zv 0)] (A.grow 3 1 ao cs L2.length (ints L2) :: A.blk b3 [.pointer (some ⟨bd, 0, none⟩)] 25 :: dkH bd b1 b2 pa pc k H) ?_ esA (Hs.refl _)
    refine HC.loop (α := Nat × List UInt8) (fun z => [(2, zv torn), (3, .pointer (some ⟨b3, 0, none⟩)), (7, .slice ao L2.length cs), (20, .slice ao L2.length cs), (21, zv (L2.length : Int)), (22, zv (z.1 : Int))]) (fun z => A.grow 3 1 ao cs L2.length (ints L2) :: A.blk b3 [.pointer (some ⟨bd, 0, none⟩)] 25 :: dkH bd b1 b2 pa pc { k with dur := z.2 } H)
      (fun z => z.1 ≤ L2.length ∧ applyL k.pend torn (L.drop z.1) z.2 = (k.crash keep torn).dur ∧ z.2.length = k.dur.length) (fun z => L2.length - z.1) (0, k.dur) ⟨Nat.zero_le _, hcr.symm, rfl⟩ esA (Hs.refl _) ?_
    rintro ⟨q, D⟩ ⟨hq, happ, hDl⟩
    dsimp only at hq happ hDl ⊢
    by_cases hlt : q < L2.length
    · have hltL : q < L.length := by omega
      obtain ⟨i0, hi0⟩ : ∃ i0, L[q]? = some i0 := ⟨_, List.getElem?_eq_getElem hltL⟩
      have hi0lt : i0 < k.pend.length := hLlt i0 (List.mem_of_getElem? hi0)
      have hdr : L.drop q = i0 :: L.drop (q + 1) := by
        rw [List.drop_eq_getElem_cons hltL]
        congr 1
        rw [List.getElem?_eq_getElem hltL] at hi0
        exact Option.some.inj hi0
      have hget : (ints L2)[q]? = some (zv (i0 : Int)) := by
        rw [hL2]; unfold ints
        rw [List.getElem?_map, List.getElem?_map, hi0]; rfl
      have hpm := hf _ (pendAt_mem hi0lt)
      obtain ⟨hg1, hg2⟩ := pendC_get hi0lt
      rw [hdr] at happ
      have hunf : applyL k.pend torn (i0 :: L.drop (q + 1)) D = applyL k.pend torn (L.drop (q + 1)) (splice D (pendAt k.pend i0).1 (tornS torn (L.drop (q + 1)).isEmpty (pendAt k.pend i0).2).data.toList) := rfl
      rw [hunf] at happ
      have hts := tornS_size torn (L.drop (q + 1)).isEmpty (pendAt k.pend i0).2
      have hlast : (L.drop (q + 1)).isEmpty = decide (q + 1 = L2.length) := by
        by_cases h : q + 1 = L2.length
        · rw [List.drop_of_length_le (by omega), decide_eq_true h]; rfl
        · rw [decide_eq_false h]
          have : L.drop (q + 1) ≠ [] := by
            intro e
            have := congrArg List.length e
            rw [List.length_drop] at this
            simp at this; omega
          cases hx : L.drop (q + 1) with
          | nil => exact absurd hx this
          | cons _ _ => rfl
      generalize (pendAt k.pend i0).1 = off at hg1 happ hpm
      generalize (pendAt k.pend i0).2 = s at hg2 happ hts hpm
      obtain ⟨s', hs'⟩ : ∃ s', s' = tornS torn (L.drop (q + 1)).isEmpty s := ⟨_, rfl⟩
      rw [← hs'] at happ hts
      rw [hlast] at hs'
      have hs'l : s'.data.toList.length = s'.size := by rw [Array.length_toList]; rfl
      have hspl : (splice D off s'.data.toList).length = D.length := splice_len (by omega)
      refine HC.openg (e := 3) (sz := 1) (a := ao) (c := cs) (n := L2.length) (xs := ints L2) (.head _) (by omega) ?_
      rintro go rfl
      refine HC.openg (e := 106) (sz := 2) (a := pa) (c := pc) (n := k.pend.length) (xs := pendC k.pend) (.tail _ (.tail _ (.tail _ (.tail _ (.tail _ (.head _)))))) (by omega) ?_
      rintro gp rfl
      refine hwKF ?_
      refine HL.one (H1.ldg rfl (.head _) hget rfl ?_)
      refine hwKF ?_
      dsimp only
      refine hwKF ?_
      refine HL.one (H1.ldAggw (b := gp) (off := i0 * 2) (vs := [zv (off : Int), .string s]) rfl rfl (fun w' hM j u hu => ?_) rfl ?_)
      · have hown := hM.own (e := 106) (sz := 2) (a := some ⟨gp, 0, none⟩) (c := pc) (xs := pendC k.pend) (.tail _ (.tail _ (.tail _ (.tail _ (.tail _ (.head _))))))
        match j, hu with
        | 0, hu => cases hu; rw [show i0 * 2 + 0 = 2 * i0 from by omega]; exact ownsRow_cell hown hg1
        | 1, hu => cases hu; rw [show i0 * 2 + 1 = 2 * i0 + 1 from by omega]; exact ownsRow_cell hown hg2
        | j + 2, hu => cases hu
      refine hwKF ?_
      refine HL.one (H1.alloc (cs := [zv 0, .string (ByteArray.mk #[])]) (by kernel_rfl) rfl (fun tw => ?_))
      refine hwKF ?_
      refine HL.one (H1.stAgg (cs := [zv 0, .string (ByteArray.mk #[])]) rfl rfl rfl (by intro v hv; rcases List.mem_cons.1 hv with rfl | hv; rfl; rcases List.mem_cons.1 hv with rfl | hv; rfl; cases hv) rplA rfl ?_)
      have hdk : dkC b1 b2 (some ⟨gp, 0, none⟩) pc { k with dur := D } = dkC b1 b2 (some ⟨gp, 0, none⟩) pc { k with dur := splice D off s'.data.toList } := by
        show [_, _, _, _, _] = [_, _, _, _, _]
        rw [hspl]
      by_cases hla : q + 1 = L2.length
      · have hqi : (q : Int) = (L2.length : Int) - 1 := by omega
        rw [decide_eq_true hla] at hs'
        by_cases htn : 0 ≤ torn
        · have hse : s' = s.extract 0 (min torn (s.size : Int)).toNat := by rw [hs']; unfold tornS; rw [if_pos ⟨rfl, htn⟩]
          refine hwKF ?_
          rw [← hse]
          refine HL.one (H1.st (b := tw) rfl rfl (by intro _ h; cases h) (by intro _ h; cases h) Rpl.here (by show 1 < 2; decide) ?_)
          refine hwKF ?_
          refine HC.anyC ([(⟨b3, 0, none⟩, .pointer (some ⟨bd, 0, none⟩)), (⟨bd, 2, none⟩, .slice (some ⟨b1, 0, none⟩) D.length D.length)]) rfl ?_
          refine HB.ld 1 rfl rfl memD ?_
          refine HB.pa 2 rfl ?_ (POp.nilCheck rfl)
          refine HB.pa 3 rfl ?_
          refine HB.ld 4 rfl rfl memD ?_
          refine HB.all (by (exact Keep.blk (b := b3) memD rfl (Keep.blk (b := bd) memD rfl Keep.nil))) [0] (by kernel_rfl) rfl ⟨⟨_, rfl, ?_⟩, trivial⟩
          refine HP.one ?_
          refine H1.ldAgg (b := tw) (vs := [zv (off : Int), .string s']) rfl (.head _) rfl (fun i v h => by rw [show 0 + i = i from Nat.zero_add i]; exact h) rfl ?_
          apply HB.fold
          refine HB.all (by (exact Keep.blk (b := b3) memD rfl (Keep.blk (b := bd) memD rfl Keep.nil))) [5] (by kernel_rfl) rfl ⟨⟨_, rfl, ?_⟩, trivial⟩
          refine HP.one ?_
          refine H1.callk (α := Unit) (V := fun _ => .tuple #[]) (I := fun _ => True) (H' := fun _ => A.blk b1 (ub (splice D off s'.data.toList)) 5 :: A.blk tw [zv (off : Int), .string s'] 106 :: A.grow 3 1 (some ⟨go, 0, none⟩) cs L2.length (ints L2) :: A.blk b3 [.pointer (some ⟨bd, 0, none⟩)] 25 :: A.blk bd (dkC b1 b2 (some ⟨gp, 0, none⟩) pc { k with dur := D }) 102 :: A.blk b2 (ub k.vis) 5 :: A.grow 106 2 (some ⟨gp, 0, none⟩) pc k.pend.length (pendC k.pend) :: H) (vs := [.agg [zv (off : Int), .string s'].toArray, _]) rfl rfl
              (fun w' hM => (onto_fn (l := D) off s' (hM.sub (Hs.cons (Pick.there (Pick.there (Pick.there (Pick.there Pick.here)))) (Hs.refl _))) (by omega) (by omega)).mono fun v w2 h => ⟨(), trivial, h⟩) ?_
          rintro - -
          apply HB.fold
          refine HB.done (by (exact Keep.blk (b := b3) memD rfl (Keep.blk (b := bd) memD rfl Keep.nil))) (by kernel_rfl) ?_
          refine hwKF ?_
          rw [hdk]
          exact HX.again (q + 1, splice D off s'.data.toList) ⟨hlt, happ, by show (splice D off s'.data.toList).length = _; rw [hspl]; exact hDl⟩ (by show L2.length - (q + 1) < L2.length - q; omega) esA (Hs.cons (Pick.there (Pick.there Pick.here)) (Hs.cons (Pick.there (Pick.there Pick.here)) (Hs.cons (Pick.there (Pick.there Pick.here)) (Hs.cons Pick.here (Hs.cons (Pick.there Pick.here) (Hs.cons (Pick.there Pick.here) (Hs.refl _).skip))))))
        · have hse : s' = s := by rw [hs']; unfold tornS; rw [if_neg (fun h => htn h.2)]
          subst hse
          refine hwKF ?_
          refine HC.anyC ([(⟨b3, 0, none⟩, .pointer (some ⟨bd, 0, none⟩)), (⟨bd, 2, none⟩, .slice (some ⟨b1, 0, none⟩) D.length D.length)]) rfl ?_
          refine HB.ld 1 rfl rfl memD ?_
          refine HB.pa 2 rfl ?_ (POp.nilCheck rfl)
          refine HB.pa 3 rfl ?_
          refine HB.ld 4 rfl rfl memD ?_
          refine HB.all (by (exact Keep.blk (b := b3) memD rfl (Keep.blk (b := bd) memD rfl Keep.nil))) [0] (by kernel_rfl) rfl ⟨⟨_, rfl, ?_⟩, trivial⟩
          refine HP.one ?_
          refine H1.ldAgg (b := tw) (vs := [zv (off : Int), .string s']) rfl (.head _) rfl (fun i v h => by rw [show 0 + i = i from Nat.zero_add i]; exact h) rfl ?_
          apply HB.fold
          refine HB.all (by (exact Keep.blk (b := b3) memD rfl (Keep.blk (b := bd) memD rfl Keep.nil))) [5] (by kernel_rfl) rfl ⟨⟨_, rfl, ?_⟩, trivial⟩
          refine HP.one ?_
          refine H1.callk (α := Unit) (V := fun _ => .tuple #[]) (I := fun _ => True) (H' := fun _ => A.blk b1 (ub (splice D off s'.data.toList)) 5 :: A.blk tw [zv (off : Int), .string s'] 106 :: A.grow 3 1 (some ⟨go, 0, none⟩) cs L2.length (ints L2) :: A.blk b3 [.pointer (some ⟨bd, 0, none⟩)] 25 :: A.blk bd (dkC b1 b2 (some ⟨gp, 0, none⟩) pc { k with dur := D }) 102 :: A.blk b2 (ub k.vis) 5 :: A.grow 106 2 (some ⟨gp, 0, none⟩) pc k.pend.length (pendC k.pend) :: H) (vs := [.agg [zv (off : Int), .string s'].toArray, _]) rfl rfl
              (fun w' hM => (onto_fn (l := D) off s' (hM.sub (Hs.cons (Pick.there (Pick.there (Pick.there (Pick.there Pick.here)))) (Hs.refl _))) (by omega) (by omega)).mono fun v w2 h => ⟨(), trivial, h⟩) ?_
          rintro - -
          apply HB.fold
          refine HB.done (by (exact Keep.blk (b := b3) memD rfl (Keep.blk (b := bd) memD rfl Keep.nil))) (by kernel_rfl) ?_
          refine hwKF ?_
          rw [hdk]
          exact HX.again (q + 1, splice D off s'.data.toList) ⟨hlt, happ, by show (splice D off s'.data.toList).length = _; rw [hspl]; exact hDl⟩ (by show L2.length - (q + 1) < L2.length - q; omega) esA (Hs.cons (Pick.there (Pick.there Pick.here)) (Hs.cons (Pick.there (Pick.there Pick.here)) (Hs.cons (Pick.there (Pick.there Pick.here)) (Hs.cons Pick.here (Hs.cons (Pick.there Pick.here) (Hs.cons (Pick.there Pick.here) (Hs.refl _).skip))))))
      · have hqi : ¬ (q : Int) = (L2.length : Int) - 1 := by omega
        rw [decide_eq_false hla] at hs'
        have hse : s' = s := by rw [hs']; unfold tornS; rw [if_neg (fun h => by cases h.1)]
        subst hse
        refine hwKF ?_
        refine HC.anyC ([(⟨b3, 0, none⟩, .pointer (some ⟨bd, 0, none⟩)), (⟨bd, 2, none⟩, .slice (some ⟨b1, 0, none⟩) D.length D.length)]) rfl ?_
        refine HB.ld 1 rfl rfl memD ?_
        refine HB.pa 2 rfl ?_ (POp.nilCheck rfl)
        refine HB.pa 3 rfl ?_
        refine HB.ld 4 rfl rfl memD ?_
        refine HB.all (by (exact Keep.blk (b := b3) memD rfl (Keep.blk (b := bd) memD rfl Keep.nil))) [0] (by kernel_rfl) rfl ⟨⟨_, rfl, ?_⟩, trivial⟩
        refine HP.one ?_
        refine H1.ldAgg (b := tw) (vs := [zv (off : Int), .string s']) rfl (.head _) rfl (fun i v h => by rw [show 0 + i = i from Nat.zero_add i]; exact h) rfl ?_
        apply HB.fold
        refine HB.all (by (exact Keep.blk (b := b3) memD rfl (Keep.blk (b := bd) memD rfl Keep.nil))) [5] (by kernel_rfl) rfl ⟨⟨_, rfl, ?_⟩, trivial⟩
        refine HP.one ?_
        refine H1.callk (α := Unit) (V := fun _ => .tuple #[]) (I := fun _ => True) (H' := fun _ => A.blk b1 (ub (splice D off s'.data.toList)) 5 :: A.blk tw [zv (off : Int), .string s'] 106 :: A.grow 3 1 (some ⟨go, 0, none⟩) cs L2.length (ints L2) :: A.blk b3 [.pointer (some ⟨bd, 0, none⟩)] 25 :: A.blk bd (dkC b1 b2 (some ⟨gp, 0, none⟩) pc { k with dur := D }) 102 :: A.blk b2 (ub k.vis) 5 :: A.grow 106 2 (some ⟨gp, 0, none⟩) pc k.pend.length (pendC k.pend) :: H) (vs := [.agg [zv (off : Int), .string s'].toArray, _]) rfl rfl
            (fun w' hM => (onto_fn (l := D) off s' (hM.sub (Hs.cons (Pick.there (Pick.there (Pick.there (Pick.there Pick.here)))) (Hs.refl _))) (by omega) (by omega)).mono fun v w2 h => ⟨(), trivial, h⟩) ?_
        rintro - -
        apply HB.fold
        refine HB.done (by (exact Keep.blk (b := b3) memD rfl (Keep.blk (b := bd) memD rfl Keep.nil))) (by kernel_rfl) ?_
        refine hwKF ?_
        rw [hdk]
        exact HX.again (q + 1, splice D off s'.data.toList) ⟨hlt, happ, by show (splice D off s'.data.toList).length = _; rw [hspl]; exact hDl⟩ (by show L2.length - (q + 1) < L2.length - q; omega) esA (Hs.cons (Pick.there (Pick.there Pick.here)) (Hs.cons (Pick.there (Pick.there Pick.here)) (Hs.cons (Pick.there (Pick.there Pick.here)) (Hs.cons Pick.here (Hs.cons (Pick.there Pick.here) (Hs.cons (Pick.there Pick.here) (Hs.refl _).skip))))))
    · obtain rfl : q = L2.length := by omega
      rw [hLl, List.drop_length] at happ
      have happ' : D = (k.crash keep torn).dur := happ
      refine hwKF ?_
      exact HX.cut () trivial esA (by rw [← happ']; exact (Hs.refl _).skip)
  · rintro - -
    refine hwKF ?_
    refine HC.anyC ([(⟨b3, 0, none⟩, .pointer (some ⟨bd, 0, none⟩)), (⟨bd, 2, none⟩, .slice (some ⟨b1, 0, none⟩) (k.crash keep torn).dur.length (k.crash keep torn).dur.length), (⟨bd, 3, none⟩, .slice (some ⟨b2, 0, none⟩) k.vis.length k.vis.length)]) rfl ?_
    refine HB.ld 0 rfl rfl memD ?_
    refine HB.ld 1 rfl rfl memD ?_
    refine HB.pa 2 rfl ?_ (POp.nilCheck rfl)
    refine HB.pa 3 rfl ?_
    refine HB.ld 4 rfl rfl memD ?_
    refine HB.ld 5 rfl rfl memD ?_
    refine HB.pa 6 rfl ?_ (POp.nilCheck rfl)
    refine HB.pa 7 rfl ?_
    refine HB.ld 8 rfl rfl memD ?_
    refine HB.all (by (first | exact Keep.blk (b := b3) memD rfl (Keep.blk (b := bd) memD rfl (Keep.blk (b := bd) memD rfl Keep.nil)) | exact Keep.blk (b := b3) memD rfl (Keep.blk (b := bd) memD rfl (Keep.blk (b := bd) memD (by show some (Value.slice (some ⟨b2, 0, none⟩) (k.crash keep torn).dur.length (k.crash keep torn).dur.length) = _; rw [hcrl, hlen]) Keep.nil)))) [9] (by kernel_rfl) rfl ⟨⟨_, rfl, ?_⟩, trivial⟩
    refine HP.one ?_
    refine H1.callk (α := Unit) (V := fun _ => .tuple #[]) (I := fun _ => True) (H' := fun _ => dkH bd b1 b2 pa pc { k with dur := (k.crash keep torn).dur, vis := (k.crash keep torn).dur, pend := [] } (A.blk b3 [.pointer (some ⟨bd, 0, none⟩)] 25 :: H)) (vs := [_, _, _]) rfl rfl
        (fun w' hM => (settle2_fn (k := { k with dur := (k.crash keep torn).dur }) (hM.sub (Hs.cons (Pick.there Pick.here) (Hs.cons (Pick.there Pick.here) (Hs.cons (Pick.there Pick.here) (Hs.cons (Pick.there Pick.here) (Hs.refl _)))))) (by show k.vis.length = (k.crash keep torn).dur.length; rw [hcrl, hlen])).mono fun v w2 h => ⟨(), trivial, h⟩) ?_
    rintro - -
    apply HB.fold
    refine HB.done (by (first | exact Keep.blk (b := b3) memD rfl (Keep.blk (b := bd) memD rfl (Keep.blk (b := bd) memD rfl Keep.nil)) | exact Keep.blk (b := b3) memD rfl (Keep.blk (b := bd) memD rfl (Keep.blk (b := bd) memD (by show some (Value.slice (some ⟨b2, 0, none⟩) (k.crash keep torn).dur.length (k.crash keep torn).dur.length) = _; rw [hcrl, hlen]) Keep.nil)))) (by kernel_rfl) ?_
    refine hwKF ?_
    refine HL.build (cs := [.bool false, zv 0]) rfl rfl rfl ?_
    refine hwKF ?_
    refine HL.one (H1.stAggO (b := bd) (o := 0) (cs := dkC b1 b2 pa pc { k with dur := (k.crash keep torn).dur, vis := (k.crash keep torn).dur, pend := [] }) (cs' := dkC b1 b2 pa pc (k.crash keep torn)) rfl rfl rfl (by intro v hv; rcases List.mem_cons.1 hv with rfl | hv; rfl; rcases List.mem_cons.1 hv with rfl | hv; rfl; cases hv) (by show 0 + 2 ≤ 5; decide) rfl rplA ?_)
    refine hwKF ?_
    exact HX.ret1 rfl rfl fun w' hM => ⟨rfl, hM.sub (Hs.cons Pick.here (Hs.cons Pick.here (Hs.cons Pick.here (Hs.cons Pick.here (Hs.refl _).skip))))⟩
end Go.Sx

