/- Chapter 25: a power failure: the library's functions, the walks. -/
import Derived.Test.YtionfblneloaiaaGreatDoorQA10
import Derived.Test.YtionfblneloaiaaGreatDoorRows
import Derived.ProofKit
import Derived.OpenShut
import Derived.LaidMore
import Derived.Lay
import Derived.SevenTiedAt
import Derived.Stop.Joined
import Derived.Deep.Onto
import Derived.Laws.IdiomArrays
import Derived.Carry
import Derived.Test.YtionfblneloaiaaGreatDoorTie
import Derived.Stop.LaidErr
import Derived.Lib.LaidTab
namespace Go.Sx
open Go Go.Proofs Go.RowKit
theorem hwKF {G G2 : Prop} (x : G2) (hwq : Hold G2 → G := by
    intro hQq
    repeat' (first | refine HL.pa ?_ (POp.pnil1 rfl rfl) | refine HL.pa ?_ (POp.pnil0 rfl rfl) | refine HL.pa ?_ (POp.nilCheck rfl) | apply HL.fold | apply HA.fold | apply HL.nil | apply HX.n_then | apply HC.seq | apply HC.region | refine HL.pa ?_ | refine HL.ga rfl ?_ | refine HL.na rfl ?_ | refine HL.nu rfl rfl ?_ | apply HC.block | apply HC.skip | apply HC.exit | apply HC.ret | apply HX.e_block | refine HX.e_other rfl ?_ | apply HX.e_then | apply HX.e_again | apply HX.n_block | apply HX.r_then | apply HX.r_block | apply HX.r_again | refine HC.cond_yes rfl ?_ | refine HC.cond_no rfl ?_ | refine HL.one (H1.ldb rfl memA rfl rfl ?_) | refine HC.cond rfl (fun hc => ?_) (fun hc => ?_) | refine HC.cond_b rfl (fun hc => ?_) (fun hc => ?_))
    exact hQq.get) : G := hwq ⟨x⟩
theorem hbKF {G G2 : Prop} (x : G2) (hwq : Hold G2 → G := by
    intro hQq
    repeat' (first | refine HL.pa ?_ (POp.pnil1 rfl rfl) | refine HL.pa ?_ (POp.pnil0 rfl rfl) | refine HL.pa ?_ (POp.nilCheck rfl) | apply HL.fold | apply HA.fold | apply HL.nil | apply HX.n_then | apply HC.seq | apply HC.region | refine HL.pa ?_ | refine HL.ga rfl ?_ | refine HL.na rfl ?_ | refine HL.nu rfl rfl ?_ | apply HC.skip | apply HC.exit | apply HC.ret | apply HX.e_block | refine HX.e_other rfl ?_ | apply HX.e_then | apply HX.e_again | apply HX.n_block | apply HX.r_then | apply HX.r_block | apply HX.r_again | refine HC.cond_yes rfl ?_ | refine HC.cond_no rfl ?_ | refine HL.one (H1.ldb rfl memA rfl rfl ?_) | refine HC.cond rfl (fun hc => ?_) (fun hc => ?_) | refine HC.cond_b rfl (fun hc => ?_) (fun hc => ?_))
    exact hQq.get) : G := hwq ⟨x⟩
theorem ints_snoc2 (l : List Int) (x : Int) : ints l ++ [zv x] = ints (l ++ [x]) := by simp [ints]
theorem take_at2 {l : List Int} {i : Nat} (h : i < l.length) : l.take (i + 1) = l.take i ++ [l.getD i 0] := by
  rw [List.take_add_one, List.getElem?_eq_getElem h]
  simp [h]
theorem ints_get2 {l : List Int} {i : Nat} (h : i < l.length) : (ints l)[i]? = some (zv (l.getD i 0)) := by unfold ints; simp [h]
theorem rd_someI {w : World} {a : Option Addr} {n c : Nat} {l : List Int} (h : Rd w (.slice a n c) (ints l)) (hne : l ≠ []) : ∃ b off, a = some ⟨b, off, none⟩ := by
  obtain ⟨b, off, cc, e, -⟩ := h.at (by intro e; exact hne (by simpa [ints] using e))
  cases e
  exact ⟨b, off, rfl⟩
attribute [local irreducible] WC WL WX POp Then Again Fn NX W1 WA WO QL RP RA Yld LoopAt HC HL HX HN H1 HA HO HQ HB HP A.blk A.grow A.rd A.obj A.mp AgainH CutH
attribute [local irreducible] A.dfr A.loop
theorem values_fn (a : Option Addr) (n c : Nat) (w : World) : Fn Tryz.prog 74 #[.slice a n c] w fun u w' => ∃ b : Nat, True ∧ u = .func (.func 127) #[] #[.pointer (some ⟨b, 0, none⟩)] ∧ Mm w [A.blk b [.slice a n c] 38] w' := by
  refine enterH (l := [_]) rfl Tryz.ntmps74 rfl ?_
  refine hwKF ?_
  refine HL.one (H1.box rfl rfl rfl (fun b1 => ?_))
  refine hwKF ?_
  exact HX.ret1 rfl rfl fun w' hM => ⟨b1, trivial, rfl, hM⟩
theorem values1_fn {w0 : World} {K0 K1 : Atom} {Hq : Nat → Option Addr × Nat → List Atom} {b1 lp c : Nat} {a : Option Addr} {z0 : Option Addr × Nat} (l : List Int) (hR : Rd w0 (.slice a l.length c) (ints l)) (hb : w0.cell? ⟨b1, 0, none⟩ = some (.slice a l.length c)) (hl : l.length ≤ 1000000)
    (hy : ∀ q z, q < l.length → ∀ w, Mm w0 (K0 :: K1 :: Hq q z) w →
      Yld Tryz.prog lp [zv (l.getD q 0)] w fun b w' => b = true ∧ ∃ z' : Option Addr × Nat, True ∧ Mm w0 (K0 :: K1 :: Hq (q + 1) z') w') :
    ∀ w, Mm w0 (K0 :: K1 :: Hq 0 z0) w →
      Fn Tryz.prog 127 (.func (.yield lp) #[] #[] :: [.pointer (some ⟨b1, 0, none⟩)]).toArray w fun _ w' => ∃ z : Option Addr × Nat, True ∧ Mm w0 (K0 :: K1 :: Hq l.length z) w' := by
  intro w hM
  refine enterK (l := [_, _]) hM rfl Tryz.ntmps127 rfl ?_
  refine hwKF ?_
  refine HL.one (H1.ld0 rfl hb rfl ?_)
  refine hwKF ?_
  refine HC.loop (α := Nat × Option Addr × Nat) (fun z => [(0, .func (.yield lp) #[] #[]), (5, .slice a l.length c), (6, zv (l.length : Int)), (7, zv (z.1 : Int))]) (fun z => K0 :: K1 :: Hq z.1 z.2) (fun z => z.1 ≤ l.length) (fun z => l.length - z.1) (0, z0) (Nat.zero_le _) esA (Hs.refl _) ?_
  rintro ⟨q, z⟩ hq
  dsimp only at hq ⊢
  by_cases hlt : q < l.length
  · obtain ⟨b, off, rfl⟩ := rd_someI hR (by rintro rfl; simp at hlt)
    have hget := hR.cell (ints_get2 hlt)
    have hyq := hy q z hlt
    generalize l.getD q 0 = x at hget hyq
    refine hwKF ?_
    refine HL.one (H1.ld0 rfl hget rfl ?_)
    refine hwKF ?_
    refine HL.one (H1.yield rfl rfl rfl hyq ?_)
    rintro z' -
    refine hwKF ?_
    exact HX.again (q + 1, z') hlt (by show l.length - (q + 1) < l.length - q; omega) esA (Hs.refl _)
  · obtain rfl : q = l.length := by omega
    refine hwKF ?_
    exact HX.end0 rfl fun w' hM => ⟨z, trivial, hM⟩
theorem appendSeq_fn {b1 c : Nat} {a : Option Addr} (l : List Int) (w : World) (hR : Rd w (.slice a l.length c) (ints l)) (hb : Blk w b1 [.slice a l.length c] 38) (hl : l.length ≤ 900000) :
    Fn Tryz.prog 165 #[.slice none 0 0, .func (.func 127) #[] #[.pointer (some ⟨b1, 0, none⟩)]] w fun u w' => ∃ z : Option Addr × Nat, True ∧ u = .slice z.1 l.length z.2 ∧ Mm w [A.grow 3 1 z.1 z.2 l.length (ints l)] w' := by
  refine enterMH (l := [_, _]) rfl Tryz.ntmps165 rfl ?_
  refine hwKF ?_
  refine HL.one (H1.box rfl rfl rfl (fun b2 => ?_))
  refine hwKF ?_
  refine HC.grow0 3 1 ?_
  refine HC.sub [(2, .pointer (some ⟨b2, 0, none⟩)), (6, .func (.func 127) #[] #[.pointer (some ⟨b1, 0, none⟩)])] [A.blk b2 [.slice none 0 0] 38, A.grow 3 1 none 0 0 (ints (l.take 0))] ?_ esA (Hs.cons (Pick.there Pick.here) (Hs.cons Pick.here (Hs.nil _)))
  refine HC.rangeFunc (α := Option Addr × Nat) (lb := [.pointer (some ⟨b1, 0, none⟩)]) (fun z => [A.blk b2 [.slice z.1 l.length z.2] 38, A.grow 3 1 z.1 z.2 l.length (ints l)]) (fun _ => True) rfl ?_ ?_
  · intro D lp L hL w1 hM1
    refine (values1_fn (Hq := fun q z => [A.blk b2 [.slice z.1 q z.2] 38, A.grow 3 1 z.1 z.2 q (ints (l.take q))]) (z0 := (none, 0)) l hR (hb.cell rfl) (by omega) ?_ w1 hM1).mono fun v w2 h => ?_
    · rintro q ⟨aq, cq⟩ hq
      have htk := take_at2 hq
      generalize l.getD q 0 = x at htk
      dsimp only
      refine Yld.ofH hL memA rfl rfl ?_
      dsimp only [List.zip_cons_cons, List.zip_nil_right, putAll]
      refine hwKF ?_
      refine HX.ra hL rplA ?_
      refine hwKF ?_
      refine HL.one (H1.lit (cs := [zv x]) rfl rfl rfl rfl rfl rfl (fun b9 => ?_))
      refine hwKF ?_
      refine HL.one (H1.app1 (u := zv x) rfl rfl (fun _ _ => by first | ((repeat (first | with_reducible exact Rpl.here | with_reducible apply Rpl.there)); done) | (repeat (first | exact Rpl.here | apply Rpl.there))) memA rfl rfl (by omega) rfl rfl (fun a' c' => ?_))
      rw [ints_snoc2, ← htk]
      refine hwKF ?_
      refine HL.one (H1.st (b := b2) rfl rfl (by intro _ h; cases h) (by intro _ h; cases h) rplA (by exact Nat.zero_lt_one) ?_)
      refine hwKF ?_
      refine HX.rp_n hL rplA fun w' hM => ⟨rfl, (some ⟨a', 0, none⟩, c'), trivial, ?_⟩
      exact hM.tail
    · obtain ⟨z, h1, h2⟩ := h
      rw [List.take_length] at h2
      exact ⟨z, h1, h2⟩
  · rintro D ⟨az, cz⟩ -
    dsimp only
    refine hwKF ?_
    exact HX.retM1 rfl rfl Pick.here fun w' hM => ⟨(az, cz), trivial, rfl, hM.tail⟩
theorem collect_fn {b1 c : Nat} {a : Option Addr} (l : List Int) (w : World) (hR : Rd w (.slice a l.length c) (ints l)) (hb : Blk w b1 [.slice a l.length c] 38) (hl : l.length ≤ 900000) :
    Fn Tryz.prog 125 #[.func (.func 127) #[] #[.pointer (some ⟨b1, 0, none⟩)]] w fun u w' => ∃ z : Option Addr × Nat, True ∧ u = .slice z.1 l.length z.2 ∧ Mm w [A.grow 3 1 z.1 z.2 l.length (ints l)] w' := by
  refine enterH (l := [_]) rfl Tryz.ntmps125 rfl ?_
  refine hwKF ?_
  refine HL.one (H1.callz (vs := [.slice none 0 0, .func (.func 127) #[] #[.pointer (some ⟨b1, 0, none⟩)]]) rfl rfl (fun w' hM => appendSeq_fn l w' (hR.ext hM.ext) (blk_ext hb hM.ext) hl) ?_)
  rintro ⟨a2, c2⟩ -
  dsimp only
  refine hwKF ?_
  exact HX.ret1 rfl rfl fun w' hM => ⟨(a2, c2), trivial, rfl, hM⟩
theorem sorted_fn {b1 c : Nat} {a : Option Addr} (l : List Int) (w : World) (hR : Rd w (.slice a l.length c) (ints l)) (hb : Blk w b1 [.slice a l.length c] 38) (hl : l.length ≤ 900000) :
    Fn Tryz.prog 73 #[.func (.func 127) #[] #[.pointer (some ⟨b1, 0, none⟩)]] w fun u w' => ∃ z : Option Addr × Nat, True ∧ u = .slice z.1 (srtI l).length z.2 ∧ Mm w [A.grow 3 1 z.1 z.2 (srtI l).length (ints (srtI l))] w' := by
  rw [srtI_len]
  refine enterH (l := [_]) rfl Tryz.ntmps73 rfl ?_
  refine hwKF ?_
  refine HL.one (H1.callz (vs := [.func (.func 127) #[] #[.pointer (some ⟨b1, 0, none⟩)]]) rfl rfl (fun w' hM => collect_fn l w' (hR.ext hM.ext) (blk_ext hb hM.ext) hl) ?_)
  rintro ⟨a2, c2⟩ -
  dsimp only
  refine hwKF ?_
  refine HL.one (H1.callk (α := Unit) (V := fun _ => .tuple #[]) (I := fun _ => True) (H' := fun _ => [A.grow 3 1 a2 c2 l.length (ints (srtI l))]) (vs := [.slice a2 l.length c2]) rfl rfl (fun w' hM => (sortI_fn hM Rpl.here (by omega)).mono fun v w2 h => ⟨(), trivial, h⟩) ?_)
  rintro - -
  refine hwKF ?_
  exact HX.ret1 rfl rfl fun w' hM => ⟨(a2, c2), trivial, rfl, hM⟩
end Go.Sx
/- Chapter 25: slices.DeleteFunc at numbers: the walks. -/
namespace Go.Sx
open Go Go.Proofs Go.RowKit
section
variable {P : Program} {r : Option Nat} {N : Nat} {ds : List Deferred} {ol rest : List Oper} {Q : Post} {E : Env} {w0 : World} {H : List Atom} {next : Act → World → Prop} {g : Option (Nat × Bool)}
variable {d : Option Nat} {t ty : TypeId} {pos : String} {af : Array Edge} {x y : Operand}
/-- clear, of the end of a slice of the call's own. -/
theorem H1.clearT {e : TypeId} {z : Value} {bb b i m n c c2 : Nat} {xs : List Value} {H' : List Atom} [h : UTy P t (.slice e)] [hi : ITy P e z 1 bb] (hzc : z.cells = #[z]) (h1 : z.oneCell' = true)
    (hx : Env.ev E x = some (.slice (some ⟨b, i, none⟩) m c2)) (hl : xs.length = n) (hm : i + m = n) (hm0 : 0 < m) (hr : Rpl (A.grow e 1 (some ⟨b, 0, none⟩) c n xs) (A.grow e 1 (some ⟨b, 0, none⟩) c n (xs.take i ++ List.replicate m z)) H H') (hd : dOk d N = true) (hn : HN N ds next (putE d (.tuple #[]) E) w0 H') :
    H1 P r N ds next ⟨d, .call ⟨.builtin .clear, #[x], #[t]⟩, ty, pos, af, g⟩ Q E w0 H := fun w hM => by
  have hown := hM.own hr.mem
  obtain ⟨cur, hg, hnc, hcm, hcs, htk⟩ : ∃ cur, w.heap[b]? = some (.cells cur e (0, 0)) ∧ n ≤ c ∧ c ≤ maxLen ∧ cur.size = c * 1 ∧ cur.toList.take (n * 1) = xs := by
    rcases hown.2 with ⟨hv, -⟩ | ⟨q, cap, cur, hv, -, hg, hnc, hcm, hcs, htk⟩
    · cases hv
    · cases hv; exact ⟨cur, hg, hnc, hcm, hcs, htk⟩
  have hzr : (Builtin.zeroCells z.cells m).toList = List.replicate m z := by
    rw [hzc]
    unfold Builtin.zeroCells
    rw [Array.toList_map]
    refine List.eq_replicate_iff.2 ⟨by simp, fun v hv => ?_⟩
    obtain ⟨j, -, rfl⟩ := List.mem_map.1 hv
    simp [Nat.mod_one]
  have hst := run_storeCells_at P b i e (List.replicate m z) 0 cur w hg (by rw [List.length_replicate]; omega) (by intro v hv; rw [(List.mem_replicate.1 hv).2]; exact h1)
  simp only [Nat.add_zero, List.length_replicate] at hst
  obtain ⟨m', rfl⟩ : ∃ m', m = m' + 1 := ⟨m - 1, by omega⟩
  have hrun : (Builtin.clear_ #[t] ty #[.slice (some ⟨b, i, none⟩) (m' + 1) c2]).run P w = .ok (.tuple #[]) (w.setRow b (cur.toList.take i ++ List.replicate (m' + 1) z ++ cur.toList.drop (i + (m' + 1))).toArray) := by
    simp [Builtin.clear_, run_underlying h.is, run_zeroValue (h := hi), hzr, hst]
  have htk' : cur.toList.take n = xs := by rw [Nat.mul_one] at htk; exact htk
  refine W1.run (v := .tuple #[]) (w' := w.setRow b (cur.toList.take i ++ List.replicate (m' + 1) z ++ cur.toList.drop (i + (m' + 1))).toArray) (fun a ha => ?_) rfl hd (hn _ (hM.turn hr rfl rfl rfl (by simp [World.setRow]) (fun k hk hk' => ?_) ⟨?_, .inr ⟨b, c, (cur.toList.take i ++ List.replicate (m' + 1) z ++ cur.toList.drop (i + (m' + 1))).toArray, rfl, Nat.zero_le _, ?_, hnc, hcm, ?_, ?_⟩⟩ (by simp [A.grow, Value.ownBlock]) fun b' hb' => .inl hb'))
  · simp only [execOp, resolve, invoke, Go.builtin, Sem.run_bind, Sem.run_pure, Result.andThen, List.map_toArray, List.map_cons, List.map_nil, ha.ev hx, hrun]
  · have hne : ¬ b = k := fun e => hk' (by simp [A.grow, Value.ownBlock, e])
    simp [World.setRow, Array.getElem?_modify, hne]
  · rw [List.length_append, List.length_take, List.length_replicate]; omega
  · exact setRow_heap w b _ _ e _ hg
  · rw [List.size_toArray, List.length_append, List.length_append, List.length_take, List.length_replicate, List.length_drop, Array.length_toList]; omega
  · rw [List.toList_toArray, Nat.mul_one, ← htk', List.take_take, Nat.min_eq_left (by omega)]
    rw [List.take_append_of_le_length (by rw [List.length_append, List.length_take, List.length_replicate, Array.length_toList]; omega), List.take_of_length_le (by rw [List.length_append, List.length_take, List.length_replicate]; omega)]
/-- The first part of a slice of the call's own. -/
theorem ownsRow_pre {w : World} {base c n i : Nat} {e : TypeId} {a : Option Addr} {xs : List Value} (h : w.ownsRow base e 1 (.slice a n c) n xs) (hi : i ≤ n) (h0 : n ≠ 0) : w.ownsRow base e 1 (.slice a i c) i (xs.take i) := by
  have hl := h.1
  rcases h.2 with ⟨hv, hz⟩ | ⟨g, cap, cur, hv, hb, hg, hnc, hcm, hcs, htk⟩
  · exact absurd hz h0
  · cases hv
    exact ⟨by rw [List.length_take]; omega, .inr ⟨g, c, cur, rfl, hb, hg, by omega, hcm, hcs, by rw [← htk, List.take_take]; congr 1; omega⟩⟩
theorem Mm.growPre {e : TypeId} {c n i : Nat} {a : Option Addr} {xs : List Value} {w : World} (hM : Mm w0 (A.grow e 1 a c n xs :: H) w) (hi : i ≤ n) (h0 : n ≠ 0) : Mm w0 (A.grow e 1 a c i (xs.take i) :: H) w :=
  hM.turn Rpl.here rfl rfl rfl (Nat.le_refl _) (fun _ _ _ => rfl) (ownsRow_pre (hM.own (.head _)) hi h0) (by cases a <;> simp [A.grow, Value.ownBlock]) (fun b hb => .inl (by cases a <;> exact hb))
end
/-- Which is the first that is struck. -/
def FirstI (l : List Int) (p : Int → Bool) (k : Int) : Prop := (k = -1 ∧ ∀ x ∈ l, p x = false) ∨ ∃ i : Nat, k = (i : Int) ∧ i < l.length ∧ (∀ x ∈ l.take i, p x = false) ∧ p (l.getD i 0) = true
theorem filt_all {l : List Int} {p : Int → Bool} (h : ∀ x ∈ l, p x = false) : l.filter (fun x => !p x) = l := List.filter_eq_self.2 fun x hx => by rw [h x hx]; rfl
theorem filt_step {l : List Int} {p : Int → Bool} {j : Nat} (h : j < l.length) : (l.take (j + 1)).filter (fun x => !p x) = if p (l.getD j 0) then (l.take j).filter (fun x => !p x) else (l.take j).filter (fun x => !p x) ++ [l.getD j 0] := by
  rw [take_at2 h, List.filter_append]
  generalize l.getD j 0 = x
  cases hp : p x <;> simp [hp]
theorem ints_set2 (l : List Int) (i : Nat) (x : Int) : (ints l).set i (zv x) = ints (l.set i x) := by unfold ints; rw [List.map_set]
theorem ints_len2 (l : List Int) : (ints l).length = l.length := by simp [ints]
theorem drop_at2 {l : List Int} {j : Nat} (h : j < l.length) : l.drop j = l.getD j 0 :: l.drop (j + 1) := by
  rw [List.drop_eq_getElem_cons h]
  simp [h]
theorem HC.capOfI {P : Program} {r : Option Nat} {N : Nat} {ds : List Deferred} {Q : Post} {E : Env} {w0 : World} {H : List Atom} {e : TypeId} {co : Code} {n c : Nat} {a : Option Addr} {xs : List Value} (hm : A.grow e 1 a c n xs ∈ H) (h : n ≤ c → HC P r N ds co Q E w0 H) : HC P r N ds co Q E w0 H := fun w hM => by
  refine h ?_ w hM
  rcases (hM.own hm).2 with ⟨h1, rfl⟩ | ⟨g, cap, cur, hv, -, -, hnc, -⟩
  · exact Nat.zero_le _
  · cases hv; exact hnc
attribute [local irreducible] WC WL WX POp Then Again Fn NX W1 WA WO QL RP RA Yld LoopAt HC HL HX HN H1 HA HO HQ HB HP A.blk A.grow A.rd A.obj A.mp AgainH CutH
theorem indexFI_fn {w0 : World} {H : List Atom} {f : FuncId} {cap : List Value} [hf : CallOk Tryz.prog f] (p : Int → Bool) (l : List Int) {a : Option Addr} {c : Nat} (hl : l.length ≤ 1000000) (hm : A.grow 3 1 a c l.length (ints l) ∈ H)
    (hp : ∀ x ∈ l, ∀ w, Mm w0 H w → Fn Tryz.prog f ([zv x] ++ cap).toArray w fun v w' => v = .bool (p x) ∧ Ext w w') (w : World) (hM : Mm w0 H w) :
    Fn Tryz.prog 128 #[.slice a l.length c, .func (.func f) #[] cap.toArray] w fun u w' => ∃ k : Int, FirstI l p k ∧ u = zv k ∧ Mm w0 H w' := by
  refine enterK (l := [_, _]) hM rfl Tryz.ntmps128 rfl ?_
  refine hwKF ?_
  refine HC.loop (α := Nat) (fun i => [(0, .slice a l.length c), (1, .func (.func f) #[] cap.toArray), (7, zv (l.length : Int)), (8, zv (i : Int))]) (fun _ => H) (fun i => i ≤ l.length ∧ ∀ x ∈ l.take i, p x = false) (fun i => l.length - i) 0 ⟨Nat.zero_le _, fun x hx => by rw [List.take_zero] at hx; cases hx⟩ esA (Hs.refl _) ?_
  rintro i ⟨hi, hpre⟩
  by_cases hlt : i < l.length
  · refine HC.openg hm (by omega) ?_
    rintro b rfl
    have hget := ints_get2 hlt
    have htk := take_at2 hlt
    have hmem : l.getD i 0 ∈ l := by simp [hlt]
    have hpx := hp _ hmem
    have hfi : p (l.getD i 0) = true → FirstI l p (i : Int) := fun h => .inr ⟨i, rfl, hlt, hpre, h⟩
    generalize l.getD i 0 = x at hget htk hpx hfi
    refine hwKF ?_
    refine HL.one (H1.ldg rfl hm hget rfl ?_)
    refine hwKF ?_
    refine HL.one (H1.callv0 (f := f) (u := .bool (p x)) (cap := cap) (vs := [zv x]) rfl rfl rfl (fun w' hM => hpx w' hM) ?_)
    cases hpv : p x
    · refine hwKF ?_
      refine HX.again (i + 1) ⟨hlt, fun y hy => ?_⟩ (by show l.length - (i + 1) < l.length - i; omega) esA (Hs.refl _)
      rw [htk] at hy
      rcases List.mem_append.1 hy with hy | hy
      · exact hpre y hy
      · rw [List.mem_singleton.1 hy]; exact hpv
    · refine hwKF ?_
      exact HX.ret1 rfl rfl fun w' hM => ⟨(i : Int), hfi hpv, rfl, hM⟩
  · obtain rfl : i = l.length := by omega
    rw [List.take_length] at hpre
    refine hwKF ?_
    exact HX.ret1 rfl rfl fun w' hM => ⟨-1, .inl ⟨rfl, hpre⟩, rfl, hM⟩
set_option maxHeartbeats 1000000 in
theorem deleteFI_fn {w0 : World} {K : List Atom} {f : FuncId} {cap : List Value} [hf : CallOk Tryz.prog f] (p : Int → Bool) (l : List Int) {a : Option Addr} {c : Nat} (hl : l.length ≤ 1000000)
    (hp : ∀ x ∈ l, ∀ a' c' n' xs' w, Mm w0 (A.grow 3 1 a' c' n' xs' :: K) w → Fn Tryz.prog f ([zv x] ++ cap).toArray w fun v w' => v = .bool (p x) ∧ Ext w w') (w : World) (hM : Mm w0 (A.grow 3 1 a c l.length (ints l) :: K) w) :
    Fn Tryz.prog 75 #[.slice a l.length c, .func (.func f) #[] cap.toArray] w fun u w' => u = .slice a (l.filter fun x => !p x).length c ∧ Mm w0 (A.grow 3 1 a c (l.filter fun x => !p x).length (ints (l.filter fun x => !p x)) :: K) w' := by
  refine enterK (l := [_, _]) hM rfl Tryz.ntmps75 rfl ?_
  refine hwKF ?_
  refine HL.one (H1.callk (α := Int) (V := fun k => zv k) (I := fun k => FirstI l p k) (H' := fun _ => A.grow 3 1 a c l.length (ints l) :: K) (vs := [.slice a l.length c, .func (.func f) #[] cap.toArray]) rfl rfl (fun w' hM => indexFI_fn p l hl (.head _) (fun x hx w2 hM2 => hp x hx _ _ _ _ w2 hM2) w' hM) ?_)
  rintro k (⟨rfl, hall⟩ | ⟨i0, rfl, hi0, hpre, hpi⟩)
  · rw [filt_all hall]
    refine hwKF ?_
    exact HX.ret1 rfl rfl fun w' hM => ⟨rfl, hM⟩
  have hne1 : ¬ (i0 : Int) = -1 := by omega
  refine hwKF ?_
  have hF0 : (l.take (i0 + 1)).filter (fun x => !p x) = l.take i0 := by
    rw [filt_step hi0, if_pos hpi]
    exact filt_all hpre
  refine HC.loop (α := Nat × List Int) (fun z => [(0, .slice a l.length c), (1, .func (.func f) #[] cap.toArray), (5, zv (((l.take z.1).filter fun x => !p x).length : Int)), (6, zv (z.1 : Int))])
    (fun z => A.grow 3 1 a c l.length (ints ((l.take z.1).filter (fun x => !p x) ++ z.2 ++ l.drop z.1)) :: K)
    (fun z => z.1 ≤ l.length ∧ ((l.take z.1).filter fun x => !p x).length + z.2.length = z.1 ∧ z.2 ≠ []) (fun z => l.length - z.1) (i0 + 1, [l.getD i0 0])
    ⟨hi0, by show ((l.take (i0 + 1)).filter fun x => !p x).length + 1 = i0 + 1; rw [hF0, List.length_take]; omega, by simp⟩ ⟨rfl, rfl, ?_, rfl, trivial⟩ ?_ ?_
  · show some (zv _) = some (zv _)
    rw [hF0, List.length_take, Nat.min_eq_left (by omega)]
  · show Hs _ (A.grow _ 1 a c l.length (ints ((l.take (i0 + 1)).filter (fun x => !p x) ++ [l.getD i0 0] ++ l.drop (i0 + 1))) :: K)
    rw [hF0, ← take_at2 hi0, List.take_append_drop]
    exact Hs.refl _
  rintro ⟨j, M⟩ ⟨hj, hlen, hM0⟩
  dsimp only at hj hlen hM0 ⊢
  have hMl : 0 < M.length := List.length_pos_iff.2 hM0
  refine HC.openg (e := 3) (sz := 1) (.head _) (by omega) ?_
  rintro b rfl
  by_cases hlt : j < l.length
  · have hfs := filt_step (p := p) hlt
    have hdr := drop_at2 hlt
    have hmem : l.getD j 0 ∈ l := by simp [hlt]
    have hpx := hp _ hmem
    obtain ⟨F, hF⟩ : ∃ F, F = (l.take j).filter fun x => !p x := ⟨_, rfl⟩
    rw [← hF] at hlen hfs ⊢
    generalize l.getD j 0 = x at hfs hdr hpx
    have hget : (ints (F ++ M ++ l.drop j))[j]? = some (zv x) := by
      unfold ints
      rw [List.getElem?_map, List.getElem?_append_right (by rw [List.length_append]; omega), List.length_append, hlen, Nat.sub_self, hdr]; rfl
    obtain ⟨m0, M', hMM⟩ := List.exists_cons_of_ne_nil hM0
    have hset : (F ++ M ++ l.drop j).set F.length x = F ++ [x] ++ (M' ++ [x]) ++ l.drop (j + 1) := by
      rw [hMM, hdr, List.append_assoc, List.set_append_right _ _ (Nat.le_refl _), Nat.sub_self]
      simp
    have hkeep : F ++ M ++ l.drop j = F ++ (M ++ [x]) ++ l.drop (j + 1) := by rw [hdr]; simp
    have hML : M.length = M'.length + 1 := by rw [hMM]; rfl
    refine hwKF ?_
    refine HL.one (H1.ldg rfl (.head _) hget rfl ?_)
    refine hwKF ?_
    refine HL.one (H1.callv0 (f := f) (u := .bool (p x)) (cap := cap) (vs := [zv x]) rfl rfl rfl (fun w' hM => hpx _ _ _ _ w' hM) ?_)
    cases hpv : p x
    · rw [hpv, if_neg (by decide)] at hfs
      refine hwKF ?_
      refine HL.one (H1.stg (b := b) (i := F.length) rfl rfl (by intro _ h; cases h) (by intro _ h; cases h) rplA (by rw [ints_len2, List.length_append, List.length_append, List.length_drop]; omega) ?_)
      rw [ints_set2, hset]
      refine hwKF ?_
      refine HX.again (j + 1, M' ++ [x]) ⟨hlt, by show _ + (M' ++ [x]).length = j + 1; rw [hfs, List.length_append, List.length_append]; show F.length + 1 + (M'.length + 1) = j + 1; omega, by simp⟩ (by show l.length - (j + 1) < l.length - j; omega) ⟨rfl, rfl, ?_, rfl, trivial⟩ (by dsimp only; rw [hfs]; exact Hs.refl _)
      show some (zv _) = some (zv _)
      rw [hfs, List.length_append]; rfl
    · rw [hpv, if_pos rfl] at hfs
      rw [hkeep]
      refine hwKF ?_
      exact HX.again (j + 1, M ++ [x]) ⟨hlt, by show _ + (M ++ [x]).length = j + 1; rw [hfs, List.length_append]; show F.length + (M.length + 1) = j + 1; omega, by simp⟩ (by show l.length - (j + 1) < l.length - j; omega) ⟨rfl, rfl, by show some (zv _) = some (zv _); rw [hfs], rfl, trivial⟩ (by dsimp only; rw [hfs]; exact Hs.refl _)
  · obtain rfl : j = l.length := by omega
    rw [List.take_length] at hlen ⊢
    obtain ⟨F, hF⟩ : ∃ F, F = l.filter fun x => !p x := ⟨_, rfl⟩
    rw [← hF] at hlen ⊢
    rw [List.drop_length, List.append_nil]
    refine HC.capOfI (e := 3) (.head _) fun hcap => ?_
    refine hwKF ?_
    refine HL.pa ?_ (POp.cut_l rfl rfl (by omega) (by omega) (by omega))
    rw [show 0 + ((F.length : Nat) : Int).toNat * 1 = F.length from by omega, show l.length - ((F.length : Nat) : Int).toNat = M.length from by omega]
    refine hwKF ?_
    refine HL.one (H1.clearT rfl rfl rfl (by rw [ints_len2, List.length_append]; omega) hlen hMl rplA rfl ?_)
    refine hwKF ?_
    refine HX.ret1 rfl rfl fun w' hM => ⟨by rw [Int.toNat_natCast], ?_⟩
    have hM2 := Mm.growPre (i := F.length) hM (by omega) (by omega)
    have e : (List.take F.length (ints (F ++ M)) ++ List.replicate M.length (zv 0)).take F.length = ints F := by
      have t1 : (ints (F ++ M)).take F.length = ints F := by unfold ints; rw [← List.map_take, List.take_left]
      rw [t1, List.take_append_of_le_length (by rw [ints_len2]; exact Nat.le_refl _), List.take_of_length_le (by rw [ints_len2]; exact Nat.le_refl _)]
    have e2 : List.replicate M.length (zv 0) = List.replicate M.length (Value.int IntKind.i64 0) := rfl
    rw [← e2] at hM2
    rw [e] at hM2
    exact hM2
end Go.Sx
/- Chapter 25: a power failure: Crash, the walk. -/
namespace Go.Sx
open Go Go.Proofs Go.RowKit
def outP (n : Nat) (i : Int) : Bool := decide (i < 0) || decide ((n : Int) ≤ i)
theorem numL_asc (l : List Int) : Asc (numL l) := numL_lt l
theorem order_crash (keep : List Int) (n : Nat) : (numL keep).filter (fun i => !outP n i) = (crashL keep n).map fun i : Nat => (i : Int) := order_eq (numL_asc keep) fun _ => mem_numL
theorem pendC_get {l : List (Nat × ByteArray)} : ∀ {i : Nat}, i < l.length → (pendC l)[2 * i]? = some (zv ((pendAt l i).1 : Int)) ∧ (pendC l)[2 * i + 1]? = some (.string (pendAt l i).2) := by
  induction l with
  | nil => intro i h; cases h
  | cons x l ih =>
    intro i h
    have e : pendC (x :: l) = zv (x.1 : Int) :: .string x.2 :: pendC l := rfl
    cases i with
    | zero => rw [e]; exact ⟨rfl, rfl⟩
    | succ i =>
      have h2 := ih (i := i) (by rw [List.length_cons] at h; omega)
      rw [e, show 2 * (i + 1) = 2 * i + 1 + 1 from by omega]
      exact h2
attribute [local irreducible] WC WL WX POp Then Again Fn NX W1 WA WO QL RP RA Yld LoopAt HC HL HX HN H1 HA HO HQ HB HP A.blk A.grow A.rd A.obj A.mp AgainH CutH
theorem crash1_fn {w : World} {b3 bd n pc : Nat} {pa : Option Addr} (i : Int) (h3 : w.cell? ⟨b3, 0, none⟩ = some (.pointer (some ⟨bd, 0, none⟩))) (h4 : w.cell? ⟨bd, 4, none⟩ = some (.slice pa n pc)) :
    Fn Tryz.prog 76 ([zv i] ++ [Value.pointer (some ⟨b3, 0, none⟩)]).toArray w fun v w' => v = .bool (outP n i) ∧ Ext w w' := by
  refine enterH (l := [_, _]) rfl Tryz.ntmps76 rfl ?_
  by_cases h1 : i < 0
  · refine hwKF ?_
    exact HX.ret1 rfl rfl fun w' hM => ⟨by unfold outP; rw [decide_eq_true h1, Bool.true_or], hM.ext⟩
  · refine hwKF ?_
    refine HL.one (H1.ld0 rfl h3 rfl ?_)
    refine hwKF ?_
    refine HL.one (H1.ld0 rfl h4 rfl ?_)
    refine hwKF ?_
    exact HX.ret1 rfl rfl fun w' hM => ⟨by unfold outP; rw [decide_eq_false h1, Bool.false_or], hM.ext⟩
theorem settle2_fn {w0 w : World} {H : List Atom} {bd b1 b2 pc : Nat} {pa : Option Addr} {k : Dk} (hM : Mm w0 (dkH bd b1 b2 pa pc k H) w) (hl : k.vis.length = k.dur.length) :
    Fn Tryz.prog 77 #[.pointer (some ⟨bd, 0, none⟩), .slice (some ⟨b1, 0, none⟩) k.dur.length k.dur.length, .slice (some ⟨b2, 0, none⟩) k.vis.length k.vis.length] w fun v w' => v = .tuple #[] ∧
      Mm w0 (dkH bd b1 b2 pa pc { k with vis := k.dur, pend := [] } H) w' := by
  have hu1 := ub_len k.dur
  have hu2 := ub_len k.vis
  refine enterK (l := [_, _, _]) hM rfl Tryz.ntmps77 rfl ?_
  refine hwKF ?_
  refine HL.one (H1.copyB (b := b2) (cur := ub k.vis) (cs := ub k.dur) (cur' := ub k.dur) rfl rfl (by omega) (fun w' hM j v hv => ?_) (by
    intro v hv
    obtain ⟨x, -, rfl⟩ := List.mem_map.1 hv
    rfl) (by omega) ?_ rplA rfl ?_)
  · rw [add_lit, Nat.zero_add]
    exact (hM.blk (b := b1) (cs := ub k.dur) memA).cell hv
  · rw [List.take_zero, List.nil_append, Nat.zero_add, hu1, List.drop_of_length_le (by omega), List.append_nil]
  refine hwKF ?_
  refine HL.one (H1.clearG rfl (by intro v hv; rcases List.mem_cons.1 hv with rfl | hv; rfl; rcases List.mem_cons.1 hv with rfl | hv; rfl; cases hv) (by decide) rfl rplA rfl ?_)
  refine hwKF ?_
  refine HL.growCut (e := 106) (sz := 2) (a := pa) (c := pc) (n := k.pend.length) rplA ?_
  refine HL.pa ?_ (POp.pre_any rfl rfl (by decide) (by omega))
  refine hwKF ?_
  refine HL.one (H1.st rfl rfl (by intro _ h; cases h) (by intro _ h; cases h) rplA (by show 4 < 5; decide) ?_)
  refine hwKF ?_
  have e : (dkC b1 b2 pa pc k).set (0 + 4) (Value.slice pa (Int.toNat 0) pc) = dkC b1 b2 pa pc { k with vis := k.dur, pend := [] } := by
    show [_, _, _, _, _] = [_, _, _, _, _]
    rw [hl]; rfl
  rw [e]
  exact HX.end0 rfl fun w' hM => ⟨rfl, hM⟩
set_option maxHeartbeats 4000000 in
theorem crash_fn {w0 w : World} {H : List Atom} {bd b1 b2 pc ck : Nat} {pa ak : Option Addr} {k : Dk} (keep : List Int) (torn : Int) (ht1 : -9223372036854775808 ≤ torn) (ht2 : torn ≤ 9223372036854775807) (hM : Mm w0 (dkH bd b1 b2 pa pc k H) w) (hk : k.Ok) (hf : k.Fit) (hl : keep.length ≤ 1000)
    (hR : ∀ w', Mm w0 (dkH bd b1 b2 pa pc k H) w' → Rd w' (.slice ak keep.length ck) (ints keep)) :
    Fn Tryz.prog 33 #[.pointer (some ⟨bd, 0, none⟩), .slice ak keep.length ck, zv torn] w fun v w' => v = zv 0 ∧ Mm w0 (dkH bd b1 b2 pa pc (k.crash keep torn) H) w' := by
  have hlen := hk.len
  have hlo := hk.lo
  have hhi := hk.hi
  have hpn := hk.pend
  refine enterK (l := [_, _, _]) hM rfl Tryz.ntmps33 rfl ?_
  refine hwKF ?_
  refine HL.one (H1.box rfl rfl rfl (fun b3 => ?_))
  refine hwKF ?_
  refine HL.one (H1.callz (vs := [.slice ak keep.length ck]) rfl rfl (fun w' hM => values_fn ak keep.length ck w') ?_)
  rintro bv -
  refine hwKF ?_
  refine HL.one (H1.callz (vs := [.func (.func 127) #[] #[.pointer (some ⟨bv, 0, none⟩)]]) rfl rfl (fun w' hM => sorted_fn keep w' (hR w' (hM.sub (Hs.refl _).skip.skip)) (hM.blk (b := bv) memA) (by omega)) ?_)
  rintro ⟨ao, cs⟩ -
  dsimp only
  refine hwKF ?_
  have hsl : (srtI keep).length = keep.length := srtI_len keep
  refine HL.one (H1.callk (α := Unit) (V := fun _ => .slice ao (numL keep).length cs) (I := fun _ => True) (H' := fun _ => A.grow 3 1 ao cs (numL keep).length (ints (numL keep)) :: A.blk b3 [.pointer (some ⟨bd, 0, none⟩)] 25 :: dkH bd b1 b2 pa pc k H) (vs := [.slice ao (srtI keep).length cs]) rfl rfl (fun w' hM => (compactI_fn hM Rpl.here (by omega)).mono fun v w2 h => ⟨(), trivial, h.1, h.2.sub (Hs.cons Pick.here (Hs.cons (Pick.there Pick.here) (Hs.refl _).skip))⟩) ?_)
  rintro - -
  have hnl := numL_len keep
  refine hwKF ?_
  obtain ⟨L, hL⟩ : ∃ L, L = crashL keep k.pend.length := ⟨_, rfl⟩
  obtain ⟨L2, hL2⟩ : ∃ L2, L2 = L.map fun i : Nat => (i : Int) := ⟨_, rfl⟩
  have hord := order_crash keep k.pend.length
  rw [← hL, ← hL2] at hord
  have hLlt : ∀ i ∈ L, i < k.pend.length := fun i hi => crashL_lt (by rw [← hL]; exact hi)
  have hLl : L2.length = L.length := by rw [hL2, List.length_map]
  refine HL.one (H1.callk (α := Unit) (V := fun _ => .slice ao L2.length cs) (I := fun _ => True) (H' := fun _ => A.grow 3 1 ao cs L2.length (ints L2) :: A.blk b3 [.pointer (some ⟨bd, 0, none⟩)] 25 :: dkH bd b1 b2 pa pc k H) (vs := [.slice ao (numL keep).length cs, .func (.func 76) #[] #[.pointer (some ⟨b3, 0, none⟩)]]) rfl rfl
    (fun w' hM => by
      have h := deleteFI_fn (f := 76) (cap := [.pointer (some ⟨b3, 0, none⟩)]) (K := A.blk b3 [.pointer (some ⟨bd, 0, none⟩)] 25 :: dkH bd b1 b2 pa pc k H) (outP k.pend.length) (numL keep) (by omega) (fun x _ a' c' n' xs' w2 hM2 => crash1_fn x ((hM2.blk (b := b3) (cs := [.pointer (some ⟨bd, 0, none⟩)]) (.tail _ (.head _))).cell rfl) ((hM2.blk (b := bd) (cs := dkC b1 b2 pa pc k) (.tail _ (.tail _ (.head _)))).cell rfl)) w' hM
      rw [hord] at h
      exact h.mono fun v w2 h => ⟨(), trivial, h⟩) ?_)
  rintro - -
  have hL2l : L2.length ≤ 1000 := by
    have h1 : ((numL keep).filter fun i => !outP k.pend.length i).length ≤ (numL keep).length := List.length_filter_le _ _
    rw [hord] at h1
    omega
  refine hbKF ?_
  repeat refine HC.seq ?_
  have hcr : (k.crash keep torn).dur = applyL k.pend torn L k.dur := by show applyL k.pend torn (crashL keep k.pend.length) k.dur = _; rw [← hL]
  have hcrl := crash_len hf keep torn
  refine HC.cut (α := Unit) (fun _ => [(3, .pointer (some ⟨b3, 0, none⟩))]) (fun _ => A.blk b3 [.pointer (some ⟨bd, 0, none⟩)] 25 :: dkH bd b1 b2 pa pc { k with dur := (k.crash keep torn).dur } H) (fun _ => True) ?_ ?_
  · refine HC.block ?_
    refine HC.sub [(2, zv torn), (3, .pointer (some ⟨b3, 0, none⟩)), (7, .slice ao L2.length cs), (20, .slice ao L2.length cs), (21, zv (L2.length : Int)), (22, zv 0)] (A.grow 3 1 ao cs L2.length (ints L2) :: A.blk b3 [.pointer (some ⟨bd, 0, none⟩)] 25 :: dkH bd b1 b2 pa pc k H) ?_ esA (Hs.refl _)
    refine HC.loop (α := Nat × List UInt8) (fun z => [(2, zv torn), (3, .pointer (some ⟨b3, 0, none⟩)), (7, .slice ao L2.length cs), (20, .slice ao L2.length cs), (21, zv (L2.length : Int)), (22, zv (z.1 : Int))]) (fun z => A.grow 3 1 ao cs L2.length (ints L2) :: A.blk b3 [.pointer (some ⟨bd, 0, none⟩)] 25 :: dkH bd b1 b2 pa pc { k with dur := z.2 } H)
      (fun z => z.1 ≤ L2.length ∧ applyL k.pend torn (L.drop z.1) z.2 = (k.crash keep torn).dur ∧ z.2.length = k.dur.length) (fun z => L2.length - z.1) (0, k.dur) ⟨Nat.zero_le _, hcr.symm, rfl⟩ esA (Hs.refl _) ?_
    rintro ⟨q, D⟩ ⟨hq, happ, hDl⟩
    dsimp only at hq happ hDl ⊢
    by_cases hlt : q < L2.length
    · have hltL : q < L.length := by omega
      obtain ⟨i0, hi0⟩ : ∃ i0, L[q]? = some i0 := ⟨_, List.getElem?_eq_getElem hltL⟩
      have hi0lt : i0 < k.pend.length := hLlt i0 (List.mem_of_getElem? hi0)
      have hdr : L.drop q = i0 :: L.drop (q + 1) := by
        rw [List.drop_eq_getElem_cons hltL]
        congr 1
        rw [List.getElem?_eq_getElem hltL] at hi0
        exact Option.some.inj hi0
      have hget : (ints L2)[q]? = some (zv (i0 : Int)) := by
        rw [hL2]; unfold ints
        rw [List.getElem?_map, List.getElem?_map, hi0]; rfl
      have hpm := hf _ (pendAt_mem hi0lt)
      obtain ⟨hg1, hg2⟩ := pendC_get hi0lt
      rw [hdr] at happ
      have hunf : applyL k.pend torn (i0 :: L.drop (q + 1)) D = applyL k.pend torn (L.drop (q + 1)) (splice D (pendAt k.pend i0).1 (tornS torn (L.drop (q + 1)).isEmpty (pendAt k.pend i0).2).data.toList) := rfl
      rw [hunf] at happ
      have hts := tornS_size torn (L.drop (q + 1)).isEmpty (pendAt k.pend i0).2
      have hlast : (L.drop (q + 1)).isEmpty = decide (q + 1 = L2.length) := by
        by_cases h : q + 1 = L2.length
        · rw [List.drop_of_length_le (by omega), decide_eq_true h]; rfl
        · rw [decide_eq_false h]
          have : L.drop (q + 1) ≠ [] := by
            intro e
            have := congrArg List.length e
            rw [List.length_drop] at this
            simp at this; omega
          cases hx : L.drop (q + 1) with
          | nil => exact absurd hx this
          | cons _ _ => rfl
      generalize (pendAt k.pend i0).1 = off at hg1 happ hpm
      generalize (pendAt k.pend i0).2 = s at hg2 happ hts hpm
      obtain ⟨s', hs'⟩ : ∃ s', s' = tornS torn (L.drop (q + 1)).isEmpty s := ⟨_, rfl⟩
      rw [← hs'] at happ hts
      rw [hlast] at hs'
      have hs'l : s'.data.toList.length = s'.size := by rw [Array.length_toList]; rfl
      have hspl : (splice D off s'.data.toList).length = D.length := splice_len (by omega)
      refine HC.openg (e := 3) (sz := 1) (a := ao) (c := cs) (n := L2.length) (xs := ints L2) (.head _) (by omega) ?_
      rintro go rfl
      refine HC.openg (e := 106) (sz := 2) (a := pa) (c := pc) (n := k.pend.length) (xs := pendC k.pend) (.tail _ (.tail _ (.tail _ (.tail _ (.tail _ (.head _)))))) (by omega) ?_
      rintro gp rfl
      refine hwKF ?_
      refine HL.one (H1.ldg rfl (.head _) hget rfl ?_)
      refine hwKF ?_
      dsimp only
      refine hwKF ?_
      refine HL.one (H1.ldAggw (b := gp) (off := i0 * 2) (vs := [zv (off : Int), .string s]) rfl rfl (fun w' hM j u hu => ?_) rfl ?_)
      · have hown := hM.own (e := 106) (sz := 2) (a := some ⟨gp, 0, none⟩) (c := pc) (xs := pendC k.pend) (.tail _ (.tail _ (.tail _ (.tail _ (.tail _ (.head _))))))
        match j, hu with
        | 0, hu => cases hu; rw [show i0 * 2 + 0 = 2 * i0 from by omega]; exact ownsRow_cell hown hg1
        | 1, hu => cases hu; rw [show i0 * 2 + 1 = 2 * i0 + 1 from by omega]; exact ownsRow_cell hown hg2
        | j + 2, hu => cases hu
      refine hwKF ?_
      refine HL.one (H1.alloc (cs := [zv 0, .string (ByteArray.mk #[])]) (by kernel_rfl) rfl (fun tw => ?_))
      refine hwKF ?_
      refine HL.one (H1.stAgg (cs := [zv 0, .string (ByteArray.mk #[])]) rfl rfl rfl (by intro v hv; rcases List.mem_cons.1 hv with rfl | hv; rfl; rcases List.mem_cons.1 hv with rfl | hv; rfl; cases hv) rplA rfl ?_)
      have hdk : dkC b1 b2 (some ⟨gp, 0, none⟩) pc { k with dur := D } = dkC b1 b2 (some ⟨gp, 0, none⟩) pc { k with dur := splice D off s'.data.toList } := by
        show [_, _, _, _, _] = [_, _, _, _, _]
        rw [hspl]
      by_cases hla : q + 1 = L2.length
      · have hqi : (q : Int) = (L2.length : Int) - 1 := by omega
        rw [decide_eq_true hla] at hs'
        by_cases htn : 0 ≤ torn
        · have hse : s' = s.extract 0 (min torn (s.size : Int)).toNat := by rw [hs']; unfold tornS; rw [if_pos ⟨rfl, htn⟩]
          refine hwKF ?_
          rw [← hse]
          refine HL.one (H1.st (b := tw) rfl rfl (by intro _ h; cases h) (by intro _ h; cases h) Rpl.here (by show 1 < 2; decide) ?_)
          refine hwKF ?_
          refine HC.anyC ([(⟨b3, 0, none⟩, .pointer (some ⟨bd, 0, none⟩)), (⟨bd, 2, none⟩, .slice (some ⟨b1, 0, none⟩) D.length D.length)]) rfl ?_
          refine HB.ld 1 rfl rfl memD ?_
          refine HB.pa 2 rfl ?_ (POp.nilCheck rfl)
          refine HB.pa 3 rfl ?_
          refine HB.ld 4 rfl rfl memD ?_
          refine HB.all (by (exact Keep.blk (b := b3) memD rfl (Keep.blk (b := bd) memD rfl Keep.nil))) [0] (by kernel_rfl) rfl ⟨⟨_, rfl, ?_⟩, trivial⟩
          refine HP.one ?_
          refine H1.ldAgg (b := tw) (vs := [zv (off : Int), .string s']) rfl (.head _) rfl (fun i v h => by rw [show 0 + i = i from Nat.zero_add i]; exact h) rfl ?_
          apply HB.fold
          refine HB.all (by (exact Keep.blk (b := b3) memD rfl (Keep.blk (b := bd) memD rfl Keep.nil))) [5] (by kernel_rfl) rfl ⟨⟨_, rfl, ?_⟩, trivial⟩
          refine HP.one ?_
          refine H1.callk (α := Unit) (V := fun _ => .tuple #[]) (I := fun _ => True) (H' := fun _ => A.blk b1 (ub (splice D off s'.data.toList)) 5 :: A.blk tw [zv (off : Int), .string s'] 106 :: A.grow 3 1 (some ⟨go, 0, none⟩) cs L2.length (ints L2) :: A.blk b3 [.pointer (some ⟨bd, 0, none⟩)] 25 :: A.blk bd (dkC b1 b2 (some ⟨gp, 0, none⟩) pc { k with dur := D }) 102 :: A.blk b2 (ub k.vis) 5 :: A.grow 106 2 (some ⟨gp, 0, none⟩) pc k.pend.length (pendC k.pend) :: H) (vs := [.agg [zv (off : Int), .string s'].toArray, _]) rfl rfl
              (fun w' hM => (onto_fn (l := D) off s' (hM.sub (Hs.cons (Pick.there (Pick.there (Pick.there (Pick.there Pick.here)))) (Hs.refl _))) (by omega) (by omega)).mono fun v w2 h => ⟨(), trivial, h⟩) ?_
          rintro - -
          apply HB.fold
          refine HB.done (by (exact Keep.blk (b := b3) memD rfl (Keep.blk (b := bd) memD rfl Keep.nil))) (by kernel_rfl) ?_
          refine hwKF ?_
          rw [hdk]
          exact HX.again (q + 1, splice D off s'.data.toList) ⟨hlt, happ, by show (splice D off s'.data.toList).length = _; rw [hspl]; exact hDl⟩ (by show L2.length - (q + 1) < L2.length - q; omega) esA (Hs.cons (Pick.there (Pick.there Pick.here)) (Hs.cons (Pick.there (Pick.there Pick.here)) (Hs.cons (Pick.there (Pick.there Pick.here)) (Hs.cons Pick.here (Hs.cons (Pick.there Pick.here) (Hs.cons (Pick.there Pick.here) (Hs.refl _).skip))))))
        · have hse : s' = s := by rw [hs']; unfold tornS; rw [if_neg (fun h => htn h.2)]
          subst hse
          refine hwKF ?_
          refine HC.anyC ([(⟨b3, 0, none⟩, .pointer (some ⟨bd, 0, none⟩)), (⟨bd, 2, none⟩, .slice (some ⟨b1, 0, none⟩) D.length D.length)]) rfl ?_
          refine HB.ld 1 rfl rfl memD ?_
          refine HB.pa 2 rfl ?_ (POp.nilCheck rfl)
          refine HB.pa 3 rfl ?_
          refine HB.ld 4 rfl rfl memD ?_
          refine HB.all (by (exact Keep.blk (b := b3) memD rfl (Keep.blk (b := bd) memD rfl Keep.nil))) [0] (by kernel_rfl) rfl ⟨⟨_, rfl, ?_⟩, trivial⟩
          refine HP.one ?_
          refine H1.ldAgg (b := tw) (vs := [zv (off : Int), .string s']) rfl (.head _) rfl (fun i v h => by rw [show 0 + i = i from Nat.zero_add i]; exact h) rfl ?_
          apply HB.fold
          refine HB.all (by (exact Keep.blk (b := b3) memD rfl (Keep.blk (b := bd) memD rfl Keep.nil))) [5] (by kernel_rfl) rfl ⟨⟨_, rfl, ?_⟩, trivial⟩
          refine HP.one ?_
          refine H1.callk (α := Unit) (V := fun _ => .tuple #[]) (I := fun _ => True) (H' := fun _ => A.blk b1 (ub (splice D off s'.data.toList)) 5 :: A.blk tw [zv (off : Int), .string s'] 106 :: A.grow 3 1 (some ⟨go, 0, none⟩) cs L2.length (ints L2) :: A.blk b3 [.pointer (some ⟨bd, 0, none⟩)] 25 :: A.blk bd (dkC b1 b2 (some ⟨gp, 0, none⟩) pc { k with dur := D }) 102 :: A.blk b2 (ub k.vis) 5 :: A.grow 106 2 (some ⟨gp, 0, none⟩) pc k.pend.length (pendC k.pend) :: H) (vs := [.agg [zv (off : Int), .string s'].toArray, _]) rfl rfl
              (fun w' hM => (onto_fn (l := D) off s' (hM.sub (Hs.cons (Pick.there (Pick.there (Pick.there (Pick.there Pick.here)))) (Hs.refl _))) (by omega) (by omega)).mono fun v w2 h => ⟨(), trivial, h⟩) ?_
          rintro - -
          apply HB.fold
          refine HB.done (by (exact Keep.blk (b := b3) memD rfl (Keep.blk (b := bd) memD rfl Keep.nil))) (by kernel_rfl) ?_
          refine hwKF ?_
          rw [hdk]
          exact HX.again (q + 1, splice D off s'.data.toList) ⟨hlt, happ, by show (splice D off s'.data.toList).length = _; rw [hspl]; exact hDl⟩ (by show L2.length - (q + 1) < L2.length - q; omega) esA (Hs.cons (Pick.there (Pick.there Pick.here)) (Hs.cons (Pick.there (Pick.there Pick.here)) (Hs.cons (Pick.there (Pick.there Pick.here)) (Hs.cons Pick.here (Hs.cons (Pick.there Pick.here) (Hs.cons (Pick.there Pick.here) (Hs.refl _).skip))))))
      · have hqi : ¬ (q : Int) = (L2.length : Int) - 1 := by omega
        rw [decide_eq_false hla] at hs'
        have hse : s' = s := by rw [hs']; unfold tornS; rw [if_neg (fun h => by cases h.1)]
        subst hse
        refine hwKF ?_
        refine HC.anyC ([(⟨b3, 0, none⟩, .pointer (some ⟨bd, 0, none⟩)), (⟨bd, 2, none⟩, .slice (some ⟨b1, 0, none⟩) D.length D.length)]) rfl ?_
        refine HB.ld 1 rfl rfl memD ?_
        refine HB.pa 2 rfl ?_ (POp.nilCheck rfl)
        refine HB.pa 3 rfl ?_
        refine HB.ld 4 rfl rfl memD ?_
        refine HB.all (by (exact Keep.blk (b := b3) memD rfl (Keep.blk (b := bd) memD rfl Keep.nil))) [0] (by kernel_rfl) rfl ⟨⟨_, rfl, ?_⟩, trivial⟩
        refine HP.one ?_
        refine H1.ldAgg (b := tw) (vs := [zv (off : Int), .string s']) rfl (.head _) rfl (fun i v h => by rw [show 0 + i = i from Nat.zero_add i]; exact h) rfl ?_
        apply HB.fold
        refine HB.all (by (exact Keep.blk (b := b3) memD rfl (Keep.blk (b := bd) memD rfl Keep.nil))) [5] (by kernel_rfl) rfl ⟨⟨_, rfl, ?_⟩, trivial⟩
        refine HP.one ?_
        refine H1.callk (α := Unit) (V := fun _ => .tuple #[]) (I := fun _ => True) (H' := fun _ => A.blk b1 (ub (splice D off s'.data.toList)) 5 :: A.blk tw [zv (off : Int), .string s'] 106 :: A.grow 3 1 (some ⟨go, 0, none⟩) cs L2.length (ints L2) :: A.blk b3 [.pointer (some ⟨bd, 0, none⟩)] 25 :: A.blk bd (dkC b1 b2 (some ⟨gp, 0, none⟩) pc { k with dur := D }) 102 :: A.blk b2 (ub k.vis) 5 :: A.grow 106 2 (some ⟨gp, 0, none⟩) pc k.pend.length (pendC k.pend) :: H) (vs := [.agg [zv (off : Int), .string s'].toArray, _]) rfl rfl
            (fun w' hM => (onto_fn (l := D) off s' (hM.sub (Hs.cons (Pick.there (Pick.there (Pick.there (Pick.there Pick.here)))) (Hs.refl _))) (by omega) (by omega)).mono fun v w2 h => ⟨(), trivial, h⟩) ?_
        rintro - -
        apply HB.fold
        refine HB.done (by (exact Keep.blk (b := b3) memD rfl (Keep.blk (b := bd) memD rfl Keep.nil))) (by kernel_rfl) ?_
        refine hwKF ?_
        rw [hdk]
        exact HX.again (q + 1, splice D off s'.data.toList) ⟨hlt, happ, by show (splice D off s'.data.toList).length = _; rw [hspl]; exact hDl⟩ (by show L2.length - (q + 1) < L2.length - q; omega) esA (Hs.cons (Pick.there (Pick.there Pick.here)) (Hs.cons (Pick.there (Pick.there Pick.here)) (Hs.cons (Pick.there (Pick.there Pick.here)) (Hs.cons Pick.here (Hs.cons (Pick.there Pick.here) (Hs.cons (Pick.there Pick.here) (Hs.refl _).skip))))))
    · obtain rfl : q = L2.length := by omega
      rw [hLl, List.drop_length] at happ
      have happ' : D = (k.crash keep torn).dur := happ
      refine hwKF ?_
      exact HX.cut () trivial esA (by rw [← happ']; exact (Hs.refl _).skip)
  · rintro - -
    refine hwKF ?_
    refine HC.anyC ([(⟨b3, 0, none⟩, .pointer (some ⟨bd, 0, none⟩)), (⟨bd, 2, none⟩, .slice (some ⟨b1, 0, none⟩) (k.crash keep torn).dur.length (k.crash keep torn).dur.length), (⟨bd, 3, none⟩, .slice (some ⟨b2, 0, none⟩) k.vis.length k.vis.length)]) rfl ?_
    refine HB.ld 0 rfl rfl memD ?_
    refine HB.ld 1 rfl rfl memD ?_
    refine HB.pa 2 rfl ?_ (POp.nilCheck rfl)
    refine HB.pa 3 rfl ?_
    refine HB.ld 4 rfl rfl memD ?_
    refine HB.ld 5 rfl rfl memD ?_
    refine HB.pa 6 rfl ?_ (POp.nilCheck rfl)
    refine HB.pa 7 rfl ?_
    refine HB.ld 8 rfl rfl memD ?_
    refine HB.all (by (first | exact Keep.blk (b := b3) memD rfl (Keep.blk (b := bd) memD rfl (Keep.blk (b := bd) memD rfl Keep.nil)) | exact Keep.blk (b := b3) memD rfl (Keep.blk (b := bd) memD rfl (Keep.blk (b := bd) memD (by show some (Value.slice (some ⟨b2, 0, none⟩) (k.crash keep torn).dur.length (k.crash keep torn).dur.length) = _; rw [hcrl, hlen]) Keep.nil)))) [9] (by kernel_rfl) rfl ⟨⟨_, rfl, ?_⟩, trivial⟩
    refine HP.one ?_
    refine H1.callk (α := Unit) (V := fun _ => .tuple #[]) (I := fun _ => True) (H' := fun _ => dkH bd b1 b2 pa pc { k with dur := (k.crash keep torn).dur, vis := (k.crash keep torn).dur, pend := [] } (A.blk b3 [.pointer (some ⟨bd, 0, none⟩)] 25 :: H)) (vs := [_, _, _]) rfl rfl
        (fun w' hM => (settle2_fn (k := { k with dur := (k.crash keep torn).dur }) (hM.sub (Hs.cons (Pick.there Pick.here) (Hs.cons (Pick.there Pick.here) (Hs.cons (Pick.there Pick.here) (Hs.cons (Pick.there Pick.here) (Hs.refl _)))))) (by show k.vis.length = (k.crash keep torn).dur.length; rw [hcrl, hlen])).mono fun v w2 h => ⟨(), trivial, h⟩) ?_
    rintro - -
    apply HB.fold
    refine HB.done (by (first | exact Keep.blk (b := b3) memD rfl (Keep.blk (b := bd) memD rfl (Keep.blk (b := bd) memD rfl Keep.nil)) | exact Keep.blk (b := b3) memD rfl (Keep.blk (b := bd) memD rfl (Keep.blk (b := bd) memD (by show some (Value.slice (some ⟨b2, 0, none⟩) (k.crash keep torn).dur.length (k.crash keep torn).dur.length) = _; rw [hcrl, hlen]) Keep.nil)))) (by kernel_rfl) ?_
    refine hwKF ?_
    refine HL.build (cs := [.bool false, zv 0]) rfl rfl rfl ?_
    refine hwKF ?_
    refine HL.one (H1.stAggO (b := bd) (o := 0) (cs := dkC b1 b2 pa pc { k with dur := (k.crash keep torn).dur, vis := (k.crash keep torn).dur, pend := [] }) (cs' := dkC b1 b2 pa pc (k.crash keep torn)) rfl rfl rfl (by intro v hv; rcases List.mem_cons.1 hv with rfl | hv; rfl; rcases List.mem_cons.1 hv with rfl | hv; rfl; cases hv) (by show 0 + 2 ≤ 5; decide) rfl rplA ?_)
    refine hwKF ?_
    exact HX.ret1 rfl rfl fun w' hM => ⟨rfl, hM.sub (Hs.cons Pick.here (Hs.cons Pick.here (Hs.cons Pick.here (Hs.cons Pick.here (Hs.refl _).skip))))⟩
end Go.Sx
/- Plain, chapter 27: a custodian whatever happens to its disk. -/
namespace Go.Sx
open Go
/-- A custodian through power failures: its journal is as it should be, or broken, and its disk reads as one of two lists of records behind a failure. -/
structure CKeep (N i : Nat) (m : PM) (j : Jn) (l : List ByteArray) : Prop where
  inv : JInv N (8 * i) j.k (some (j.t, j.br))
  t : j.t = adds t00 l
  len : l.length ≤ i
  sz : ∀ r ∈ l, r.size ≤ 4200
  rep : replaysF [] l = some m
  disk : (j.br = false ∧ Half j.k N l) ∨ (j.br = true ∧ ∃ l2 m2, l2.length ≤ i ∧ (∀ r ∈ l2, r.size ≤ 4200) ∧ replaysF [] l2 = some m2 ∧ Ends N l l2 j.k)
theorem CKeep.good {N i : Nat} {m : PM} {j : Jn} {l : List ByteArray} (h : CKeep N i m j l) : (∀ x ∈ m, okP x.1 ∧ x.2.size ≤ 4096) ∧ (m.map Prod.fst).Nodup ∧ m.length ≤ i := by
  obtain ⟨h1, h2, h3⟩ := replays_good l h.rep (fun _ h => by cases h) List.nodup_nil
  have h4 := h.len
  exact ⟨h1, h2, by have : m.length ≤ 0 + l.length := h3; omega⟩
theorem JInv.to {N p p' : Nat} {k : Dk} {o : Option (Tp × Bool)} (h : JInv N p k o) (hp : p ≤ p') : JInv N p' k o := ⟨h.ok, h.fit, h.vis, h.len, Nat.le_trans h.pend hp, h.t⟩
theorem CKeep.more {N i : Nat} {m : PM} {j : Jn} {l : List ByteArray} (h : CKeep N i m j l) : CKeep N (i + 1) m j l := by
  have h1 := h.len
  refine ⟨h.inv.to (by omega), h.t, by omega, h.sz, h.rep, ?_⟩
  rcases h.disk with hh | ⟨hb, l2, m2, h2, hh⟩
  · exact .inl hh
  · exact .inr ⟨hb, l2, m2, by omega, hh⟩
theorem CKeep.app {N i : Nat} {m m2 : PM} {j : Jn} {l : List ByteArray} {r : ByteArray} (h : CKeep N i m j l) (hi : i ≤ 100) (hr : r.size ≤ 4200) (hm : replayF m r = some m2) : ∃ (e : Int) (j2 : Jn), j.append [r] = (e, j2) ∧ ∃ l3, CKeep N (i + 1) (if e = 0 then m2 else m) j2 l3 := by
  have hlong : ([r] : List ByteArray).any isLong = false := one_long (by omega)
  have hln := h.len
  have hl1 : (l ++ [r]).length ≤ i + 1 := by rw [List.length_append]; exact Nat.succ_le_succ hln
  have hs1 : ∀ x ∈ l ++ [r], x.size ≤ 4200 := fun x hx => by
    rcases List.mem_append.1 hx with hx | hx
    · exact h.sz x hx
    · rcases List.mem_cons.1 hx with rfl | hx
      · exact hr
      · cases hx
  have hrep : replaysF [] (l ++ [r]) = some m2 := by rw [replaysF_snoc, h.rep]; exact hm
  obtain ⟨e, j2, hap, hI2⟩ := h.inv.app (by omega) [r] hlong
  have hap2 : j.append [r] = (e, j2) := hap
  refine ⟨e, j2, hap2, ?_⟩
  have hI3 := hI2.to (p' := 8 * (i + 1)) (by omega)
  rcases h.disk with ⟨hb, hh⟩ | ⟨hb, l2, m3, h2, h3, h4, hen⟩
  · obtain ⟨e', j2', hap3, hc⟩ := half_step (G := [r]) h.t hb hh hlong
    have he := hap3.symm.trans hap2
    cases he
    rcases hc with ⟨rfl, t2, b2, hh2⟩ | ⟨rfl, rfl⟩ | ⟨rfl, t2, b2, hen⟩
    · rw [if_pos rfl]
      exact ⟨l ++ [r], hI3, t2, hl1, hs1, hrep, .inl ⟨b2, hh2⟩⟩
    · rw [if_neg (by decide)]
      exact ⟨l, h.more⟩
    · rw [if_neg (by decide)]
      exact ⟨l, hI3, by rw [t2, h.t], by omega, h.sz, h.rep, .inr ⟨b2, l ++ [r], m2, hl1, hs1, hrep, hen⟩⟩
  · have he := (append_br (l := [r]) (.inl hb)).symm.trans hap2
    cases he
    rw [if_neg (by decide)]
    exact ⟨l, h.more⟩
theorem CKeep.store {N i : Nat} {m : PM} {j : Jn} {l : List ByteArray} (h : CKeep N i m j l) (hi : i ≤ 100) (p : PK) (s : ByteArray) : ∃ l', CKeep N (i + 1) (storeF m j p s).2.1 (storeF m j p s).2.2 l' := by
  unfold storeF
  by_cases h1 : ¬ okP p ∨ 4096 < s.size
  · rw [if_pos h1]; exact ⟨l, h.more⟩
  · rw [if_neg h1]
    have hp : okP p := Classical.not_not.1 fun h => h1 (.inl h)
    have hs : s.size ≤ 4096 := by
      have : ¬ 4096 < s.size := fun h => h1 (.inr h)
      omega
    obtain ⟨e, j2, hap, l3, h3⟩ := h.app hi (recS_size hp hs) (replay_recS m hp hs)
    rw [hap]
    exact ⟨l3, h3⟩
theorem CKeep.drop {N i : Nat} {m : PM} {j : Jn} {l : List ByteArray} (h : CKeep N i m j l) (hi : i ≤ 100) (o : Int) : ∃ l', CKeep N (i + 1) (dropF m j o).2.2.1 (dropF m j o).2.2.2 l' := by
  unfold dropF
  by_cases h1 : ¬ okP (o, 0)
  · rw [if_pos h1]; exact ⟨l, h.more⟩
  rw [if_neg h1]
  have hp : okP (o, 0) := Classical.not_not.1 h1
  by_cases h2 : (dropM m o).length = m.length
  · rw [if_pos h2]; exact ⟨l, h.more⟩
  rw [if_neg h2]
  have hl := dropM_len m o
  have hrz := recD_size (o := o) hp.2.1
  obtain ⟨e, j2, hap, l3, h3⟩ := h.app hi (by omega) (replay_recD m hp (by omega))
  rw [hap]
  dsimp only
  by_cases he : e = 0
  · rw [if_pos he] at h3 ⊢
    exact ⟨l3, h3⟩
  · rw [if_neg he] at h3 ⊢
    exact ⟨l3, h3⟩
theorem ends_cut {k : Dk} {N : Nat} {l1 l2 : List ByteArray} (h : Ends N l1 l2 k) (n : Nat) (hn : n ≤ 1000000) : Ends N l1 l2 (k.cut n).2 := by
  unfold Dk.cut
  split
  · exact h
  · exact ⟨⟨h.ok.len, h.ok.lo, h.ok.hi, hn, h.ok.pend⟩, h.fits, h.pend, h.dur, h.good⟩
theorem CKeep.cut {N i : Nat} {m : PM} {j : Jn} {l : List ByteArray} (h : CKeep N i m j l) (n : Nat) (hn : n ≤ 1000000) : CKeep N (i + 1) m ⟨j.t, (j.k.cut n).2, j.br⟩ l := by
  have h' := h.more
  refine ⟨(h.inv.cut n hn).to (by omega), h'.t, h'.len, h'.sz, h'.rep, ?_⟩
  rcases h'.disk with ⟨hb, hh⟩ | ⟨hb, l2, m2, h2, h3, h4, hen⟩
  · exact .inl ⟨hb, hh.cut n hn⟩
  · exact .inr ⟨hb, l2, m2, h2, h3, h4, ends_cut hen n hn⟩
theorem CKeep.crash {N i : Nat} {m : PM} {j : Jn} {l : List ByteArray} (h : CKeep N i m j l) (hi : i ≤ 100) (hlo : 1 ≤ N) (hhi : N ≤ 100000) (keep : List Int) (torn : Int) :
    ∃ k3 t3 m3 l3, openF (j.k.crash keep torn) = (0, k3, some t3) ∧ t3.recs.length ≤ 50000 ∧ (∀ r ∈ t3.recs, r.size ≤ 65536) ∧ replaysF [] t3.recs = some m3 ∧ CKeep N (i + 1) m3 ⟨t3, k3, false⟩ l3 ∧ JInv N (8 * i) (j.k.crash keep torn) none := by
  obtain ⟨l2, m2, h2, h3, h4, hen⟩ : ∃ l2 m2, l2.length ≤ i ∧ (∀ r ∈ l2, r.size ≤ 4200) ∧ replaysF [] l2 = some m2 ∧ Ends N l l2 j.k := by
    rcases h.disk with ⟨-, hh⟩ | ⟨-, hh⟩
    · exact ⟨l, m, h.len, h.sz, h.rep, hh.ends⟩
    · exact hh
  obtain ⟨l3, k3, hl3, hop, hcl, -, -⟩ := hen.opens (fun r hr => Nat.le_trans (h.sz r hr) (by decide)) (fun r hr => Nat.le_trans (h3 r hr) (by decide)) hlo (by omega) keep torn
  have hIc := h.inv.crash keep torn
  have hI3 : JInv N (8 * i + 4) k3 (some (adds t00 l3, false)) := by
    rcases hIc.opens (by omega) with ⟨t, k', ho, hI⟩ | ⟨e, k', ho, hne, hI⟩
    · rw [hop] at ho
      cases ho
      exact hI
    · rw [hop] at ho
      cases ho
  have hrec := adds0_recs l3
  have hln := h.len
  obtain ⟨m3, q1, q2, q3⟩ : ∃ m3, replaysF [] l3 = some m3 ∧ l3.length ≤ i ∧ ∀ r ∈ l3, r.size ≤ 4200 := by
    rcases hl3 with rfl | rfl
    · exact ⟨m, h.rep, h.len, h.sz⟩
    · exact ⟨m2, h4, h2, h3⟩
  refine ⟨k3, _, m3, l3, hop, by rw [hrec]; omega, by rw [hrec]; exact fun r hr => Nat.le_trans (q3 r hr) (by decide), by rw [hrec]; exact q1, ?_, hIc⟩
  exact ⟨hI3.to (by omega), rfl, by omega, q3, q1, .inl ⟨rfl, hcl.half⟩⟩
theorem ckeep0 {N : Nat} (h1 : 1 ≤ N) (h2 : N ≤ 100000) : CKeep N 0 [] ⟨t00, newK N, false⟩ [] :=
  ⟨(jinv0 h1 (by omega)).put fun t br e => by cases e; exact ⟨tpOk0, Nat.zero_le _⟩, rfl, Nat.le_refl _, (fun _ h => by cases h), rfl, .inl ⟨rfl, (clean0 h1 (by omega)).half⟩⟩
end Go.Sx
/- Chapter 27: the law CustodianMatchesReference: the walk. -/
namespace Go.Sx
open Go Go.Proofs Go.RowKit
theorem hwZE {G G2 : Prop} (x : G2) (hwq : Hold G2 → G := by
    intro hQq
    repeat' (first | refine HL.pa ?_ (POp.pneN rfl rfl) | refine HL.pa ?_ (POp.pnil1 rfl rfl) | refine HL.pa ?_ (POp.pnil0 rfl rfl) | refine HL.pa ?_ (POp.nilCheck rfl) | apply HL.fold | apply HA.fold | apply HL.nil | apply HX.n_then | apply HC.seq | apply HC.region | refine HL.pa ?_ | refine HL.ga rfl ?_ | refine HL.na rfl ?_ | refine HL.nu rfl rfl ?_ | apply HC.block | apply HC.skip | apply HC.exit | apply HC.ret | apply HX.e_block | refine HX.e_other rfl ?_ | apply HX.e_then | apply HX.e_again | apply HX.n_block | apply HX.r_then | apply HX.r_block | apply HX.r_again | refine HC.cond_yes rfl ?_ | refine HC.cond_no rfl ?_ | refine HL.one (H1.ldb rfl memA rfl rfl ?_) | refine HC.cond rfl (fun hc => ?_) (fun hc => ?_) | refine HC.cond_b rfl (fun hc => ?_) (fun hc => ?_))
    exact hQq.get) : G := hwq ⟨x⟩
theorem hnZE {G G2 : Prop} (x : G2) (hwq : Hold G2 → G := by
    intro hQq
    repeat' (first | refine HL.pa ?_ (POp.pneN rfl rfl) | refine HL.pa ?_ (POp.pnil1 rfl rfl) | refine HL.pa ?_ (POp.pnil0 rfl rfl) | refine HL.pa ?_ (POp.nilCheck rfl) | apply HL.fold | apply HA.fold | apply HL.nil | apply HX.n_then | apply HC.seq | apply HC.region | refine HL.pa ?_ | refine HL.ga rfl ?_ | refine HL.na rfl ?_ | refine HL.nu rfl rfl ?_ | apply HC.block | apply HC.skip | apply HC.exit | apply HC.ret | apply HX.e_block | refine HX.e_other rfl ?_ | apply HX.e_then | apply HX.e_again | apply HX.n_block | apply HX.r_then | apply HX.r_block | apply HX.r_again | refine HC.cond_yes rfl ?_ | refine HC.cond_no rfl ?_ | refine HL.one (H1.ldb rfl memA rfl rfl ?_))
    exact hQq.get) : G := hwq ⟨x⟩
theorem hbZE {G G2 : Prop} (x : G2) (hwq : Hold G2 → G := by
    intro hQq
    repeat' (first | refine HL.pa ?_ (POp.pneN rfl rfl) | refine HL.pa ?_ (POp.pnil1 rfl rfl) | refine HL.pa ?_ (POp.pnil0 rfl rfl) | refine HL.pa ?_ (POp.nilCheck rfl) | apply HL.fold | apply HA.fold | apply HL.nil | apply HX.n_then | apply HC.seq | apply HC.region | refine HL.pa ?_ | refine HL.ga rfl ?_ | refine HL.na rfl ?_ | refine HL.nu rfl rfl ?_ | apply HC.skip | apply HC.exit | apply HC.ret | apply HX.e_block | refine HX.e_other rfl ?_ | apply HX.e_then | apply HX.e_again | apply HX.n_block | apply HX.r_then | apply HX.r_block | apply HX.r_again | refine HC.cond_yes rfl ?_ | refine HC.cond_no rfl ?_ | refine HL.one (H1.ldb rfl memA rfl rfl ?_) | refine HC.cond rfl (fun hc => ?_) (fun hc => ?_) | refine HC.cond_b rfl (fun hc => ?_) (fun hc => ?_))
    exact hQq.get) : G := hwq ⟨x⟩
/-- Fragments, journal, records, the reference's pieces; the addresses of the two custodians. -/
abbrev MSt := PM × Jn × List ByteArray × PM
abbrev MAd := (Nat × Nat × Nat × (Option Addr × Nat) × (Option Addr × Nat)) × (Nat × Nat × RQ)
abbrev mH (bd b1 b2 bf : Nat) (s : MSt) (x : MAd) (H : List Atom) : List Atom := cuH x.1.1 x.1.2.1 x.1.2.2.1 bd b1 b2 x.1.2.2.2.1.1 x.1.2.2.2.1.2 x.1.2.2.2.2.1 x.1.2.2.2.2.2 s.1 s.2.1 (rcQ x.2.1 x.2.2.1 bf x.2.2.2 s.2.2.2 s.2.1 H)
structure MatI (N i : Nat) (s : MSt) : Prop where
  keep : CKeep N i s.1 s.2.1 s.2.2.1
  ord : SortL s.2.2.2 s.1
theorem fetch_same {l m : PM} (h : SortL l m) (hk : (m.map Prod.fst).Nodup) (p : PK) : ∃ s e, fetchV m p = .tuple #[.string s, zv e] ∧ fetchV l p = .tuple #[.string s, zv e] := by
  have h1 := h.get hk p
  unfold fetchV
  rw [h1]
  cases getM m p with
  | none => exact ⟨_, _, rfl, rfl⟩
  | some s => exact ⟨_, _, rfl, rfl⟩
theorem ans_same {l m : PM} (h : SortL l m) (hk : (m.map Prod.fst).Nodup) (p : PK) {ch : ByteArray} (hc : ch.size ≤ 100) : ∃ s e, ansV m p ch = .tuple #[.string s, zv e] ∧ ansV l p ch = .tuple #[.string s, zv e] := by
  have h1 := h.get hk p
  rw [ransV_eq hc, ransV_eq hc, h1]
  cases getM m p with
  | none => exact ⟨_, _, rfl, rfl⟩
  | some s => exact ⟨_, _, rfl, rfl⟩
attribute [local irreducible] WC WL WX POp Then Again Fn NX W1 WA WO QL RP RA Yld LoopAt HC HL HX HN H1 HA HO HQ HB HP A.blk A.grow A.rd A.obj A.mp AgainH CutH
attribute [local irreducible] A.pm A.mx A.mit sumS newK expB unz
set_option maxHeartbeats 16000000 in
theorem custodianMatches_fn {w : World} {ea ec : Addr} {a0 : Option Addr} {c0 : Nat} {ds : List DeedV} (hG : RoundG w) (hE : ErrG ea w) (hC : CErrG ec w) (n : Int) (hn1 : -9223372036854775808 ≤ n) (hn2 : n ≤ 9223372036854775807) (hR : RdDeeds w a0 c0 ds) (_hdl : ds.length ≤ 9223372036854775807)
    (ch0 : ByteArray) (hch0 : ch0.size ≤ 9223372036854775807) (raw : Bool) :
    Fn Tryz.prog 7 #[zv n, .slice a0 ds.length c0, .string ch0, .bool raw] w fun v w' => v = .bool true ∧ Ext w w' := by
  have hpn := pk_lt n (n := 3000) (by decide)
  obtain ⟨N, hN, hN1, hN3⟩ : ∃ N : Nat, 1 + pk n 3000 = (N : Int) ∧ 1 ≤ N ∧ N ≤ 3000 := ⟨(1 + pk n 3000).toNat, by omega, by omega, by omega⟩
  obtain ⟨ch, hch⟩ : ∃ ch, ch = cutS 100 ch0 := ⟨_, rfl⟩
  have hch1 : ch.size ≤ 100 := by rw [hch]; exact cutS_size _ _
  have hk0 := ckeep0 hN1 (show N ≤ 100000 by omega)
  have hop0 : openF (newK N) = (0, newK N, some t00) := (cclean0 hN1 (by omega)).opens
  refine enterH (l := [_, _, _, _]) rfl Tryz.ntmps7 rfl ?_
  refine hwZE ?_
  refine HL.one (H1.callx (vs := []) rfl rfl (fun w' hM => sane27_fn (hG.ext hM.ext) (hE.ext hM.ext) (hC.ext hM.ext)) ?_)
  refine hwZE ?_
  refine HL.one (H1.call0 (vs := [_, zv 3000]) rfl rfl (fun w' _ => pick27_fn n 3000 hn1 hn2 (by decide) w') ?_)
  refine hwZE ?_
  rw [hN]
  refine HL.one (H1.call0 (vs := [_, zv ((100 : Nat) : Int)]) rfl rfl (fun w' _ => cut27_fn ch0 100 hch0 w') ?_)
  rw [← hch]
  refine hwZE ?_
  refine HL.one (H1.callz (α := (Nat × Nat × Nat) × Nat × Nat × Nat × (Option Addr × Nat) × (Option Addr × Nat)) (V := fun z => .tuple #[.pointer (some ⟨z.2.1, 0, none⟩), .pointer (some ⟨z.1.1, 0, none⟩), .bool true])
    (Hn := fun z => cuH z.2.1 z.2.2.1 z.2.2.2.1 z.1.1 z.1.2.1 z.1.2.2 z.2.2.2.2.1.1 z.2.2.2.2.1.2 z.2.2.2.2.2.1 z.2.2.2.2.2.2 [] ⟨t00, newK N, false⟩ []) (I := fun _ => True) (vs := [zv (N : Int)]) rfl rfl (fun w' hM => opened_fn (hG.ext hM.ext) (hE.ext hM.ext) (hC.ext hM.ext) N hN1 (by omega)) ?_)
  rintro ⟨⟨bd, b1, b2⟩, bx, bm, bj, ⟨a, c⟩, ⟨pa, pc⟩⟩ -
  dsimp only
  refine hwZE ?_
  refine HL.one (H1.callz (α := Nat × Option Addr × Nat) (V := fun z => .tuple #[.pointer (some ⟨z.1, 0, none⟩), zv 0]) (Hn := fun z => rfH z.1 z.2.1 z.2.2 none 0 (newK N) []) (I := fun _ => True) (vs := [zv (N : Int)]) rfl rfl (fun w' _ => rnew_fn N hN1 (by omega) w') ?_)
  rintro ⟨bf, sa, sc⟩ -
  dsimp only
  refine hwZE ?_
  refine HL.one (H1.callk (α := Nat × Nat × PM × RQ) (V := fun z => .tuple #[.pointer (some ⟨z.1, 0, none⟩), zv 0]) (I := fun z => SortL z.2.2.1 []) (H' := fun z => rcQ z.1 z.2.1 bf z.2.2.2 z.2.2.1 ⟨t00, newK N, false⟩ (cuH bx bm bj bd b1 b2 a c pa pc [] ⟨t00, newK N, false⟩ [])) (vs := [_]) rfl rfl
    (fun w' hM => rcopen_fn hM hk0.inv.ok hk0.inv.fit hk0.inv.vis (by have := hk0.inv.pend; dsimp only at this ⊢; omega) (by have := hk0.inv.len; dsimp only at this ⊢; omega) hop0 (fun r hr => by cases hr) (Nat.zero_le _) rfl) ?_)
  rintro ⟨by_, bk, L0, ⟨⟨la, lc⟩, ⟨ja, jc⟩, ⟨sa, sc⟩, ⟨ka, kc⟩⟩⟩ hS0
  dsimp only at hS0 ⊢
  refine hwZE ?_
  refine HC.loop (α := Nat × MSt × MAd) (fun z => [(1, .slice a0 ds.length c0), (2, .string ch), (3, .bool raw), (9, .bool true), (10, .pointer (some ⟨z.2.2.1.1, 0, none⟩)), (11, .pointer (some ⟨bd, 0, none⟩)), (13, .pointer (some ⟨bf, 0, none⟩)), (15, .pointer (some ⟨z.2.2.2.1, 0, none⟩)), (17, zv (z.1 : Int))])
    (fun z => mH bd b1 b2 bf z.2.1 z.2.2 []) (fun z => z.1 ≤ 30 ∧ MatI N z.1 z.2.1) (fun z => 30 - z.1) (0, ([], ⟨t00, newK N, false⟩, [], L0), (bx, bm, bj, (a, c), (pa, pc)), (by_, bk, ((la, lc), (ja, jc), (sa, sc), (ka, kc)))) ⟨Nat.zero_le _, hk0, hS0⟩ esA (Hs.cons (Pick.there (Pick.there (Pick.there (Pick.there (Pick.there (Pick.there (Pick.there Pick.here))))))) (Hs.cons (Pick.there (Pick.there (Pick.there (Pick.there (Pick.there (Pick.there (Pick.there Pick.here))))))) (Hs.cons (Pick.there (Pick.there (Pick.there (Pick.there (Pick.there (Pick.there (Pick.there Pick.here))))))) (Hs.cons (Pick.there (Pick.there (Pick.there (Pick.there (Pick.there (Pick.there (Pick.there Pick.here))))))) (Hs.cons (Pick.there (Pick.there (Pick.there (Pick.there (Pick.there (Pick.there (Pick.there Pick.here))))))) (Hs.cons (Pick.there (Pick.there (Pick.there (Pick.there (Pick.there (Pick.there (Pick.there Pick.here))))))) (Hs.cons (Pick.there (Pick.there (Pick.there (Pick.there (Pick.there (Pick.there (Pick.there Pick.here))))))) (Hs.cons (Pick.there (Pick.there (Pick.there (Pick.there (Pick.there (Pick.there (Pick.there Pick.here))))))) (Hs.refl _))))))))) ?_
  rintro ⟨i, ⟨m, j, l, L⟩, ⟨bx, bm, bj, ⟨a, c⟩, ⟨pa, pc⟩⟩, ⟨by_, bk, ⟨⟨la, lc⟩, ⟨ja, jc⟩, ⟨sa, sc⟩, ⟨ka, kc⟩⟩⟩⟩ ⟨hi30, hI⟩
  obtain ⟨hkeep, hord⟩ := hI
  dsimp only at hi30 hkeep hord ⊢
  by_cases hlt : i < ds.length ∧ i < 30
  rotate_left
  · by_cases hin : i < ds.length
    · have hn8 : ¬ i < 30 := fun h => hlt ⟨hin, h⟩
      refine hwZE ?_
      exact HX.ret1 rfl rfl fun w' hM => ⟨rfl, hM.ext⟩
    · refine hwZE ?_
      exact HX.ret1 rfl rfl fun w' hM => ⟨rfl, hM.ext⟩
  obtain ⟨hlt, hl30⟩ := hlt
  have hq := hR.ok hlt
  have hqk := hR.keep i hlt
  obtain ⟨b, off, rfl, hbs, hcell⟩ : ∃ b off, a0 = some ⟨b, off, none⟩ ∧ b < w.heap.size ∧ ∀ (j : Nat) (u : Value), (deedC (deedAt ds i))[j]? = some u → w.cell? ⟨b, off + i * 5 + j, none⟩ = some u := by
    rcases hR.cells with h | ⟨b, off, h1, h2, h3⟩
    · rw [h] at hlt; cases hlt
    · exact ⟨b, off, h1, h2, h3 i hlt⟩
  generalize deedAt ds i = q at hq hcell hqk
  obtain ⟨hK, hKl⟩ := hqk
  obtain ⟨qk, qo, qf, qs, K, vk⟩ := q
  obtain ⟨k1, k2, o1, o2, f1, f2, hs⟩ := hq
  dsimp only at k1 k2 o1 o2 f1 f2 hs hK hKl
  obtain ⟨ak, ck, rfl, hKc⟩ : ∃ ak ck, vk = .slice ak K.length ck ∧ K.length ≤ ck := by
    obtain ⟨a, c, h1, h2, -⟩ := hK
    rw [ints_len] at h1 h2
    exact ⟨a, c, h1, h2⟩
  obtain ⟨hgood, hnd, hml⟩ := hkeep.good
  have hinv := hkeep.inv
  have hjok : JOk j := hinv.jok (by omega) (by omega)
  have hTp := (hinv.t j.t j.br rfl).1
  have hdur : j.k.dur.length = N := hinv.len
  have hll := hord.perm.length_eq
  have hp8 := pk_lt qk (n := 8) (by decide)
  have hpo := pk_lt qo (n := 4) (by decide)
  refine hwZE ?_
  refine HL.one (H1.ldAggw (b := b) (off := off + i * 5) (vs := [zv qk, zv qo, zv qf, .string qs, .slice ak K.length ck]) rfl rfl (fun w' hM j u hu => cell_ext hM.ext (hcell j u hu)) rfl ?_)
  refine hwZE ?_
  refine HL.one (H1.alloc (cs := [zv 0, zv 0, zv 0, .string (ByteArray.mk #[]), .slice none 0 0]) rfl rfl (fun b18 => ?_))
  refine hwZE ?_
  refine HL.one (H1.stAgg (cs := [zv 0, zv 0, zv 0, .string (ByteArray.mk #[]), .slice none 0 0]) (vs := [zv qk, zv qo, zv qf, .string qs, .slice ak K.length ck]) rfl rfl rfl (by intro v hv; rcases List.mem_cons.1 hv with rfl | hv; rfl; rcases List.mem_cons.1 hv with rfl | hv; rfl; rcases List.mem_cons.1 hv with rfl | hv; rfl; rcases List.mem_cons.1 hv with rfl | hv; rfl; rcases List.mem_cons.1 hv with rfl | hv; rfl; cases hv) rplA rfl ?_)
  refine hnZE ?_
  refine HC.cut (α := PK) (fun p => [(1, .slice (some ⟨b, off, none⟩) ds.length c0), (2, .string ch), (3, .bool raw), (9, .bool true), (10, .pointer (some ⟨bx, 0, none⟩)), (11, .pointer (some ⟨bd, 0, none⟩)), (13, .pointer (some ⟨bf, 0, none⟩)), (15, .pointer (some ⟨by_, 0, none⟩)), (17, zv (i : Int)), (18, .pointer (some ⟨b18, 0, none⟩)), (19, zv p.1), (20, zv p.2)])
    (fun _ => A.blk b18 [zv qk, zv qo, zv qf, .string qs, .slice ak K.length ck] 40 :: cuH bx bm bj bd b1 b2 a c pa pc m j (rcQ by_ bk bf ((la, lc), (ja, jc), (sa, sc), (ka, kc)) L j [])) (fun _ => True) ?_ ?_
  · cases raw with
    | true =>
      refine hwZE ?_
      exact HX.cut (qo, qf) trivial esA (Hs.refl _)
    | false =>
      refine hwZE ?_
      refine HL.one (H1.call0 (vs := [_, zv 4]) rfl rfl (fun w' _ => pick27_fn qo 4 o1 o2 (by decide) w') ?_)
      refine hwZE ?_
      refine HL.one (H1.call0 (vs := [_, zv 5]) rfl rfl (fun w' _ => pick27_fn qf 5 f1 f2 (by decide) w') ?_)
      refine hwZE ?_
      exact HX.cut (1 + pk qo 4, pk qf 5) trivial esA (Hs.refl _)
  rintro p -
  refine hwZE ?_
  refine HL.one (H1.call0 (vs := [_, zv 8]) rfl rfl (fun w' _ => pick27_fn qk 8 k1 k2 (by decide) w') ?_)
  refine hbZE ?_
  repeat refine HC.seq ?_
  refine HC.cut (α := MSt × MAd) (fun z => [(1, .slice (some ⟨b, off, none⟩) ds.length c0), (2, .string ch), (3, .bool raw), (9, .bool true), (10, .pointer (some ⟨z.2.1.1, 0, none⟩)), (11, .pointer (some ⟨bd, 0, none⟩)), (13, .pointer (some ⟨bf, 0, none⟩)), (15, .pointer (some ⟨z.2.2.1, 0, none⟩)), (17, zv (i : Int)), (19, zv p.1), (20, zv p.2), (21, .bool true)])
    (fun z => mH bd b1 b2 bf z.1 z.2 []) (fun z => MatI N (i + 1) z.1) ?_ ?_
  · refine HC.block ?_
    by_cases h5 : pk qk 8 = 5
    · obtain ⟨l', hk'⟩ := hkeep.drop (by omega) p.1
      obtain ⟨e1, e2, e3, e4⟩ := dropL_same (j := j) (o := p.1) hord
      have hcd := fun w' hM => cdrop_fn (w0 := w) (w := w') (bx := bx) (bm := bm) (bj := bj) (bd := bd) (b1 := b1) (b2 := b2) (a := a) (c := c) (pa := pa) (pc := pc) (m := m) (j := j) (H := A.blk b18 [zv qk, zv qo, zv qf, .string qs, .slice ak K.length ck] 40 :: rcQ by_ bk bf ((la, lc), (ja, jc), (sa, sc), (ka, kc)) L j []) p.1 hG hM hjok hnd (by omega)
      obtain ⟨dn, de, dm, dj, hD⟩ : ∃ dn de dm dj, dropF m j p.1 = (dn, de, dm, dj) := ⟨_, _, _, _, rfl⟩
      obtain ⟨dn2, de2, dL, dj2, hD2⟩ : ∃ dn de dm dj, dropF L j p.1 = (dn, de, dm, dj) := ⟨_, _, _, _, rfl⟩
      rw [hD] at hk' e1 e2 e3 e4 hcd
      rw [hD2] at e1 e2 e3 e4
      dsimp only at e1 e2 e3 e4
      subst e1 e2 e3
      refine hwZE ?_
      refine HL.one (H1.callk (α := Nat × (Option Addr × Nat) × (Option Addr × Nat)) (V := fun _ => .tuple #[zv dn2, zv de2]) (I := fun _ => True) (H' := fun z => cuH bx z.1 bj bd b1 b2 z.2.1.1 z.2.1.2 z.2.2.1 z.2.2.2 dm dj2 (A.blk b18 [zv qk, zv qo, zv qf, .string qs, .slice ak K.length ck] 40 :: rcQ by_ bk bf ((la, lc), (ja, jc), (sa, sc), (ka, kc)) L j [])) (vs := [_, zv p.1]) rfl rfl
        (fun w' hM => hcd w' (hM.sub (Hs.cons (Pick.there Pick.here) (Hs.cons (Pick.there Pick.here) (Hs.cons (Pick.there Pick.here) (Hs.cons (Pick.there Pick.here) (Hs.cons (Pick.there Pick.here) (Hs.cons (Pick.there Pick.here) (Hs.cons (Pick.there Pick.here) (Hs.cons (Pick.there Pick.here) (Hs.refl _))))))))))) ?_)
      clear hcd
      rintro ⟨bm, ⟨a, c⟩, ⟨pa, pc⟩⟩ -
      dsimp only
      refine hwZE ?_
      refine HL.one (H1.callk (α := RQ) (V := fun _ => .tuple #[zv dn2, zv de2]) (I := fun _ => True) (H' := fun r => rcQ by_ bk bf r dL dj2 (cuH bx bm bj bd b1 b2 a c pa pc dm dj2 [A.blk b18 [zv qk, zv qo, zv qf, .string qs, .slice ak K.length ck] 40])) (vs := [_, zv p.1]) rfl rfl
        (fun w' hM => by
          have h := rcdrop_fn (q := ((la, lc), (ja, jc), (sa, sc), (ka, kc))) (H := cuH bx bm bj bd b1 b2 a c pa pc dm dj2 [A.blk b18 [zv qk, zv qo, zv qf, .string qs, .slice ak K.length ck] 40]) p.1 (hM.sub (Hs.cons (Pick.there (Pick.there (Pick.there (Pick.there (Pick.there (Pick.there (Pick.there (Pick.there (Pick.there Pick.here))))))))) (Hs.cons (Pick.there (Pick.there (Pick.there (Pick.there (Pick.there (Pick.there (Pick.there (Pick.there (Pick.there Pick.here))))))))) (Hs.cons (Pick.there (Pick.there (Pick.there (Pick.there (Pick.there (Pick.there (Pick.there (Pick.there (Pick.there Pick.here))))))))) (Hs.cons (Pick.there (Pick.there (Pick.there (Pick.there (Pick.there (Pick.there (Pick.there (Pick.there (Pick.there Pick.here))))))))) (Hs.cons (Pick.there (Pick.there (Pick.there (Pick.there (Pick.there (Pick.there (Pick.there (Pick.there (Pick.there Pick.here))))))))) (Hs.cons (Pick.there (Pick.there (Pick.there (Pick.there (Pick.there (Pick.there (Pick.there (Pick.there (Pick.there Pick.here))))))))) (Hs.cons (Pick.there (Pick.there (Pick.there (Pick.there (Pick.there (Pick.there (Pick.there (Pick.there (Pick.there Pick.here))))))))) (Hs.refl _))))))))) hjok hTp hinv.fit hinv.vis (by omega) (by omega)
          rw [hD2] at h
          exact h) ?_)
      rintro ⟨⟨la, lc⟩, ⟨ja, jc⟩, ⟨sa, sc⟩, ⟨ka, kc⟩⟩ -
      refine hwZE ?_
      exact HX.cut ((dm, dj2, l', dL), (bx, bm, bj, (a, c), (pa, pc)), (by_, bk, ((la, lc), (ja, jc), (sa, sc), (ka, kc)))) ⟨hk', e4⟩ ⟨rfl, rfl, rfl, rfl, rfl, rfl, rfl, rfl, rfl, rfl, rfl, by rw [decide_eq_true (rfl : de2 = de2)]; rfl, trivial⟩ (Hs.cons (Pick.there (Pick.there (Pick.there (Pick.there (Pick.there (Pick.there (Pick.there Pick.here))))))) (Hs.cons (Pick.there (Pick.there (Pick.there (Pick.there (Pick.there (Pick.there (Pick.there Pick.here))))))) (Hs.cons (Pick.there (Pick.there (Pick.there (Pick.there (Pick.there (Pick.there (Pick.there Pick.here))))))) (Hs.cons (Pick.there (Pick.there (Pick.there (Pick.there (Pick.there (Pick.there (Pick.there Pick.here))))))) (Hs.cons (Pick.there (Pick.there (Pick.there (Pick.there (Pick.there (Pick.there (Pick.there Pick.here))))))) (Hs.cons (Pick.there (Pick.there (Pick.there (Pick.there (Pick.there (Pick.there (Pick.there Pick.here))))))) (Hs.cons (Pick.there (Pick.there (Pick.there (Pick.there (Pick.there (Pick.there (Pick.there Pick.here))))))) (Hs.cons (Pick.there (Pick.there (Pick.there (Pick.there (Pick.there (Pick.there (Pick.there Pick.here))))))) (Hs.cons Pick.here (Hs.cons Pick.here (Hs.cons Pick.here (Hs.cons Pick.here (Hs.cons Pick.here (Hs.cons Pick.here (Hs.cons Pick.here (Hs.refl _).skip)))))))))))))))
    by_cases h6 : pk qk 8 = 6
    · have hpf := pk_lt qf (n := 4) (by decide)
      obtain ⟨cn, hcn, hcn4⟩ : ∃ cn : Nat, pk qf 4 = (cn : Int) ∧ cn < 4 := ⟨(pk qf 4).toNat, by omega, by omega⟩
      have hk' := hkeep.cut cn (by omega)
      obtain ⟨ce, k2', hcu⟩ : ∃ ce k2', j.k.cut cn = (ce, k2') := ⟨_, _, rfl⟩
      rw [hcu] at hk'
      refine hwZE ?_
      refine HC.anyC ([(⟨b18, 2, none⟩, zv qf)]) rfl ?_
      refine HB.pa 0 rfl ?_
      refine HB.pa 1 rfl ?_
      refine HB.ld 2 rfl rfl memD ?_
      refine HB.pa 5 rfl ?_
      refine HB.pa 6 rfl ?_
      refine HB.ld 7 rfl rfl memD ?_
      refine HB.all (by (exact Keep.blk (b := b18) memD rfl Keep.nil)) [3] (by kernel_rfl) rfl ⟨⟨_, rfl, ?_⟩, trivial⟩
      refine HP.one ?_
      refine H1.call0 (vs := [_, zv 4]) rfl rfl (fun w' _ => pick27_fn qf 4 f1 f2 (by decide) w') ?_
      rw [hcn]
      apply HB.fold
      refine HB.all (by (exact Keep.blk (b := b18) memD rfl Keep.nil)) [4] (by kernel_rfl) rfl ⟨⟨_, rfl, ?_⟩, trivial⟩
      refine HP.one ?_
      refine H1.callk (α := Unit) (V := fun _ => zv ce) (I := fun _ => True) (H' := fun _ => dkH bd b1 b2 pa pc k2' (A.blk b18 [zv qk, zv qo, zv qf, .string qs, .slice ak K.length ck] 40 :: A.blk bx (cuC bm bj) 84 :: A.pm bm (liftP m) :: A.blk bj (tpC a c j.t (jnR bd j.br)) 179 :: A.grow 9 1 a c j.t.recs.length (strs j.t.recs) :: rcQ by_ bk bf ((la, lc), (ja, jc), (sa, sc), (ka, kc)) L j [])) (vs := [_, zv (cn : Int)]) rfl rfl
          (fun w' hM => (cut_fn (k := j.k) cn (hM.sub (Hs.cons (Pick.there (Pick.there (Pick.there (Pick.there (Pick.there Pick.here))))) (Hs.cons (Pick.there (Pick.there (Pick.there (Pick.there (Pick.there Pick.here))))) (Hs.cons (Pick.there (Pick.there (Pick.there (Pick.there (Pick.there Pick.here))))) (Hs.cons (Pick.there (Pick.there (Pick.there (Pick.there (Pick.there Pick.here))))) (Hs.refl _))))))).mono fun v w2 h => ⟨(), trivial, by rw [h.1, hcu], by have := h.2; rw [hcu] at this; exact this⟩) ?_
      rintro - -
      apply HB.fold
      refine HB.all (by (exact Keep.blk (b := b18) memD rfl Keep.nil)) [8] (by kernel_rfl) rfl ⟨⟨_, rfl, ?_⟩, trivial⟩
      refine HP.one ?_
      refine H1.call0 (vs := [_, zv 4]) rfl rfl (fun w' _ => pick27_fn qf 4 f1 f2 (by decide) w') ?_
      rw [hcn]
      apply HB.fold
      refine HB.all (by (exact Keep.blk (b := b18) memD rfl Keep.nil)) [9] (by kernel_rfl) rfl ⟨⟨_, rfl, ?_⟩, trivial⟩
      refine HP.one ?_
      refine H1.callk (α := Unit) (V := fun _ => zv ce) (I := fun _ => True) (H' := fun _ => rfH bf sa sc ka kc k2' (dkH bd b1 b2 pa pc k2' (A.blk b18 [zv qk, zv qo, zv qf, .string qs, .slice ak K.length ck] 40 :: A.blk bx (cuC bm bj) 84 :: A.pm bm (liftP m) :: A.blk bj (tpC a c j.t (jnR bd j.br)) 179 :: A.grow 9 1 a c j.t.recs.length (strs j.t.recs) :: rcS by_ bk la lc L (A.blk bk (rjC bf ja jc j.t j.br) 127 :: A.grow 9 1 ja jc j.t.recs.length (strs j.t.recs) :: [])))) (vs := [_, zv (cn : Int)]) rfl rfl
          (fun w' hM => by
            have h := rcut_fn (k := j.k) cn (hM.sub (Hs.cons (Pick.there (Pick.there (Pick.there (Pick.there (Pick.there (Pick.there (Pick.there (Pick.there (Pick.there (Pick.there (Pick.there (Pick.there (Pick.there Pick.here))))))))))))) (Hs.cons (Pick.there (Pick.there (Pick.there (Pick.there (Pick.there (Pick.there (Pick.there (Pick.there (Pick.there (Pick.there (Pick.there (Pick.there (Pick.there Pick.here))))))))))))) (Hs.cons (Pick.there (Pick.there (Pick.there (Pick.there (Pick.there (Pick.there (Pick.there (Pick.there (Pick.there (Pick.there (Pick.there (Pick.there (Pick.there Pick.here))))))))))))) (Hs.refl _)))))
            rw [hcu] at h
            exact h) ?_
      rintro - -
      apply HB.fold
      refine HB.pa 10 rfl ?_
      refine HB.pa 11 rfl ?_
      refine HB.done (by (exact Keep.blk (b := b18) memD rfl Keep.nil)) (by kernel_rfl) ?_
      refine hwZE ?_
      exact HX.cut ((m, ⟨j.t, k2', j.br⟩, l, L), (bx, bm, bj, (a, c), (pa, pc)), (by_, bk, ((la, lc), (ja, jc), (sa, sc), (ka, kc)))) ⟨hk', hord⟩ ⟨rfl, rfl, rfl, rfl, rfl, rfl, rfl, rfl, rfl, rfl, rfl, by rw [decide_eq_true (rfl : ce = ce)]; rfl, trivial⟩ (Hs.cons (Pick.there (Pick.there (Pick.there (Pick.there (Pick.there (Pick.there (Pick.there (Pick.there Pick.here)))))))) (Hs.cons (Pick.there (Pick.there (Pick.there (Pick.there (Pick.there (Pick.there (Pick.there (Pick.there Pick.here)))))))) (Hs.cons (Pick.there (Pick.there (Pick.there (Pick.there (Pick.there (Pick.there (Pick.there (Pick.there Pick.here)))))))) (Hs.cons (Pick.there (Pick.there (Pick.there (Pick.there (Pick.there (Pick.there (Pick.there (Pick.there Pick.here)))))))) (Hs.cons (Pick.there (Pick.there (Pick.there Pick.here))) (Hs.cons (Pick.there (Pick.there (Pick.there Pick.here))) (Hs.cons (Pick.there (Pick.there (Pick.there Pick.here))) (Hs.cons (Pick.there (Pick.there (Pick.there Pick.here))) (Hs.cons (Pick.there (Pick.there (Pick.there (Pick.there Pick.here)))) (Hs.cons (Pick.there (Pick.there (Pick.there (Pick.there Pick.here)))) (Hs.cons (Pick.there (Pick.there (Pick.there (Pick.there Pick.here)))) (Hs.cons (Pick.there (Pick.there (Pick.there (Pick.there Pick.here)))) (Hs.cons Pick.here (Hs.cons Pick.here (Hs.cons Pick.here (Hs.refl _).skip)))))))))))))))
    by_cases h7 : pk qk 8 = 7
    · have hm20 : min (K.length : Int) 20 = ((min K.length 20 : Nat) : Int) := by omega
      obtain ⟨K2, hK2⟩ : ∃ K2, K2 = K.take (min K.length 20) := ⟨_, rfl⟩
      have hK2l : K2.length = min K.length 20 := by rw [hK2, List.length_take]; omega
      obtain ⟨k3, t3, m3, l3, hop, ht1, ht2, hrp, hk3, hIc⟩ := hkeep.crash (by omega) hN1 (by omega) K2 qf
      have hrc := fun w2 (hx : Ext w w2) => (hK.ext hx).ipre (k := K2.length) (by omega)
      have hrc2 : ∀ w2, Ext w w2 → Rd w2 (.slice ak K2.length ck) (ints K2) := fun w2 hx => by
        have := hrc w2 hx
        rw [hK2l, ← hK2] at this
        rw [hK2l]
        exact this
      clear hrc
      refine hwZE ?_
      refine HL.pa ?_ (POp.pre_any rfl rfl (by omega) (by omega))
      rw [hm20, Int.toNat_natCast, ← hK2l]
      refine hwZE ?_
      refine HL.one (H1.callk (α := Unit) (V := fun _ => zv 0) (I := fun _ => True) (H' := fun _ => dkH bd b1 b2 pa pc (j.k.crash K2 qf) (A.blk b18 [zv qk, zv qo, zv qf, .string qs, .slice ak K.length ck] 40 :: rcQ by_ bk bf ((la, lc), (ja, jc), (sa, sc), (ka, kc)) L j [])) (vs := [_, _, _]) rfl rfl
        (fun w' hM => (crash_fn K2 qf f1 f2 (hM.sub (Hs.cons (Pick.there (Pick.there (Pick.there (Pick.there (Pick.there Pick.here))))) (Hs.cons (Pick.there (Pick.there (Pick.there (Pick.there (Pick.there Pick.here))))) (Hs.cons (Pick.there (Pick.there (Pick.there (Pick.there (Pick.there Pick.here))))) (Hs.cons (Pick.there (Pick.there (Pick.there (Pick.there (Pick.there Pick.here))))) (Hs.cons Pick.here (Hs.refl _).skip.skip.skip.skip)))))) hinv.ok hinv.fit (by omega) (fun w2 hM2 => hrc2 w2 hM2.ext)).mono fun v w2 h => ⟨(), trivial, h⟩) ?_)
      rintro - -
      refine hwZE ?_
      refine HL.one (H1.callk (α := Unit) (V := fun _ => .tuple #[]) (I := fun _ => True) (H' := fun _ => rfH bf sa sc none 0 (j.k.crash K2 qf) (dkH bd b1 b2 pa pc (j.k.crash K2 qf) [A.blk b18 [zv qk, zv qo, zv qf, .string qs, .slice ak K.length ck] 40])) (vs := [_, _, _]) rfl rfl
        (fun w' hM => rcrash_fn K2 qf f1 f2 (hM.sub (Hs.cons (Pick.there (Pick.there (Pick.there (Pick.there (Pick.there (Pick.there (Pick.there (Pick.there (Pick.there Pick.here))))))))) (Hs.cons (Pick.there (Pick.there (Pick.there (Pick.there (Pick.there (Pick.there (Pick.there (Pick.there (Pick.there Pick.here))))))))) (Hs.cons (Pick.there (Pick.there (Pick.there (Pick.there (Pick.there (Pick.there (Pick.there (Pick.there (Pick.there Pick.here))))))))) (Hs.cons Pick.here (Hs.cons Pick.here (Hs.cons Pick.here (Hs.cons Pick.here (Hs.cons Pick.here (Hs.refl _).skip.skip.skip.skip))))))))) hinv.ok hinv.fit (by omega) (fun w2 hM2 => hrc2 w2 hM2.ext)) ?_)
      rintro - -
      generalize j.k.crash K2 qf = k2' at hop hIc
      have hpc := hIc.pend
      have hlc := hIc.len
      refine hwZE ?_
      refine HL.one (H1.callk (α := Nat × Nat × Nat × (Option Addr × Nat) × (Option Addr × Nat)) (V := fun z => .tuple #[.pointer (some ⟨z.1, 0, none⟩), zv 0]) (I := fun _ => True) (H' := fun z => cuH z.1 z.2.1 z.2.2.1 bd b1 b2 z.2.2.2.1.1 z.2.2.2.1.2 z.2.2.2.2.1 z.2.2.2.2.2 m3 ⟨t3, k3, false⟩ (rfH bf sa sc none 0 k2' [A.blk b18 [zv qk, zv qo, zv qf, .string qs, .slice ak K.length ck] 40])) (vs := [_]) rfl rfl
        (fun w' hM => (copen_F (H := rfH bf sa sc none 0 k2' [A.blk b18 [zv qk, zv qo, zv qf, .string qs, .slice ak K.length ck] 40]) hG hE hC (hM.sub (Hs.cons (Pick.there (Pick.there (Pick.there Pick.here))) (Hs.cons (Pick.there (Pick.there (Pick.there Pick.here))) (Hs.cons (Pick.there (Pick.there (Pick.there Pick.here))) (Hs.cons (Pick.there (Pick.there (Pick.there Pick.here))) (Hs.refl _)))))) hIc.ok (by omega) (.inl ⟨_, _, hop, by omega, ht2⟩)).mono fun v w2 h => by
          rw [hop] at h
          unfold copenP at h
          dsimp only at h
          rw [hrp] at h
          obtain ⟨z, h1, h2⟩ := h
          exact ⟨z, trivial, h1, h2⟩) ?_)
      rintro ⟨bx, bm, bj, ⟨a, c⟩, ⟨pa, pc⟩⟩ -
      dsimp only
      refine hwZE ?_
      refine HL.one (H1.callk (α := Nat × Nat × PM × RQ) (V := fun z => .tuple #[.pointer (some ⟨z.1, 0, none⟩), zv 0]) (I := fun z => SortL z.2.2.1 m3) (H' := fun z => rcQ z.1 z.2.1 bf z.2.2.2 z.2.2.1 ⟨t3, k3, false⟩ (cuH bx bm bj bd b1 b2 a c pa pc m3 ⟨t3, k3, false⟩ [A.blk b18 [zv qk, zv qo, zv qf, .string qs, .slice ak K.length ck] 40])) (vs := [_]) rfl rfl
        (fun w' hM => rcopen_fn (H := cuH bx bm bj bd b1 b2 a c pa pc m3 ⟨t3, k3, false⟩ [A.blk b18 [zv qk, zv qo, zv qf, .string qs, .slice ak K.length ck] 40]) (hM.sub (Hs.cons (Pick.there (Pick.there (Pick.there (Pick.there (Pick.there (Pick.there (Pick.there (Pick.there Pick.here)))))))) (Hs.cons (Pick.there (Pick.there (Pick.there (Pick.there (Pick.there (Pick.there (Pick.there (Pick.there Pick.here)))))))) (Hs.cons (Pick.there (Pick.there (Pick.there (Pick.there (Pick.there (Pick.there (Pick.there (Pick.there Pick.here)))))))) (Hs.refl _))))) hIc.ok hIc.fit hIc.vis (by omega) (by omega) hop ht2 ht1 hrp) ?_)
      rintro ⟨by_, bk, L3, ⟨⟨la, lc⟩, ⟨ja, jc⟩, ⟨sa, sc⟩, ⟨ka, kc⟩⟩⟩ hS3
      dsimp only at hS3 ⊢
      refine hwZE ?_
      exact HX.cut ((m3, ⟨t3, k3, false⟩, l3, L3), (bx, bm, bj, (a, c), (pa, pc)), (by_, bk, ((la, lc), (ja, jc), (sa, sc), (ka, kc)))) ⟨hk3, hS3⟩ esA (Hs.cons (Pick.there (Pick.there (Pick.there (Pick.there (Pick.there (Pick.there (Pick.there Pick.here))))))) (Hs.cons (Pick.there (Pick.there (Pick.there (Pick.there (Pick.there (Pick.there (Pick.there Pick.here))))))) (Hs.cons (Pick.there (Pick.there (Pick.there (Pick.there (Pick.there (Pick.there (Pick.there Pick.here))))))) (Hs.cons (Pick.there (Pick.there (Pick.there (Pick.there (Pick.there (Pick.there (Pick.there Pick.here))))))) (Hs.cons (Pick.there (Pick.there (Pick.there (Pick.there (Pick.there (Pick.there (Pick.there Pick.here))))))) (Hs.cons (Pick.there (Pick.there (Pick.there (Pick.there (Pick.there (Pick.there (Pick.there Pick.here))))))) (Hs.cons (Pick.there (Pick.there (Pick.there (Pick.there (Pick.there (Pick.there (Pick.there Pick.here))))))) (Hs.cons (Pick.there (Pick.there (Pick.there (Pick.there (Pick.there (Pick.there (Pick.there Pick.here))))))) (Hs.cons Pick.here (Hs.cons Pick.here (Hs.cons Pick.here (Hs.cons Pick.here (Hs.cons Pick.here (Hs.cons Pick.here (Hs.cons Pick.here (Hs.refl _).skip)))))))))))))))
    obtain ⟨S, hS⟩ : ∃ S, S = cutS 5000 qs := ⟨_, rfl⟩
    obtain ⟨l', hk'⟩ := hkeep.store (by omega) p S
    obtain ⟨e1, e2, e3⟩ := storeL_same (j := j) (p := p) (s := S) hord hnd
    have hcd := fun w' hM => store_fn (w0 := w) (w := w') (bx := bx) (bm := bm) (bj := bj) (bd := bd) (b1 := b1) (b2 := b2) (a := a) (c := c) (pa := pa) (pc := pc) (m := m) (j := j) (H := A.blk b18 [zv qk, zv qo, zv qf, .string qs, .slice ak K.length ck] 40 :: rcQ by_ bk bf ((la, lc), (ja, jc), (sa, sc), (ka, kc)) L j []) p S hG hM hjok
    obtain ⟨se, sm, sj, hD⟩ : ∃ se sm sj, storeF m j p S = (se, sm, sj) := ⟨_, _, _, rfl⟩
    obtain ⟨se2, sL, sj2, hD2⟩ : ∃ se sm sj, storeL L j p S = (se, sm, sj) := ⟨_, _, _, rfl⟩
    rw [hD] at hk' e1 e2 e3 hcd
    rw [hD2] at e1 e2 e3
    dsimp only at e1 e2 e3
    subst e1 e2
    refine hwZE ?_
    refine HL.one (H1.call0 (vs := [_, zv ((5000 : Nat) : Int)]) rfl rfl (fun w' _ => cut27_fn qs 5000 hs w') ?_)
    rw [← hS]
    refine hwZE ?_
    refine HL.one (H1.callk (α := (Option Addr × Nat) × (Option Addr × Nat)) (V := fun _ => zv se2) (I := fun _ => True) (H' := fun z => cuH bx bm bj bd b1 b2 z.1.1 z.1.2 z.2.1 z.2.2 sm sj2 (A.blk b18 [zv qk, zv qo, zv qf, .string qs, .slice ak K.length ck] 40 :: rcQ by_ bk bf ((la, lc), (ja, jc), (sa, sc), (ka, kc)) L j [])) (vs := [_, zv p.1, zv p.2, .string S]) rfl rfl
      (fun w' hM => hcd w' (hM.sub (Hs.cons (Pick.there Pick.here) (Hs.cons (Pick.there Pick.here) (Hs.cons (Pick.there Pick.here) (Hs.cons (Pick.there Pick.here) (Hs.cons (Pick.there Pick.here) (Hs.cons (Pick.there Pick.here) (Hs.cons (Pick.there Pick.here) (Hs.cons (Pick.there Pick.here) (Hs.refl _))))))))))) ?_)
    clear hcd
    rintro ⟨⟨a, c⟩, ⟨pa, pc⟩⟩ -
    dsimp only
    refine hwZE ?_
    refine HL.one (H1.callk (α := RQ) (V := fun _ => zv se2) (I := fun _ => True) (H' := fun r => rcQ by_ bk bf r sL sj2 (cuH bx bm bj bd b1 b2 a c pa pc sm sj2 [A.blk b18 [zv qk, zv qo, zv qf, .string qs, .slice ak K.length ck] 40])) (vs := [_, zv p.1, zv p.2, .string S]) rfl rfl
      (fun w' hM => by
        have h := rstore_fn (q := ((la, lc), (ja, jc), (sa, sc), (ka, kc))) (H := cuH bx bm bj bd b1 b2 a c pa pc sm sj2 [A.blk b18 [zv qk, zv qo, zv qf, .string qs, .slice ak K.length ck] 40]) p S (hM.sub (Hs.cons (Pick.there (Pick.there (Pick.there (Pick.there (Pick.there (Pick.there (Pick.there (Pick.there (Pick.there Pick.here))))))))) (Hs.cons (Pick.there (Pick.there (Pick.there (Pick.there (Pick.there (Pick.there (Pick.there (Pick.there (Pick.there Pick.here))))))))) (Hs.cons (Pick.there (Pick.there (Pick.there (Pick.there (Pick.there (Pick.there (Pick.there (Pick.there (Pick.there Pick.here))))))))) (Hs.cons (Pick.there (Pick.there (Pick.there (Pick.there (Pick.there (Pick.there (Pick.there (Pick.there (Pick.there Pick.here))))))))) (Hs.cons (Pick.there (Pick.there (Pick.there (Pick.there (Pick.there (Pick.there (Pick.there (Pick.there (Pick.there Pick.here))))))))) (Hs.cons (Pick.there (Pick.there (Pick.there (Pick.there (Pick.there (Pick.there (Pick.there (Pick.there (Pick.there Pick.here))))))))) (Hs.cons (Pick.there (Pick.there (Pick.there (Pick.there (Pick.there (Pick.there (Pick.there (Pick.there (Pick.there Pick.here))))))))) (Hs.refl _))))))))) hjok hTp hinv.fit hinv.vis (by omega) (by omega)
        rw [hD2] at h
        exact h) ?_)
    rintro ⟨⟨la, lc⟩, ⟨ja, jc⟩, ⟨sa, sc⟩, ⟨ka, kc⟩⟩ -
    refine hwZE ?_
    exact HX.cut ((sm, sj2, l', sL), (bx, bm, bj, (a, c), (pa, pc)), (by_, bk, ((la, lc), (ja, jc), (sa, sc), (ka, kc)))) ⟨hk', e3⟩ ⟨rfl, rfl, rfl, rfl, rfl, rfl, rfl, rfl, rfl, rfl, rfl, by rw [decide_eq_true (rfl : se2 = se2)]; rfl, trivial⟩ (Hs.cons (Pick.there (Pick.there (Pick.there (Pick.there (Pick.there (Pick.there (Pick.there Pick.here))))))) (Hs.cons (Pick.there (Pick.there (Pick.there (Pick.there (Pick.there (Pick.there (Pick.there Pick.here))))))) (Hs.cons (Pick.there (Pick.there (Pick.there (Pick.there (Pick.there (Pick.there (Pick.there Pick.here))))))) (Hs.cons (Pick.there (Pick.there (Pick.there (Pick.there (Pick.there (Pick.there (Pick.there Pick.here))))))) (Hs.cons (Pick.there (Pick.there (Pick.there (Pick.there (Pick.there (Pick.there (Pick.there Pick.here))))))) (Hs.cons (Pick.there (Pick.there (Pick.there (Pick.there (Pick.there (Pick.there (Pick.there Pick.here))))))) (Hs.cons (Pick.there (Pick.there (Pick.there (Pick.there (Pick.there (Pick.there (Pick.there Pick.here))))))) (Hs.cons (Pick.there (Pick.there (Pick.there (Pick.there (Pick.there (Pick.there (Pick.there Pick.here))))))) (Hs.cons Pick.here (Hs.cons Pick.here (Hs.cons Pick.here (Hs.cons Pick.here (Hs.cons Pick.here (Hs.cons Pick.here (Hs.cons Pick.here (Hs.refl _).skip)))))))))))))))
  clear hkeep hord hgood hnd hml hinv hjok hTp hdur hll
  rintro ⟨⟨m, j, l, L⟩, ⟨bx, bm, bj, ⟨a, c⟩, ⟨pa, pc⟩⟩, ⟨by_, bk, ⟨⟨la, lc⟩, ⟨ja, jc⟩, ⟨sa, sc⟩, ⟨ka, kc⟩⟩⟩⟩ ⟨hkeep, hord⟩
  dsimp only at hkeep hord ⊢
  obtain ⟨hgood, hnd, hml⟩ := hkeep.good
  have hll := hord.perm.length_eq
  obtain ⟨fs, fe, hf1, hf2⟩ := fetch_same hord hnd p
  obtain ⟨av, ae, ha1, ha2⟩ := ans_same hord hnd p hch1
  have hgs : ∀ s, getM m p = some s → s.size ≤ 100000 := fun s h => Nat.le_trans (hgood _ (getM_mem2 h)).2 (by decide)
  have hgl : ∀ s, getM L p = some s → s.size ≤ 100000 := fun s h => hgs s (by rw [← hord.get hnd p]; exact h)
  refine hwZE ?_
  refine HL.one (H1.callk (α := Unit) (V := fun _ => .tuple #[.string fs, zv fe]) (I := fun _ => True) (H' := fun _ => cuH bx bm bj bd b1 b2 a c pa pc m j (rcQ by_ bk bf ((la, lc), (ja, jc), (sa, sc), (ka, kc)) L j [])) (vs := [_, zv p.1, zv p.2]) rfl rfl
    (fun w' hM => by
      have h := fetch_fn p hM
      rw [hf1] at h
      exact h) ?_)
  rintro - -
  refine hwZE ?_
  refine HL.one (H1.callk (α := Unit) (V := fun _ => .tuple #[.string fs, zv fe]) (I := fun _ => True) (H' := fun _ => cuH bx bm bj bd b1 b2 a c pa pc m j (rcQ by_ bk bf ((la, lc), (ja, jc), (sa, sc), (ka, kc)) L j [])) (vs := [_, zv p.1, zv p.2]) rfl rfl
    (fun w' hM => by
      have h := rfetch_fn (bk := bk) (la := la) (lc := lc) (l := L) p (by omega) (hM.sub (Hs.cons (Pick.there (Pick.there (Pick.there (Pick.there (Pick.there (Pick.there (Pick.there (Pick.there Pick.here)))))))) (Hs.cons (Pick.there (Pick.there (Pick.there (Pick.there (Pick.there (Pick.there (Pick.there (Pick.there Pick.here)))))))) (Hs.refl _))))
      rw [hf2] at h
      exact h.mono fun v w2 ⟨z, h1, h2, h3⟩ => ⟨z, h1, h2, h3.sub (Hs.cons (Pick.there (Pick.there Pick.here)) (Hs.cons (Pick.there (Pick.there Pick.here)) (Hs.cons (Pick.there (Pick.there Pick.here)) (Hs.cons (Pick.there (Pick.there Pick.here)) (Hs.cons (Pick.there (Pick.there Pick.here)) (Hs.cons (Pick.there (Pick.there Pick.here)) (Hs.cons (Pick.there (Pick.there Pick.here)) (Hs.cons (Pick.there (Pick.there Pick.here)) (Hs.refl _)))))))))⟩) ?_)
  rintro - -
  refine hwZE ?_
  refine HL.one (H1.callk (α := Unit) (V := fun _ => .tuple #[.string av, zv ae]) (I := fun _ => True) (H' := fun _ => cuH bx bm bj bd b1 b2 a c pa pc m j (rcQ by_ bk bf ((la, lc), (ja, jc), (sa, sc), (ka, kc)) L j [])) (vs := [_, zv p.1, zv p.2, .string ch]) rfl rfl
    (fun w' hM => by
      have h := answer_fn p ch hG hM hgs
      rw [ha1] at h
      exact h) ?_)
  rintro - -
  refine hwZE ?_
  refine HL.one (H1.callk (α := Unit) (V := fun _ => .tuple #[.string av, zv ae]) (I := fun _ => True) (H' := fun _ => cuH bx bm bj bd b1 b2 a c pa pc m j (rcQ by_ bk bf ((la, lc), (ja, jc), (sa, sc), (ka, kc)) L j [])) (vs := [_, zv p.1, zv p.2, .string ch]) rfl rfl
    (fun w' hM => by
      have h := ranswer_fn (bk := bk) (la := la) (lc := lc) (l := L) p ch hch1 (by omega) hgl (hM.sub (Hs.cons (Pick.there (Pick.there (Pick.there (Pick.there (Pick.there (Pick.there (Pick.there (Pick.there Pick.here)))))))) (Hs.cons (Pick.there (Pick.there (Pick.there (Pick.there (Pick.there (Pick.there (Pick.there (Pick.there Pick.here)))))))) (Hs.refl _))))
      rw [ha2] at h
      exact h.mono fun v w2 ⟨z, h1, h2, h3⟩ => ⟨z, h1, h2, h3.sub (Hs.cons (Pick.there (Pick.there Pick.here)) (Hs.cons (Pick.there (Pick.there Pick.here)) (Hs.cons (Pick.there (Pick.there Pick.here)) (Hs.cons (Pick.there (Pick.there Pick.here)) (Hs.cons (Pick.there (Pick.there Pick.here)) (Hs.cons (Pick.there (Pick.there Pick.here)) (Hs.cons (Pick.there (Pick.there Pick.here)) (Hs.cons (Pick.there (Pick.there Pick.here)) (Hs.refl _)))))))))⟩) ?_)
  rintro - -
  refine hwZE ?_
  refine HL.one (H1.callk (α := List PK × Option Addr × Nat) (V := fun z => .slice z.2.1 z.1.length z.2.2) (I := fun z => SortedP z.1 m)
    (H' := fun z => A.grow 43 2 z.2.1 z.2.2 z.1.length (pcl z.1) :: cuH bx bm bj bd b1 b2 a c pa pc m j (rcQ by_ bk bf ((la, lc), (ja, jc), (sa, sc), (ka, kc)) L j [])) (vs := [_]) rfl rfl
    (fun w' hM => holds27_fn hM hnd (by omega)) ?_)
  rintro ⟨l9, a9, c9⟩ hS9
  dsimp only at hS9 ⊢
  obtain rfl := hS9.eq hord.keys
  refine hwZE ?_
  refine HL.one (H1.callk (α := Option Addr × Nat) (V := fun z => .slice z.1 (L.map Prod.fst).length z.2) (I := fun _ => True)
    (H' := fun z => A.grow 43 2 z.1 z.2 (L.map Prod.fst).length (pcl (L.map Prod.fst)) :: rcS by_ bk la lc L (A.grow 43 2 a9 c9 (L.map Prod.fst).length (pcl (L.map Prod.fst)) :: cuH bx bm bj bd b1 b2 a c pa pc m j (rjH bk bf ja jc sa sc ka kc j.t j.k j.br []))) (vs := [_]) rfl rfl
    (fun w' hM => rholds_fn (by omega) (hM.sub (Hs.cons (Pick.there (Pick.there (Pick.there (Pick.there (Pick.there (Pick.there (Pick.there (Pick.there (Pick.there Pick.here))))))))) (Hs.cons (Pick.there (Pick.there (Pick.there (Pick.there (Pick.there (Pick.there (Pick.there (Pick.there (Pick.there Pick.here))))))))) (Hs.refl _))))) ?_)
  rintro ⟨a8, c8⟩ -
  dsimp only
  have hkl : (L.map Prod.fst).length ≤ 1000 := by rw [List.length_map]; omega
  refine hwZE ?_
  refine HL.one (H1.callx (u := .bool true) (vs := [.slice a9 (L.map Prod.fst).length c9, .slice a8 (L.map Prod.fst).length c8]) rfl rfl (fun w' hM => by
    have h := samePairs_fn (.slice a9 (L.map Prod.fst).length c9) (.slice a8 (L.map Prod.fst).length c8) (L.map Prod.fst) (L.map Prod.fst) (by omega) (by omega) w' (hM.grP (e := 43) (a := a9) (c := c9) (l := L.map Prod.fst) memA) (hM.grP (e := 43) (a := a8) (c := c8) (l := L.map Prod.fst) memA)
    rw [decide_eq_true rfl] at h
    exact h) ?_)
  refine hwZE ?_
  exact HX.again (i + 1, (m, j, l, L), (bx, bm, bj, (a, c), (pa, pc)), (by_, bk, ((la, lc), (ja, jc), (sa, sc), (ka, kc)))) ⟨hl30, hkeep, hord⟩ (by show 30 - (i + 1) < 30 - i; omega) esA (Hs.cons (Pick.there (Pick.there (Pick.there (Pick.there Pick.here)))) (Hs.cons (Pick.there (Pick.there (Pick.there (Pick.there Pick.here)))) (Hs.cons (Pick.there (Pick.there (Pick.there (Pick.there Pick.here)))) (Hs.cons (Pick.there (Pick.there (Pick.there (Pick.there Pick.here)))) (Hs.cons (Pick.there (Pick.there (Pick.there (Pick.there Pick.here)))) (Hs.cons (Pick.there (Pick.there (Pick.there (Pick.there Pick.here)))) (Hs.cons (Pick.there (Pick.there (Pick.there (Pick.there Pick.here)))) (Hs.cons (Pick.there (Pick.there (Pick.there (Pick.there Pick.here)))) (Hs.cons (Pick.there Pick.here) (Hs.cons (Pick.there Pick.here) (Hs.refl _).skip.skip))))))))))
end Go.Sx
/- From a function's contract to a row's statement: arguments that are numbers, slices of numbers, slices of strings; the laid variables of chapter 26. -/
namespace Go.Sx
open Go Go.ChangeShapes Go.WideShapes Go.ChangeAt Go.RowKit
def i64W (x : Int) : Prop := -9223372036854775808 ≤ x ∧ x ≤ 9223372036854775807
section
variable {H : Type} {enc : TypeId × Value → H} {P : Program} {w : World} {b : Nat} {sp : Nat → Bool} {hd : Bool}
theorem args_cons {t : TypeId} {ts : List TypeId} {vs : List Value} {ds : List (DataW H)} {ps : List MemPlace} (h : DataW.TrodAll enc P w b sp hd (t :: ts) vs ds ps) :
    ∃ v vs' d ds' p q, vs = v :: vs' ∧ ds = d :: ds' ∧ ps = p ++ q ∧ DataW.Trod enc P w b sp hd t v d p ∧ DataW.TrodAll enc P w b sp hd ts vs' ds' q := by
  cases vs with
  | nil => exact h.elim
  | cons v vs =>
    cases ds with
    | nil => exact h.elim
    | cons d ds =>
      obtain ⟨p, q, h1, h2, h3⟩ := h
      exact ⟨v, vs, d, ds, p, q, rfl, rfl, h3, h1, h2⟩
theorem args_nil {vs : List Value} {ds : List (DataW H)} {ps : List MemPlace} (h : DataW.TrodAll enc P w b sp hd [] vs ds ps) : vs = [] ∧ ds = [] ∧ ps = [] := by
  cases vs with
  | cons v vs => exact h.elim
  | nil => cases ds with
    | cons d ds => exact h.elim
    | nil => exact ⟨rfl, rfl, h⟩
theorem trodAll_ext (hl : laidOutB P = true) {W W' : World} (hx : Below W.heap.size W W') : ∀ {ts : List TypeId} {vs : List Value} {ds : List (DataW H)} {ps : List MemPlace}, (ts.all fun t => P.readableRec t && decide (t < P.types.size)) = true →
    DataW.TrodAll enc P W 0 (fun _ => true) true ts vs ds ps → (∀ p ∈ ps, p.block < W.heap.size) → ∀ sp : Nat → Bool, (∀ p ∈ ps, sp p.block = true) → DataW.TrodAll enc P W' 0 sp true ts vs ds ps
  | [], [], [], _, _, h, _, _, _ => h
  | [], [], _ :: _, _, _, h, _, _, _ => h.elim
  | [], _ :: _, _, _, _, h, _, _, _ => h.elim
  | _ :: _, [], _, _, _, h, _, _, _ => h.elim
  | _ :: _, _ :: _, [], _, _, h, _, _, _ => h.elim
  | t :: ts, v :: vs, d :: ds, ps, ht, h, hlt, sp, hsp => by
    obtain ⟨p, q, h1, h2, rfl⟩ := h
    simp only [List.all_cons, Bool.and_eq_true, decide_eq_true_eq] at ht
    refine ⟨p, q, ?_, trodAll_ext hl hx ht.2 h2 (fun x hx => hlt x (by simp [hx])) sp (fun x hx => hsp x (by simp [hx])), rfl⟩
    exact WideElems.Trod_stays hl ht.1.1 ht.1.2 h1 (fun x hx' => hx.same (hlt x (by simp [hx']))) (fun x hx' => hsp x (by simp [hx']))
end
end Go.Sx
namespace Go.Sx
open Go Go.Proofs Go.ChangeShapes Go.WideShapes Go.ChangeAt Go.RowKit
theorem ints_rowK (f : Nat → Int) (n : Nat) : ints ((List.range n).map f) = row n fun q => zv (f q) := by
  unfold ints row
  rw [List.map_map]; rfl
/-- The call has laid new blocks, and turned no old one. -/
theorem post_ext {H : Type} {enc : TypeId × Value → H} {P : Program} {f : Func} {s : ChangeSpec} {apart fresh handsOn again : Bool} {W W' : World} {args : Array Value} {v : Value} {ds gs : List (DataW H)} {before pa pv : List MemPlace} (hx : Ext W W')
    (hW : DataW.Whole enc P f.params.toList s.vars apart W args.toList ds gs before)
    (hres : ∀ (b : Nat) (sp : Nat → Bool) (hd : Bool), DataW.TrodAll enc P W' b sp hd f.resultTypes.toList (v.resultList f.resultTypes.size) (s.fn H (ds ++ gs)).results [])
    (hargs : ∀ sp : Nat → Bool, (∀ p ∈ before, sp p.block = true) → DataW.TrodAll enc P W' 0 sp true f.params.toList args.toList (s.fn H (ds ++ gs)).args pa)
    (hvars : ∀ sp : Nat → Bool, (∀ p ∈ before, sp p.block = true) → DataW.TrodVars enc P W' sp s.vars (s.fn H (ds ++ gs)).vars pv)
    (hps : before = pa ++ pv)
    (hok : ∀ (j : Nat) (t : TypeId) (r : Value), f.resultTypes[j]? = some t → (v.resultList f.resultTypes.size)[j]? = some r → Value.okWide P W' .any 0 t r) :
    s.post enc P f apart fresh handsOn again W args v W' := by
  have hlt : ∀ p ∈ before, p.block < W.heap.size := fun p hp => hW.lt p hp
  have hold : ∀ p ∈ before, (fun b => decide (b < W.heap.size)) p.block = true := fun p hp => by simpa using hW.lt p hp
  refine ⟨ds, gs, before, [], pa, pv, hW, hres _ _ _, hargs _ hold, hvars _ hold, (World.keptBut_refl W _).congr hx.os hx.output hx.block, fun _ => ?_⟩
  obtain ⟨_, _, _, _, _, hz, hn⟩ := hW
  refine ⟨hok, _, _, ([] ++ pa) ++ pv, ⟨[] ++ pa, pv, trodAll_append (hargs _ (fun _ _ => rfl)) (hres _ _ _), hvars _ (fun _ _ => rfl), rfl, ?_, ?_⟩, ?_⟩
  · intro b off hp
    have hp' : MemPlace.cell b off ∈ before := by rw [hps]; simpa using hp
    rw [World.frozen?_of_block (hx.block b (hlt _ hp'))]
    exact hz b off hp'
  · intro ha
    have := hn ha
    rw [hps] at this
    simpa using this
  · intro p hp _
    rw [hps]
    simpa using hp
theorem i64_of {x : Int} (h : (Lit.int .i64 x).wf = true) : i64W x := by
  simp only [Lit.wf, Bool.and_eq_true, decide_eq_true_eq] at h
  have e1 : IntKind.i64.min = -9223372036854775808 := rfl
  have e2 : IntKind.i64.max = 9223372036854775807 := rfl
  rw [e1, e2] at h
  exact h
theorem ownK : ownKnob Tryz.prog.godebug = none := by kernel_rfl
section
variable {H : Type} {enc : TypeId × Value → H} {P : Program} {W : World} {r : Reach} {b0 b : Nat} {sp : Nat → Bool} {hd : Bool} {v : Value} {d : DataW H} {p : List MemPlace}
theorem spot_none {W : World} {a : Addr} {v : Value} (h : W.cell? a = some v) : a = ⟨a.block, a.off, none⟩ ∧ a.block < W.heap.size := by
  unfold World.cell? at h
  split at h
  · rename_i c e f hc
    split at h
    · cases h
    · rename_i hs
      refine ⟨?_, (Array.getElem?_eq_some_iff.1 hc).1⟩
      cases a with
      | mk b o s => cases s <;> simp_all
  · cases h
def cellInt (W : World) (a : Addr) : Int := match W.cell? a with | some (.int _ z) => z | _ => 0
def cellStr (W : World) (a : Addr) : ByteArray := match W.cell? a with | some (.string z) => z | _ => ByteArray.mk #[]
end
section
variable {H : Type} {enc : TypeId × Value → H} {W : World} {r : Reach} {b0 b : Nat} {sp : Nat → Bool} {hd : Bool} {v : Value} {d : DataW H} {p : List MemPlace}
theorem open_intK {t : TypeId} {P : Program} (ht : P.underlying t = some (.int .i64)) (hv : Value.okWide P W r b0 t v) (h : DataW.Trod enc P W b sp hd t v d p) : ∃ x : Int, v = zv x ∧ i64W x := by
  obtain ⟨z, rfl⟩ := okWide_int ht hv
  obtain ⟨fuel, hf⟩ := h
  have hf' : DataW.trod enc P W b sp hd fuel t [.int .i64 z] = some (d, p) := hf
  obtain ⟨z', e, -, hw⟩ := DataW.trod_int ht hf'
  cases e
  exact ⟨z, rfl, i64_of hw⟩
theorem open_boolK {t : TypeId} {P : Program} (ht : P.underlying t = some .bool) (hv : Value.okWide P W r b0 t v) : ∃ x : Bool, v = .bool x := by
  exact okWide_bool ht hv
end
end Go.Sx
/- What the rows of chapter 26 say of the package's variables. -/
namespace Go.Sx
open Go Go.Proofs Go.ChangeShapes Go.WideShapes Go.ChangeAt Go.RowKit
def laid4 : List (String × DataW Unit) := [("unicode/utf8.acceptRanges", YtionfblneloaiaaGreatDoor.Rows.laid_unicode_utf8_acceptRanges), ("evergreen/digest.round", YtionfblneloaiaaGreatDoor.Rows.laid_evergreen_digest_round), ("evergreen/journal.errDamaged", YtionfblneloaiaaGreatDoor.Rows.laid_evergreen_journal_errDamaged), ("unicode/utf8.first", YtionfblneloaiaaGreatDoor.Rows.laid_unicode_utf8_first)]
def kZ : List Int := kL.map fun x => ((x.toNat : Nat) : Int)
theorem kZ_data : (YtionfblneloaiaaGreatDoor.Rows.laid_evergreen_digest_round : DataW Unit) = Lib.tabData .u32 kZ := by kernel_rfl
theorem err_star : "*" ++ "errors.errorString" = "*errors.errorString" := by decide
theorem err_row (u : TypeId) (h : Tryz.prog.typeName? 3 u = some "*errors.errorString") : u = 303 :=
  typeName_ptr_named (nm := "errors.errorString") (by rw [err_star]; kernel_rfl) (by kernel_rfl) (by decide) u (by rw [err_star]; exact h)
end Go.Sx
/- Chapter 27: the laid variables. -/
namespace Go.Sx
open Go Go.Proofs Go.ChangeShapes Go.WideShapes Go.ChangeAt Go.RowKit
def laid5 : List (String × DataW Unit) := [("unicode/utf8.acceptRanges", YtionfblneloaiaaGreatDoor.Rows.laid_unicode_utf8_acceptRanges), ("evergreen/digest.round", YtionfblneloaiaaGreatDoor.Rows.laid_evergreen_digest_round), ("evergreen/journal.errDamaged", YtionfblneloaiaaGreatDoor.Rows.laid_evergreen_journal_errDamaged), ("evergreen/custodian.errRecord", YtionfblneloaiaaGreatDoor.Rows.laid_evergreen_custodian_errRecord), ("unicode/utf8.first", YtionfblneloaiaaGreatDoor.Rows.laid_unicode_utf8_first)]
theorem laid5_plain {W : World} (h : laidMetH Tryz.prog laid5 W) : laidMet Tryz.prog laid5 W := by
  rwa [MakeChecks.laidMetH_plain _ _ _ (by kernel_rfl)] at h
theorem round_of_laid5 {W : World} (h : laidMetH Tryz.prog laid5 W) : RoundG W := by
  have h1 := (laid5_plain h).tail
  have h2 : laidMet Tryz.prog (("evergreen/digest.round", Lib.tabData .u32 kZ) :: [("evergreen/journal.errDamaged", YtionfblneloaiaaGreatDoor.Rows.laid_evergreen_journal_errDamaged), ("evergreen/custodian.errRecord", YtionfblneloaiaaGreatDoor.Rows.laid_evergreen_custodian_errRecord), ("unicode/utf8.first", YtionfblneloaiaaGreatDoor.Rows.laid_unicode_utf8_first)]) W := by
    rw [← kZ_data]; exact h1
  have hT := Lib.tabIs_of_head (g := 1) (by kernel_rfl) (by kernel_rfl) Tryz.underlying226 Tryz.underlying85 (by kernel_rfl) (by kernel_rfl) h2
  intro i v hv
  have hlen : kZ.length = 64 := by kernel_rfl
  have hi : i < 64 := by
    have := (List.getElem?_eq_some_iff.1 hv).1
    unfold ws at this
    rw [List.length_map] at this
    exact this
  have hc := hT.cell (g := 1) (by kernel_rfl) i (by rw [hlen]; exact hi)
  rw [hc]
  unfold ws at hv
  rw [List.getElem?_map, List.getElem?_eq_getElem (by exact hi)] at hv
  rw [← hv]
  have hk : i < kL.length := hi
  have : kZ.getD i 0 = ((kL[i].toNat : Nat) : Int) := by unfold kZ; simp [hk]
  rw [this]; rfl
theorem err_of_laid5 {W : World} (h : laidMetH Tryz.prog laid5 W) : ∃ a : Addr, ErrG a W := by
  have h1 := (laid5_plain h).tail.tail
  obtain ⟨a, s, hv, hc, -, -⟩ := laid_sentinel (g := 2) h1 (by kernel_rfl) (by kernel_rfl) Tryz.underlying111 err_row Tryz.underlying303 Tryz.underlying325 rfl rfl Tryz.underlying9 (by kernel_rfl) (by kernel_rfl)
  refine ⟨a, ?_⟩
  have := World.var?_cell (g := 2) (by kernel_rfl) hv 0
  simpa [ErrG, errV] using this
theorem cerr_of_laid5 {W : World} (h : laidMetH Tryz.prog laid5 W) : ∃ a : Addr, CErrG a W := by
  have h1 := (laid5_plain h).tail.tail.tail
  obtain ⟨a, s, hv, hc, -, -⟩ := laid_sentinel (g := 0) h1 (by kernel_rfl) (by kernel_rfl) Tryz.underlying111 err_row Tryz.underlying303 Tryz.underlying325 rfl rfl Tryz.underlying9 (by kernel_rfl) (by kernel_rfl)
  refine ⟨a, ?_⟩
  have := World.var?_cell (g := 0) (by kernel_rfl) hv 0
  simpa [CErrG, errV] using this
end Go.Sx
/- From a function's contract to a row's statement: slices of deeds. -/
namespace Go.Sx
open Go Go.Proofs Go.ChangeShapes Go.WideShapes Go.ChangeAt Go.RowKit
section
variable {H : Type} {enc : TypeId × Value → H} {P : Program} {W : World} {r : Reach} {b0 b : Nat} {sp : Nat → Bool} {hd : Bool} {v : Value} {d : DataW H} {p : List MemPlace}
/-- One cell that is a slice of numbers. -/
theorem sl_trodI {t e fuel : Nat} {x : DataW H × List MemPlace} (ht : P.underlying t = some (.slice e)) (he : P.underlying e = some (.int .i64)) (hce : P.cellsOf e = 1) (hf : DataW.trod enc P W b sp hd fuel t [v] = some x) :
    ∃ l : List Int, Rd W v (ints l) ∧ l.length ≤ 9223372036854775807 := by
  rcases DataW.trod_slice ht hf with ⟨h0, -⟩ | ⟨a', n, c, elems, rest, m, -, hcs, -, hb, hlc, hm, hlen, hel, -, -⟩
  · cases h0
    exact ⟨[], ⟨_, _, rfl, Nat.le_refl _, .inl rfl⟩, by simp⟩
  · cases hcs
    have hnm : n ≤ 9223372036854775807 := by simp only [maxLen] at hm; omega
    have key : ∀ q, q < n → ∃ z, W.cell? (a'.add q) = some (.int .i64 z) := fun q hq => by
      have h1 := hel q hq
      rw [hce, Nat.mul_one, List.getElem?_eq_getElem (by omega)] at h1
      cases hcs : W.cells? b (a'.add q) 1 with
      | none => rw [hcs] at h1; cases h1
      | some cs =>
        rw [hcs] at h1
        simp only [Option.bind_some] at h1
        obtain ⟨z, e1, -, -⟩ := DataW.trod_int he h1
        have h3 := (World.cells?_some hcs).2.2 0 (by decide)
        refine ⟨z, ?_⟩
        rw [show (a'.add q).add 0 = a'.add q by simp [Addr.add]] at h3
        rw [h3, e1]; rfl
    by_cases hn0 : n = 0
    · subst hn0
      exact ⟨[], ⟨_, _, rfl, Nat.zero_le _, .inl rfl⟩, by simp⟩
    · obtain ⟨z0, hz0⟩ := key 0 (by omega)
      rw [show a'.add 0 = a' by simp [Addr.add]] at hz0
      obtain ⟨ha, hblk⟩ := spot_none hz0
      have hadd : ∀ q, a'.add q = ⟨a'.block, a'.off + q, none⟩ := fun q => by rw [ha, add_lit]
      have hk : ∀ q, q < n → W.cell? ⟨a'.block, a'.off + q, none⟩ = some (zv (cellInt W ⟨a'.block, a'.off + q, none⟩)) := fun q hq => by
        obtain ⟨z, hz⟩ := key q hq
        rw [hadd] at hz
        have : cellInt W ⟨a'.block, a'.off + q, none⟩ = z := by unfold cellInt; rw [hz]
        rw [this]
        exact hz
      refine ⟨(List.range n).map fun q => cellInt W ⟨a'.block, a'.off + q, none⟩, ⟨some a', c, by rw [ints_len]; simp, by rw [ints_len]; simpa using hlc, .inr ⟨a'.block, a'.off, congrArg some ha, hblk, fun i u hu => ?_⟩⟩, by simpa using hnm⟩
      rw [ints_rowK] at hu
      have hi : i < n := by
        have := (List.getElem?_eq_some_iff.1 hu).1
        rwa [row_len] at this
      rw [row_get _ hi] at hu
      cases hu
      exact hk i hi
end
section
variable {H : Type} {enc : TypeId × Value → H} {W : World} {r : Reach} {b0 b : Nat} {sp : Nat → Bool} {hd : Bool} {v : Value} {d : DataW H} {p : List MemPlace}
set_option maxRecDepth 100000 in
/-- A slice of deeds. -/
theorem open_deeds (hv : Value.okWide Tryz.prog W r b0 35 v) (h : DataW.Trod enc Tryz.prog W b sp hd 35 v d p) :
    ∃ (l : List DeedV) (a : Option Addr) (c : Nat), v = .slice a l.length c ∧ RdDeeds W a c l ∧ l.length ≤ 9223372036854775807 := by
  obtain ⟨fuel, hf⟩ := h
  obtain ⟨a, n, c, rfl⟩ := okWide_slice Tryz.underlying35 hv
  have hcells : (Value.slice a n c).cells.toList = [Value.slice a n c] := rfl
  rw [hcells] at hf
  have hce : Tryz.prog.cellsOf 40 = 5 := by kernel_rfl
  have hci : Tryz.prog.cellsOf 3 = 1 := by kernel_rfl
  have hcn : Tryz.prog.cellsOf 38 = 1 := by kernel_rfl
  have hcg : Tryz.prog.cellsOf 9 = 1 := by kernel_rfl
  rcases DataW.trod_slice Tryz.underlying35 hf with ⟨h0, -⟩ | ⟨a', len, cap, elems, rest, m, -, hcs', -, hb, hlc, hm, hlen, hel, -, -⟩
  · cases h0
    exact ⟨[], none, 0, rfl, ⟨Nat.le_refl _, .inl rfl, (fun i hi => by cases hi), (fun i hi => by cases hi), (fun i hi => by cases hi), (fun i hi => by cases hi), (fun i hi => by cases hi)⟩, by simp⟩
  · cases hcs'
    have hnm : n ≤ 9223372036854775807 := by simp only [maxLen] at hm; omega
    have key : ∀ q, q < n → ∃ o : DeedV, (∀ (j : Nat) (u : Value), (deedC o)[j]? = some u → W.cell? ((a'.add (q * 5)).add j) = some u) ∧ i64W o.kind ∧ i64W o.object ∧ i64W o.fragment ∧ o.s.size ≤ 9223372036854775807 ∧ Rd W o.vk (ints o.keep) ∧ o.keep.length ≤ 9223372036854775807 := fun q hq => by
      have h1 := hel q hq
      rw [hce, List.getElem?_eq_getElem (by omega)] at h1
      cases hcl : W.cells? b (a'.add (q * 5)) 5 with
      | none => rw [hcl] at h1; cases h1
      | some cs =>
        rw [hcl] at h1
        simp only [Option.bind_some] at h1
        obtain ⟨-, h5, h6⟩ := World.cells?_some hcl
        obtain ⟨xs, k, -, -, -, hxl, hfd⟩ := DataW.trod_struct Tryz.underlying40 h1
        match cs, h5 with
        | [c0, c1, c2, c3, c4], _ =>
          have f0 : DataW.trod enc Tryz.prog W b sp hd k 3 (([c0, c1, c2, c3, c4].drop 0).take (Tryz.prog.cellsOf 3)) = xs[0]? := hfd 0 _ rfl
          have f1 : DataW.trod enc Tryz.prog W b sp hd k 3 (([c0, c1, c2, c3, c4].drop 1).take (Tryz.prog.cellsOf 3)) = xs[1]? := hfd 1 _ rfl
          have f2 : DataW.trod enc Tryz.prog W b sp hd k 3 (([c0, c1, c2, c3, c4].drop 2).take (Tryz.prog.cellsOf 3)) = xs[2]? := hfd 2 _ rfl
          have f3 : DataW.trod enc Tryz.prog W b sp hd k 9 (([c0, c1, c2, c3, c4].drop 3).take (Tryz.prog.cellsOf 9)) = xs[3]? := hfd 3 _ rfl
          have f4 : DataW.trod enc Tryz.prog W b sp hd k 38 (([c0, c1, c2, c3, c4].drop 4).take (Tryz.prog.cellsOf 38)) = xs[4]? := hfd 4 _ rfl
          have hxl5 : xs.length = 5 := hxl
          rw [hci] at f0 f1 f2
          rw [hcg] at f3
          rw [hcn] at f4
          simp only [List.drop_zero, List.drop_succ_cons, List.take_succ_cons, List.take_zero] at f0 f1 f2 f3 f4
          rw [List.getElem?_eq_getElem (by omega)] at f0 f1 f2 f3 f4
          obtain ⟨z0, e0, -, w0⟩ := DataW.trod_int Tryz.underlying3 f0
          obtain ⟨z1, e1, -, w1⟩ := DataW.trod_int Tryz.underlying3 f1
          obtain ⟨z2, e2, -, w2⟩ := DataW.trod_int Tryz.underlying3 f2
          obtain ⟨z3, e3, -, w3⟩ := DataW.trod_string Tryz.underlying9 f3
          obtain ⟨l4, hl4, hb4⟩ := sl_trodI Tryz.underlying38 Tryz.underlying3 hci f4
          cases e0; cases e1; cases e2; cases e3
          refine ⟨⟨z0, z1, z2, z3, l4, c4⟩, fun j u hu => ?_, i64_of w0, i64_of w1, i64_of w2, by simp only [maxLen] at w3; omega, hl4, hb4⟩
          have hj : j < 5 := by
            have := (List.getElem?_eq_some_iff.1 hu).1
            simpa [deedC] using this
          rw [h6 j hj]
          exact hu
    by_cases hn0 : n = 0
    · subst hn0
      exact ⟨[], some a', c, rfl, ⟨Nat.zero_le _, .inl rfl, (fun i hi => by cases hi), (fun i hi => by cases hi), (fun i hi => by cases hi), (fun i hi => by cases hi), (fun i hi => by cases hi)⟩, by simp⟩
    · have hch : ∃ T : Nat → DeedV, ∀ q, q < n → (∀ (j : Nat) (u : Value), (deedC (T q))[j]? = some u → W.cell? ((a'.add (q * 5)).add j) = some u) ∧ i64W (T q).kind ∧ i64W (T q).object ∧ i64W (T q).fragment ∧ (T q).s.size ≤ 9223372036854775807 ∧ Rd W (T q).vk (ints (T q).keep) ∧ (T q).keep.length ≤ 9223372036854775807 := by
        refine ⟨fun q => if h : q < n then Classical.choose (key q h) else default, fun q hq => ?_⟩
        simp only [dif_pos hq]
        exact Classical.choose_spec (key q hq)
      obtain ⟨T, hk⟩ := hch
      have hz0 := (hk 0 (by omega)).1 0 _ rfl
      rw [Nat.zero_mul, show (a'.add 0).add 0 = a' by simp [Addr.add]] at hz0
      obtain ⟨ha, hblk⟩ := spot_none hz0
      have hadd : ∀ q j, (a'.add (q * 5)).add j = ⟨a'.block, a'.off + q * 5 + j, none⟩ := fun q j => by rw [ha, add_lit, add_lit]
      have hl : ((List.range n).map T).length = n := by simp
      have hT : ∀ i, i < ((List.range n).map T).length → deedAt ((List.range n).map T) i = T i := fun i hi => by
        rw [hl] at hi
        simp [deedAt, hi]
      refine ⟨(List.range n).map T, some a', c, by rw [hl], ⟨by rw [hl]; exact hlc, .inr ⟨a'.block, a'.off, congrArg some ha, hblk, fun i hi j u hu => ?_⟩, fun i hi => ?_, fun i hi => ?_, fun i hi => ?_, fun i hi => ?_, fun i hi => ?_⟩, by rw [hl]; exact hnm⟩
      · rw [hT i hi] at hu
        have := (hk i (by rwa [hl] at hi)).1 j u hu
        rwa [hadd] at this
      · rw [hT i hi]; exact (hk i (by rwa [hl] at hi)).2.1
      · rw [hT i hi]; exact (hk i (by rwa [hl] at hi)).2.2.1
      · rw [hT i hi]; exact (hk i (by rwa [hl] at hi)).2.2.2.1
      · rw [hT i hi]; exact (hk i (by rwa [hl] at hi)).2.2.2.2.1
      · rw [hT i hi]; exact (hk i (by rwa [hl] at hi)).2.2.2.2.2
end
end Go.Sx
