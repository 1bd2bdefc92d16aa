/- Chapter 27: Holds, SamePairs, opened: the walks. -/
import Derived.Test.YtionfblneloaiaaGreatDoorYH
namespace Go.Sx
open Go Go.Proofs Go.RowKit
theorem hwYI {G G2 : Prop} (x : G2) (hwq : Hold G2 → G := by
    intro hQq
    repeat' (first | refine HL.pa ?_ (POp.pneN rfl rfl) | refine HL.pa ?_ (POp.pnil1 rfl rfl) | refine HL.pa ?_ (POp.pnil0 rfl rfl) | refine HL.pa ?_ (POp.nilCheck rfl) | apply HL.fold | apply HA.fold | apply HL.nil | apply HX.n_then | apply HC.seq | apply HC.region | refine HL.pa ?_ | refine HL.ga rfl ?_ | refine HL.na rfl ?_ | refine HL.nu rfl rfl ?_ | apply HC.block | apply HC.skip | apply HC.exit | apply HC.ret | apply HX.e_block | refine HX.e_other rfl ?_ | apply HX.e_then | apply HX.e_again | apply HX.n_block | apply HX.r_then | apply HX.r_block | apply HX.r_again | refine HC.cond_yes rfl ?_ | refine HC.cond_no rfl ?_ | refine HL.one (H1.ldb rfl memA rfl rfl ?_) | refine HC.cond rfl (fun hc => ?_) (fun hc => ?_) | refine HC.cond_b rfl (fun hc => ?_) (fun hc => ?_))
    exact hQq.get) : G := hwq ⟨x⟩
theorem hbYI {G G2 : Prop} (x : G2) (hwq : Hold G2 → G := by
    intro hQq
    repeat' (first | refine HL.pa ?_ (POp.pneN rfl rfl) | refine HL.pa ?_ (POp.pnil1 rfl rfl) | refine HL.pa ?_ (POp.pnil0 rfl rfl) | refine HL.pa ?_ (POp.nilCheck rfl) | apply HL.fold | apply HA.fold | apply HL.nil | apply HX.n_then | apply HC.seq | apply HC.region | refine HL.pa ?_ | refine HL.ga rfl ?_ | refine HL.na rfl ?_ | refine HL.nu rfl rfl ?_ | apply HC.skip | apply HC.exit | apply HC.ret | apply HX.e_block | refine HX.e_other rfl ?_ | apply HX.e_then | apply HX.e_again | apply HX.n_block | apply HX.r_then | apply HX.r_block | apply HX.r_again | refine HC.cond_yes rfl ?_ | refine HC.cond_no rfl ?_ | refine HL.one (H1.ldb rfl memA rfl rfl ?_) | refine HC.cond rfl (fun hc => ?_) (fun hc => ?_) | refine HC.cond_b rfl (fun hc => ?_) (fun hc => ?_))
    exact hQq.get) : G := hwq ⟨x⟩
theorem Mm.pm {w0 w : World} {H : List Atom} {b : Nat} {l : List (PK × Value)} (h : Mm w0 H w) (hm : A.pm b l ∈ H) : ∃ es clk, w.heap[b]? = some (.map es clk) ∧ MPl l es clk := by
  obtain ⟨o, h1, es, clk, rfl, h2⟩ : ∃ o, w.heap[b]? = some o ∧ pmP l o := h.all _ hm
  exact ⟨es, clk, h1, h2⟩
/-- A slice of pairs of numbers. -/
def RdP (w : World) (v : Value) (l : List PK) : Prop := ∃ a c, v = .slice a l.length c ∧ l.length ≤ c ∧ (l = [] ∨ ∃ b off, a = some ⟨b, off, none⟩ ∧ ∀ i u, (pcl l)[i]? = some u → w.cell? ⟨b, off + i, none⟩ = some u)
theorem RdP.ext {w w' : World} {v : Value} {l : List PK} (h : RdP w v l) (k : Ext w w') : RdP w' v l := by
  obtain ⟨a, c, h1, h2, h3⟩ := h
  refine ⟨a, c, h1, h2, ?_⟩
  rcases h3 with h3 | ⟨b, off, h4, h5⟩
  · exact .inl h3
  · exact .inr ⟨b, off, h4, fun i u hu => cell_ext k (h5 i u hu)⟩
theorem Mm.grP {w0 w : World} {H : List Atom} {e : TypeId} {a : Option Addr} {c : Nat} {l : List PK} (h : Mm w0 H w) (hm : A.grow e 2 a c l.length (pcl l) ∈ H) : RdP w (.slice a l.length c) l := by
  have hown := h.own hm
  rcases hown.2 with ⟨hv, h2⟩ | ⟨g, cap, cur, hv, hb, hg, hnc, hcm, hcs, ht⟩
  · injection hv with e1 e2 e3
    subst e3
    exact ⟨a, 0, rfl, by omega, .inl (List.eq_nil_of_length_eq_zero h2)⟩
  · cases hv
    exact ⟨_, _, rfl, hnc, .inr ⟨g, 0, rfl, fun i u hu => by rw [Nat.zero_add]; exact ownsRow_cell hown hu⟩⟩
theorem run_eqA (d : Nat) (a b : PK) (w : World) : (Op.equalIn (d + 2) 43 (pkV a) (pkV b)).run Tryz.prog w = .ok (decide (a = b)) w := by
  obtain ⟨a1, a2⟩ := a
  obtain ⟨b1, b2⟩ := b
  have hi : ITy Tryz.prog 3 (.int .i64 0) 1 8 := inferInstance
  have hq : ∀ x y : Int, (Op.equalIn (d + 1) 3 (.int .i64 x) (.int .i64 y)).run Tryz.prog w = .ok (x == y) w := fun x y => by
    simp [Op.equalIn, Sem.run_bind, run_underlying Tryz.underlying3, Result.andThen]
  have h0 := run_partP (w := w) #[zv a1, zv a2] 0 (zv a1) rfl
  have h1 := run_partP (w := w) #[zv a1, zv a2] 1 (zv a2) rfl
  have h2 := run_partP (w := w) #[zv b1, zv b2] 0 (zv b1) rfl
  have h3 := run_partP (w := w) #[zv b1, zv b2] 1 (zv b2) rfl
  have h4 : (Op.equalIn (d + 1) 3 (zv a1) (zv b1)).run Tryz.prog w = .ok (a1 == b1) w := hq a1 b1
  have h5 : (Op.equalIn (d + 1) 3 (zv a2) (zv b2)).run Tryz.prog w = .ok (a2 == b2) w := hq a2 b2
  have hd : decide ((a1, a2) = (b1, b2)) = ((a1 == b1) && (a2 == b2)) := by
    rw [Bool.eq_iff_iff, decide_eq_true_eq, Prod.mk.injEq, Bool.and_eq_true, beq_iff_eq, beq_iff_eq]
  rw [hd]
  generalize (a1 == b1) = u at *
  generalize (a2 == b2) = v at *
  rw [show d + 2 = (d + 1) + 1 from rfl]
  unfold Op.equalIn pkV
  simp only [Sem.run_bind, run_underlying Tryz.underlying43, Result.andThen, run_sizeOf (h := hi)]
  cases u <;> cases v <;> simp [Std.Legacy.Range.forIn_eq_forIn_range', Std.Legacy.Range.size, List.range', Sem.run_bind, Result.andThen, h0, h1, h2, h3, h4, h5]
theorem POp.neqA {N : Nat} {ds : List Deferred} {E : Env} {x y : Operand} {t' ty : TypeId} {a b : PK} (hx : Env.ev E x = some (.agg [zv a.1, zv a.2].toArray)) (hy : Env.ev E y = some (.agg [zv b.1, zv b.2].toArray)) :
    POp Tryz.prog N ds E (.binOp .neq 43 x y t') ty (.bool (!decide (a = b))) :=
  POp.bin hx hy (fun w => run_eqGuard_agg w _ _ _ _ _ _ (by kernel_rfl)) fun w => by
    have h := run_eqA 9998 a b w
    have h2 : (Op.equal 43 (.agg [zv a.1, zv a.2].toArray) (.agg [zv b.1, zv b.2].toArray)).run Tryz.prog w = .ok (decide (a = b)) w := h
    simp only [Go.binOp, Sem.run_bind, h2, Result.andThen, Sem.run_pure]
attribute [local irreducible] WC WL WX POp Then Again Fn NX W1 WA WO QL RP RA Yld LoopAt HC HL HX HN H1 HA HO HQ HB HP A.blk A.grow A.rd A.obj A.mp AgainH CutH
attribute [local irreducible] A.pm A.mx A.mit sumS
theorem samePairs_fn (v u : Value) (l m : List PK) (hl : l.length ≤ 1000000) (hm : m.length ≤ 1000000) (w : World) (hR : RdP w v l) (hS : RdP w u m) :
    Fn Tryz.prog 38 #[v, u] w fun x w' => x = .bool (decide (l = m)) ∧ Ext w w' := by
  obtain ⟨a0, c0, rfl, hc0, hR⟩ := hR
  obtain ⟨a1, c1, rfl, hc1, hS⟩ := hS
  refine enterH (l := [_, _]) rfl Tryz.ntmps38 rfl ?_
  by_cases hlen : l.length = m.length
  rotate_left
  · have h1 : ¬ (l.length : Int) = (m.length : Int) := by omega
    refine hwYI ?_
    exact HX.ret1 rfl rfl fun w' hM => ⟨by rw [decide_eq_false fun h => hlen (by rw [h])], hM.ext⟩
  have h1 : (l.length : Int) = (m.length : Int) := by omega
  have h1' : ¬ ¬ (l.length : Int) = (m.length : Int) := fun h => h h1
  refine hwYI ?_
  refine HC.loop (α := Nat) (fun i => [(0, .slice a0 l.length c0), (1, .slice a1 m.length c1), (5, zv (i : Int))]) (fun _ => []) (fun i => i ≤ l.length ∧ l.take i = m.take i) (fun i => l.length - i) 0 ⟨Nat.zero_le _, rfl⟩ esA (Hs.refl _) ?_
  rintro i ⟨hi, hpre⟩
  by_cases hlt : i < l.length
  · obtain ⟨p, hp⟩ : ∃ p, l[i]? = some p := ⟨_, List.getElem?_eq_getElem hlt⟩
    obtain ⟨q, hq⟩ : ∃ q, m[i]? = some q := ⟨_, List.getElem?_eq_getElem (by omega)⟩
    have t1 : l.take (i + 1) = l.take i ++ [p] := by rw [List.take_add_one, hp]; rfl
    have t2 : m.take (i + 1) = m.take i ++ [q] := by rw [List.take_add_one, hq]; rfl
    have hg := fun j v h => pcl_get hp j v h
    have hg2 := fun j v h => pcl_get hq j v h
    obtain ⟨b0, o0, rfl, hb0⟩ : ∃ b off, a0 = some ⟨b, off, none⟩ ∧ ∀ i u, (pcl l)[i]? = some u → w.cell? ⟨b, off + i, none⟩ = some u := by
      rcases hR with h | h
      · rw [h] at hlt; cases hlt
      · exact h
    obtain ⟨b1, o1, rfl, hb1⟩ : ∃ b off, a1 = some ⟨b, off, none⟩ ∧ ∀ i u, (pcl m)[i]? = some u → w.cell? ⟨b, off + i, none⟩ = some u := by
      rcases hS with h | h
      · rw [h] at hlen; rw [hlen] at hlt; cases hlt
      · exact h
    have hcl : ∀ j u, [zv p.1, zv p.2][j]? = some u → w.cell? ⟨b0, o0 + i * 2 + j, none⟩ = some u := fun j u hu => by rw [Nat.add_assoc]; exact hb0 _ _ (hg j u hu)
    have hcm : ∀ j u, [zv q.1, zv q.2][j]? = some u → w.cell? ⟨b1, o1 + i * 2 + j, none⟩ = some u := fun j u hu => by rw [Nat.add_assoc]; exact hb1 _ _ (hg2 j u hu)
    refine hwYI ?_
    refine HC.cut (α := Unit) (fun _ => [(0, .slice (some ⟨b0, o0, none⟩) l.length c0), (1, .slice (some ⟨b1, o1, none⟩) m.length c1), (5, zv (i : Int)), (25, .bool (!decide (p = q)))]) (fun _ => []) (fun _ => True) ?_ ?_
    · refine HC.any rfl ?_
      refine HA.pa 0 rfl ?_
      refine HA.pa 1 rfl ?_
      refine HA.pa 2 rfl ?_
      refine HA.pa 4 rfl ?_
      refine HA.pa 5 rfl ?_
      refine HA.pa 6 rfl ?_
      refine HA.all [3, 7] (by kernel_rfl) rfl ⟨⟨_, rfl, ?_⟩, ⟨_, rfl, ?_⟩, trivial⟩
      · refine HO.one ?_
        refine H1.ldAggw (vs := [zv p.1, zv p.2]) rfl rfl (fun w' hM j u hu => cell_ext hM.ext (hcl j u hu)) rfl ?_
        apply HA.fold
        refine HA.all [7] (by kernel_rfl) rfl ⟨⟨_, rfl, ?_⟩, trivial⟩
        refine HO.one ?_
        refine H1.ldAggw (vs := [zv q.1, zv q.2]) rfl rfl (fun w' hM j u hu => cell_ext hM.ext (hcm j u hu)) rfl ?_
        apply HA.fold
        refine HA.pa 8 rfl ?_ (POp.neqA rfl rfl)
        refine HA.done (by kernel_rfl) ?_
        exact HX.cut () trivial esA (Hs.refl _)
      · refine HO.one ?_
        refine H1.ldAggw (vs := [zv q.1, zv q.2]) rfl rfl (fun w' hM j u hu => cell_ext hM.ext (hcm j u hu)) rfl ?_
        apply HA.fold
        refine HA.all [3] (by kernel_rfl) rfl ⟨⟨_, rfl, ?_⟩, trivial⟩
        refine HO.one ?_
        refine H1.ldAggw (vs := [zv p.1, zv p.2]) rfl rfl (fun w' hM j u hu => cell_ext hM.ext (hcl j u hu)) rfl ?_
        apply HA.fold
        refine HA.pa 8 rfl ?_ (POp.neqA rfl rfl)
        refine HA.done (by kernel_rfl) ?_
        exact HX.cut () trivial esA (Hs.refl _)
    rintro - -
    by_cases he : p = q
    · subst he
      rw [decide_eq_true rfl]
      refine hwYI ?_
      exact HX.again (i + 1) ⟨hlt, by rw [t1, t2, hpre]⟩ (by show l.length - (i + 1) < l.length - i; omega) esA (Hs.refl _)
    · rw [decide_eq_false he]
      have hne : ¬ l = m := fun h => by
        subst h
        rw [hp] at hq
        exact he (Option.some.inj hq)
      refine hwYI ?_
      exact HX.ret1 rfl rfl fun w' hM => ⟨by rw [decide_eq_false hne], hM.ext⟩
  · obtain rfl : i = l.length := by omega
    have he : l = m := by rw [List.take_length] at hpre; rw [hpre, hlen, List.take_length]
    refine hwYI ?_
    exact HX.ret1 rfl rfl fun w' hM => ⟨by rw [decide_eq_true he], hM.ext⟩
set_option maxHeartbeats 1000000 in
theorem holds27_fn {w0 w : World} {H : List Atom} {bx bm bj : Nat} {m : PM} (hM : Mm w0 (A.blk bx (cuC bm bj) 84 :: A.pm bm (liftP m) :: H) w) (hk : (m.map Prod.fst).Nodup) (hl : m.length ≤ 400000) :
    Fn Tryz.prog 20 #[.pointer (some ⟨bx, 0, none⟩)] w fun v w' => ∃ z : List PK × Option Addr × Nat, SortedP z.1 m ∧ v = .slice z.2.1 z.1.length z.2.2 ∧ Mm w0 (A.grow 43 2 z.2.1 z.2.2 z.1.length (pcl z.1) :: A.blk bx (cuC bm bj) 84 :: A.pm bm (liftP m) :: H) w' := by
  refine enterK (l := [_]) hM rfl Tryz.ntmps20 rfl ?_
  refine hwYI ?_
  refine HL.one (H1.callz (vs := [.map (some bm)]) rfl rfl (fun w' hM => keys27_fn bm w') ?_)
  rintro b1 -
  refine hwYI ?_
  refine HL.one (H1.callz (α := List PK × Option Addr × Nat) (V := fun z => .slice z.2.1 z.1.length z.2.2) (Hn := fun z => [A.grow 76 2 z.2.1 z.2.2 z.1.length (pcl z.1)]) (I := fun z => SortedP z.1 m) (vs := [.func (.func 98) #[] #[.pointer (some ⟨b1, 0, none⟩)], fnW 52]) rfl rfl (fun w' hM => by
    obtain ⟨es, clk, h1, h2⟩ := hM.pm (b := bm) (l := liftP m) memA
    exact sorted27_fn w' ((hM.blk (b := b1) memA).cell rfl) h1 h2 hk hl) ?_)
  rintro ⟨l, a, c⟩ hS
  dsimp only at hS ⊢
  have hll := hS.1.length_eq
  rw [List.length_map] at hll
  refine hbYI ?_
  refine HC.grow0 43 2 ?_
  repeat refine HC.seq ?_
  refine HC.cut (α := Option Addr × Nat) (fun z => [(2, .slice z.1 l.length z.2)]) (fun z => A.grow 43 2 z.1 z.2 l.length (pcl l) :: A.blk bx (cuC bm bj) 84 :: A.pm bm (liftP m) :: H) (fun _ => True) ?_ ?_
  · refine HC.block ?_
    refine HC.loop (α := Nat × Option Addr × Nat) (fun z => [(2, .slice z.2.1 z.1 z.2.2), (12, .slice a l.length c), (13, zv (l.length : Int)), (14, zv (z.1 : Int))])
      (fun z => A.grow 43 2 z.2.1 z.2.2 z.1 (pcl (l.take z.1)) :: A.grow 76 2 a c l.length (pcl l) :: A.blk bx (cuC bm bj) 84 :: A.pm bm (liftP m) :: H) (fun z => z.1 ≤ l.length) (fun z => l.length - z.1) (0, none, 0) (Nat.zero_le _) esA (Hs.cons Pick.here (Hs.cons Pick.here (Hs.cons (Pick.there Pick.here) (Hs.cons (Pick.there Pick.here) (Hs.refl _).skip)))) ?_
    rintro ⟨i, a2, c2⟩ hi
    dsimp only at hi ⊢
    by_cases hlt : i < l.length
    · obtain ⟨p, hp⟩ : ∃ p, l[i]? = some p := ⟨_, List.getElem?_eq_getElem hlt⟩
      have hg := fun j v h => pcl_get hp j v h
      have htk : l.take (i + 1) = l.take i ++ [p] := by rw [List.take_add_one, hp]; rfl
      have hsn := pcl_snoc (l.take i) p
      rw [← htk] at hsn
      refine HC.openg (e := 76) (sz := 2) (a := a) (c := c) (n := l.length) (xs := pcl l) (.tail _ (.head _)) (by omega) ?_
      rintro g rfl
      refine hwYI ?_
      refine HL.one (H1.ldAggw (b := g) (off := i * 2) (vs := [zv p.1, zv p.2]) rfl rfl (fun w' hM j u hu => ownsRow_cell (hM.own (e := 76) (sz := 2) (a := some ⟨g, 0, none⟩) (c := c) (xs := pcl l) (.tail _ (.head _))) (hg j u hu)) rfl ?_)
      refine hwYI ?_
      refine HL.one (H1.alloc (cs := [zv 0, zv 0]) rfl rfl (fun b5 => ?_))
      refine hwYI ?_
      refine HL.one (H1.stAgg (cs := [zv 0, zv 0]) (vs := [zv p.1, zv p.2]) rfl rfl rfl (by intro v hv; rcases List.mem_cons.1 hv with rfl | hv; rfl; rcases List.mem_cons.1 hv with rfl | hv; rfl; cases hv) rplA rfl ?_)
      refine hwYI ?_
      refine HL.build (cs := [zv p.1, zv p.2]) rfl rfl rfl ?_
      refine hwYI ?_
      refine HL.one (H1.lit (cs := [zv p.1, zv p.2]) rfl rfl rfl rfl rfl rfl (fun b9 => ?_))
      refine hwYI ?_
      refine HL.one (H1.app (sz := 2) (news := [zv p.1, zv p.2]) rfl (by decide) rfl rfl (fun _ _ => by first | ((repeat (first | with_reducible exact Rpl.here | with_reducible apply Rpl.there)); done) | (repeat (first | exact Rpl.here | apply Rpl.there))) rfl (fun w' hM j u hj => ?_) (by intro v hv; rcases List.mem_cons.1 hv with rfl | hv; rfl; rcases List.mem_cons.1 hv with rfl | hv; rfl; cases hv) (by omega) (by decide) rfl (fun a' c' hac => ?_))
      · rw [add_lit, Nat.zero_add]; exact (hM.blk (b := b9) memA).cell hj
      rw [show pcl (l.take i) ++ [zv p.1, zv p.2] = pcl (l.take (i + 1)) from hsn]
      refine hwYI ?_
      exact HX.again (i + 1, a', c') hlt (by show l.length - (i + 1) < l.length - i; omega) esA (Hs.cons (Pick.there (Pick.there Pick.here)) (Hs.cons (Pick.there (Pick.there Pick.here)) (Hs.cons (Pick.there (Pick.there Pick.here)) (Hs.cons (Pick.there (Pick.there Pick.here)) (Hs.refl _).skip.skip))))
    · obtain rfl : i = l.length := by omega
      rw [List.take_length]
      refine hwYI ?_
      exact HX.cut (a2, c2) trivial esA (Hs.cons Pick.here (Hs.refl _).skip)
  rintro ⟨a2, c2⟩ -
  dsimp only
  refine hwYI ?_
  exact HX.ret1 rfl rfl fun w' hM => ⟨(l, a2, c2), hS, rfl, hM⟩
end Go.Sx

