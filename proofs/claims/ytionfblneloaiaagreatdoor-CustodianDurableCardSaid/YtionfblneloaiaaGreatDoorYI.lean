/- Chapter 27: places in their order, and Holds: the walks. -/
import Derived.Test.YtionfblneloaiaaGreatDoorYG
namespace Go.Sx
open Go Go.Proofs Go.RowKit
theorem hwYI {G G2 : Prop} (x : G2) (hwq : Hold G2 → G := by
    intro hQq
    repeat' (first | refine HL.pa ?_ (POp.pneN rfl rfl) | refine HL.pa ?_ (POp.pnil1 rfl rfl) | refine HL.pa ?_ (POp.pnil0 rfl rfl) | refine HL.pa ?_ (POp.nilCheck rfl) | apply HL.fold | apply HA.fold | apply HL.nil | apply HX.n_then | apply HC.seq | apply HC.region | refine HL.pa ?_ | refine HL.ga rfl ?_ | refine HL.na rfl ?_ | refine HL.nu rfl rfl ?_ | apply HC.block | apply HC.skip | apply HC.exit | apply HC.ret | apply HX.e_block | refine HX.e_other rfl ?_ | apply HX.e_then | apply HX.e_again | apply HX.n_block | apply HX.r_then | apply HX.r_block | apply HX.r_again | refine HC.cond_yes rfl ?_ | refine HC.cond_no rfl ?_ | refine HL.one (H1.ldb rfl memA rfl rfl ?_) | refine HC.cond rfl (fun hc => ?_) (fun hc => ?_) | refine HC.cond_b rfl (fun hc => ?_) (fun hc => ?_))
    exact hQq.get) : G := hwq ⟨x⟩
theorem hbYI {G G2 : Prop} (x : G2) (hwq : Hold G2 → G := by
    intro hQq
    repeat' (first | refine HL.pa ?_ (POp.pneN rfl rfl) | refine HL.pa ?_ (POp.pnil1 rfl rfl) | refine HL.pa ?_ (POp.pnil0 rfl rfl) | refine HL.pa ?_ (POp.nilCheck rfl) | apply HL.fold | apply HA.fold | apply HL.nil | apply HX.n_then | apply HC.seq | apply HC.region | refine HL.pa ?_ | refine HL.ga rfl ?_ | refine HL.na rfl ?_ | refine HL.nu rfl rfl ?_ | apply HC.skip | apply HC.exit | apply HC.ret | apply HX.e_block | refine HX.e_other rfl ?_ | apply HX.e_then | apply HX.e_again | apply HX.n_block | apply HX.r_then | apply HX.r_block | apply HX.r_again | refine HC.cond_yes rfl ?_ | refine HC.cond_no rfl ?_ | refine HL.one (H1.ldb rfl memA rfl rfl ?_) | refine HC.cond rfl (fun hc => ?_) (fun hc => ?_) | refine HC.cond_b rfl (fun hc => ?_) (fun hc => ?_))
    exact hQq.get) : G := hwq ⟨x⟩
abbrev fnW (f : Nat) : Value := .func (.func f) #[] #[]
def pcells (p : PK) : List Value := [zv p.1, zv p.2]
def pcl (l : List PK) : List Value := l.flatMap pcells
theorem pcells_len (p : PK) : (pcells p).length = 2 := rfl
theorem pcells_one (p : PK) : ∀ v ∈ pcells p, v.oneCell' = true := by
  intro v hv
  rcases List.mem_cons.1 hv with rfl | hv
  · rfl
  rcases List.mem_cons.1 hv with rfl | hv
  · rfl
  · cases hv
theorem pcl_len : ∀ l : List PK, (pcl l).length = l.length * 2
  | [] => rfl
  | p :: l => by
    show (pcells p ++ pcl l).length = (l.length + 1) * 2
    rw [List.length_append, pcl_len l, pcells_len]; omega
theorem pcl_get {l : List PK} : ∀ {j : Nat} {p : PK}, l[j]? = some p → ∀ (i : Nat) (v : Value), (pcells p)[i]? = some v → (pcl l)[j * 2 + i]? = some v := by
  induction l with
  | nil => intro j p h; simp at h
  | cons q l ih =>
    intro j p h i v hv
    show (pcells q ++ pcl l)[j * 2 + i]? = some v
    cases j with
    | zero =>
      simp only [List.getElem?_cons_zero, Option.some.injEq] at h
      subst h
      have hlt := (List.getElem?_eq_some_iff.1 hv).1
      rw [Nat.zero_mul, Nat.zero_add, List.getElem?_append_left hlt]
      exact hv
    | succ j =>
      rw [List.getElem?_append_right (by rw [pcells_len]; omega), pcells_len, show (j + 1) * 2 + i - 2 = j * 2 + i by omega]
      exact ih (by simpa using h) i v hv
theorem pcl_snoc (l : List PK) (p : PK) : pcl l ++ pcells p = pcl (l ++ [p]) := by simp [pcl]
theorem pk_at {l : List PK} {j : Nat} (h : j < l.length) : l[j]? = some l.toArray[j]! := by simp [h]
theorem flatK_pcl (l : List PK) : (Go.Sort.flatK pcells 2 l.toArray).toList = pcl l := by
  apply List.ext_getElem?
  intro t
  have hsz : (Go.Sort.flatK pcells 2 l.toArray).size = l.length * 2 := by simp [Go.Sort.flatK]
  by_cases ht : t < l.length * 2
  · have h1 := Go.Sort.get_flatK pcells 2 l.toArray t (by simpa using ht)
    have hj : t / 2 < l.length := by omega
    have hm : t % 2 < 2 := Nat.mod_lt _ (by decide)
    have h2 : (pcells l.toArray[t / 2]!)[t % 2]? = some (pcells l.toArray[t / 2]!)[t % 2]! := by
      rw [List.getElem!_eq_getElem?_getD, List.getElem?_eq_getElem (by rw [pcells_len]; exact hm)]; rfl
    have h3 := pcl_get (pk_at hj) (t % 2) _ h2
    rw [show t / 2 * 2 + t % 2 = t by omega] at h3
    rw [h3, ← h1]
    have ht' : t < (Go.Sort.flatK pcells 2 l.toArray).size := by omega
    exact arr_at ht'
  · rw [List.getElem?_eq_none (by rw [Array.length_toList, hsz]; omega), List.getElem?_eq_none (by rw [pcl_len]; omega)]
theorem cmpLaysP (blk off size : Nat) (w : World) : CmpLays Tryz.prog 52 #[] pcells 2 cfP blk off size w := fun m os dk _ x y => by
  refine Calls.mono (compare27 x y _) ?_
  rintro e w' ⟨v, rfl, rfl, q, os', hw⟩
  exact ⟨rfl, q, os', hw⟩
theorem sortP_fn {w0 w : World} {H : List Atom} {H' : List PK → List Atom} {a : Option Addr} {c : Nat} {l : List PK} (hM : Mm w0 H w) (hl : l.length ≤ 1000000)
    (hr : ∀ l' : List PK, l'.length = l.length → Rpl (A.grow 76 2 a c l.length (pcl l)) (A.grow 76 2 a c l'.length (pcl l')) H (H' l')) :
    Fn Tryz.prog 97 #[.slice a l.length c, fnW 52] w fun v w' => ∃ l', (l'.Perm l ∧ l'.Pairwise fun x y => ¬ leP y x) ∧ v = .tuple #[] ∧ Mm w0 (H' l') w' := by
  by_cases h0 : l = []
  · subst h0
    refine Calls.mono (AnyF.slices_SortFunc_none Tryz.sortP a c (fnW 52) w) ?_
    rintro e w' ⟨rfl, rfl⟩
    exact ⟨_, rfl, [], ⟨List.Perm.refl _, List.Pairwise.nil⟩, rfl, Rpl.same (hr [] rfl) ▸ hM⟩
  have hne : l.length ≠ 0 := fun e => h0 (List.eq_nil_of_length_eq_zero e)
  have hown := hM.own (hr l rfl).mem
  obtain ⟨b, cur, rfl, hg, hnc, hcm, hcs, htake⟩ : ∃ b cur, a = some ⟨b, 0, none⟩ ∧ w.heap[b]? = some (.cells cur 76 (0, 0)) ∧ l.length ≤ c ∧ c ≤ maxLen ∧ cur.size = c * 2 ∧ cur.toList.take (l.length * 2) = pcl l := by
    rcases hown.2 with ⟨-, h2⟩ | ⟨g, cap, cur, hv, -, hg, hnc, hcm, hcs, ht⟩
    · exact absurd h2 hne
    · cases hv; exact ⟨g, cur, rfl, hg, hnc, hcm, hcs, ht⟩
  have hlt := (Array.getElem?_eq_some_iff.1 hg).1
  have hfs : ∀ l : List PK, (Go.Sort.flatK pcells 2 l.toArray).size = l.length * 2 := fun l => by simp [Go.Sort.flatK]
  have hH : Go.Sort.HoldsK pcells 2 w b 0 l.toArray := fun j hj => by
    rw [hfs] at hj
    have h1 : (pcl l)[j]? = some (Go.Sort.flatK pcells 2 l.toArray)[j]! := by
      rw [← flatK_pcl]
      have hj' : j < (Go.Sort.flatK pcells 2 l.toArray).size := by rw [hfs]; exact hj
      exact arr_at hj'
    rw [Nat.zero_add]
    exact ⟨ownsRow_cell hown h1, by simp [World.frozen?, hg]⟩
  have eg : ∀ args w, (callFunc 52 args).run Tryz.prog w = .ok (.enter 52 args) w := CallOk.run
  have hS := AnyQ.slices_SortFunc Tryz.sortP 2 Tryz.isAgg76 Tryz.sizeOf76 pcells pcells_len pcells_one cfP swoP 52 #[] b 0 c l.toArray w eg (cmpLaysP b 0 _ w) hH hlt (by simp; omega)
  refine Calls.mono hS ?_
  rintro e w' ⟨rfl, d', n, os, hp, hs, rfl⟩
  have hsz : d'.size = l.length := by have := hp.1; simpa using this
  obtain ⟨l', rfl⟩ : ∃ l' : List PK, d' = l'.toArray := ⟨d'.toList, by simp⟩
  have hl' : l'.length = l.length := by simpa using hsz
  have hperm : l'.Perm l := by
    have h1 := hp.2.2
    have e1 : l'.toArray.extract 0 l.toArray.size = l'.toArray := by
      rw [show l.toArray.size = l'.toArray.size by simp [hl']]; exact Array.extract_size
    have e2 : l.toArray.extract 0 l.toArray.size = l.toArray := Array.extract_size
    rw [e1, e2] at h1
    simpa using h1
  have hsort : l'.Pairwise fun x y => ¬ leP y x := by
    refine List.pairwise_iff_getElem.2 fun i j hi hj hij => ?_
    have h1 := hs i j (Nat.zero_le _) hij (by simp; omega)
    rw [ltP, decide_eq_false_iff_not] at h1
    simpa [hi, hj] using h1
  refine ⟨_, rfl, l', ⟨hperm, hsort⟩, rfl, hM.turn (hr l' hl') rfl rfl rfl ?_ (fun k hk hkb => ?_) ?_ (by simp [A.grow, Value.ownBlock]) (fun b' hb' => .inl (by simpa [A.grow, Value.ownBlock] using hb'))⟩
  · simp [sortWorldK, Go.Sort.putRowK, Go.Sort.grow, Go.Sort.putRow, Go.Sort.mapBlock, Go.Sort.ahead]
  · have hkb' : ¬ b = k := fun e => hkb (by subst e; simp [A.grow, Value.ownBlock])
    have hs1 : (Go.Sort.putRow id (Go.Sort.ahead w n) b 0 (Go.Sort.flatK pcells 2 l'.toArray)).heap.size = w.heap.size := by simp [Go.Sort.putRow, Go.Sort.mapBlock, Go.Sort.ahead]
    show ((Go.Sort.putRow id (Go.Sort.ahead w n) b 0 (Go.Sort.flatK pcells 2 l'.toArray)).heap ++ os)[k]? = _
    rw [Array.getElem?_append, if_pos (by rw [hs1]; exact hk)]
    show (w.heap.modify b _)[k]? = _
    rw [Array.getElem?_modify, if_neg hkb']
  · rw [hl']
    refine ⟨by rw [pcl_len, hl'], .inr ⟨b, c, Go.Sort.putCells id 0 (Go.Sort.flatK pcells 2 l'.toArray) cur, rfl, Nat.zero_le _, ?_, hnc, hcm, by simp [Go.Sort.putCells, hcs], ?_⟩⟩
    · have hm : (Go.Sort.putRow id (Go.Sort.ahead w n) b 0 (Go.Sort.flatK pcells 2 l'.toArray)).heap[b]? = some (.cells (Go.Sort.putCells id 0 (Go.Sort.flatK pcells 2 l'.toArray) cur) 76 (0, 0)) := by
        simp [Go.Sort.putRow, Go.Sort.mapBlock, Go.Sort.ahead, Array.getElem?_modify, hg, Go.Sort.onCells]
      have hs1 : (Go.Sort.putRow id (Go.Sort.ahead w n) b 0 (Go.Sort.flatK pcells 2 l'.toArray)).heap.size = w.heap.size := by simp [Go.Sort.putRow, Go.Sort.mapBlock, Go.Sort.ahead]
      show ((Go.Sort.putRow id (Go.Sort.ahead w n) b 0 (Go.Sort.flatK pcells 2 l'.toArray)).heap ++ os)[b]? = _
      rw [Array.getElem?_append, if_pos (by rw [hs1]; exact hlt), hm]
    · have h1 := putCells_id (Go.Sort.flatK pcells 2 l'.toArray) cur (by rw [hfs, hcs, hl']; exact Nat.mul_le_mul_right _ hnc)
      rw [hfs, hl', flatK_pcl] at h1
      exact h1
end Go.Sx
namespace Go.Sx
open Go Go.Proofs Go.RowKit
/-- The keys that were handed out, and the stamps that were seen. -/
structure KeysI (m : PM) (es : Array MapEntry) (seen : Array Nat) (ks : List PK) : Prop where
  nd : ks.Nodup
  sub : ∀ k ∈ ks, k ∈ m.map Prod.fst
  vis : ∀ e ∈ es.toList, e.born ∈ seen → ∀ k, e.key = pkV k → k ∈ ks
  back : ∀ k ∈ ks, ∃ e ∈ es.toList, e.key = pkV k ∧ e.born ∈ seen
theorem nodup_len : ∀ {l m : List PK}, l.Nodup → (∀ x ∈ l, x ∈ m) → l.length ≤ m.length
  | [], _, _, _ => Nat.zero_le _
  | a :: l, m, h, hs => by
    rw [List.nodup_cons] at h
    have h1 := nodup_len (m := m.erase a) h.2 fun x hx => (List.mem_erase_of_ne (fun (e : x = a) => h.1 (by rw [← e]; exact hx))).2 (hs x (List.mem_cons_of_mem _ hx))
    rw [List.length_erase_of_mem (hs a (List.mem_cons_self ..))] at h1
    have h2 := List.length_pos_of_mem (hs a (List.mem_cons_self ..))
    rw [List.length_cons]; omega
theorem perm_of_nodup {l m : List PK} (h1 : l.Nodup) (h2 : m.Nodup) (h : ∀ x, x ∈ l ↔ x ∈ m) : l.Perm m := by
  rw [List.perm_iff_count]
  intro a
  rw [h1.count, h2.count]
  by_cases ha : a ∈ l
  · rw [if_pos ha, if_pos ((h a).1 ha)]
  · rw [if_neg ha, if_neg fun hm => ha ((h a).2 hm)]
attribute [local irreducible] WC WL WX POp Then Again Fn NX W1 WA WO QL RP RA Yld LoopAt HC HL HX HN H1 HA HO HQ HB HP A.blk A.grow A.rd A.obj A.mp AgainH CutH
attribute [local irreducible] A.pm A.mx A.mit sumS A.dfr A.loop
theorem keys27_fn (bm : Nat) (w : World) : Fn Tryz.prog 51 #[.map (some bm)] w fun u w' => ∃ b1 : Nat, True ∧ u = .func (.func 98) #[] #[.pointer (some ⟨b1, 0, none⟩)] ∧ Mm w [A.blk b1 [.map (some bm)] 81] w' := by
  refine enterH (l := [_]) rfl Tryz.ntmps51 rfl ?_
  refine hwYI ?_
  refine HL.one (H1.box rfl rfl rfl (fun b1 => ?_))
  refine hwYI ?_
  exact HX.ret1 rfl rfl fun w' hM => ⟨b1, trivial, rfl, hM⟩
set_option maxHeartbeats 1000000 in
theorem keys1_fn {w0 : World} {K0 K1 : Atom} {b1 b2 bm lp clk : Nat} {es : Array MapEntry} {m : PM} (hb : w0.cell? ⟨b1, 0, none⟩ = some (.map (some bm))) (hmap : w0.heap[bm]? = some (.map es clk)) (hms : MPl (liftP m) es clk) (hk : (m.map Prod.fst).Nodup)
    (hy : ∀ R (ks : List PK) (p : PK) (z : Option Addr × Nat), ks.length < m.length → ∀ w, Mm w0 (K0 :: K1 :: A.blk b2 [.slice z.1 ks.length z.2] 90 :: A.grow 76 2 z.1 z.2 ks.length (pcl ks) :: R) w →
      Yld Tryz.prog lp [pkV p] w fun b w' => b = true ∧ ∃ z' : Option Addr × Nat, True ∧ Mm w0 (K0 :: K1 :: A.blk b2 [.slice z'.1 (ks ++ [p]).length z'.2] 90 :: A.grow 76 2 z'.1 z'.2 (ks ++ [p]).length (pcl (ks ++ [p])) :: R) w') :
    ∀ w, Mm w0 (K0 :: K1 :: A.blk b2 [.slice none 0 0] 90 :: A.grow 76 2 none 0 0 [] :: []) w →
      Fn Tryz.prog 98 (.func (.yield lp) #[] #[] :: [.pointer (some ⟨b1, 0, none⟩)]).toArray w fun _ w' => ∃ z : List PK × Option Addr × Nat, z.1.Perm (m.map Prod.fst) ∧ Mm w0 (K0 :: K1 :: A.blk b2 [.slice z.2.1 z.1.length z.2.2] 90 :: A.grow 76 2 z.2.1 z.2.2 z.1.length (pcl z.1) :: []) w' := by
  intro w hM
  have hmw : ∀ {H} {w' : World}, Mm w0 H w' → w'.heap[bm]? = some (.map es clk) := fun hM' => by
    rw [hM'.ext.block bm (Array.getElem?_eq_some_iff.1 hmap).1]; exact hmap
  refine enterK (l := [_, _]) hM rfl Tryz.ntmps98 rfl ?_
  refine hwYI ?_
  refine HL.one (H1.ld0 rfl hb rfl ?_)
  refine hwYI ?_
  refine HL.one (H1.mqrange (es := es) (clk := clk) rfl (fun w' hM => hmw hM) rfl (fun it => ?_))
  refine hwYI ?_
  refine HC.loop (α := Array Nat × List PK × Option Addr × Nat) (fun _ => [(0, .func (.yield lp) #[] #[]), (5, .pointer (some ⟨it, 0, none⟩))])
    (fun z => K0 :: K1 :: A.blk b2 [.slice z.2.2.1 z.2.1.length z.2.2.2] 90 :: A.grow 76 2 z.2.2.1 z.2.2.2 z.2.1.length (pcl z.2.1) :: [A.mit it bm clk z.1]) (fun z => KeysI m es z.1 z.2.1) (fun z => mleft es z.1) (#[], [], (none, 0)) ⟨List.nodup_nil, (fun _ h => by cases h), fun e _ hs => absurd hs (by simp), fun _ h => by cases h⟩ esA (Hs.cons (Pick.there Pick.here) (Hs.cons (Pick.there Pick.here) (Hs.cons (Pick.there Pick.here) (Hs.cons (Pick.there Pick.here) (Hs.refl _))))) ?_
  rintro ⟨seen, ks, z⟩ hI
  dsimp only at hI ⊢
  refine hwYI ?_
  refine HL.one (H1.mqnext (H' := fun s => K0 :: K1 :: A.blk b2 [.slice z.1 ks.length z.2] 90 :: A.grow 76 2 z.1 z.2 ks.length (pcl ks) :: [A.mit it bm clk s]) rfl (fun w' hM => hmw hM) hms.born (fun s => Rpl.there (Rpl.there (Rpl.there (Rpl.there Rpl.here)))) rfl (fun hall => ?_) (fun e he hne => ?_))
  · refine hwYI ?_
    refine HX.end0 rfl fun w' hM => ⟨(ks, z), perm_of_nodup hI.nd hk fun x => ⟨hI.sub x, fun hx => ?_⟩, hM.sub (Hs.cons Pick.here (Hs.cons Pick.here (Hs.cons Pick.here (Hs.cons Pick.here (Hs.refl _).skip))))⟩
    obtain ⟨p, hp, rfl⟩ := List.mem_map.1 hx
    obtain ⟨e, he, h1, -⟩ := hms.of (List.mem_map.2 ⟨p, hp, rfl⟩)
    exact hI.vis e he (hall e he) p.1 h1
  obtain ⟨q, hq, hkey, hval⟩ := hms.ent he
  obtain ⟨p, hp, rfl⟩ := List.mem_map.1 hq
  dsimp only at hkey hval
  have hnew : p.1 ∉ ks := fun h => by
    obtain ⟨e', he', h1, h2⟩ := hI.back p.1 h
    have : e' = e := by
      have k1 : (es.toList.map fun e => (e.key, e.val)) = (liftP m).map fun p => (pkV p.1, p.2) := hms.ents
      obtain ⟨i, hi⟩ := List.mem_iff_getElem?.1 he
      obtain ⟨j, hj⟩ := List.mem_iff_getElem?.1 he'
      have n1 : (m.map Prod.fst)[i]? = some p.1 := by
        have := congrArg (fun l => l[i]?) k1
        simp only [List.getElem?_map, hi, Option.map_some] at this
        cases hm : m[i]? with
        | none => unfold liftP at this; rw [List.getElem?_map, hm] at this; cases this
        | some x =>
          unfold liftP at this
          rw [List.getElem?_map, hm] at this
          simp only [Option.map_some, Option.some.injEq, Prod.mk.injEq] at this
          rw [hkey] at this
          rw [List.getElem?_map, hm, Option.map_some, pkV_inj this.1]
      have n2 : (m.map Prod.fst)[j]? = some p.1 := by
        have := congrArg (fun l => l[j]?) k1
        simp only [List.getElem?_map, hj, Option.map_some] at this
        cases hm : m[j]? with
        | none => unfold liftP at this; rw [List.getElem?_map, hm] at this; cases this
        | some x =>
          unfold liftP at this
          rw [List.getElem?_map, hm] at this
          simp only [Option.map_some, Option.some.injEq, Prod.mk.injEq] at this
          rw [h1] at this
          rw [List.getElem?_map, hm, Option.map_some, pkV_inj this.1]
      have hlt : i < (m.map Prod.fst).length := (List.getElem?_eq_some_iff.1 n1).1
      have e2 := (List.getElem?_inj hlt hk).1 (n1.trans n2.symm)
      subst e2
      rw [hi] at hj
      exact (Option.some.inj hj).symm
    subst this
    exact hne h2
  have hin : p.1 ∈ m.map Prod.fst := List.mem_map.2 ⟨p, hp, rfl⟩
  have hlen : ks.length < m.length := by
    have h1 : (ks ++ [p.1]).Nodup := by
      refine List.nodup_append.2 ⟨hI.nd, by simp, fun a ha c hc e => ?_⟩
      rw [List.mem_singleton] at hc
      subst hc; subst e; exact hnew ha
    have h2 : ∀ x ∈ ks ++ [p.1], x ∈ m.map Prod.fst := fun x hx => by
      rcases List.mem_append.1 hx with hx | hx
      · exact hI.sub x hx
      · rw [List.mem_singleton] at hx; rw [hx]; exact hin
    have h3 := nodup_len h1 h2
    rw [List.length_append, List.length_map] at h3
    exact h3
  rw [hkey, hval]
  refine hwYI ?_
  refine HL.one (H1.mqentry (e := e) rfl (fun w' hM => hmw hM) he hms.nd (.tail _ (.tail _ (.tail _ (.tail _ (.head _))))) rfl ?_)
  rw [hkey, hval, pkV_cells]
  refine hwYI ?_
  refine HL.one (H1.alloc (cs := [zv 0, zv 0]) rfl rfl (fun b5 => ?_))
  refine hwYI ?_
  refine HL.one (H1.stAgg (cs := [zv 0, zv 0]) (vs := [zv p.1.1, zv p.1.2]) rfl rfl rfl (by intro v hv; rcases List.mem_cons.1 hv with rfl | hv; rfl; rcases List.mem_cons.1 hv with rfl | hv; rfl; cases hv) rplA rfl ?_)
  refine hwYI ?_
  refine HL.one (H1.ldAgg (vs := [zv p.1.1, zv p.1.2]) rfl memA rfl (fun i v hv => by rw [Nat.zero_add]; exact hv) rfl ?_)
  refine hwYI ?_
  refine HL.mem (K0 :: K1 :: A.blk b2 [.slice z.1 ks.length z.2] 90 :: A.grow 76 2 z.1 z.2 ks.length (pcl ks) :: [A.mit it bm clk (seen.push e.born)]) (Hs.refl _).skip ?_
  refine HL.one (H1.yield (vs := [pkV p.1]) rfl rfl rfl (hy [A.mit it bm clk (seen.push e.born)] ks p.1 z hlen) ?_)
  rintro z' -
  refine hwYI ?_
  refine HX.again (seen.push e.born, ks ++ [p.1], z') ⟨?_, fun k hk' => ?_, fun e' he' hs' k hk' => ?_, fun k hk' => ?_⟩ (mleft_lt he hne) esA (Hs.refl _)
  · refine List.nodup_append.2 ⟨hI.nd, by simp, fun a ha c hc e => ?_⟩
    rw [List.mem_singleton] at hc
    subst hc; subst e; exact hnew ha
  · rcases List.mem_append.1 hk' with hx | hx
    · exact hI.sub k hx
    · rw [List.mem_singleton] at hx; rw [hx]; exact hin
  · rcases Array.mem_push.1 hs' with h1 | h1
    · exact List.mem_append_left _ (hI.vis e' he' h1 k hk')
    · have e1 : e' = e := stamp_inj hms.nd he' he h1
      subst e1
      rw [hkey] at hk'
      exact List.mem_append_right _ (by rw [pkV_inj hk']; exact List.mem_singleton.2 rfl)
  · rcases List.mem_append.1 hk' with hx | hx
    · obtain ⟨e', h1, h2, h3⟩ := hI.back k hx
      exact ⟨e', h1, h2, Array.mem_push.2 (.inl h3)⟩
    · rw [List.mem_singleton] at hx
      subst hx
      exact ⟨e, he, hkey, Array.mem_push.2 (.inr rfl)⟩
set_option maxHeartbeats 1000000 in
theorem appendSeq27_fn {b1 bm clk : Nat} {es : Array MapEntry} {m : PM} (w : World) (hb : w.cell? ⟨b1, 0, none⟩ = some (.map (some bm))) (hmap : w.heap[bm]? = some (.map es clk)) (hms : MPl (liftP m) es clk) (hk : (m.map Prod.fst).Nodup) (hl : m.length ≤ 400000) :
    Fn Tryz.prog 154 #[.slice none 0 0, .func (.func 98) #[] #[.pointer (some ⟨b1, 0, none⟩)]] w fun u w' => ∃ z : List PK × Option Addr × Nat, z.1.Perm (m.map Prod.fst) ∧ u = .slice z.2.1 z.1.length z.2.2 ∧ Mm w [A.grow 76 2 z.2.1 z.2.2 z.1.length (pcl z.1)] w' := by
  refine enterMH (l := [_, _]) rfl Tryz.ntmps154 rfl ?_
  refine hwYI ?_
  refine HL.one (H1.box rfl rfl rfl (fun b2 => ?_))
  refine hwYI ?_
  refine HC.grow0 76 2 ?_
  refine HC.sub [(2, .pointer (some ⟨b2, 0, none⟩)), (6, .func (.func 98) #[] #[.pointer (some ⟨b1, 0, none⟩)])] [A.blk b2 [.slice none 0 0] 90, A.grow 76 2 none 0 0 []] ?_ esA (Hs.cons (Pick.there Pick.here) (Hs.cons Pick.here (Hs.nil _)))
  refine HC.rangeFunc (α := List PK × Option Addr × Nat) (lb := [.pointer (some ⟨b1, 0, none⟩)]) (fun z => [A.blk b2 [.slice z.2.1 z.1.length z.2.2] 90, A.grow 76 2 z.2.1 z.2.2 z.1.length (pcl z.1)]) (fun z => z.1.Perm (m.map Prod.fst)) rfl ?_ ?_
  · intro D lp L hL w1 hM1
    refine (keys1_fn (b2 := b2) (m := m) hb hmap hms hk ?_ w1 hM1).mono fun v w2 h => ?_
    · rintro R ks p ⟨aq, cq⟩ hlt
      dsimp only
      have hsn := pcl_snoc ks p
      refine Yld.ofH hL memA rfl rfl ?_
      dsimp only [List.zip_cons_cons, List.zip_nil_right, putAll]
      rw [pkV_cells]
      refine hwYI ?_
      refine HL.one (H1.alloc (cs := [zv 0, zv 0]) rfl rfl (fun b5 => ?_))
      refine hwYI ?_
      refine HL.one (H1.stAgg (cs := [zv 0, zv 0]) (vs := [zv p.1, zv p.2]) rfl rfl rfl (by intro v hv; rcases List.mem_cons.1 hv with rfl | hv; rfl; rcases List.mem_cons.1 hv with rfl | hv; rfl; cases hv) rplA rfl ?_)
      refine hwYI ?_
      refine HX.ra hL rplA ?_
      refine hwYI ?_
      refine HL.one (H1.ldAgg (vs := [zv p.1, zv p.2]) rfl memA rfl (fun i v hv => by rw [Nat.zero_add]; exact hv) rfl ?_)
      refine hwYI ?_
      refine HL.one (H1.lit (cs := [zv p.1, zv p.2]) rfl rfl rfl rfl rfl rfl (fun b9 => ?_))
      refine hwYI ?_
      refine HL.one (H1.app (sz := 2) (news := [zv p.1, zv p.2]) rfl (by decide) rfl rfl (fun _ _ => by first | ((repeat (first | with_reducible exact Rpl.here | with_reducible apply Rpl.there)); done) | (repeat (first | exact Rpl.here | apply Rpl.there))) rfl (fun w' hM j u hj => ?_) (by intro v hv; rcases List.mem_cons.1 hv with rfl | hv; rfl; rcases List.mem_cons.1 hv with rfl | hv; rfl; cases hv) (by omega) (by decide) rfl (fun a' c' hac => ?_))
      · rw [add_lit, Nat.zero_add]; exact (hM.blk (b := b9) memA).cell hj
      rw [show pcl ks ++ [zv p.1, zv p.2] = pcl (ks ++ [p]) from hsn, show ks.length + 1 = (ks ++ [p]).length from by rw [List.length_append]; rfl]
      refine hwYI ?_
      refine HL.one (H1.st (b := b2) rfl rfl (by intro _ h; cases h) (by intro _ h; cases h) rplA (by exact Nat.zero_lt_one) ?_)
      refine hwYI ?_
      refine HX.rp_n hL rplA fun w' hM => ⟨rfl, (a', c'), trivial, ?_⟩
      exact hM.sub (Hs.refl _).skip.skip
    · obtain ⟨⟨ks, z⟩, h1, h2⟩ := h
      exact ⟨(ks, z), h1, h2⟩
  · rintro D ⟨ks, az, cz⟩ hp
    dsimp only at hp ⊢
    refine hwYI ?_
    exact HX.retM1 rfl rfl Pick.here fun w' hM => ⟨(ks, az, cz), hp, rfl, hM.tail⟩
theorem collect27_fn {b1 bm clk : Nat} {es : Array MapEntry} {m : PM} (w : World) (hb : w.cell? ⟨b1, 0, none⟩ = some (.map (some bm))) (hmap : w.heap[bm]? = some (.map es clk)) (hms : MPl (liftP m) es clk) (hk : (m.map Prod.fst).Nodup) (hl : m.length ≤ 400000) :
    Fn Tryz.prog 96 #[.func (.func 98) #[] #[.pointer (some ⟨b1, 0, none⟩)]] w fun u w' => ∃ z : List PK × Option Addr × Nat, z.1.Perm (m.map Prod.fst) ∧ u = .slice z.2.1 z.1.length z.2.2 ∧ Mm w [A.grow 76 2 z.2.1 z.2.2 z.1.length (pcl z.1)] w' := by
  refine enterH (l := [_]) rfl Tryz.ntmps96 rfl ?_
  refine hwYI ?_
  refine HL.one (H1.callz (vs := [.slice none 0 0, .func (.func 98) #[] #[.pointer (some ⟨b1, 0, none⟩)]]) rfl rfl (fun w' hM => appendSeq27_fn w' (cell_ext hM.ext hb) (by rw [hM.ext.block bm (Array.getElem?_eq_some_iff.1 hmap).1]; exact hmap) hms hk hl) ?_)
  rintro ⟨ks, a2, c2⟩ hp
  dsimp only
  refine hwYI ?_
  exact HX.ret1 rfl rfl fun w' hM => ⟨(ks, a2, c2), hp, rfl, hM⟩
/-- Places in their order. -/
def SortedP (l : List PK) (m : PM) : Prop := l.Perm (m.map Prod.fst) ∧ l.Pairwise fun x y => ¬ leP y x
theorem sorted27_fn {b1 bm clk : Nat} {es : Array MapEntry} {m : PM} (w : World) (hb : w.cell? ⟨b1, 0, none⟩ = some (.map (some bm))) (hmap : w.heap[bm]? = some (.map es clk)) (hms : MPl (liftP m) es clk) (hk : (m.map Prod.fst).Nodup) (hl : m.length ≤ 400000) :
    Fn Tryz.prog 50 #[.func (.func 98) #[] #[.pointer (some ⟨b1, 0, none⟩)], fnW 52] w fun u w' => ∃ z : List PK × Option Addr × Nat, SortedP z.1 m ∧ u = .slice z.2.1 z.1.length z.2.2 ∧ Mm w [A.grow 76 2 z.2.1 z.2.2 z.1.length (pcl z.1)] w' := by
  refine enterH (l := [_, _]) rfl Tryz.ntmps50 rfl ?_
  refine hwYI ?_
  refine HL.one (H1.callz (vs := [.func (.func 98) #[] #[.pointer (some ⟨b1, 0, none⟩)]]) rfl rfl (fun w' hM => collect27_fn w' (cell_ext hM.ext hb) (by rw [hM.ext.block bm (Array.getElem?_eq_some_iff.1 hmap).1]; exact hmap) hms hk hl) ?_)
  rintro ⟨ks, a2, c2⟩ hp
  dsimp only at hp ⊢
  have hkl := hp.length_eq
  rw [List.length_map] at hkl
  refine hwYI ?_
  refine HL.one (H1.callk (α := List PK) (V := fun _ => .tuple #[]) (I := fun l => l.Perm ks ∧ l.Pairwise fun x y => ¬ leP y x) (H' := fun l => [A.grow 76 2 a2 c2 l.length (pcl l)]) (vs := [.slice a2 ks.length c2, fnW 52]) rfl rfl
    (fun w' hM => sortP_fn hM (by omega) (fun l' hl' => Rpl.here)) ?_)
  rintro l' ⟨hp2, hs2⟩
  have hll := hp2.length_eq
  rw [← hll]
  refine hwYI ?_
  exact HX.ret1 rfl rfl fun w' hM => ⟨(l', a2, c2), ⟨hp2.trans hp, hs2⟩, rfl, hM⟩
end Go.Sx
/- Chapter 27: Holds, SamePairs, opened: the walks. -/
namespace Go.Sx
open Go Go.Proofs Go.RowKit
theorem Mm.pm {w0 w : World} {H : List Atom} {b : Nat} {l : List (PK × Value)} (h : Mm w0 H w) (hm : A.pm b l ∈ H) : ∃ es clk, w.heap[b]? = some (.map es clk) ∧ MPl l es clk := by
  obtain ⟨o, h1, es, clk, rfl, h2⟩ : ∃ o, w.heap[b]? = some o ∧ pmP l o := h.all _ hm
  exact ⟨es, clk, h1, h2⟩
/-- A slice of pairs of numbers. -/
def RdP (w : World) (v : Value) (l : List PK) : Prop := ∃ a c, v = .slice a l.length c ∧ l.length ≤ c ∧ (l = [] ∨ ∃ b off, a = some ⟨b, off, none⟩ ∧ ∀ i u, (pcl l)[i]? = some u → w.cell? ⟨b, off + i, none⟩ = some u)
theorem RdP.ext {w w' : World} {v : Value} {l : List PK} (h : RdP w v l) (k : Ext w w') : RdP w' v l := by
  obtain ⟨a, c, h1, h2, h3⟩ := h
  refine ⟨a, c, h1, h2, ?_⟩
  rcases h3 with h3 | ⟨b, off, h4, h5⟩
  · exact .inl h3
  · exact .inr ⟨b, off, h4, fun i u hu => cell_ext k (h5 i u hu)⟩
theorem Mm.grP {w0 w : World} {H : List Atom} {e : TypeId} {a : Option Addr} {c : Nat} {l : List PK} (h : Mm w0 H w) (hm : A.grow e 2 a c l.length (pcl l) ∈ H) : RdP w (.slice a l.length c) l := by
  have hown := h.own hm
  rcases hown.2 with ⟨hv, h2⟩ | ⟨g, cap, cur, hv, hb, hg, hnc, hcm, hcs, ht⟩
  · injection hv with e1 e2 e3
    subst e3
    exact ⟨a, 0, rfl, by omega, .inl (List.eq_nil_of_length_eq_zero h2)⟩
  · cases hv
    exact ⟨_, _, rfl, hnc, .inr ⟨g, 0, rfl, fun i u hu => by rw [Nat.zero_add]; exact ownsRow_cell hown hu⟩⟩
theorem run_eqA (d : Nat) (a b : PK) (w : World) : (Op.equalIn (d + 2) 43 (pkV a) (pkV b)).run Tryz.prog w = .ok (decide (a = b)) w := by
  obtain ⟨a1, a2⟩ := a
  obtain ⟨b1, b2⟩ := b
  have hi : ITy Tryz.prog 3 (.int .i64 0) 1 8 := inferInstance
  have hq : ∀ x y : Int, (Op.equalIn (d + 1) 3 (.int .i64 x) (.int .i64 y)).run Tryz.prog w = .ok (x == y) w := fun x y => by
    simp [Op.equalIn, Sem.run_bind, run_underlying Tryz.underlying3, Result.andThen]
  have h0 := run_partP (w := w) #[zv a1, zv a2] 0 (zv a1) rfl
  have h1 := run_partP (w := w) #[zv a1, zv a2] 1 (zv a2) rfl
  have h2 := run_partP (w := w) #[zv b1, zv b2] 0 (zv b1) rfl
  have h3 := run_partP (w := w) #[zv b1, zv b2] 1 (zv b2) rfl
  have h4 : (Op.equalIn (d + 1) 3 (zv a1) (zv b1)).run Tryz.prog w = .ok (a1 == b1) w := hq a1 b1
  have h5 : (Op.equalIn (d + 1) 3 (zv a2) (zv b2)).run Tryz.prog w = .ok (a2 == b2) w := hq a2 b2
  have hd : decide ((a1, a2) = (b1, b2)) = ((a1 == b1) && (a2 == b2)) := by
    rw [Bool.eq_iff_iff, decide_eq_true_eq, Prod.mk.injEq, Bool.and_eq_true, beq_iff_eq, beq_iff_eq]
  rw [hd]
  generalize (a1 == b1) = u at *
  generalize (a2 == b2) = v at *
  rw [show d + 2 = (d + 1) + 1 from rfl]
  unfold Op.equalIn pkV
  simp only [Sem.run_bind, run_underlying Tryz.underlying43, Result.andThen, run_sizeOf (h := hi)]
  cases u <;> cases v <;> simp [Std.Legacy.Range.forIn_eq_forIn_range', Std.Legacy.Range.size, List.range', Sem.run_bind, Result.andThen, h0, h1, h2, h3, h4, h5]
theorem POp.neqA {N : Nat} {ds : List Deferred} {E : Env} {x y : Operand} {t' ty : TypeId} {a b : PK} (hx : Env.ev E x = some (.agg [zv a.1, zv a.2].toArray)) (hy : Env.ev E y = some (.agg [zv b.1, zv b.2].toArray)) :
    POp Tryz.prog N ds E (.binOp .neq 43 x y t') ty (.bool (!decide (a = b))) :=
  POp.bin hx hy (fun w => run_eqGuard_agg w _ _ _ _ _ _ (by kernel_rfl)) fun w => by
    have h := run_eqA 9998 a b w
    have h2 : (Op.equal 43 (.agg [zv a.1, zv a.2].toArray) (.agg [zv b.1, zv b.2].toArray)).run Tryz.prog w = .ok (decide (a = b)) w := h
    simp only [Go.binOp, Sem.run_bind, h2, Result.andThen, Sem.run_pure]
attribute [local irreducible] WC WL WX POp Then Again Fn NX W1 WA WO QL RP RA Yld LoopAt HC HL HX HN H1 HA HO HQ HB HP A.blk A.grow A.rd A.obj A.mp AgainH CutH
attribute [local irreducible] A.pm A.mx A.mit sumS
theorem samePairs_fn (v u : Value) (l m : List PK) (hl : l.length ≤ 1000000) (hm : m.length ≤ 1000000) (w : World) (hR : RdP w v l) (hS : RdP w u m) :
    Fn Tryz.prog 38 #[v, u] w fun x w' => x = .bool (decide (l = m)) ∧ Ext w w' := by
  obtain ⟨a0, c0, rfl, hc0, hR⟩ := hR
  obtain ⟨a1, c1, rfl, hc1, hS⟩ := hS
  refine enterH (l := [_, _]) rfl Tryz.ntmps38 rfl ?_
  by_cases hlen : l.length = m.length
  rotate_left
  · have h1 : ¬ (l.length : Int) = (m.length : Int) := by omega
    refine hwYI ?_
    exact HX.ret1 rfl rfl fun w' hM => ⟨by rw [decide_eq_false fun h => hlen (by rw [h])], hM.ext⟩
  have h1 : (l.length : Int) = (m.length : Int) := by omega
  have h1' : ¬ ¬ (l.length : Int) = (m.length : Int) := fun h => h h1
  refine hwYI ?_
  refine HC.loop (α := Nat) (fun i => [(0, .slice a0 l.length c0), (1, .slice a1 m.length c1), (5, zv (i : Int))]) (fun _ => []) (fun i => i ≤ l.length ∧ l.take i = m.take i) (fun i => l.length - i) 0 ⟨Nat.zero_le _, rfl⟩ esA (Hs.refl _) ?_
  rintro i ⟨hi, hpre⟩
  by_cases hlt : i < l.length
  · obtain ⟨p, hp⟩ : ∃ p, l[i]? = some p := ⟨_, List.getElem?_eq_getElem hlt⟩
    obtain ⟨q, hq⟩ : ∃ q, m[i]? = some q := ⟨_, List.getElem?_eq_getElem (by omega)⟩
    have t1 : l.take (i + 1) = l.take i ++ [p] := by rw [List.take_add_one, hp]; rfl
    have t2 : m.take (i + 1) = m.take i ++ [q] := by rw [List.take_add_one, hq]; rfl
    have hg := fun j v h => pcl_get hp j v h
    have hg2 := fun j v h => pcl_get hq j v h
    obtain ⟨b0, o0, rfl, hb0⟩ : ∃ b off, a0 = some ⟨b, off, none⟩ ∧ ∀ i u, (pcl l)[i]? = some u → w.cell? ⟨b, off + i, none⟩ = some u := by
      rcases hR with h | h
      · rw [h] at hlt; cases hlt
      · exact h
    obtain ⟨b1, o1, rfl, hb1⟩ : ∃ b off, a1 = some ⟨b, off, none⟩ ∧ ∀ i u, (pcl m)[i]? = some u → w.cell? ⟨b, off + i, none⟩ = some u := by
      rcases hS with h | h
      · rw [h] at hlen; rw [hlen] at hlt; cases hlt
      · exact h
    have hcl : ∀ j u, [zv p.1, zv p.2][j]? = some u → w.cell? ⟨b0, o0 + i * 2 + j, none⟩ = some u := fun j u hu => by rw [Nat.add_assoc]; exact hb0 _ _ (hg j u hu)
    have hcm : ∀ j u, [zv q.1, zv q.2][j]? = some u → w.cell? ⟨b1, o1 + i * 2 + j, none⟩ = some u := fun j u hu => by rw [Nat.add_assoc]; exact hb1 _ _ (hg2 j u hu)
    refine hwYI ?_
    refine HC.cut (α := Unit) (fun _ => [(0, .slice (some ⟨b0, o0, none⟩) l.length c0), (1, .slice (some ⟨b1, o1, none⟩) m.length c1), (5, zv (i : Int)), (25, .bool (!decide (p = q)))]) (fun _ => []) (fun _ => True) ?_ ?_
    · refine HC.any rfl ?_
      refine HA.pa 0 rfl ?_
      refine HA.pa 1 rfl ?_
      refine HA.pa 2 rfl ?_
      refine HA.pa 4 rfl ?_
      refine HA.pa 5 rfl ?_
      refine HA.pa 6 rfl ?_
      refine HA.all [3, 7] (by kernel_rfl) rfl ⟨⟨_, rfl, ?_⟩, ⟨_, rfl, ?_⟩, trivial⟩
      · refine HO.one ?_
        refine H1.ldAggw (vs := [zv p.1, zv p.2]) rfl rfl (fun w' hM j u hu => cell_ext hM.ext (hcl j u hu)) rfl ?_
        apply HA.fold
        refine HA.all [7] (by kernel_rfl) rfl ⟨⟨_, rfl, ?_⟩, trivial⟩
        refine HO.one ?_
        refine H1.ldAggw (vs := [zv q.1, zv q.2]) rfl rfl (fun w' hM j u hu => cell_ext hM.ext (hcm j u hu)) rfl ?_
        apply HA.fold
        refine HA.pa 8 rfl ?_ (POp.neqA rfl rfl)
        refine HA.done (by kernel_rfl) ?_
        exact HX.cut () trivial esA (Hs.refl _)
      · refine HO.one ?_
        refine H1.ldAggw (vs := [zv q.1, zv q.2]) rfl rfl (fun w' hM j u hu => cell_ext hM.ext (hcm j u hu)) rfl ?_
        apply HA.fold
        refine HA.all [3] (by kernel_rfl) rfl ⟨⟨_, rfl, ?_⟩, trivial⟩
        refine HO.one ?_
        refine H1.ldAggw (vs := [zv p.1, zv p.2]) rfl rfl (fun w' hM j u hu => cell_ext hM.ext (hcl j u hu)) rfl ?_
        apply HA.fold
        refine HA.pa 8 rfl ?_ (POp.neqA rfl rfl)
        refine HA.done (by kernel_rfl) ?_
        exact HX.cut () trivial esA (Hs.refl _)
    rintro - -
    by_cases he : p = q
    · subst he
      rw [decide_eq_true rfl]
      refine hwYI ?_
      exact HX.again (i + 1) ⟨hlt, by rw [t1, t2, hpre]⟩ (by show l.length - (i + 1) < l.length - i; omega) esA (Hs.refl _)
    · rw [decide_eq_false he]
      have hne : ¬ l = m := fun h => by
        subst h
        rw [hp] at hq
        exact he (Option.some.inj hq)
      refine hwYI ?_
      exact HX.ret1 rfl rfl fun w' hM => ⟨by rw [decide_eq_false hne], hM.ext⟩
  · obtain rfl : i = l.length := by omega
    have he : l = m := by rw [List.take_length] at hpre; rw [hpre, hlen, List.take_length]
    refine hwYI ?_
    exact HX.ret1 rfl rfl fun w' hM => ⟨by rw [decide_eq_true he], hM.ext⟩
set_option maxHeartbeats 1000000 in
theorem holds27_fn {w0 w : World} {H : List Atom} {bx bm bj : Nat} {m : PM} (hM : Mm w0 (A.blk bx (cuC bm bj) 84 :: A.pm bm (liftP m) :: H) w) (hk : (m.map Prod.fst).Nodup) (hl : m.length ≤ 400000) :
    Fn Tryz.prog 20 #[.pointer (some ⟨bx, 0, none⟩)] w fun v w' => ∃ z : List PK × Option Addr × Nat, SortedP z.1 m ∧ v = .slice z.2.1 z.1.length z.2.2 ∧ Mm w0 (A.grow 43 2 z.2.1 z.2.2 z.1.length (pcl z.1) :: A.blk bx (cuC bm bj) 84 :: A.pm bm (liftP m) :: H) w' := by
  refine enterK (l := [_]) hM rfl Tryz.ntmps20 rfl ?_
  refine hwYI ?_
  refine HL.one (H1.callz (vs := [.map (some bm)]) rfl rfl (fun w' hM => keys27_fn bm w') ?_)
  rintro b1 -
  refine hwYI ?_
  refine HL.one (H1.callz (α := List PK × Option Addr × Nat) (V := fun z => .slice z.2.1 z.1.length z.2.2) (Hn := fun z => [A.grow 76 2 z.2.1 z.2.2 z.1.length (pcl z.1)]) (I := fun z => SortedP z.1 m) (vs := [.func (.func 98) #[] #[.pointer (some ⟨b1, 0, none⟩)], fnW 52]) rfl rfl (fun w' hM => by
    obtain ⟨es, clk, h1, h2⟩ := hM.pm (b := bm) (l := liftP m) memA
    exact sorted27_fn w' ((hM.blk (b := b1) memA).cell rfl) h1 h2 hk hl) ?_)
  rintro ⟨l, a, c⟩ hS
  dsimp only at hS ⊢
  have hll := hS.1.length_eq
  rw [List.length_map] at hll
  refine hbYI ?_
  refine HC.grow0 43 2 ?_
  repeat refine HC.seq ?_
  refine HC.cut (α := Option Addr × Nat) (fun z => [(2, .slice z.1 l.length z.2)]) (fun z => A.grow 43 2 z.1 z.2 l.length (pcl l) :: A.blk bx (cuC bm bj) 84 :: A.pm bm (liftP m) :: H) (fun _ => True) ?_ ?_
  · refine HC.block ?_
    refine HC.loop (α := Nat × Option Addr × Nat) (fun z => [(2, .slice z.2.1 z.1 z.2.2), (12, .slice a l.length c), (13, zv (l.length : Int)), (14, zv (z.1 : Int))])
      (fun z => A.grow 43 2 z.2.1 z.2.2 z.1 (pcl (l.take z.1)) :: A.grow 76 2 a c l.length (pcl l) :: A.blk bx (cuC bm bj) 84 :: A.pm bm (liftP m) :: H) (fun z => z.1 ≤ l.length) (fun z => l.length - z.1) (0, none, 0) (Nat.zero_le _) esA (Hs.cons Pick.here (Hs.cons Pick.here (Hs.cons (Pick.there Pick.here) (Hs.cons (Pick.there Pick.here) (Hs.refl _).skip)))) ?_
    rintro ⟨i, a2, c2⟩ hi
    dsimp only at hi ⊢
    by_cases hlt : i < l.length
    · obtain ⟨p, hp⟩ : ∃ p, l[i]? = some p := ⟨_, List.getElem?_eq_getElem hlt⟩
      have hg := fun j v h => pcl_get hp j v h
      have htk : l.take (i + 1) = l.take i ++ [p] := by rw [List.take_add_one, hp]; rfl
      have hsn := pcl_snoc (l.take i) p
      rw [← htk] at hsn
      refine HC.openg (e := 76) (sz := 2) (a := a) (c := c) (n := l.length) (xs := pcl l) (.tail _ (.head _)) (by omega) ?_
      rintro g rfl
      refine hwYI ?_
      refine HL.one (H1.ldAggw (b := g) (off := i * 2) (vs := [zv p.1, zv p.2]) rfl rfl (fun w' hM j u hu => ownsRow_cell (hM.own (e := 76) (sz := 2) (a := some ⟨g, 0, none⟩) (c := c) (xs := pcl l) (.tail _ (.head _))) (hg j u hu)) rfl ?_)
      refine hwYI ?_
      refine HL.one (H1.alloc (cs := [zv 0, zv 0]) rfl rfl (fun b5 => ?_))
      refine hwYI ?_
      refine HL.one (H1.stAgg (cs := [zv 0, zv 0]) (vs := [zv p.1, zv p.2]) rfl rfl rfl (by intro v hv; rcases List.mem_cons.1 hv with rfl | hv; rfl; rcases List.mem_cons.1 hv with rfl | hv; rfl; cases hv) rplA rfl ?_)
      refine hwYI ?_
      refine HL.build (cs := [zv p.1, zv p.2]) rfl rfl rfl ?_
      refine hwYI ?_
      refine HL.one (H1.lit (cs := [zv p.1, zv p.2]) rfl rfl rfl rfl rfl rfl (fun b9 => ?_))
      refine hwYI ?_
      refine HL.one (H1.app (sz := 2) (news := [zv p.1, zv p.2]) rfl (by decide) rfl rfl (fun _ _ => by first | ((repeat (first | with_reducible exact Rpl.here | with_reducible apply Rpl.there)); done) | (repeat (first | exact Rpl.here | apply Rpl.there))) rfl (fun w' hM j u hj => ?_) (by intro v hv; rcases List.mem_cons.1 hv with rfl | hv; rfl; rcases List.mem_cons.1 hv with rfl | hv; rfl; cases hv) (by omega) (by decide) rfl (fun a' c' hac => ?_))
      · rw [add_lit, Nat.zero_add]; exact (hM.blk (b := b9) memA).cell hj
      rw [show pcl (l.take i) ++ [zv p.1, zv p.2] = pcl (l.take (i + 1)) from hsn]
      refine hwYI ?_
      exact HX.again (i + 1, a', c') hlt (by show l.length - (i + 1) < l.length - i; omega) esA (Hs.cons (Pick.there (Pick.there Pick.here)) (Hs.cons (Pick.there (Pick.there Pick.here)) (Hs.cons (Pick.there (Pick.there Pick.here)) (Hs.cons (Pick.there (Pick.there Pick.here)) (Hs.refl _).skip.skip))))
    · obtain rfl : i = l.length := by omega
      rw [List.take_length]
      refine hwYI ?_
      exact HX.cut (a2, c2) trivial esA (Hs.cons Pick.here (Hs.refl _).skip)
  rintro ⟨a2, c2⟩ -
  dsimp only
  refine hwYI ?_
  exact HX.ret1 rfl rfl fun w' hM => ⟨(l, a2, c2), hS, rfl, hM⟩
end Go.Sx

