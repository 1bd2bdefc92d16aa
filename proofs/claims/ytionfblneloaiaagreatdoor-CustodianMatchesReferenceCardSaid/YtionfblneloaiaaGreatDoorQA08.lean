/- Chapter 27: places in their order, and Holds: the walks. -/
import Derived.Test.YtionfblneloaiaaGreatDoorQA07
namespace Go.Sx
open Go Go.Proofs Go.RowKit
theorem hwYI {G G2 : Prop} (x : G2) (hwq : Hold G2 → G := by
    intro hQq
    repeat' (first | refine HL.pa ?_ (POp.pneN rfl rfl) | refine HL.pa ?_ (POp.pnil1 rfl rfl) | refine HL.pa ?_ (POp.pnil0 rfl rfl) | refine HL.pa ?_ (POp.nilCheck rfl) | apply HL.fold | apply HA.fold | apply HL.nil | apply HX.n_then | apply HC.seq | apply HC.region | refine HL.pa ?_ | refine HL.ga rfl ?_ | refine HL.na rfl ?_ | refine HL.nu rfl rfl ?_ | apply HC.block | apply HC.skip | apply HC.exit | apply HC.ret | apply HX.e_block | refine HX.e_other rfl ?_ | apply HX.e_then | apply HX.e_again | apply HX.n_block | apply HX.r_then | apply HX.r_block | apply HX.r_again | refine HC.cond_yes rfl ?_ | refine HC.cond_no rfl ?_ | refine HL.one (H1.ldb rfl memA rfl rfl ?_) | refine HC.cond rfl (fun hc => ?_) (fun hc => ?_) | refine HC.cond_b rfl (fun hc => ?_) (fun hc => ?_))
    exact hQq.get) : G := hwq ⟨x⟩
theorem hbYI {G G2 : Prop} (x : G2) (hwq : Hold G2 → G := by
    intro hQq
    repeat' (first | refine HL.pa ?_ (POp.pneN rfl rfl) | refine HL.pa ?_ (POp.pnil1 rfl rfl) | refine HL.pa ?_ (POp.pnil0 rfl rfl) | refine HL.pa ?_ (POp.nilCheck rfl) | apply HL.fold | apply HA.fold | apply HL.nil | apply HX.n_then | apply HC.seq | apply HC.region | refine HL.pa ?_ | refine HL.ga rfl ?_ | refine HL.na rfl ?_ | refine HL.nu rfl rfl ?_ | apply HC.skip | apply HC.exit | apply HC.ret | apply HX.e_block | refine HX.e_other rfl ?_ | apply HX.e_then | apply HX.e_again | apply HX.n_block | apply HX.r_then | apply HX.r_block | apply HX.r_again | refine HC.cond_yes rfl ?_ | refine HC.cond_no rfl ?_ | refine HL.one (H1.ldb rfl memA rfl rfl ?_) | refine HC.cond rfl (fun hc => ?_) (fun hc => ?_) | refine HC.cond_b rfl (fun hc => ?_) (fun hc => ?_))
    exact hQq.get) : G := hwq ⟨x⟩
abbrev fnW (f : Nat) : Value := .func (.func f) #[] #[]
def pcells (p : PK) : List Value := [zv p.1, zv p.2]
def pcl (l : List PK) : List Value := l.flatMap pcells
theorem pcells_len (p : PK) : (pcells p).length = 2 := rfl
theorem pcells_one (p : PK) : ∀ v ∈ pcells p, v.oneCell' = true := by
  intro v hv
  rcases List.mem_cons.1 hv with rfl | hv
  · rfl
  rcases List.mem_cons.1 hv with rfl | hv
  · rfl
  · cases hv
theorem pcl_len : ∀ l : List PK, (pcl l).length = l.length * 2
  | [] => rfl
  | p :: l => by
    show (pcells p ++ pcl l).length = (l.length + 1) * 2
    rw [List.length_append, pcl_len l, pcells_len]; omega
theorem pcl_get {l : List PK} : ∀ {j : Nat} {p : PK}, l[j]? = some p → ∀ (i : Nat) (v : Value), (pcells p)[i]? = some v → (pcl l)[j * 2 + i]? = some v := by
  induction l with
  | nil => intro j p h; simp at h
  | cons q l ih =>
    intro j p h i v hv
    show (pcells q ++ pcl l)[j * 2 + i]? = some v
    cases j with
    | zero =>
      simp only [List.getElem?_cons_zero, Option.some.injEq] at h
      subst h
      have hlt := (List.getElem?_eq_some_iff.1 hv).1
      rw [Nat.zero_mul, Nat.zero_add, List.getElem?_append_left hlt]
      exact hv
    | succ j =>
      rw [List.getElem?_append_right (by rw [pcells_len]; omega), pcells_len, show (j + 1) * 2 + i - 2 = j * 2 + i by omega]
      exact ih (by simpa using h) i v hv
theorem pcl_snoc (l : List PK) (p : PK) : pcl l ++ pcells p = pcl (l ++ [p]) := by simp [pcl]
theorem pk_at {l : List PK} {j : Nat} (h : j < l.length) : l[j]? = some l.toArray[j]! := by simp [h]
theorem flatK_pcl (l : List PK) : (Go.Sort.flatK pcells 2 l.toArray).toList = pcl l := by
  apply List.ext_getElem?
  intro t
  have hsz : (Go.Sort.flatK pcells 2 l.toArray).size = l.length * 2 := by simp [Go.Sort.flatK]
  by_cases ht : t < l.length * 2
  · have h1 := Go.Sort.get_flatK pcells 2 l.toArray t (by simpa using ht)
    have hj : t / 2 < l.length := by omega
    have hm : t % 2 < 2 := Nat.mod_lt _ (by decide)
    have h2 : (pcells l.toArray[t / 2]!)[t % 2]? = some (pcells l.toArray[t / 2]!)[t % 2]! := by
      rw [List.getElem!_eq_getElem?_getD, List.getElem?_eq_getElem (by rw [pcells_len]; exact hm)]; rfl
    have h3 := pcl_get (pk_at hj) (t % 2) _ h2
    rw [show t / 2 * 2 + t % 2 = t by omega] at h3
    rw [h3, ← h1]
    have ht' : t < (Go.Sort.flatK pcells 2 l.toArray).size := by omega
    exact arr_at ht'
  · rw [List.getElem?_eq_none (by rw [Array.length_toList, hsz]; omega), List.getElem?_eq_none (by rw [pcl_len]; omega)]
theorem cmpLaysP (blk off size : Nat) (w : World) : CmpLays Tryz.prog 52 #[] pcells 2 cfP blk off size w := fun m os dk _ x y => by
  refine Calls.mono (compare27 x y _) ?_
  rintro e w' ⟨v, rfl, rfl, q, os', hw⟩
  exact ⟨rfl, q, os', hw⟩
theorem sortP_fn {w0 w : World} {H : List Atom} {H' : List PK → List Atom} {a : Option Addr} {c : Nat} {l : List PK} (hM : Mm w0 H w) (hl : l.length ≤ 1000000)
    (hr : ∀ l' : List PK, l'.length = l.length → Rpl (A.grow 76 2 a c l.length (pcl l)) (A.grow 76 2 a c l'.length (pcl l')) H (H' l')) :
    Fn Tryz.prog 97 #[.slice a l.length c, fnW 52] w fun v w' => ∃ l', (l'.Perm l ∧ l'.Pairwise fun x y => ¬ leP y x) ∧ v = .tuple #[] ∧ Mm w0 (H' l') w' := by
  by_cases h0 : l = []
  · subst h0
    refine Calls.mono (AnyF.slices_SortFunc_none Tryz.sortP a c (fnW 52) w) ?_
    rintro e w' ⟨rfl, rfl⟩
    exact ⟨_, rfl, [], ⟨List.Perm.refl _, List.Pairwise.nil⟩, rfl, Rpl.same (hr [] rfl) ▸ hM⟩
  have hne : l.length ≠ 0 := fun e => h0 (List.eq_nil_of_length_eq_zero e)
  have hown := hM.own (hr l rfl).mem
  obtain ⟨b, cur, rfl, hg, hnc, hcm, hcs, htake⟩ : ∃ b cur, a = some ⟨b, 0, none⟩ ∧ w.heap[b]? = some (.cells cur 76 (0, 0)) ∧ l.length ≤ c ∧ c ≤ maxLen ∧ cur.size = c * 2 ∧ cur.toList.take (l.length * 2) = pcl l := by
    rcases hown.2 with ⟨-, h2⟩ | ⟨g, cap, cur, hv, -, hg, hnc, hcm, hcs, ht⟩
    · exact absurd h2 hne
    · cases hv; exact ⟨g, cur, rfl, hg, hnc, hcm, hcs, ht⟩
  have hlt := (Array.getElem?_eq_some_iff.1 hg).1
  have hfs : ∀ l : List PK, (Go.Sort.flatK pcells 2 l.toArray).size = l.length * 2 := fun l => by simp [Go.Sort.flatK]
  have hH : Go.Sort.HoldsK pcells 2 w b 0 l.toArray := fun j hj => by
    rw [hfs] at hj
    have h1 : (pcl l)[j]? = some (Go.Sort.flatK pcells 2 l.toArray)[j]! := by
      rw [← flatK_pcl]
      have hj' : j < (Go.Sort.flatK pcells 2 l.toArray).size := by rw [hfs]; exact hj
      exact arr_at hj'
    rw [Nat.zero_add]
    exact ⟨ownsRow_cell hown h1, by simp [World.frozen?, hg]⟩
  have eg : ∀ args w, (callFunc 52 args).run Tryz.prog w = .ok (.enter 52 args) w := CallOk.run
  have hS := AnyQ.slices_SortFunc Tryz.sortP 2 Tryz.isAgg76 Tryz.sizeOf76 pcells pcells_len pcells_one cfP swoP 52 #[] b 0 c l.toArray w eg (cmpLaysP b 0 _ w) hH hlt (by simp; omega)
  refine Calls.mono hS ?_
  rintro e w' ⟨rfl, d', n, os, hp, hs, rfl⟩
  have hsz : d'.size = l.length := by have := hp.1; simpa using this
  obtain ⟨l', rfl⟩ : ∃ l' : List PK, d' = l'.toArray := ⟨d'.toList, by simp⟩
  have hl' : l'.length = l.length := by simpa using hsz
  have hperm : l'.Perm l := by
    have h1 := hp.2.2
    have e1 : l'.toArray.extract 0 l.toArray.size = l'.toArray := by
      rw [show l.toArray.size = l'.toArray.size by simp [hl']]; exact Array.extract_size
    have e2 : l.toArray.extract 0 l.toArray.size = l.toArray := Array.extract_size
    rw [e1, e2] at h1
    simpa using h1
  have hsort : l'.Pairwise fun x y => ¬ leP y x := by
    refine List.pairwise_iff_getElem.2 fun i j hi hj hij => ?_
    have h1 := hs i j (Nat.zero_le _) hij (by simp; omega)
    rw [ltP, decide_eq_false_iff_not] at h1
    simpa [hi, hj] using h1
  refine ⟨_, rfl, l', ⟨hperm, hsort⟩, rfl, hM.turn (hr l' hl') rfl rfl rfl ?_ (fun k hk hkb => ?_) ?_ (by simp [A.grow, Value.ownBlock]) (fun b' hb' => .inl (by simpa [A.grow, Value.ownBlock] using hb'))⟩
  · simp [sortWorldK, Go.Sort.putRowK, Go.Sort.grow, Go.Sort.putRow, Go.Sort.mapBlock, Go.Sort.ahead]
  · have hkb' : ¬ b = k := fun e => hkb (by subst e; simp [A.grow, Value.ownBlock])
    have hs1 : (Go.Sort.putRow id (Go.Sort.ahead w n) b 0 (Go.Sort.flatK pcells 2 l'.toArray)).heap.size = w.heap.size := by simp [Go.Sort.putRow, Go.Sort.mapBlock, Go.Sort.ahead]
    show ((Go.Sort.putRow id (Go.Sort.ahead w n) b 0 (Go.Sort.flatK pcells 2 l'.toArray)).heap ++ os)[k]? = _
    rw [Array.getElem?_append, if_pos (by rw [hs1]; exact hk)]
    show (w.heap.modify b _)[k]? = _
    rw [Array.getElem?_modify, if_neg hkb']
  · rw [hl']
    refine ⟨by rw [pcl_len, hl'], .inr ⟨b, c, Go.Sort.putCells id 0 (Go.Sort.flatK pcells 2 l'.toArray) cur, rfl, Nat.zero_le _, ?_, hnc, hcm, by simp [Go.Sort.putCells, hcs], ?_⟩⟩
    · have hm : (Go.Sort.putRow id (Go.Sort.ahead w n) b 0 (Go.Sort.flatK pcells 2 l'.toArray)).heap[b]? = some (.cells (Go.Sort.putCells id 0 (Go.Sort.flatK pcells 2 l'.toArray) cur) 76 (0, 0)) := by
        simp [Go.Sort.putRow, Go.Sort.mapBlock, Go.Sort.ahead, Array.getElem?_modify, hg, Go.Sort.onCells]
      have hs1 : (Go.Sort.putRow id (Go.Sort.ahead w n) b 0 (Go.Sort.flatK pcells 2 l'.toArray)).heap.size = w.heap.size := by simp [Go.Sort.putRow, Go.Sort.mapBlock, Go.Sort.ahead]
      show ((Go.Sort.putRow id (Go.Sort.ahead w n) b 0 (Go.Sort.flatK pcells 2 l'.toArray)).heap ++ os)[b]? = _
      rw [Array.getElem?_append, if_pos (by rw [hs1]; exact hlt), hm]
    · have h1 := putCells_id (Go.Sort.flatK pcells 2 l'.toArray) cur (by rw [hfs, hcs, hl']; exact Nat.mul_le_mul_right _ hnc)
      rw [hfs, hl', flatK_pcl] at h1
      exact h1
end Go.Sx
namespace Go.Sx
open Go Go.Proofs Go.RowKit
/-- The keys that were handed out, and the stamps that were seen. -/
structure KeysI (m : PM) (es : Array MapEntry) (seen : Array Nat) (ks : List PK) : Prop where
  nd : ks.Nodup
  sub : ∀ k ∈ ks, k ∈ m.map Prod.fst
  vis : ∀ e ∈ es.toList, e.born ∈ seen → ∀ k, e.key = pkV k → k ∈ ks
  back : ∀ k ∈ ks, ∃ e ∈ es.toList, e.key = pkV k ∧ e.born ∈ seen
theorem nodup_len : ∀ {l m : List PK}, l.Nodup → (∀ x ∈ l, x ∈ m) → l.length ≤ m.length
  | [], _, _, _ => Nat.zero_le _
  | a :: l, m, h, hs => by
    rw [List.nodup_cons] at h
    have h1 := nodup_len (m := m.erase a) h.2 fun x hx => (List.mem_erase_of_ne (fun (e : x = a) => h.1 (by rw [← e]; exact hx))).2 (hs x (List.mem_cons_of_mem _ hx))
    rw [List.length_erase_of_mem (hs a (List.mem_cons_self ..))] at h1
    have h2 := List.length_pos_of_mem (hs a (List.mem_cons_self ..))
    rw [List.length_cons]; omega
theorem perm_of_nodup {l m : List PK} (h1 : l.Nodup) (h2 : m.Nodup) (h : ∀ x, x ∈ l ↔ x ∈ m) : l.Perm m := by
  rw [List.perm_iff_count]
  intro a
  rw [h1.count, h2.count]
  by_cases ha : a ∈ l
  · rw [if_pos ha, if_pos ((h a).1 ha)]
  · rw [if_neg ha, if_neg fun hm => ha ((h a).2 hm)]
attribute [local irreducible] WC WL WX POp Then Again Fn NX W1 WA WO QL RP RA Yld LoopAt HC HL HX HN H1 HA HO HQ HB HP A.blk A.grow A.rd A.obj A.mp AgainH CutH
attribute [local irreducible] A.pm A.mx A.mit sumS A.dfr A.loop
theorem keys27_fn (bm : Nat) (w : World) : Fn Tryz.prog 51 #[.map (some bm)] w fun u w' => ∃ b1 : Nat, True ∧ u = .func (.func 98) #[] #[.pointer (some ⟨b1, 0, none⟩)] ∧ Mm w [A.blk b1 [.map (some bm)] 81] w' := by
  refine enterH (l := [_]) rfl Tryz.ntmps51 rfl ?_
  refine hwYI ?_
  refine HL.one (H1.box rfl rfl rfl (fun b1 => ?_))
  refine hwYI ?_
  exact HX.ret1 rfl rfl fun w' hM => ⟨b1, trivial, rfl, hM⟩
set_option maxHeartbeats 1000000 in
theorem keys1_fn {w0 : World} {K0 K1 : Atom} {b1 b2 bm lp clk : Nat} {es : Array MapEntry} {m : PM} (hb : w0.cell? ⟨b1, 0, none⟩ = some (.map (some bm))) (hmap : w0.heap[bm]? = some (.map es clk)) (hms : MPl (liftP m) es clk) (hk : (m.map Prod.fst).Nodup)
    (hy : ∀ R (ks : List PK) (p : PK) (z : Option Addr × Nat), ks.length < m.length → ∀ w, Mm w0 (K0 :: K1 :: A.blk b2 [.slice z.1 ks.length z.2] 90 :: A.grow 76 2 z.1 z.2 ks.length (pcl ks) :: R) w →
      Yld Tryz.prog lp [pkV p] w fun b w' => b = true ∧ ∃ z' : Option Addr × Nat, True ∧ Mm w0 (K0 :: K1 :: A.blk b2 [.slice z'.1 (ks ++ [p]).length z'.2] 90 :: A.grow 76 2 z'.1 z'.2 (ks ++ [p]).length (pcl (ks ++ [p])) :: R) w') :
    ∀ w, Mm w0 (K0 :: K1 :: A.blk b2 [.slice none 0 0] 90 :: A.grow 76 2 none 0 0 [] :: []) w →
      Fn Tryz.prog 98 (.func (.yield lp) #[] #[] :: [.pointer (some ⟨b1, 0, none⟩)]).toArray w fun _ w' => ∃ z : List PK × Option Addr × Nat, z.1.Perm (m.map Prod.fst) ∧ Mm w0 (K0 :: K1 :: A.blk b2 [.slice z.2.1 z.1.length z.2.2] 90 :: A.grow 76 2 z.2.1 z.2.2 z.1.length (pcl z.1) :: []) w' := by
  intro w hM
  have hmw : ∀ {H} {w' : World}, Mm w0 H w' → w'.heap[bm]? = some (.map es clk) := fun hM' => by
    rw [hM'.ext.block bm (Array.getElem?_eq_some_iff.1 hmap).1]; exact hmap
  refine enterK (l := [_, _]) hM rfl Tryz.ntmps98 rfl ?_
  refine hwYI ?_
  refine HL.one (H1.ld0 rfl hb rfl ?_)
  refine hwYI ?_
  refine HL.one (H1.mqrange (es := es) (clk := clk) rfl (fun w' hM => hmw hM) rfl (fun it => ?_))
  refine hwYI ?_
  refine HC.loop (α := Array Nat × List PK × Option Addr × Nat) (fun _ => [(0, .func (.yield lp) #[] #[]), (5, .pointer (some ⟨it, 0, none⟩))])
    (fun z => K0 :: K1 :: A.blk b2 [.slice z.2.2.1 z.2.1.length z.2.2.2] 90 :: A.grow 76 2 z.2.2.1 z.2.2.2 z.2.1.length (pcl z.2.1) :: [A.mit it bm clk z.1]) (fun z => KeysI m es z.1 z.2.1) (fun z => mleft es z.1) (#[], [], (none, 0)) ⟨List.nodup_nil, (fun _ h => by cases h), fun e _ hs => absurd hs (by simp), fun _ h => by cases h⟩ esA (Hs.cons (Pick.there Pick.here) (Hs.cons (Pick.there Pick.here) (Hs.cons (Pick.there Pick.here) (Hs.cons (Pick.there Pick.here) (Hs.refl _))))) ?_
  rintro ⟨seen, ks, z⟩ hI
  dsimp only at hI ⊢
  refine hwYI ?_
  refine HL.one (H1.mqnext (H' := fun s => K0 :: K1 :: A.blk b2 [.slice z.1 ks.length z.2] 90 :: A.grow 76 2 z.1 z.2 ks.length (pcl ks) :: [A.mit it bm clk s]) rfl (fun w' hM => hmw hM) hms.born (fun s => Rpl.there (Rpl.there (Rpl.there (Rpl.there Rpl.here)))) rfl (fun hall => ?_) (fun e he hne => ?_))
  · refine hwYI ?_
    refine HX.end0 rfl fun w' hM => ⟨(ks, z), perm_of_nodup hI.nd hk fun x => ⟨hI.sub x, fun hx => ?_⟩, hM.sub (Hs.cons Pick.here (Hs.cons Pick.here (Hs.cons Pick.here (Hs.cons Pick.here (Hs.refl _).skip))))⟩
    obtain ⟨p, hp, rfl⟩ := List.mem_map.1 hx
    obtain ⟨e, he, h1, -⟩ := hms.of (List.mem_map.2 ⟨p, hp, rfl⟩)
    exact hI.vis e he (hall e he) p.1 h1
  obtain ⟨q, hq, hkey, hval⟩ := hms.ent he
  obtain ⟨p, hp, rfl⟩ := List.mem_map.1 hq
  dsimp only at hkey hval
  have hnew : p.1 ∉ ks := fun h => by
    obtain ⟨e', he', h1, h2⟩ := hI.back p.1 h
    have : e' = e := by
      have k1 : (es.toList.map fun e => (e.key, e.val)) = (liftP m).map fun p => (pkV p.1, p.2) := hms.ents
      obtain ⟨i, hi⟩ := List.mem_iff_getElem?.1 he
      obtain ⟨j, hj⟩ := List.mem_iff_getElem?.1 he'
      have n1 : (m.map Prod.fst)[i]? = some p.1 := by
        have := congrArg (fun l => l[i]?) k1
        simp only [List.getElem?_map, hi, Option.map_some] at this
        cases hm : m[i]? with
        | none => unfold liftP at this; rw [List.getElem?_map, hm] at this; cases this
        | some x =>
          unfold liftP at this
          rw [List.getElem?_map, hm] at this
          simp only [Option.map_some, Option.some.injEq, Prod.mk.injEq] at this
          rw [hkey] at this
          rw [List.getElem?_map, hm, Option.map_some, pkV_inj this.1]
      have n2 : (m.map Prod.fst)[j]? = some p.1 := by
        have := congrArg (fun l => l[j]?) k1
        simp only [List.getElem?_map, hj, Option.map_some] at this
        cases hm : m[j]? with
        | none => unfold liftP at this; rw [List.getElem?_map, hm] at this; cases this
        | some x =>
          unfold liftP at this
          rw [List.getElem?_map, hm] at this
          simp only [Option.map_some, Option.some.injEq, Prod.mk.injEq] at this
          rw [h1] at this
          rw [List.getElem?_map, hm, Option.map_some, pkV_inj this.1]
      have hlt : i < (m.map Prod.fst).length := (List.getElem?_eq_some_iff.1 n1).1
      have e2 := (List.getElem?_inj hlt hk).1 (n1.trans n2.symm)
      subst e2
      rw [hi] at hj
      exact (Option.some.inj hj).symm
    subst this
    exact hne h2
  have hin : p.1 ∈ m.map Prod.fst := List.mem_map.2 ⟨p, hp, rfl⟩
  have hlen : ks.length < m.length := by
    have h1 : (ks ++ [p.1]).Nodup := by
      refine List.nodup_append.2 ⟨hI.nd, by simp, fun a ha c hc e => ?_⟩
      rw [List.mem_singleton] at hc
      subst hc; subst e; exact hnew ha
    have h2 : ∀ x ∈ ks ++ [p.1], x ∈ m.map Prod.fst := fun x hx => by
      rcases List.mem_append.1 hx with hx | hx
      · exact hI.sub x hx
      · rw [List.mem_singleton] at hx; rw [hx]; exact hin
    have h3 := nodup_len h1 h2
    rw [List.length_append, List.length_map] at h3
    exact h3
  rw [hkey, hval]
  refine hwYI ?_
  refine HL.one (H1.mqentry (e := e) rfl (fun w' hM => hmw hM) he hms.nd (.tail _ (.tail _ (.tail _ (.tail _ (.head _))))) rfl ?_)
  rw [hkey, hval, pkV_cells]
  refine hwYI ?_
  refine HL.one (H1.alloc (cs := [zv 0, zv 0]) rfl rfl (fun b5 => ?_))
  refine hwYI ?_
  refine HL.one (H1.stAgg (cs := [zv 0, zv 0]) (vs := [zv p.1.1, zv p.1.2]) rfl rfl rfl (by intro v hv; rcases List.mem_cons.1 hv with rfl | hv; rfl; rcases List.mem_cons.1 hv with rfl | hv; rfl; cases hv) rplA rfl ?_)
  refine hwYI ?_
  refine HL.one (H1.ldAgg (vs := [zv p.1.1, zv p.1.2]) rfl memA rfl (fun i v hv => by rw [Nat.zero_add]; exact hv) rfl ?_)
  refine hwYI ?_
  refine HL.mem (K0 :: K1 :: A.blk b2 [.slice z.1 ks.length z.2] 90 :: A.grow 76 2 z.1 z.2 ks.length (pcl ks) :: [A.mit it bm clk (seen.push e.born)]) (Hs.refl _).skip ?_
  refine HL.one (H1.yield (vs := [pkV p.1]) rfl rfl rfl (hy [A.mit it bm clk (seen.push e.born)] ks p.1 z hlen) ?_)
  rintro z' -
  refine hwYI ?_
  refine HX.again (seen.push e.born, ks ++ [p.1], z') ⟨?_, fun k hk' => ?_, fun e' he' hs' k hk' => ?_, fun k hk' => ?_⟩ (mleft_lt he hne) esA (Hs.refl _)
  · refine List.nodup_append.2 ⟨hI.nd, by simp, fun a ha c hc e => ?_⟩
    rw [List.mem_singleton] at hc
    subst hc; subst e; exact hnew ha
  · rcases List.mem_append.1 hk' with hx | hx
    · exact hI.sub k hx
    · rw [List.mem_singleton] at hx; rw [hx]; exact hin
  · rcases Array.mem_push.1 hs' with h1 | h1
    · exact List.mem_append_left _ (hI.vis e' he' h1 k hk')
    · have e1 : e' = e := stamp_inj hms.nd he' he h1
      subst e1
      rw [hkey] at hk'
      exact List.mem_append_right _ (by rw [pkV_inj hk']; exact List.mem_singleton.2 rfl)
  · rcases List.mem_append.1 hk' with hx | hx
    · obtain ⟨e', h1, h2, h3⟩ := hI.back k hx
      exact ⟨e', h1, h2, Array.mem_push.2 (.inl h3)⟩
    · rw [List.mem_singleton] at hx
      subst hx
      exact ⟨e, he, hkey, Array.mem_push.2 (.inr rfl)⟩
set_option maxHeartbeats 1000000 in
theorem appendSeq27_fn {b1 bm clk : Nat} {es : Array MapEntry} {m : PM} (w : World) (hb : w.cell? ⟨b1, 0, none⟩ = some (.map (some bm))) (hmap : w.heap[bm]? = some (.map es clk)) (hms : MPl (liftP m) es clk) (hk : (m.map Prod.fst).Nodup) (hl : m.length ≤ 400000) :
    Fn Tryz.prog 154 #[.slice none 0 0, .func (.func 98) #[] #[.pointer (some ⟨b1, 0, none⟩)]] w fun u w' => ∃ z : List PK × Option Addr × Nat, z.1.Perm (m.map Prod.fst) ∧ u = .slice z.2.1 z.1.length z.2.2 ∧ Mm w [A.grow 76 2 z.2.1 z.2.2 z.1.length (pcl z.1)] w' := by
  refine enterMH (l := [_, _]) rfl Tryz.ntmps154 rfl ?_
  refine hwYI ?_
  refine HL.one (H1.box rfl rfl rfl (fun b2 => ?_))
  refine hwYI ?_
  refine HC.grow0 76 2 ?_
  refine HC.sub [(2, .pointer (some ⟨b2, 0, none⟩)), (6, .func (.func 98) #[] #[.pointer (some ⟨b1, 0, none⟩)])] [A.blk b2 [.slice none 0 0] 90, A.grow 76 2 none 0 0 []] ?_ esA (Hs.cons (Pick.there Pick.here) (Hs.cons Pick.here (Hs.nil _)))
  refine HC.rangeFunc (α := List PK × Option Addr × Nat) (lb := [.pointer (some ⟨b1, 0, none⟩)]) (fun z => [A.blk b2 [.slice z.2.1 z.1.length z.2.2] 90, A.grow 76 2 z.2.1 z.2.2 z.1.length (pcl z.1)]) (fun z => z.1.Perm (m.map Prod.fst)) rfl ?_ ?_
  · intro D lp L hL w1 hM1
    refine (keys1_fn (b2 := b2) (m := m) hb hmap hms hk ?_ w1 hM1).mono fun v w2 h => ?_
    · rintro R ks p ⟨aq, cq⟩ hlt
      dsimp only
      have hsn := pcl_snoc ks p
      refine Yld.ofH hL memA rfl rfl ?_
      dsimp only [List.zip_cons_cons, List.zip_nil_right, putAll]
      rw [pkV_cells]
      refine hwYI ?_
      refine HL.one (H1.alloc (cs := [zv 0, zv 0]) rfl rfl (fun b5 => ?_))
      refine hwYI ?_
      refine HL.one (H1.stAgg (cs := [zv 0, zv 0]) (vs := [zv p.1, zv p.2]) rfl rfl rfl (by intro v hv; rcases List.mem_cons.1 hv with rfl | hv; rfl; rcases List.mem_cons.1 hv with rfl | hv; rfl; cases hv) rplA rfl ?_)
      refine hwYI ?_
      refine HX.ra hL rplA ?_
      refine hwYI ?_
      refine HL.one (H1.ldAgg (vs := [zv p.1, zv p.2]) rfl memA rfl (fun i v hv => by rw [Nat.zero_add]; exact hv) rfl ?_)
      refine hwYI ?_
      refine HL.one (H1.lit (cs := [zv p.1, zv p.2]) rfl rfl rfl rfl rfl rfl (fun b9 => ?_))
      refine hwYI ?_
      refine HL.one (H1.app (sz := 2) (news := [zv p.1, zv p.2]) rfl (by decide) rfl rfl (fun _ _ => by first | ((repeat (first | with_reducible exact Rpl.here | with_reducible apply Rpl.there)); done) | (repeat (first | exact Rpl.here | apply Rpl.there))) rfl (fun w' hM j u hj => ?_) (by intro v hv; rcases List.mem_cons.1 hv with rfl | hv; rfl; rcases List.mem_cons.1 hv with rfl | hv; rfl; cases hv) (by omega) (by decide) rfl (fun a' c' hac => ?_))
      · rw [add_lit, Nat.zero_add]; exact (hM.blk (b := b9) memA).cell hj
      rw [show pcl ks ++ [zv p.1, zv p.2] = pcl (ks ++ [p]) from hsn, show ks.length + 1 = (ks ++ [p]).length from by rw [List.length_append]; rfl]
      refine hwYI ?_
      refine HL.one (H1.st (b := b2) rfl rfl (by intro _ h; cases h) (by intro _ h; cases h) rplA (by exact Nat.zero_lt_one) ?_)
      refine hwYI ?_
      refine HX.rp_n hL rplA fun w' hM => ⟨rfl, (a', c'), trivial, ?_⟩
      exact hM.sub (Hs.refl _).skip.skip
    · obtain ⟨⟨ks, z⟩, h1, h2⟩ := h
      exact ⟨(ks, z), h1, h2⟩
  · rintro D ⟨ks, az, cz⟩ hp
    dsimp only at hp ⊢
    refine hwYI ?_
    exact HX.retM1 rfl rfl Pick.here fun w' hM => ⟨(ks, az, cz), hp, rfl, hM.tail⟩
theorem collect27_fn {b1 bm clk : Nat} {es : Array MapEntry} {m : PM} (w : World) (hb : w.cell? ⟨b1, 0, none⟩ = some (.map (some bm))) (hmap : w.heap[bm]? = some (.map es clk)) (hms : MPl (liftP m) es clk) (hk : (m.map Prod.fst).Nodup) (hl : m.length ≤ 400000) :
    Fn Tryz.prog 96 #[.func (.func 98) #[] #[.pointer (some ⟨b1, 0, none⟩)]] w fun u w' => ∃ z : List PK × Option Addr × Nat, z.1.Perm (m.map Prod.fst) ∧ u = .slice z.2.1 z.1.length z.2.2 ∧ Mm w [A.grow 76 2 z.2.1 z.2.2 z.1.length (pcl z.1)] w' := by
  refine enterH (l := [_]) rfl Tryz.ntmps96 rfl ?_
  refine hwYI ?_
  refine HL.one (H1.callz (vs := [.slice none 0 0, .func (.func 98) #[] #[.pointer (some ⟨b1, 0, none⟩)]]) rfl rfl (fun w' hM => appendSeq27_fn w' (cell_ext hM.ext hb) (by rw [hM.ext.block bm (Array.getElem?_eq_some_iff.1 hmap).1]; exact hmap) hms hk hl) ?_)
  rintro ⟨ks, a2, c2⟩ hp
  dsimp only
  refine hwYI ?_
  exact HX.ret1 rfl rfl fun w' hM => ⟨(ks, a2, c2), hp, rfl, hM⟩
/-- Places in their order. -/
def SortedP (l : List PK) (m : PM) : Prop := l.Perm (m.map Prod.fst) ∧ l.Pairwise fun x y => ¬ leP y x
theorem sorted27_fn {b1 bm clk : Nat} {es : Array MapEntry} {m : PM} (w : World) (hb : w.cell? ⟨b1, 0, none⟩ = some (.map (some bm))) (hmap : w.heap[bm]? = some (.map es clk)) (hms : MPl (liftP m) es clk) (hk : (m.map Prod.fst).Nodup) (hl : m.length ≤ 400000) :
    Fn Tryz.prog 50 #[.func (.func 98) #[] #[.pointer (some ⟨b1, 0, none⟩)], fnW 52] w fun u w' => ∃ z : List PK × Option Addr × Nat, SortedP z.1 m ∧ u = .slice z.2.1 z.1.length z.2.2 ∧ Mm w [A.grow 76 2 z.2.1 z.2.2 z.1.length (pcl z.1)] w' := by
  refine enterH (l := [_, _]) rfl Tryz.ntmps50 rfl ?_
  refine hwYI ?_
  refine HL.one (H1.callz (vs := [.func (.func 98) #[] #[.pointer (some ⟨b1, 0, none⟩)]]) rfl rfl (fun w' hM => collect27_fn w' (cell_ext hM.ext hb) (by rw [hM.ext.block bm (Array.getElem?_eq_some_iff.1 hmap).1]; exact hmap) hms hk hl) ?_)
  rintro ⟨ks, a2, c2⟩ hp
  dsimp only at hp ⊢
  have hkl := hp.length_eq
  rw [List.length_map] at hkl
  refine hwYI ?_
  refine HL.one (H1.callk (α := List PK) (V := fun _ => .tuple #[]) (I := fun l => l.Perm ks ∧ l.Pairwise fun x y => ¬ leP y x) (H' := fun l => [A.grow 76 2 a2 c2 l.length (pcl l)]) (vs := [.slice a2 ks.length c2, fnW 52]) rfl rfl
    (fun w' hM => sortP_fn hM (by omega) (fun l' hl' => Rpl.here)) ?_)
  rintro l' ⟨hp2, hs2⟩
  have hll := hp2.length_eq
  rw [← hll]
  refine hwYI ?_
  exact HX.ret1 rfl rfl fun w' hM => ⟨(l', a2, c2), ⟨hp2.trans hp, hs2⟩, rfl, hM⟩
end Go.Sx
/- Chapter 27: Holds, SamePairs, opened: the walks. -/
namespace Go.Sx
open Go Go.Proofs Go.RowKit
theorem Mm.pm {w0 w : World} {H : List Atom} {b : Nat} {l : List (PK × Value)} (h : Mm w0 H w) (hm : A.pm b l ∈ H) : ∃ es clk, w.heap[b]? = some (.map es clk) ∧ MPl l es clk := by
  obtain ⟨o, h1, es, clk, rfl, h2⟩ : ∃ o, w.heap[b]? = some o ∧ pmP l o := h.all _ hm
  exact ⟨es, clk, h1, h2⟩
/-- A slice of pairs of numbers. -/
def RdP (w : World) (v : Value) (l : List PK) : Prop := ∃ a c, v = .slice a l.length c ∧ l.length ≤ c ∧ (l = [] ∨ ∃ b off, a = some ⟨b, off, none⟩ ∧ ∀ i u, (pcl l)[i]? = some u → w.cell? ⟨b, off + i, none⟩ = some u)
theorem Mm.grP {w0 w : World} {H : List Atom} {e : TypeId} {a : Option Addr} {c : Nat} {l : List PK} (h : Mm w0 H w) (hm : A.grow e 2 a c l.length (pcl l) ∈ H) : RdP w (.slice a l.length c) l := by
  have hown := h.own hm
  rcases hown.2 with ⟨hv, h2⟩ | ⟨g, cap, cur, hv, hb, hg, hnc, hcm, hcs, ht⟩
  · injection hv with e1 e2 e3
    subst e3
    exact ⟨a, 0, rfl, by omega, .inl (List.eq_nil_of_length_eq_zero h2)⟩
  · cases hv
    exact ⟨_, _, rfl, hnc, .inr ⟨g, 0, rfl, fun i u hu => by rw [Nat.zero_add]; exact ownsRow_cell hown hu⟩⟩
theorem run_eqA (d : Nat) (a b : PK) (w : World) : (Op.equalIn (d + 2) 43 (pkV a) (pkV b)).run Tryz.prog w = .ok (decide (a = b)) w := by
  obtain ⟨a1, a2⟩ := a
  obtain ⟨b1, b2⟩ := b
  have hi : ITy Tryz.prog 3 (.int .i64 0) 1 8 := inferInstance
  have hq : ∀ x y : Int, (Op.equalIn (d + 1) 3 (.int .i64 x) (.int .i64 y)).run Tryz.prog w = .ok (x == y) w := fun x y => by
    simp [Op.equalIn, Sem.run_bind, run_underlying Tryz.underlying3, Result.andThen]
  have h0 := run_partP (w := w) #[zv a1, zv a2] 0 (zv a1) rfl
  have h1 := run_partP (w := w) #[zv a1, zv a2] 1 (zv a2) rfl
  have h2 := run_partP (w := w) #[zv b1, zv b2] 0 (zv b1) rfl
  have h3 := run_partP (w := w) #[zv b1, zv b2] 1 (zv b2) rfl
  have h4 : (Op.equalIn (d + 1) 3 (zv a1) (zv b1)).run Tryz.prog w = .ok (a1 == b1) w := hq a1 b1
  have h5 : (Op.equalIn (d + 1) 3 (zv a2) (zv b2)).run Tryz.prog w = .ok (a2 == b2) w := hq a2 b2
  have hd : decide ((a1, a2) = (b1, b2)) = ((a1 == b1) && (a2 == b2)) := by
    rw [Bool.eq_iff_iff, decide_eq_true_eq, Prod.mk.injEq, Bool.and_eq_true, beq_iff_eq, beq_iff_eq]
  rw [hd]
  generalize (a1 == b1) = u at *
  generalize (a2 == b2) = v at *
  rw [show d + 2 = (d + 1) + 1 from rfl]
  unfold Op.equalIn pkV
  simp only [Sem.run_bind, run_underlying Tryz.underlying43, Result.andThen, run_sizeOf (h := hi)]
  cases u <;> cases v <;> simp [Std.Legacy.Range.forIn_eq_forIn_range', Std.Legacy.Range.size, List.range', Sem.run_bind, Result.andThen, h0, h1, h2, h3, h4, h5]
theorem POp.neqA {N : Nat} {ds : List Deferred} {E : Env} {x y : Operand} {t' ty : TypeId} {a b : PK} (hx : Env.ev E x = some (.agg [zv a.1, zv a.2].toArray)) (hy : Env.ev E y = some (.agg [zv b.1, zv b.2].toArray)) :
    POp Tryz.prog N ds E (.binOp .neq 43 x y t') ty (.bool (!decide (a = b))) :=
  POp.bin hx hy (fun w => run_eqGuard_agg w _ _ _ _ _ _ (by kernel_rfl)) fun w => by
    have h := run_eqA 9998 a b w
    have h2 : (Op.equal 43 (.agg [zv a.1, zv a.2].toArray) (.agg [zv b.1, zv b.2].toArray)).run Tryz.prog w = .ok (decide (a = b)) w := h
    simp only [Go.binOp, Sem.run_bind, h2, Result.andThen, Sem.run_pure]
attribute [local irreducible] WC WL WX POp Then Again Fn NX W1 WA WO QL RP RA Yld LoopAt HC HL HX HN H1 HA HO HQ HB HP A.blk A.grow A.rd A.obj A.mp AgainH CutH
attribute [local irreducible] A.pm A.mx A.mit sumS
theorem samePairs_fn (v u : Value) (l m : List PK) (hl : l.length ≤ 1000000) (hm : m.length ≤ 1000000) (w : World) (hR : RdP w v l) (hS : RdP w u m) :
    Fn Tryz.prog 38 #[v, u] w fun x w' => x = .bool (decide (l = m)) ∧ Ext w w' := by
  obtain ⟨a0, c0, rfl, hc0, hR⟩ := hR
  obtain ⟨a1, c1, rfl, hc1, hS⟩ := hS
  refine enterH (l := [_, _]) rfl Tryz.ntmps38 rfl ?_
  by_cases hlen : l.length = m.length
  rotate_left
  · have h1 : ¬ (l.length : Int) = (m.length : Int) := by omega
    refine hwYI ?_
    exact HX.ret1 rfl rfl fun w' hM => ⟨by rw [decide_eq_false fun h => hlen (by rw [h])], hM.ext⟩
  have h1 : (l.length : Int) = (m.length : Int) := by omega
  have h1' : ¬ ¬ (l.length : Int) = (m.length : Int) := fun h => h h1
  refine hwYI ?_
  refine HC.loop (α := Nat) (fun i => [(0, .slice a0 l.length c0), (1, .slice a1 m.length c1), (5, zv (i : Int))]) (fun _ => []) (fun i => i ≤ l.length ∧ l.take i = m.take i) (fun i => l.length - i) 0 ⟨Nat.zero_le _, rfl⟩ esA (Hs.refl _) ?_
  rintro i ⟨hi, hpre⟩
  by_cases hlt : i < l.length
  · obtain ⟨p, hp⟩ : ∃ p, l[i]? = some p := ⟨_, List.getElem?_eq_getElem hlt⟩
    obtain ⟨q, hq⟩ : ∃ q, m[i]? = some q := ⟨_, List.getElem?_eq_getElem (by omega)⟩
    have t1 : l.take (i + 1) = l.take i ++ [p] := by rw [List.take_add_one, hp]; rfl
    have t2 : m.take (i + 1) = m.take i ++ [q] := by rw [List.take_add_one, hq]; rfl
    have hg := fun j v h => pcl_get hp j v h
    have hg2 := fun j v h => pcl_get hq j v h
    obtain ⟨b0, o0, rfl, hb0⟩ : ∃ b off, a0 = some ⟨b, off, none⟩ ∧ ∀ i u, (pcl l)[i]? = some u → w.cell? ⟨b, off + i, none⟩ = some u := by
      rcases hR with h | h
      · rw [h] at hlt; cases hlt
      · exact h
    obtain ⟨b1, o1, rfl, hb1⟩ : ∃ b off, a1 = some ⟨b, off, none⟩ ∧ ∀ i u, (pcl m)[i]? = some u → w.cell? ⟨b, off + i, none⟩ = some u := by
      rcases hS with h | h
      · rw [h] at hlen; rw [hlen] at hlt; cases hlt
      · exact h
    have hcl : ∀ j u, [zv p.1, zv p.2][j]? = some u → w.cell? ⟨b0, o0 + i * 2 + j, none⟩ = some u := fun j u hu => by rw [Nat.add_assoc]; exact hb0 _ _ (hg j u hu)
    have hcm : ∀ j u, [zv q.1, zv q.2][j]? = some u → w.cell? ⟨b1, o1 + i * 2 + j, none⟩ = some u := fun j u hu => by rw [Nat.add_assoc]; exact hb1 _ _ (hg2 j u hu)
    refine hwYI ?_
    refine HC.cut (α := Unit) (fun _ => [(0, .slice (some ⟨b0, o0, none⟩) l.length c0), (1, .slice (some ⟨b1, o1, none⟩) m.length c1), (5, zv (i : Int)), (25, .bool (!decide (p = q)))]) (fun _ => []) (fun _ => True) ?_ ?_
    · refine HC.any rfl ?_
      refine HA.pa 0 rfl ?_
      refine HA.pa 1 rfl ?_
      refine HA.pa 2 rfl ?_
      refine HA.pa 4 rfl ?_
      refine HA.pa 5 rfl ?_
      refine HA.pa 6 rfl ?_
      refine HA.all [3, 7] (by kernel_rfl) rfl ⟨⟨_, rfl, ?_⟩, ⟨_, rfl, ?_⟩, trivial⟩
      · refine HO.one ?_
        refine H1.ldAggw (vs := [zv p.1, zv p.2]) rfl rfl (fun w' hM j u hu => cell_ext hM.ext (hcl j u hu)) rfl ?_
        apply HA.fold
        refine HA.all [7] (by kernel_rfl) rfl ⟨⟨_, rfl, ?_⟩, trivial⟩
        refine HO.one ?_
        refine H1.ldAggw (vs := [zv q.1, zv q.2]) rfl rfl (fun w' hM j u hu => cell_ext hM.ext (hcm j u hu)) rfl ?_
        apply HA.fold
        refine HA.pa 8 rfl ?_ (POp.neqA rfl rfl)
        refine HA.done (by kernel_rfl) ?_
        exact HX.cut () trivial esA (Hs.refl _)
      · refine HO.one ?_
        refine H1.ldAggw (vs := [zv q.1, zv q.2]) rfl rfl (fun w' hM j u hu => cell_ext hM.ext (hcm j u hu)) rfl ?_
        apply HA.fold
        refine HA.all [3] (by kernel_rfl) rfl ⟨⟨_, rfl, ?_⟩, trivial⟩
        refine HO.one ?_
        refine H1.ldAggw (vs := [zv p.1, zv p.2]) rfl rfl (fun w' hM j u hu => cell_ext hM.ext (hcl j u hu)) rfl ?_
        apply HA.fold
        refine HA.pa 8 rfl ?_ (POp.neqA rfl rfl)
        refine HA.done (by kernel_rfl) ?_
        exact HX.cut () trivial esA (Hs.refl _)
    rintro - -
    by_cases he : p = q
    · subst he
      rw [decide_eq_true rfl]
      refine hwYI ?_
      exact HX.again (i + 1) ⟨hlt, by rw [t1, t2, hpre]⟩ (by show l.length - (i + 1) < l.length - i; omega) esA (Hs.refl _)
    · rw [decide_eq_false he]
      have hne : ¬ l = m := fun h => by
        subst h
        rw [hp] at hq
        exact he (Option.some.inj hq)
      refine hwYI ?_
      exact HX.ret1 rfl rfl fun w' hM => ⟨by rw [decide_eq_false hne], hM.ext⟩
  · obtain rfl : i = l.length := by omega
    have he : l = m := by rw [List.take_length] at hpre; rw [hpre, hlen, List.take_length]
    refine hwYI ?_
    exact HX.ret1 rfl rfl fun w' hM => ⟨by rw [decide_eq_true he], hM.ext⟩
set_option maxHeartbeats 1000000 in
theorem holds27_fn {w0 w : World} {H : List Atom} {bx bm bj : Nat} {m : PM} (hM : Mm w0 (A.blk bx (cuC bm bj) 84 :: A.pm bm (liftP m) :: H) w) (hk : (m.map Prod.fst).Nodup) (hl : m.length ≤ 400000) :
    Fn Tryz.prog 20 #[.pointer (some ⟨bx, 0, none⟩)] w fun v w' => ∃ z : List PK × Option Addr × Nat, SortedP z.1 m ∧ v = .slice z.2.1 z.1.length z.2.2 ∧ Mm w0 (A.grow 43 2 z.2.1 z.2.2 z.1.length (pcl z.1) :: A.blk bx (cuC bm bj) 84 :: A.pm bm (liftP m) :: H) w' := by
  refine enterK (l := [_]) hM rfl Tryz.ntmps20 rfl ?_
  refine hwYI ?_
  refine HL.one (H1.callz (vs := [.map (some bm)]) rfl rfl (fun w' hM => keys27_fn bm w') ?_)
  rintro b1 -
  refine hwYI ?_
  refine HL.one (H1.callz (α := List PK × Option Addr × Nat) (V := fun z => .slice z.2.1 z.1.length z.2.2) (Hn := fun z => [A.grow 76 2 z.2.1 z.2.2 z.1.length (pcl z.1)]) (I := fun z => SortedP z.1 m) (vs := [.func (.func 98) #[] #[.pointer (some ⟨b1, 0, none⟩)], fnW 52]) rfl rfl (fun w' hM => by
    obtain ⟨es, clk, h1, h2⟩ := hM.pm (b := bm) (l := liftP m) memA
    exact sorted27_fn w' ((hM.blk (b := b1) memA).cell rfl) h1 h2 hk hl) ?_)
  rintro ⟨l, a, c⟩ hS
  dsimp only at hS ⊢
  have hll := hS.1.length_eq
  rw [List.length_map] at hll
  refine hbYI ?_
  refine HC.grow0 43 2 ?_
  repeat refine HC.seq ?_
  refine HC.cut (α := Option Addr × Nat) (fun z => [(2, .slice z.1 l.length z.2)]) (fun z => A.grow 43 2 z.1 z.2 l.length (pcl l) :: A.blk bx (cuC bm bj) 84 :: A.pm bm (liftP m) :: H) (fun _ => True) ?_ ?_
  · refine HC.block ?_
    refine HC.loop (α := Nat × Option Addr × Nat) (fun z => [(2, .slice z.2.1 z.1 z.2.2), (12, .slice a l.length c), (13, zv (l.length : Int)), (14, zv (z.1 : Int))])
      (fun z => A.grow 43 2 z.2.1 z.2.2 z.1 (pcl (l.take z.1)) :: A.grow 76 2 a c l.length (pcl l) :: A.blk bx (cuC bm bj) 84 :: A.pm bm (liftP m) :: H) (fun z => z.1 ≤ l.length) (fun z => l.length - z.1) (0, none, 0) (Nat.zero_le _) esA (Hs.cons Pick.here (Hs.cons Pick.here (Hs.cons (Pick.there Pick.here) (Hs.cons (Pick.there Pick.here) (Hs.refl _).skip)))) ?_
    rintro ⟨i, a2, c2⟩ hi
    dsimp only at hi ⊢
    by_cases hlt : i < l.length
    · obtain ⟨p, hp⟩ : ∃ p, l[i]? = some p := ⟨_, List.getElem?_eq_getElem hlt⟩
      have hg := fun j v h => pcl_get hp j v h
      have htk : l.take (i + 1) = l.take i ++ [p] := by rw [List.take_add_one, hp]; rfl
      have hsn := pcl_snoc (l.take i) p
      rw [← htk] at hsn
      refine HC.openg (e := 76) (sz := 2) (a := a) (c := c) (n := l.length) (xs := pcl l) (.tail _ (.head _)) (by omega) ?_
      rintro g rfl
      refine hwYI ?_
      refine HL.one (H1.ldAggw (b := g) (off := i * 2) (vs := [zv p.1, zv p.2]) rfl rfl (fun w' hM j u hu => ownsRow_cell (hM.own (e := 76) (sz := 2) (a := some ⟨g, 0, none⟩) (c := c) (xs := pcl l) (.tail _ (.head _))) (hg j u hu)) rfl ?_)
      refine hwYI ?_
      refine HL.one (H1.alloc (cs := [zv 0, zv 0]) rfl rfl (fun b5 => ?_))
      refine hwYI ?_
      refine HL.one (H1.stAgg (cs := [zv 0, zv 0]) (vs := [zv p.1, zv p.2]) rfl rfl rfl (by intro v hv; rcases List.mem_cons.1 hv with rfl | hv; rfl; rcases List.mem_cons.1 hv with rfl | hv; rfl; cases hv) rplA rfl ?_)
      refine hwYI ?_
      refine HL.build (cs := [zv p.1, zv p.2]) rfl rfl rfl ?_
      refine hwYI ?_
      refine HL.one (H1.lit (cs := [zv p.1, zv p.2]) rfl rfl rfl rfl rfl rfl (fun b9 => ?_))
      refine hwYI ?_
      refine HL.one (H1.app (sz := 2) (news := [zv p.1, zv p.2]) rfl (by decide) rfl rfl (fun _ _ => by first | ((repeat (first | with_reducible exact Rpl.here | with_reducible apply Rpl.there)); done) | (repeat (first | exact Rpl.here | apply Rpl.there))) rfl (fun w' hM j u hj => ?_) (by intro v hv; rcases List.mem_cons.1 hv with rfl | hv; rfl; rcases List.mem_cons.1 hv with rfl | hv; rfl; cases hv) (by omega) (by decide) rfl (fun a' c' hac => ?_))
      · rw [add_lit, Nat.zero_add]; exact (hM.blk (b := b9) memA).cell hj
      rw [show pcl (l.take i) ++ [zv p.1, zv p.2] = pcl (l.take (i + 1)) from hsn]
      refine hwYI ?_
      exact HX.again (i + 1, a', c') hlt (by show l.length - (i + 1) < l.length - i; omega) esA (Hs.cons (Pick.there (Pick.there Pick.here)) (Hs.cons (Pick.there (Pick.there Pick.here)) (Hs.cons (Pick.there (Pick.there Pick.here)) (Hs.cons (Pick.there (Pick.there Pick.here)) (Hs.refl _).skip.skip))))
    · obtain rfl : i = l.length := by omega
      rw [List.take_length]
      refine hwYI ?_
      exact HX.cut (a2, c2) trivial esA (Hs.cons Pick.here (Hs.refl _).skip)
  rintro ⟨a2, c2⟩ -
  dsimp only
  refine hwYI ?_
  exact HX.ret1 rfl rfl fun w' hM => ⟨(l, a2, c2), hS, rfl, hM⟩
end Go.Sx
/- Plain, chapter 27: what Store and Drop append is replayed as what they did. -/
namespace Go.Sx
open Go
theorem hwYK {G G2 : Prop} (x : G2) (hwq : Hold G2 → G := by
    intro hQq
    repeat' (first | refine HL.pa ?_ (POp.pneN rfl rfl) | refine HL.pa ?_ (POp.pnil1 rfl rfl) | refine HL.pa ?_ (POp.pnil0 rfl rfl) | refine HL.pa ?_ (POp.nilCheck rfl) | apply HL.fold | apply HA.fold | apply HL.nil | apply HX.n_then | apply HC.seq | apply HC.region | refine HL.pa ?_ | refine HL.ga rfl ?_ | refine HL.na rfl ?_ | refine HL.nu rfl rfl ?_ | apply HC.block | apply HC.skip | apply HC.exit | apply HC.ret | apply HX.e_block | refine HX.e_other rfl ?_ | apply HX.e_then | apply HX.e_again | apply HX.n_block | apply HX.r_then | apply HX.r_block | apply HX.r_again | refine HC.cond_yes rfl ?_ | refine HC.cond_no rfl ?_ | refine HL.one (H1.ldb rfl memA rfl rfl ?_) | refine HC.cond rfl (fun hc => ?_) (fun hc => ?_) | refine HC.cond_b rfl (fun hc => ?_) (fun hc => ?_))
    exact hQq.get) : G := hwq ⟨x⟩
theorem putsB_L : ∀ (l : List Nat) (s : ByteArray), (putsB s l).data.toList = s.data.toList ++ l.flatMap putN
  | [], s => by simp [putsB]
  | n :: l, s => by
    show (putsB (s ++ strN n) l).data.toList = _
    rw [putsB_L l, ByteArray.data_append]
    simp [strN, List.flatMap_cons]
theorem recS_L (p : PK) (s : ByteArray) : (recS p s).data.toList = 115 :: (putN p.1.toNat ++ (putN p.2.toNat ++ (putN s.data.toList.length ++ s.data.toList ++ []))) := by
  unfold recS
  have hl : s.data.toList.length = s.size := by rw [Array.length_toList]; rfl
  rw [ByteArray.data_append, ByteArray.data_append, Array.toList_append, putsB_L, Array.toList_append, hl]
  simp [strN, mkB, List.flatMap_cons]
theorem recD_L (o : Int) : (recD o).data.toList = 100 :: (putN o.toNat ++ []) := by
  unfold recD
  rw [putsB_L]
  simp [mkB, List.flatMap_cons]
theorem mkBA_self (s : ByteArray) : mkBA s.data.toList = s := ba_ext rfl
theorem replay_recS (m : PM) {p : PK} {s : ByteArray} (hp : okP p) (hs : s.size ≤ 4096) : replayF m (recS p s) = some (setM m p s) := by
  obtain ⟨h1, h2, h3, h4⟩ := hp
  have hL := recS_L p s
  have hl : s.data.toList.length = s.size := by rw [Array.length_toList]; rfl
  have hrl : (recS p s).data.toList.length = (recS p s).size := by rw [Array.length_toList]; rfl
  have d1 : (recS p s).data.toList.drop 1 = putN p.1.toNat ++ (putN p.2.toNat ++ (putN s.data.toList.length ++ s.data.toList ++ [])) := by rw [hL]; rfl
  have e1 := decI_putN (n := p.1.toNat) (by omega) d1
  have d2 := drop_app d1
  have e2 := decI_putN (n := p.2.toNat) (by omega) d2
  have d3 := drop_app d2
  have e3 := decS_putN (by omega) d3
  have hlen : (recS p s).size = 1 + (putN p.1.toNat).length + (putN p.2.toNat).length + (putN s.data.toList.length).length + s.data.toList.length := by
    rw [← hrl, hL]
    simp only [List.length_cons, List.length_append, List.length_nil]
    omega
  have hsb : sb (recS p s) 0 = 115 := by unfold sb; rw [hL]; rfl
  have u1 : unz (2 * p.1.toNat) = p.1 := by rw [unz_even]; omega
  have u2 : unz (2 * p.2.toNat) = p.2 := by rw [unz_even]; omega
  unfold replayF
  rw [if_neg (by omega), e1]
  dsimp only
  rw [if_pos hsb, e2]
  dsimp only
  rw [e3]
  dsimp only
  rw [u1, u2, if_pos ⟨⟨h1, h2, h3, h4⟩, by omega⟩, if_pos (by omega), mkBA_self]
theorem replay_recD (m : PM) {o : Int} (hp : okP (o, 0)) (hd : (dropM m o).length < m.length) : replayF m (recD o) = some (dropM m o) := by
  have hL := recD_L o
  have hrl : (recD o).data.toList.length = (recD o).size := by rw [Array.length_toList]; rfl
  have d1 : (recD o).data.toList.drop 1 = putN o.toNat ++ [] := by rw [hL]; rfl
  have h0 := hp
  obtain ⟨h1, h2, -, -⟩ := h0
  dsimp only at h1 h2
  have e1 := decI_putN (n := o.toNat) (by omega) d1
  have hlen : (recD o).size = 1 + (putN o.toNat).length := by
    rw [← hrl, hL]
    simp only [List.length_cons, List.length_append, List.length_nil]
    omega
  have hsb : sb (recD o) 0 = 100 := by unfold sb; rw [hL]; rfl
  have u1 : unz (2 * o.toNat) = o := by rw [unz_even]; omega
  unfold replayF
  rw [if_neg (by omega), e1]
  dsimp only
  rw [if_neg (by rw [hsb]; decide), if_pos hsb, u1, if_pos ⟨hp, hd⟩, if_pos (by omega)]
/-- A custodian whose records are durable: what they are, what they do. -/
structure CClean (m : PM) (j : Jn) (N : Nat) (l : List ByteArray) : Prop where
  jn : Clean j N l
  rep : replaysF [] l = some m
  nd : (m.map Prod.fst).Nodup
  len : m.length ≤ l.length
  sz : ∀ p ∈ m, p.2.size ≤ 4096
  ok : ∀ p ∈ m, okP p.1
  rcs : ∀ r ∈ l, r.size ≤ 4200
theorem cclean0 {N : Nat} (h1 : 1 ≤ N) (h2 : N ≤ 4194304) : CClean [] ⟨t00, newK N, false⟩ N [] :=
  ⟨clean0 h1 h2, rfl, List.nodup_nil, Nat.le_refl _, (fun _ h => by cases h), (fun _ h => by cases h), fun _ h => by cases h⟩
theorem CClean.need {m : PM} {j : Jn} {N : Nat} {l : List ByteArray} (h : CClean m j N l) : j.t.size = needL l := h.jn.size
theorem one_long {r : ByteArray} (h : r.size ≤ 65536) : ([r] : List ByteArray).any isLong = false := not_long fun x hx => by
  rcases List.mem_cons.1 hx with rfl | hx
  · exact h
  · cases hx
/-- A fragment is stored. -/
theorem CClean.store {m : PM} {j : Jn} {N : Nat} {l : List ByteArray} (h : CClean m j N l) {p : PK} {s : ByteArray} (hp : okP p) (hs : s.size ≤ 4096) (hf : needL (l ++ [recS p s]) ≤ N) :
    ∃ j', storeF m j p s = (0, setM m p s, j') ∧ CClean (setM m p s) j' N (l ++ [recS p s]) := by
  have hrs := recS_size hp hs
  have hfit : j.t.size + (outsL j.t.head [recS p s]).length ≤ N := by
    rw [h.need, outsL_need, ← needL_app]; exact hf
  obtain ⟨j', hap, hc⟩ := h.jn.app (one_long (by omega)) hfit
  refine ⟨j', ?_, hc, ?_, setM_nodup _ _ h.nd, ?_, ?_, ?_, ?_⟩
  · unfold storeF
    rw [if_neg (by rintro (h | h); exact h hp; omega), hap]
    rfl
  · rw [replaysF_snoc, h.rep]; exact replay_recS m hp hs
  · have h1 := setM_len m p s
    have h2 := h.len
    rw [List.length_append]
    show _ ≤ l.length + 1
    omega
  · intro x hx
    rcases setM_mem hx with hx | rfl
    · exact h.sz x hx
    · exact hs
  · intro x hx
    rcases setM_mem hx with hx | rfl
    · exact h.ok x hx
    · exact hp
  · intro r hr
    rcases List.mem_append.1 hr with hr | hr
    · exact h.rcs r hr
    · rcases List.mem_cons.1 hr with rfl | hr
      · exact hrs
      · cases hr
theorem storeF_bad {m : PM} {j : Jn} {p : PK} {s : ByteArray} (h : ¬ okP p ∨ 4096 < s.size) : storeF m j p s = (270, m, j) := by unfold storeF; rw [if_pos h]
/-- An object is removed. -/
theorem CClean.drop {m : PM} {j : Jn} {N : Nat} {l : List ByteArray} (h : CClean m j N l) {o : Int} (hp : okP (o, 0)) (hd : (dropM m o).length < m.length) (hf : needL (l ++ [recD o]) ≤ N) :
    ∃ j', dropF m j o = ((m.length : Int) - ((dropM m o).length : Int), 0, dropM m o, j') ∧ CClean (dropM m o) j' N (l ++ [recD o]) := by
  have h0 := hp
  obtain ⟨k1, k2, -, -⟩ := h0
  have hrs := recD_size (o := o) k2
  have hfit : j.t.size + (outsL j.t.head [recD o]).length ≤ N := by
    rw [h.need, outsL_need, ← needL_app]; exact hf
  obtain ⟨j', hap, hc⟩ := h.jn.app (one_long (by omega)) hfit
  refine ⟨j', ?_, hc, ?_, dropM_nodup _ h.nd, ?_, fun x hx => h.sz x (List.mem_filter.1 hx).1, fun x hx => h.ok x (List.mem_filter.1 hx).1, ?_⟩
  · unfold dropF
    rw [if_neg (fun h => h hp), if_neg (by omega), hap]
    rfl
  · rw [replaysF_snoc, h.rep]; exact replay_recD m hp hd
  · have h2 := h.len
    rw [List.length_append]
    show _ ≤ l.length + 1
    omega
  · intro r hr
    rcases List.mem_append.1 hr with hr | hr
    · exact h.rcs r hr
    · rcases List.mem_cons.1 hr with rfl | hr
      · omega
      · cases hr
/-- Nothing is removed. -/
theorem dropF_none {m : PM} {j : Jn} {o : Int} (hp : okP (o, 0)) (hd : (dropM m o).length = m.length) : dropF m j o = (0, 0, m, j) := by
  unfold dropF
  rw [if_neg (fun h => h hp), if_pos hd]
theorem CClean.opens {m : PM} {j : Jn} {N : Nat} {l : List ByteArray} (h : CClean m j N l) : openF j.k = (0, j.k, some (adds t00 l)) := h.jn.opens fun r hr => Nat.le_trans (h.rcs r hr) (by decide)
end Go.Sx
/- Chapter 27: opened, and the fixed examples: the walks. -/
namespace Go.Sx
open Go Go.Proofs Go.RowKit
theorem sorted_eq : ∀ {l l' : List PK}, l.Perm l' → (l.Pairwise fun x y => ¬ leP y x) → (l'.Pairwise fun x y => ¬ leP y x) → l = l'
  | [], l', h, _, _ => (List.nil_perm.1 h).symm
  | a :: t, [], h, _, _ => by cases List.perm_nil.1 h
  | a :: t, b :: t', h, h1, h2 => by
    rw [List.pairwise_cons] at h1 h2
    have e : a = b := by
      have ha := h.subset (List.mem_cons_self ..)
      have hb := h.symm.subset (List.mem_cons_self ..)
      rcases List.mem_cons.1 ha with ha | ha
      · exact ha
      rcases List.mem_cons.1 hb with hb | hb
      · exact hb.symm
      have k1 := h2.1 a ha
      have k2 := h1.1 b hb
      unfold leP at k1 k2
      exact Prod.ext (by omega) (by omega)
    subst e
    rw [sorted_eq ((List.perm_cons a).1 h) h1.2 h2.2]
theorem SortedP.eq {l l' : List PK} {m : PM} (h : SortedP l m) (h' : SortedP l' m) : l = l' := sorted_eq (h.1.trans h'.1.symm) h.2 h'.2
theorem CClean.jeq {m : PM} {j : Jn} {N : Nat} {l : List ByteArray} (h : CClean m j N l) : j = ⟨adds t00 l, j.k, false⟩ := by
  have h1 := h.jn.t
  have h2 := h.jn.br
  obtain ⟨t, k, br⟩ := j
  dsimp only at h1 h2
  rw [h1, h2]
theorem copen_F {w0 w : World} {H : List Atom} {bd b1 b2 pc : Nat} {pa : Option Addr} {k : Dk} {ea ec : Addr} (hG : RoundG w0) (hE : ErrG ea w0) (hC : CErrG ec w0) (hM : Mm w0 (dkH bd b1 b2 pa pc k H) w) (hk : k.Ok) (hp : k.pend.length ≤ 9000)
    (hop : (∃ t k', openF k = (0, k', some t) ∧ t.recs.length ≤ 100000 ∧ ∀ r ∈ t.recs, r.size ≤ 65536) ∨ (∃ e k', openF k = (e, k', none) ∧ e ≠ 0)) :
    Fn Tryz.prog 25 #[.pointer (some ⟨bd, 0, none⟩)] w fun v w' => copenP w0 bd b1 b2 H (openF k) v w' := copen_all hG hE hC hM hk hp hop
theorem HX.ret3y {P : Program} {N : Nat} {E : Env} {w0 : World} {H : List Atom} {fn : Func} {t1 t2 t3 : Nat} {v1 v2 v3 : Value} {R : Value → World → Prop} (hr : fn.results = #[.tmp t1, .tmp t2, .tmp t3]) (h1 : Env.g E t1 = some v1) (h2 : Env.g E t2 = some v2) (h3 : Env.g E t3 = some v3) (h : ∀ w, Mm w0 H w → R (.tuple #[v1, v2, v3]) w) :
    HX N [] .ret (bodyPost P fn (RetP R)) E w0 H := fun w hM => WX.ret3 (P := P) hr h1 h2 h3 (h w hM)
attribute [local irreducible] WC WL WX POp Then Again Fn NX W1 WA WO QL RP RA Yld LoopAt HC HL HX HN H1 HA HO HQ HB HP A.blk A.grow A.rd A.obj A.mp AgainH CutH
attribute [local irreducible] A.pm A.mx A.mit sumS newK
theorem copen_fn {w0 w : World} {H : List Atom} {bd b1 b2 pc N : Nat} {pa : Option Addr} {m : PM} {j : Jn} {l : List ByteArray} {ea ec : Addr} (hG : RoundG w0) (hE : ErrG ea w0) (hC : CErrG ec w0) (h : CClean m j N l) (hl : l.length ≤ 100000) (hM : Mm w0 (dkH bd b1 b2 pa pc j.k H) w) :
    Fn Tryz.prog 25 #[.pointer (some ⟨bd, 0, none⟩)] w fun v w' => ∃ z : Nat × Nat × Nat × (Option Addr × Nat) × (Option Addr × Nat), True ∧ v = .tuple #[.pointer (some ⟨z.1, 0, none⟩), zv 0] ∧ Mm w0 (cuH z.1 z.2.1 z.2.2.1 bd b1 b2 z.2.2.2.1.1 z.2.2.2.1.2 z.2.2.2.2.1 z.2.2.2.2.2 m j H) w' := by
  have hop := h.opens
  have hr : (adds t00 l).recs = l := adds0_recs l
  have hF : Fn Tryz.prog 25 #[.pointer (some ⟨bd, 0, none⟩)] w fun v w' => copenP w0 bd b1 b2 H (openF j.k) v w' :=
    copen_F hG hE hC hM h.jn.ok (by rw [h.jn.pend]; exact Nat.zero_le _) (.inl ⟨_, _, hop, by rw [hr]; exact hl, by rw [hr]; exact fun r hr => Nat.le_trans (h.rcs r hr) (by decide)⟩)
  refine hF.mono fun v w2 h1 => ?_
  rw [hop] at h1
  unfold copenP at h1
  dsimp only at h1
  rw [hr, h.rep] at h1
  obtain ⟨z, h2, h3⟩ := h1
  refine ⟨z, trivial, h2, ?_⟩
  rw [h.jeq]; exact h3
theorem opened_fn {w : World} {ea ec : Addr} (hG : RoundG w) (hE : ErrG ea w) (hC : CErrG ec w) (N : Nat) (h1 : 1 ≤ N) (h2 : N ≤ 4194304) :
    Fn Tryz.prog 12 #[zv (N : Int)] w fun v w' => ∃ z : (Nat × Nat × Nat) × Nat × Nat × Nat × (Option Addr × Nat) × (Option Addr × Nat), True ∧ v = .tuple #[.pointer (some ⟨z.2.1, 0, none⟩), .pointer (some ⟨z.1.1, 0, none⟩), .bool true] ∧
      Mm w (cuH z.2.1 z.2.2.1 z.2.2.2.1 z.1.1 z.1.2.1 z.1.2.2 z.2.2.2.2.1.1 z.2.2.2.2.1.2 z.2.2.2.2.2.1 z.2.2.2.2.2.2 [] ⟨t00, newK N, false⟩ []) w' := by
  refine enterH (l := [_]) rfl Tryz.ntmps12 rfl ?_
  refine hwYK ?_
  refine HL.one (H1.callz (vs := [zv (N : Int)]) rfl rfl (fun w' hM => new_fn N h1 h2 w') ?_)
  rintro ⟨bd, b1, b2⟩ -
  dsimp only
  refine hwYK ?_
  refine HL.one (H1.callk (α := Nat × Nat × Nat × (Option Addr × Nat) × (Option Addr × Nat)) (V := fun z => .tuple #[.pointer (some ⟨z.1, 0, none⟩), zv 0]) (I := fun _ => True) (H' := fun z => cuH z.1 z.2.1 z.2.2.1 bd b1 b2 z.2.2.2.1.1 z.2.2.2.1.2 z.2.2.2.2.1 z.2.2.2.2.2 [] ⟨t00, newK N, false⟩ []) (vs := [_]) rfl rfl
    (fun w' hM => copen_fn hG hE hC (cclean0 h1 h2) (Nat.zero_le _) hM) ?_)
  rintro ⟨bx, bm, bj, ⟨a, c⟩, ⟨pa, pc⟩⟩ -
  dsimp only
  refine hwYK ?_
  exact HX.ret3y (P := Tryz.prog) rfl rfl rfl rfl fun w' hM => ⟨((bd, b1, b2), bx, bm, bj, (a, c), (pa, pc)), trivial, rfl, hM⟩
end Go.Sx
/- Chapter 27: the fixed examples: the walk. -/
namespace Go.Sx
open Go Go.Proofs Go.RowKit
theorem hwYL {G G2 : Prop} (x : G2) (hwq : Hold G2 → G := by
    intro hQq
    repeat' (first | refine HL.pa ?_ (POp.pneN rfl rfl) | refine HL.pa ?_ (POp.pnil1 rfl rfl) | refine HL.pa ?_ (POp.pnil0 rfl rfl) | refine HL.pa ?_ (POp.nilCheck rfl) | apply HL.fold | apply HA.fold | apply HL.nil | apply HX.n_then | apply HC.seq | apply HC.region | refine HL.pa ?_ | refine HL.ga rfl ?_ | refine HL.na rfl ?_ | refine HL.nu rfl rfl ?_ | apply HC.block | apply HC.skip | apply HC.exit | apply HC.ret | apply HX.e_block | refine HX.e_other rfl ?_ | apply HX.e_then | apply HX.e_again | apply HX.n_block | apply HX.r_then | apply HX.r_block | apply HX.r_again | refine HC.cond_yes rfl ?_ | refine HC.cond_no rfl ?_ | refine HL.one (H1.ldb rfl memA rfl rfl ?_) | refine HC.cond rfl (fun hc => ?_) (fun hc => ?_) | refine HC.cond_b rfl (fun hc => ?_) (fun hc => ?_))
    exact hQq.get) : G := hwq ⟨x⟩
theorem needL_le27 : ∀ (l : List ByteArray), (∀ r ∈ l, r.size ≤ 100) → needL l ≤ 150 * l.length
  | [], _ => Nat.zero_le _
  | r :: l, h => by
    have h1 := needL_le27 l fun x hx => h x (List.mem_cons_of_mem _ hx)
    have h2 := h r (List.mem_cons_self ..)
    have h3 := strN_size (n := r.size) (by omega)
    show (33 + (strN r.size).size + r.size) + needL l ≤ 150 * (l.length + 1)
    omega
theorem recS_le {p : PK} {s : ByteArray} (hp : okP p) (hs : s.size ≤ 60) : (recS p s).size ≤ 100 := by
  obtain ⟨h1, h2, h3, h4⟩ := hp
  have h5 := putsB_size [p.1.toNat, p.2.toNat] (mkB 115) (by
    intro n hn
    rcases List.mem_cons.1 hn with rfl | hn
    · omega
    rcases List.mem_cons.1 hn with rfl | hn
    · omega
    · cases hn)
  have h6 := strN_size (n := s.size) (by omega)
  have h7 : (mkB 115).size = 1 := rfl
  unfold recS
  rw [ByteArray.size_append, ByteArray.size_append]
  simp only [List.length_cons, List.length_nil] at h5
  omega
abbrev ab27 : ByteArray := ByteArray.mk #[97, 98]
abbrev cd27 : ByteArray := ByteArray.mk #[99, 100]
abbrev ef27 : ByteArray := ByteArray.mk #[101, 102]
abbrev x27 : ByteArray := ByteArray.mk #[120]
def m27 : PM := [((5, 0), ef27), ((5, 3), cd27)]
def l27 : List ByteArray := [recS (5, 0) ab27, recS (5, 3) cd27, recS (5, 0) ef27]
theorem l27_size : ∀ r ∈ l27, r.size ≤ 100 := by
  intro r hr
  rcases List.mem_cons.1 hr with rfl | hr
  · exact recS_le (by decide) (by decide)
  rcases List.mem_cons.1 hr with rfl | hr
  · exact recS_le (by decide) (by decide)
  rcases List.mem_cons.1 hr with rfl | hr
  · exact recS_le (by decide) (by decide)
  · cases hr
theorem sane_plain27 : ∃ j1 j2 j3 j4 : Jn, storeF [] ⟨t00, newK 2000, false⟩ (5, 0) ab27 = (0, [((5, 0), ab27)], j1) ∧ CClean [((5, 0), ab27)] j1 2000 [recS (5, 0) ab27]
    ∧ storeF [((5, 0), ab27)] j1 (5, 3) cd27 = (0, [((5, 0), ab27), ((5, 3), cd27)], j2) ∧ CClean [((5, 0), ab27), ((5, 3), cd27)] j2 2000 [recS (5, 0) ab27, recS (5, 3) cd27]
    ∧ storeF [((5, 0), ab27), ((5, 3), cd27)] j2 (5, 0) ef27 = (0, m27, j3) ∧ CClean m27 j3 2000 l27
    ∧ dropF m27 j3 5 = (2, 0, [], j4) ∧ CClean [] j4 2000 (l27 ++ [recD 5]) := by
  have h0 := cclean0 (N := 2000) (by decide) (by decide)
  have z := l27_size
  have z1 : (recS (5, 0) ab27).size ≤ 100 := z _ (.head _)
  have z2 : (recS (5, 3) cd27).size ≤ 100 := z _ (.tail _ (.head _))
  obtain ⟨j1, e1, h1⟩ := h0.store (p := (5, 0)) (s := ab27) (by decide) (by decide) (by
    refine Nat.le_trans (needL_le27 _ fun r hr => ?_) (show 150 * 1 ≤ 2000 by decide)
    rcases List.mem_cons.1 hr with rfl | hr
    · exact z1
    · cases hr)
  obtain ⟨j2, e2, h2⟩ := h1.store (p := (5, 3)) (s := cd27) (by decide) (by decide) (by
    refine Nat.le_trans (needL_le27 _ fun r hr => ?_) (show 150 * 2 ≤ 2000 by decide)
    rcases List.mem_cons.1 hr with rfl | hr
    · exact z1
    rcases List.mem_cons.1 hr with rfl | hr
    · exact z2
    · cases hr)
  obtain ⟨j3, e3, h3⟩ := h2.store (p := (5, 0)) (s := ef27) (by decide) (by decide) (Nat.le_trans (needL_le27 l27 z) (show 150 * 3 ≤ 2000 by decide))
  have z4 := recD_size (o := 5) (by decide)
  obtain ⟨j4, e4, h4⟩ := CClean.drop (m := m27) (l := l27) (j := j3) h3 (o := 5) (by decide) (by decide) (by
    refine Nat.le_trans (needL_le27 _ fun r hr => ?_) (show 150 * 4 ≤ 2000 by decide)
    rcases List.mem_append.1 hr with hr | hr
    · exact z r hr
    rcases List.mem_cons.1 hr with rfl | hr
    · omega
    · cases hr)
  exact ⟨j1, j2, j3, j4, e1, h1, e2, h2, e3, h3, e4, h4⟩
def ps27 : List PK := [(5, 0), (5, 3)]
theorem ps27_sorted : SortedP ps27 m27 := ⟨List.Perm.refl _, by unfold ps27 leP; simp⟩
theorem ps27_rd {w : World} {b : Nat} {e : TypeId} (h : Blk w b (pcl ps27) e) : RdP w (.slice (some ⟨b, 0, none⟩) 2 2) ps27 :=
  ⟨_, _, rfl, Nat.le_refl _, .inr ⟨b, 0, rfl, fun i u hu => by rw [Nat.zero_add]; exact h.cell hu⟩⟩
theorem fetch27 : fetchV m27 (5, 0) = .tuple #[.string ef27, zv 0] := rfl
theorem ans27 : ansV m27 (5, 3) x27 = .tuple #[.string (expB cd27 x27), zv 0] := by
  unfold ansV
  rw [if_neg (by decide)]
  rfl
theorem ans27n : ansV m27 (5, 1) x27 = .tuple #[.string (ByteArray.mk #[]), zv 271] := by
  unfold ansV
  rw [if_neg (by decide)]
  rfl
theorem exp27 : (expB cd27 x27).size = 32 := by
  unfold expB
  rw [if_neg (by decide)]
  exact sumS_size _
theorem get27 (s : ByteArray) {p : PK} (h : getM m27 p = some s) : s.size ≤ 100000 := by
  have h1 : getM m27 p = if p = (5, 0) then some ef27 else if p = (5, 3) then some cd27 else none := rfl
  rw [h1] at h
  split at h
  · cases h; decide
  split at h
  · cases h; decide
  · cases h
attribute [local irreducible] WC WL WX POp Then Again Fn NX W1 WA WO QL RP RA Yld LoopAt HC HL HX HN H1 HA HO HQ HB HP A.blk A.grow A.rd A.obj A.mp AgainH CutH
attribute [local irreducible] A.pm A.mx A.mit sumS newK expB
set_option maxHeartbeats 4000000 in
theorem sane27_fn {w : World} {ea ec : Addr} (hG : RoundG w) (hE : ErrG ea w) (hC : CErrG ec w) : Fn Tryz.prog 10 #[] w fun v w' => v = .bool true ∧ Ext w w' := by
  obtain ⟨j1, j2, j3, j4, e1, h1, e2, h2, e3, h3, e4, h4⟩ := sane_plain27
  have h0 := cclean0 (N := 2000) (by decide) (by decide)
  have e5 : dropF [] j4 5 = (0, 0, [], j4) := dropF_none (by decide) rfl
  refine enterH (l := []) rfl Tryz.ntmps10 rfl ?_
  refine hwYL ?_
  refine HL.one (H1.callz (α := (Nat × Nat × Nat) × Nat × Nat × Nat × (Option Addr × Nat) × (Option Addr × Nat)) (V := fun z => .tuple #[.pointer (some ⟨z.2.1, 0, none⟩), .pointer (some ⟨z.1.1, 0, none⟩), .bool true])
    (Hn := fun z => cuH z.2.1 z.2.2.1 z.2.2.2.1 z.1.1 z.1.2.1 z.1.2.2 z.2.2.2.2.1.1 z.2.2.2.2.1.2 z.2.2.2.2.2.1 z.2.2.2.2.2.2 [] ⟨t00, newK 2000, false⟩ []) (I := fun _ => True) (vs := [zv 2000]) rfl rfl (fun w' hM => opened_fn (hG.ext hM.ext) (hE.ext hM.ext) (hC.ext hM.ext) 2000 (by decide) (by decide)) ?_)
  rintro ⟨⟨bd, b1, b2⟩, bx, bm, bj, ⟨a, c⟩, ⟨pa, pc⟩⟩ -
  dsimp only
  refine hwYL ?_
  refine HL.one (H1.callk (α := (Option Addr × Nat) × (Option Addr × Nat)) (V := fun _ => zv 0) (I := fun _ => True) (H' := fun q => cuH bx bm bj bd b1 b2 q.1.1 q.1.2 q.2.1 q.2.2 [((5, 0), ab27)] j1 []) (vs := [_, zv 5, zv 0, .string ab27]) rfl rfl
    (fun w' hM => by
      have h := store_fn (5, 0) ab27 hG hM (h0.jn.jok (Nat.zero_le _))
      rw [e1] at h
      exact h) ?_)
  rintro ⟨⟨a, c⟩, ⟨pa, pc⟩⟩ -
  dsimp only
  refine hwYL ?_
  refine HL.one (H1.callk (α := (Option Addr × Nat) × (Option Addr × Nat)) (V := fun _ => zv 0) (I := fun _ => True) (H' := fun q => cuH bx bm bj bd b1 b2 q.1.1 q.1.2 q.2.1 q.2.2 [((5, 0), ab27), ((5, 3), cd27)] j2 []) (vs := [_, zv 5, zv 3, .string cd27]) rfl rfl
    (fun w' hM => by
      have h := store_fn (5, 3) cd27 hG hM (h1.jn.jok (by decide))
      rw [e2] at h
      exact h) ?_)
  rintro ⟨⟨a, c⟩, ⟨pa, pc⟩⟩ -
  dsimp only
  refine hwYL ?_
  refine HL.one (H1.callk (α := (Option Addr × Nat) × (Option Addr × Nat)) (V := fun _ => zv 0) (I := fun _ => True) (H' := fun q => cuH bx bm bj bd b1 b2 q.1.1 q.1.2 q.2.1 q.2.2 m27 j3 []) (vs := [_, zv 5, zv 0, .string ef27]) rfl rfl
    (fun w' hM => by
      have h := store_fn (5, 0) ef27 hG hM (h2.jn.jok (by decide))
      rw [e3] at h
      exact h) ?_)
  rintro ⟨⟨a, c⟩, ⟨pa, pc⟩⟩ -
  dsimp only
  refine hwYL ?_
  refine HL.one (H1.callk (α := Unit) (V := fun _ => .tuple #[.string ef27, zv 0]) (I := fun _ => True) (H' := fun _ => cuH bx bm bj bd b1 b2 a c pa pc m27 j3 []) (vs := [_, zv 5, zv 0]) rfl rfl
    (fun w' hM => by
      have h := fetch_fn (5, 0) hM
      rw [fetch27] at h
      exact h) ?_)
  rintro - -
  refine hwYL ?_
  refine HL.one (H1.callk (α := Unit) (V := fun _ => .tuple #[.string (expB cd27 x27), zv 0]) (I := fun _ => True) (H' := fun _ => cuH bx bm bj bd b1 b2 a c pa pc m27 j3 []) (vs := [_, zv 5, zv 3, .string x27]) rfl rfl
    (fun w' hM => by
      have h := answer_fn (5, 3) x27 hG hM (fun s hs => get27 s hs)
      rw [ans27] at h
      exact h) ?_)
  rintro - -
  refine hwYL ?_
  refine HL.one (H1.callk (α := Unit) (V := fun _ => .tuple #[.string (ByteArray.mk #[]), zv 271]) (I := fun _ => True) (H' := fun _ => cuH bx bm bj bd b1 b2 a c pa pc m27 j3 []) (vs := [_, zv 5, zv 1, .string x27]) rfl rfl
    (fun w' hM => by
      have h := answer_fn (5, 1) x27 hG hM (fun s hs => get27 s hs)
      rw [ans27n] at h
      exact h) ?_)
  rintro - -
  refine hwYL ?_
  refine HL.one (H1.callk (α := Nat × Nat × Nat × (Option Addr × Nat) × (Option Addr × Nat)) (V := fun z => .tuple #[.pointer (some ⟨z.1, 0, none⟩), zv 0]) (I := fun _ => True)
    (H' := fun z => cuH z.1 z.2.1 z.2.2.1 bd b1 b2 z.2.2.2.1.1 z.2.2.2.1.2 z.2.2.2.2.1 z.2.2.2.2.2 m27 j3 [A.blk bx (cuC bm bj) 84, A.pm bm (liftP m27), A.blk bj (tpC a c j3.t (jnR bd j3.br)) 179, A.grow 9 1 a c j3.t.recs.length (strs j3.t.recs)]) (vs := [_]) rfl rfl
    (fun w' hM => copen_fn hG hE hC h3 (by decide) (hM.sub (Hs.cons (Pick.there (Pick.there (Pick.there (Pick.there Pick.here)))) (Hs.cons (Pick.there (Pick.there (Pick.there (Pick.there Pick.here)))) (Hs.cons (Pick.there (Pick.there (Pick.there (Pick.there Pick.here)))) (Hs.cons (Pick.there (Pick.there (Pick.there (Pick.there Pick.here)))) (Hs.refl _))))))) ?_)
  rintro ⟨by_, bn, bk, ⟨a2, c2⟩, ⟨pa2, pc2⟩⟩ -
  dsimp only
  refine hwYL ?_
  refine HL.one (H1.callk (α := List PK × Option Addr × Nat) (V := fun z => .slice z.2.1 z.1.length z.2.2) (I := fun z => SortedP z.1 m27)
    (H' := fun z => A.grow 43 2 z.2.1 z.2.2 z.1.length (pcl z.1) :: A.blk bx (cuC bm bj) 84 :: A.pm bm (liftP m27) :: A.blk by_ (cuC bn bk) 84 :: A.pm bn (liftP m27) :: jnlH bk bd b1 b2 a2 c2 pa2 pc2 j3 [A.blk bj (tpC a c j3.t (jnR bd j3.br)) 179, A.grow 9 1 a c j3.t.recs.length (strs j3.t.recs)]) (vs := [_]) rfl rfl
    (fun w' hM => holds27_fn (hM.sub (Hs.cons (Pick.there (Pick.there (Pick.there (Pick.there (Pick.there (Pick.there (Pick.there (Pick.there Pick.here)))))))) (Hs.cons (Pick.there (Pick.there (Pick.there (Pick.there (Pick.there (Pick.there (Pick.there (Pick.there Pick.here)))))))) (Hs.refl _)))) h3.nd (by decide)) ?_)
  rintro ⟨q1, a3, c3⟩ hS
  dsimp only at hS ⊢
  obtain rfl := hS.eq ps27_sorted
  refine hwYL ?_
  refine HL.build (cs := [zv 5, zv 0]) rfl rfl rfl ?_
  refine HL.build (cs := [zv 5, zv 3]) rfl rfl rfl ?_
  refine HL.one (H1.lit (cs := pcl ps27) rfl rfl rfl rfl rfl rfl (fun b9 => ?_))
  refine hwYL ?_
  refine HL.one (H1.callx (vs := [.slice a3 2 c3, .slice (some ⟨b9, 0, none⟩) 2 2]) rfl rfl (fun w' hM => samePairs_fn (.slice a3 2 c3) (.slice (some ⟨b9, 0, none⟩) 2 2) ps27 ps27 (by decide) (by decide) w' (hM.grP (e := 43) (l := ps27) memA) (ps27_rd (hM.blk (b := b9) memA))) ?_)
  rw [decide_eq_true rfl]
  refine hwYL ?_
  refine HL.one (H1.callk (α := List PK × Option Addr × Nat) (V := fun z => .slice z.2.1 z.1.length z.2.2) (I := fun z => SortedP z.1 m27)
    (H' := fun z => A.grow 43 2 z.2.1 z.2.2 z.1.length (pcl z.1) :: A.blk by_ (cuC bn bk) 84 :: A.pm bn (liftP m27) :: A.blk bx (cuC bm bj) 84 :: A.pm bm (liftP m27) :: jnlH bk bd b1 b2 a2 c2 pa2 pc2 j3 [A.blk bj (tpC a c j3.t (jnR bd j3.br)) 179, A.grow 9 1 a c j3.t.recs.length (strs j3.t.recs)]) (vs := [_]) rfl rfl
    (fun w' hM => holds27_fn (hM.sub (Hs.cons (Pick.there (Pick.there (Pick.there (Pick.there Pick.here)))) (Hs.cons (Pick.there (Pick.there (Pick.there (Pick.there Pick.here)))) (Hs.refl _).skip.skip))) h3.nd (by decide)) ?_)
  rintro ⟨q2, a4, c4⟩ hS
  dsimp only at hS ⊢
  obtain rfl := hS.eq ps27_sorted
  refine hwYL ?_
  refine HL.one (H1.callk (α := List PK × Option Addr × Nat) (V := fun z => .slice z.2.1 z.1.length z.2.2) (I := fun z => SortedP z.1 m27)
    (H' := fun z => A.grow 43 2 z.2.1 z.2.2 z.1.length (pcl z.1) :: A.grow 43 2 a4 c4 ps27.length (pcl ps27) :: A.blk bx (cuC bm bj) 84 :: A.pm bm (liftP m27) :: jnlH bk bd b1 b2 a2 c2 pa2 pc2 j3 [A.blk bj (tpC a c j3.t (jnR bd j3.br)) 179, A.grow 9 1 a c j3.t.recs.length (strs j3.t.recs)]) (vs := [_]) rfl rfl
    (fun w' hM => (holds27_fn (H := A.grow 43 2 a4 c4 ps27.length (pcl ps27) :: jnlH bk bd b1 b2 a2 c2 pa2 pc2 j3 [A.blk bj (tpC a c j3.t (jnR bd j3.br)) 179, A.grow 9 1 a c j3.t.recs.length (strs j3.t.recs)]) (hM.sub (Hs.cons (Pick.there (Pick.there (Pick.there Pick.here))) (Hs.cons (Pick.there (Pick.there (Pick.there Pick.here))) (Hs.cons Pick.here (Hs.refl _).skip.skip)))) h3.nd (by decide)).mono fun v w2 h => by
      obtain ⟨z, k1, k2, k3⟩ := h
      exact ⟨z, k1, k2, k3.sub (Hs.cons Pick.here (Hs.cons (Pick.there (Pick.there Pick.here)) (Hs.refl _)))⟩) ?_)
  rintro ⟨q3, a5, c5⟩ hS
  dsimp only at hS ⊢
  obtain rfl := hS.eq ps27_sorted
  refine hwYL ?_
  refine HL.one (H1.callx (vs := [.slice a4 2 c4, .slice a5 2 c5]) rfl rfl (fun w' hM => samePairs_fn (.slice a4 2 c4) (.slice a5 2 c5) ps27 ps27 (by decide) (by decide) w' (hM.grP (e := 43) (a := a4) (c := c4) (l := ps27) memA) (hM.grP (e := 43) (a := a5) (c := c5) (l := ps27) memA)) ?_)
  rw [decide_eq_true rfl]
  refine hwYL ?_
  refine HL.one (H1.callk (α := Nat × (Option Addr × Nat) × (Option Addr × Nat)) (V := fun _ => .tuple #[zv 2, zv 0]) (I := fun _ => True) (H' := fun q => cuH bx q.1 bj bd b1 b2 q.2.1.1 q.2.1.2 q.2.2.1 q.2.2.2 [] j4 []) (vs := [_, zv 5]) rfl rfl
    (fun w' hM => by
      have h := cdrop_fn (m := m27) (j := j3) (H := []) 5 hG (hM.sub (Hs.cons (Pick.there (Pick.there Pick.here)) (Hs.cons (Pick.there (Pick.there Pick.here)) (Hs.cons (Pick.there (Pick.there (Pick.there (Pick.there (Pick.there (Pick.there (Pick.there (Pick.there Pick.here)))))))) (Hs.cons (Pick.there (Pick.there (Pick.there (Pick.there (Pick.there (Pick.there (Pick.there (Pick.there Pick.here)))))))) (Hs.cons (Pick.there (Pick.there (Pick.there (Pick.there Pick.here)))) (Hs.cons (Pick.there (Pick.there (Pick.there (Pick.there Pick.here)))) (Hs.cons (Pick.there (Pick.there (Pick.there (Pick.there Pick.here)))) (Hs.cons (Pick.there (Pick.there (Pick.there (Pick.there Pick.here)))) (Hs.refl _).skip.skip.skip.skip))))))))) (h3.jn.jok (by decide)) h3.nd (by decide)
      rw [e4] at h
      exact h) ?_)
  rintro ⟨bm, ⟨a, c⟩, ⟨pa, pc⟩⟩ -
  dsimp only
  refine hwYL ?_
  refine HL.one (H1.callk (α := Nat × (Option Addr × Nat) × (Option Addr × Nat)) (V := fun _ => .tuple #[zv 0, zv 0]) (I := fun _ => True) (H' := fun q => cuH bx q.1 bj bd b1 b2 q.2.1.1 q.2.1.2 q.2.2.1 q.2.2.2 [] j4 []) (vs := [_, zv 5]) rfl rfl
    (fun w' hM => by
      have h := cdrop_fn (m := []) (j := j4) (H := []) 5 hG hM (h4.jn.jok (by decide)) h4.nd (by decide)
      rw [e5] at h
      exact h) ?_)
  rintro ⟨bm, ⟨a, c⟩, ⟨pa, pc⟩⟩ -
  dsimp only
  refine hwYL ?_
  refine HL.one (H1.callk (α := (Option Addr × Nat) × (Option Addr × Nat)) (V := fun _ => zv 270) (I := fun _ => True) (H' := fun q => cuH bx bm bj bd b1 b2 q.1.1 q.1.2 q.2.1 q.2.2 [] j4 []) (vs := [_, zv 0, zv 0, .string (ByteArray.mk #[97])]) rfl rfl
    (fun w' hM => by
      have h := store_fn (0, 0) (ByteArray.mk #[97]) hG hM (h4.jn.jok (by decide))
      rw [storeF_bad (.inl (by decide))] at h
      exact h) ?_)
  rintro ⟨⟨a, c⟩, ⟨pa, pc⟩⟩ -
  dsimp only
  refine hwYL ?_
  refine HL.one (H1.callk (α := (Option Addr × Nat) × (Option Addr × Nat)) (V := fun _ => zv 270) (I := fun _ => True) (H' := fun q => cuH bx bm bj bd b1 b2 q.1.1 q.1.2 q.2.1 q.2.2 [] j4 []) (vs := [_, zv 1, zv 9, .string (ByteArray.mk #[97])]) rfl rfl
    (fun w' hM => by
      have h := store_fn (1, 9) (ByteArray.mk #[97]) hG hM (h4.jn.jok (by decide))
      rw [storeF_bad (.inl (by decide))] at h
      exact h) ?_)
  rintro ⟨⟨a, c⟩, ⟨pa, pc⟩⟩ -
  dsimp only
  refine hwYL ?_
  refine HL.one (H1.callx (vs := [.string cd27, .string x27]) rfl rfl (fun w' hM => expected_fn cd27 x27 (hG.ext hM.ext) (by decide)) ?_)
  have h32 := exp27
  obtain ⟨xb, hxb⟩ : ∃ xb, xb = expB cd27 x27 := ⟨_, rfl⟩
  rw [← hxb] at h32 ⊢
  refine hwYL ?_
  exact HX.ret1 rfl rfl fun w' hM => ⟨rfl, hM.ext⟩
end Go.Sx
/- Chapter 27: pick; what a custodian on any disk has; what is left of other objects. -/
namespace Go.Sx
open Go Go.Proofs Go.RowKit
theorem setM_good {m : PM} {p : PK} {s : ByteArray} (hp : okP p) (hs : s.size ≤ 4096) (hm : ∀ x ∈ m, okP x.1 ∧ x.2.size ≤ 4096) : ∀ x ∈ setM m p s, okP x.1 ∧ x.2.size ≤ 4096 := fun x hx => by
  rcases setM_mem hx with hx | rfl
  · exact hm x hx
  · exact ⟨hp, hs⟩
theorem dropM_good {m : PM} {o : Int} (hm : ∀ x ∈ m, okP x.1 ∧ x.2.size ≤ 4096) : ∀ x ∈ dropM m o, okP x.1 ∧ x.2.size ≤ 4096 := fun x hx => hm x (List.mem_filter.1 hx).1
theorem replay_good {m m2 : PM} {s : ByteArray} (h : replayF m s = some m2) (hm : ∀ x ∈ m, okP x.1 ∧ x.2.size ≤ 4096) : ∀ x ∈ m2, okP x.1 ∧ x.2.size ≤ 4096 := by
  unfold replayF at h
  split at h
  · cases h
  split at h
  · cases h
  split at h
  · split at h
    · cases h
    split at h
    · cases h
    split at h
    · rename_i h1
      split at h
      · cases h
        exact setM_good h1.1 (by rw [mkBA_size2]; exact h1.2) hm
      · cases h
    · cases h
  split at h
  · split at h
    · split at h
      · cases h
        exact dropM_good hm
      · cases h
    · cases h
  · cases h
theorem replays_good : ∀ (l : List ByteArray) {m m2 : PM}, replaysF m l = some m2 → (∀ x ∈ m, okP x.1 ∧ x.2.size ≤ 4096) → (m.map Prod.fst).Nodup → (∀ x ∈ m2, okP x.1 ∧ x.2.size ≤ 4096) ∧ (m2.map Prod.fst).Nodup ∧ m2.length ≤ m.length + l.length
  | [], m, m2, h, hm, hn => by
    have h1 : some m = some m2 := h
    cases h1
    exact ⟨hm, hn, Nat.le_refl _⟩
  | s :: l, m, m2, h, hm, hn => by
    have h1 : (replayF m s).bind (fun m3 => replaysF m3 l) = some m2 := h
    cases h3 : replayF m s with
    | none => rw [h3] at h1; cases h1
    | some m3 =>
      rw [h3] at h1
      obtain ⟨k1, k2⟩ := replay_keeps h3 hn
      obtain ⟨q1, q2, q3⟩ := replays_good l h1 (replay_good h3 hm) k1
      refine ⟨q1, q2, ?_⟩
      rw [List.length_cons]
      omega
/-- How many places of a list are of an object. -/
def ownC (o : Int) (l : List PK) : Nat := (l.filter fun p => decide (p.1 = o)).length
theorem getM_some {m : PM} {p : PK} (h : p ∈ m.map Prod.fst) : ∃ s, getM m p = some s := by
  induction m with
  | nil => cases h
  | cons x m ih =>
    obtain ⟨y, u⟩ := x
    have h1 : getM ((y, u) :: m) p = if p = y then some u else getM m p := rfl
    rw [h1]
    by_cases e : p = y
    · rw [if_pos e]; exact ⟨u, rfl⟩
    · rw [if_neg e]
      rw [List.map_cons] at h
      rcases List.mem_cons.1 h with h | h
      · exact absurd h e
      · exact ih h
theorem getM_mem2 {m : PM} {x : PK} {s : ByteArray} (h : getM m x = some s) : (x, s) ∈ m := by
  induction m with
  | nil => cases h
  | cons p m ih =>
    obtain ⟨y, u⟩ := p
    have h1 : getM ((y, u) :: m) x = if x = y then some u else getM m x := rfl
    rw [h1] at h
    split at h
    · next e => cases h; rw [e]; exact .head _
    · exact .tail _ (ih h)
theorem fetchV_some {m : PM} {p : PK} {s : ByteArray} (h : getM m p = some s) : fetchV m p = .tuple #[.string s, zv 0] := by unfold fetchV; rw [h]
theorem fetchV_none {m : PM} {p : PK} (h : getM m p = none) : fetchV m p = .tuple #[.string (ByteArray.mk #[]), zv 271] := by unfold fetchV; rw [h]
attribute [local irreducible] WC WL WX POp Then Again Fn NX W1 WA WO QL RP RA Yld LoopAt HC HL HX HN H1 HA HO HQ HB HP A.blk A.grow A.rd A.obj A.mp AgainH CutH
theorem pick27_fn (c n : Int) (h1 : -9223372036854775808 ≤ c) (h2 : c ≤ 9223372036854775807) (hn : 0 < n) (w : World) : Fn Tryz.prog 18 #[zv c, zv n] w fun v w' => v = zv (pk c n) ∧ w = w' := by
  refine enter (l := [_, _]) rfl Tryz.ntmps18 rfl ?_
  by_cases h : c < 0
  · repeat' (first | apply WL.fold | apply WA.fold | apply WL.nil | apply WX.n_then | apply WC.seq | apply WC.region | refine WL.pa ?_ | refine WL.ga rfl ?_ | refine WL.na rfl ?_ | refine WL.nu rfl rfl ?_ | apply WC.block | apply WC.skip | apply WC.exit | apply WC.ret | apply WX.e_block | refine WX.e_other rfl ?_ | apply WX.e_then | apply WX.e_again | apply WX.n_block | apply WX.r_then | apply WX.r_block | apply WX.r_again | refine WC.cond_yes rfl ?_ | refine WC.cond_no rfl ?_ | refine WC.cond rfl (fun hc => ?_) (fun hc => ?_) | refine WC.cond_b rfl (fun hc => ?_) (fun hc => ?_))
    exact WX.ret1 rfl rfl ⟨by rw [pk, if_pos h], rfl⟩
  · repeat' (first | apply WL.fold | apply WA.fold | apply WL.nil | apply WX.n_then | apply WC.seq | apply WC.region | refine WL.pa ?_ | refine WL.ga rfl ?_ | refine WL.na rfl ?_ | refine WL.nu rfl rfl ?_ | apply WC.block | apply WC.skip | apply WC.exit | apply WC.ret | apply WX.e_block | refine WX.e_other rfl ?_ | apply WX.e_then | apply WX.e_again | apply WX.n_block | apply WX.r_then | apply WX.r_block | apply WX.r_again | refine WC.cond_yes rfl ?_ | refine WC.cond_no rfl ?_ | refine WC.cond rfl (fun hc => ?_) (fun hc => ?_) | refine WC.cond_b rfl (fun hc => ?_) (fun hc => ?_))
    exact WX.ret1 rfl rfl ⟨by rw [pk, if_neg h], rfl⟩
theorem cut27_fn (s : ByteArray) (n : Nat) (hs : s.size ≤ 9223372036854775807) (w : World) : Fn Tryz.prog 11 #[.string s, zv (n : Int)] w fun v w' => v = .string (cutS n s) ∧ w = w' := by
  have hm : min (s.size : Int) (n : Int) = ((min s.size n : Nat) : Int) := by omega
  refine enter (l := [_, _]) rfl Tryz.ntmps11 rfl ?_
  repeat' (first | apply WL.fold | apply WA.fold | apply WL.nil | apply WX.n_then | apply WC.seq | apply WC.region | refine WL.pa ?_ | refine WL.ga rfl ?_ | refine WL.na rfl ?_ | refine WL.nu rfl rfl ?_ | apply WC.block | apply WC.skip | apply WC.exit | apply WC.ret | apply WX.e_block | refine WX.e_other rfl ?_ | apply WX.e_then | apply WX.e_again | apply WX.n_block | apply WX.r_then | apply WX.r_block | apply WX.r_again | refine WC.cond_yes rfl ?_ | refine WC.cond_no rfl ?_ | refine WC.cond rfl (fun hc => ?_) (fun hc => ?_) | refine WC.cond_b rfl (fun hc => ?_) (fun hc => ?_))
  exact WX.ret1 rfl rfl ⟨by rw [hm, Int.toNat_natCast]; rfl, rfl⟩
end Go.Sx
/- Plain, chapters 25 and 26: a group that is appended while the power may fail. -/
namespace Go.Sx
open Go
/-- A disk on which records are kept, and nothing is pending; it may have no power. -/
structure Half (k : Dk) (N : Nat) (l : List ByteArray) : Prop where
  dur : k.dur = k.vis
  vis : k.vis = outsL zero32 l ++ List.replicate (N - (outsL zero32 l).length) 0
  pend : k.pend = []
  fit : (outsL zero32 l).length ≤ N
  lo : 1 ≤ N
  hi : N ≤ 4194304
  left : k.left ≤ 1000000
/-- A content that reads as records. -/
def Good (N : Nat) (l : List ByteArray) (D : List UInt8) : Prop := D.length = N ∧ ∃ Y, D = outsL zero32 l ++ Y ∧ (Y = [] ∨ ∃ Y', Y = 0 :: Y')
theorem good_rep {N : Nat} {l : List ByteArray} (h : (outsL zero32 l).length ≤ N) : Good N l (outsL zero32 l ++ List.replicate (N - (outsL zero32 l).length) 0) := by
  refine ⟨by rw [List.length_append, List.length_replicate]; omega, _, rfl, ?_⟩
  cases N - (outsL zero32 l).length with
  | zero => exact .inl rfl
  | succ m => exact .inr ⟨List.replicate m 0, List.replicate_succ⟩
theorem Half.len {k : Dk} {N : Nat} {l : List ByteArray} (h : Half k N l) : k.vis.length = N := by
  have h1 := h.fit
  rw [h.vis, List.length_append, List.length_replicate]; omega
theorem Half.ok {k : Dk} {N : Nat} {l : List ByteArray} (h : Half k N l) : k.Ok := by
  have h1 := h.len
  have h2 := h.lo
  have h3 := h.hi
  exact ⟨by rw [h.dur], by rw [h.dur]; omega, by rw [h.dur]; omega, h.left, by rw [h.pend]; exact Nat.zero_le _⟩
theorem Half.fits {k : Dk} {N : Nat} {l : List ByteArray} (h : Half k N l) : k.Fit := fun x hx => by rw [h.pend] at hx; cases hx
theorem Clean.half {j : Jn} {N : Nat} {l : List ByteArray} (h : Clean j N l) : Half j.k N l :=
  ⟨h.dur, by have := h.vis; rw [h.t, adds0_size] at this; exact this, h.pend, by have := h.fit; rw [h.t, adds0_size] at this; exact this, h.lo, h.hi, by rw [h.left]; exact Nat.zero_le _⟩
theorem Half.clean {k : Dk} {N : Nat} {l : List ByteArray} (h : Half k N l) (ho : k.off = false) (hl : k.left = 0) : Clean ⟨adds t00 l, k, false⟩ N l :=
  ⟨rfl, rfl, ho, hl, h.pend, h.dur, by rw [adds0_size]; exact h.vis, by rw [adds0_size]; exact h.fit, h.lo, h.hi⟩
/-- What is good is opened. -/
theorem good_open {k : Dk} {N : Nat} {l : List ByteArray} {D : List UInt8} (h : Good N l D) (hs : ∀ r ∈ l, r.size ≤ 65536) (ho : k.off = false) (hl : k.left = 0) (hd : k.dur = D) (hv : k.vis = D) (hp : k.pend = []) (hlo : 1 ≤ N) (hhi : N ≤ 4194304) :
    ∃ k', openF k = (0, k', some (adds t00 l)) ∧ Clean ⟨adds t00 l, k', false⟩ N l := by
  obtain ⟨hlen, Y, hY, hY0⟩ := h
  have hlY := congrArg List.length hY
  rw [List.length_append, hlen] at hlY
  have hload : loadF k.vis t00 = some (adds t00 l) := by
    rw [hv, loadF_adds l t00 (rest := Y) hs hY]
    refine loadF_end fun h1 => h1.2 ?_
    have hdr : D.drop (adds t00 l).size = Y := by rw [adds0_size, hY, List.drop_left]
    rcases hY0 with rfl | ⟨Y', rfl⟩
    · have := h1.1
      rw [adds0_size] at this
      simp at hlY
      omega
    · exact (getD_drop hdr).2.1
  by_cases hz : isZero (k.vis.drop (adds t00 l).size) = true
  · refine ⟨k, openF_zero ho hload hz, ?_⟩
    have hYz : isZero Y = true := by rw [hv, adds0_size, hY, List.drop_left] at hz; exact hz
    have hh : Half k N l := ⟨by rw [hd, hv], by rw [hv, hY, isZero_rep hYz]; congr 2; omega, hp, by omega, hlo, hhi, by rw [hl]; exact Nat.zero_le _⟩
    exact hh.clean ho hl
  · have hsz : (mkBA (List.replicate (k.vis.length - (adds t00 l).size) 0)).size = N - (outsL zero32 l).length := by
      show (List.replicate (k.vis.length - (adds t00 l).size) (0 : UInt8)).toArray.size = _
      rw [List.size_toArray, List.length_replicate, hv, hlen, adds0_size]
    have hw := put_vis (k := k) (off := (adds t00 l).size) (s := mkBA (List.replicate (k.vis.length - (adds t00 l).size) 0)) ho hl (by rw [hsz, adds0_size, hd]; omega)
    have hrun : runOps (clr k (adds t00 l)) k = (0, ⟨false, 0, splice k.vis (adds t00 l).size (List.replicate (k.vis.length - (adds t00 l).size) 0), splice k.vis (adds t00 l).size (List.replicate (k.vis.length - (adds t00 l).size) 0), []⟩) := by
      unfold clr
      rw [runOps_ok (show ((DOp.wr _ _).run k).1 = 0 by show (k.write _ _).1 = 0; rw [hw])]
      show runOps _ (k.write _ _).2 = _
      rw [hw]
      rw [runOps_ok (show (DOp.sy.run _).1 = 0 from by show (Dk.sync _).1 = 0; rw [Dk.sync_on rfl])]
      show (0, (Dk.sync _).2) = _
      rw [Dk.sync_on rfl]; rfl
    refine ⟨_, openF_clr ho hload hz (by rw [hrun]), ?_⟩
    rw [hrun]
    have hvis : splice k.vis (adds t00 l).size (List.replicate (k.vis.length - (adds t00 l).size) 0) = outsL zero32 l ++ List.replicate (N - (outsL zero32 l).length) 0 := by
      rw [hv, hlen, adds0_size, hY]
      unfold splice
      rw [List.take_left, List.length_replicate, List.drop_of_length_le (by rw [List.length_append]; omega), List.append_nil]
    have hh : Half ⟨false, 0, splice k.vis (adds t00 l).size (List.replicate (k.vis.length - (adds t00 l).size) 0), splice k.vis (adds t00 l).size (List.replicate (k.vis.length - (adds t00 l).size) 0), []⟩ N l :=
      ⟨rfl, hvis, rfl, by omega, hlo, hhi, Nat.zero_le _⟩
    exact hh.clean rfl rfl
theorem splice_tail (A : List UInt8) (x : UInt8) (Z s : List UInt8) : splice (A ++ x :: Z) (A.length + 1) s = A ++ x :: splice Z 0 s := by
  unfold splice
  rw [List.take_append, List.take_of_length_le (by omega), show A.length + 1 - A.length = 1 from by omega, List.drop_append, List.drop_of_length_le (by omega), show A.length + 1 + s.length - A.length = s.length + 1 from by omega]
  simp
theorem splice_head (A : List UInt8) (x y : UInt8) (Z : List UInt8) : splice (A ++ x :: Z) A.length [y] = A ++ y :: Z := by
  unfold splice
  rw [List.take_left, List.drop_append, List.drop_of_length_le (by simp)]
  simp
theorem splice_none (D : List UInt8) (p : Nat) : splice D p [] = D := by
  unfold splice
  rw [List.append_nil, List.length_nil, Nat.add_zero, List.take_append_drop]
theorem crashL_one (keep : List Int) : crashL keep 1 = [] ∨ crashL keep 1 = [0] := by
  unfold crashL
  show List.filter _ [0] = [] ∨ List.filter _ [0] = [0]
  rw [List.filter_cons]
  split
  · exact .inr rfl
  · exact .inl rfl
theorem crash_one {k : Dk} {p : Nat} {s : ByteArray} (h : k.pend = [(p, s)]) (keep : List Int) (torn : Int) : (k.crash keep torn).dur = k.dur ∨ (k.crash keep torn).dur = splice k.dur p (tornS torn true s).data.toList := by
  show applyL k.pend torn (crashL keep k.pend.length) k.dur = _ ∨ applyL k.pend torn (crashL keep k.pend.length) k.dur = _
  rw [h]
  rcases crashL_one keep with e | e
  · left; show applyL _ torn (crashL keep 1) k.dur = _; rw [e]; rfl
  · right; show applyL _ torn (crashL keep 1) k.dur = _; rw [e]; rfl
theorem crash_none {k : Dk} (h : k.pend = []) (keep : List Int) (torn : Int) : (k.crash keep torn).dur = k.dur := by
  show applyL k.pend torn (crashL keep k.pend.length) k.dur = _
  rw [h]; rfl
theorem torn_one (torn : Int) : (tornS torn true (mkBA [1])).data.toList = [] ∨ (tornS torn true (mkBA [1])).data.toList = [1] := by
  unfold tornS
  split
  · rename_i h
    rw [extract_L]
    show ([(1 : UInt8)].drop 0).take (min torn 1).toNat = [] ∨ _
    by_cases h0 : torn = 0
    · subst h0; exact .inl rfl
    · right
      have : (min torn 1).toNat = 1 := by omega
      show ([(1 : UInt8)].drop 0).take ((min torn 1).toNat - 0) = [1]
      rw [this]; rfl
  · exact .inr rfl
/-- What comes of a group that is appended while the power may fail. -/
def Fails (N : Nat) (l G : List ByteArray) (r : Int × Dk) : Prop :=
  r.1 = 251 ∧ r.2.Ok ∧ r.2.Fit ∧ r.2.pend.length ≤ 1 ∧ r.2.dur.length = N ∧ ∀ keep torn, Good N l (r.2.crash keep torn).dur ∨ Good N (l ++ G) (r.2.crash keep torn).dur
theorem runs {k : Dk} {N : Nat} {l G : List ByteArray} (h : Half k N l) (hG : G ≠ []) (hf : (outsL zero32 l).length + (outsL (adds t00 l).head G).length ≤ N) :
    ((runOps (grp (adds t00 l) (outsL (adds t00 l).head G)) k).1 = 0 ∧ Half (runOps (grp (adds t00 l) (outsL (adds t00 l).head G)) k).2 N (l ++ G)) ∨ Fails N l G (runOps (grp (adds t00 l) (outsL (adds t00 l).head G)) k) := by
  have hlen := h.len
  have hok := h.ok
  have hfit := h.fit
  have hpn := h.pend
  have hdl : k.dur.length = N := by rw [h.dur, hlen]
  have hlo := h.lo
  have hhi := h.hi
  have hout2 : outsL zero32 (l ++ G) = outsL zero32 l ++ outsL (adds t00 l).head G := outsL_app l G t00
  have hsz := adds0_size l
  obtain ⟨o1, ho1⟩ : ∃ o1, outsL (adds t00 l).head G = 1 :: o1 := by
    obtain ⟨r, G', rfl⟩ := List.exists_cons_of_ne_nil hG
    exact ⟨_, by show outL _ r ++ _ = _; rw [show outL (adds t00 l).head r = 1 :: _ from rfl, List.cons_append]⟩
  rw [ho1] at hf hout2 ⊢
  rw [List.length_cons] at hf
  obtain ⟨A, hA⟩ : ∃ A, A = outsL zero32 l := ⟨_, rfl⟩
  rw [← hA] at hfit hf hout2 hsz
  obtain ⟨m, hm⟩ : ∃ m, N - A.length = m + 1 := ⟨N - A.length - 1, by omega⟩
  have hvis : k.vis = A ++ 0 :: List.replicate m 0 := by rw [h.vis, ← hA, hm, List.replicate_succ]
  have hg0 : ∀ Y', (A ++ 0 :: Y').length = N → Good N l (A ++ 0 :: Y') := fun Y' hl => ⟨hl, 0 :: Y', by rw [hA], .inr ⟨Y', rfl⟩⟩
  have hgr : grp (adds t00 l) (1 :: o1) = [.wr (A.length + 1) (mkBA o1), .sy, .wr A.length (mkBA [1]), .sy] := by unfold grp; rw [hsz]; rfl
  have hs1 : (mkBA o1).size = o1.length := by show o1.toArray.size = _; rw [List.size_toArray]
  have hs2 : (mkBA [1]).size = 1 := rfl
  rw [hgr]
  cases hoff : k.off
  rotate_left
  · right
    have hr : runOps [.wr (A.length + 1) (mkBA o1), .sy, .wr A.length (mkBA [1]), .sy] k = (251, k) := by
      rw [runOps_no (by show ¬ (k.write _ _).1 = 0; rw [Dk.write_off hoff]; show ¬ (251 : Int) = 0; decide)]
      exact Dk.write_off hoff
    rw [hr]
    refine ⟨rfl, hok, h.fits, by show k.pend.length ≤ 1; rw [hpn]; exact Nat.zero_le _, hdl, fun keep torn => .inl ?_⟩
    show Good N l (k.crash keep torn).dur
    rw [crash_none hpn, h.dur, hvis]
    exact hg0 _ (by rw [← hvis]; exact hlen)
  -- the first write
  obtain ⟨k1, hk1⟩ : ∃ k1, k1 = k.put (A.length + 1) (mkBA o1) := ⟨_, rfl⟩
  have hw1 : k.write (A.length + 1) (mkBA o1) = (0, k1) := by rw [hk1]; exact Dk.write_on hoff (by omega)
  obtain ⟨p1, p2, p3⟩ := put_parts k (A.length + 1) (mkBA o1)
  rw [← hk1] at p1 p2 p3
  rw [hpn, List.nil_append] at p3
  have hv1 : k1.vis = A ++ 0 :: splice (List.replicate m 0) 0 o1 := by rw [p2, hvis]; exact splice_tail A 0 _ o1
  have hk1ok : k1.Ok := by
    have := (DOp.wr (A.length + 1) (mkBA o1)).run_ok hok (by rw [hpn]; decide)
    have e : ((DOp.wr (A.length + 1) (mkBA o1)).run k).2 = k1 := by show (k.write _ _).2 = _; rw [hw1]
    rwa [e] at this
  have hv1l : k1.vis.length = N := by rw [hk1ok.len, p1, hdl]
  have st1 : runOps [.wr (A.length + 1) (mkBA o1), .sy, .wr A.length (mkBA [1]), .sy] k = runOps [.sy, .wr A.length (mkBA [1]), .sy] k1 := by
    rw [runOps_ok (by show (k.write _ _).1 = 0; rw [hw1])]
    show runOps _ (k.write _ _).2 = _
    rw [hw1]
  rw [st1]
  cases ho1f : k1.off
  rotate_left
  · right
    have hr : runOps [.sy, .wr A.length (mkBA [1]), .sy] k1 = (251, k1) := by
      rw [runOps_no (by show ¬ (k1.sync).1 = 0; rw [Dk.sync_off ho1f]; show ¬ (251 : Int) = 0; decide)]
      exact Dk.sync_off ho1f
    rw [hr]
    refine ⟨rfl, hk1ok, fun x hx => ?_, by show k1.pend.length ≤ 1; rw [p3]; exact Nat.le_refl _, by show k1.dur.length = N; rw [p1, hdl], fun keep torn => .inl ?_⟩
    · have hx' : x ∈ k1.pend := hx
      rw [p3] at hx'
      rcases List.mem_cons.1 hx' with rfl | hx'
      · show A.length + 1 + (mkBA o1).size ≤ k1.dur.length
        rw [p1]; omega
      · cases hx'
    · show Good N l (k1.crash keep torn).dur
      rcases crash_one p3 keep torn with e | e
      · rw [e, p1, h.dur, hvis]
        exact hg0 _ (by rw [← hvis]; exact hlen)
      · rw [e, p1, h.dur, hvis, splice_tail]
        refine hg0 _ ?_
        have ht := tornS_size torn true (mkBA o1)
        have htl : (tornS torn true (mkBA o1)).data.toList.length = (tornS torn true (mkBA o1)).size := by rw [Array.length_toList]; rfl
        rw [List.length_append, List.length_cons, splice_len (by rw [List.length_replicate]; omega), List.length_replicate]; omega
  -- it is durable
  obtain ⟨k2, hk2⟩ : ∃ k2 : Dk, k2 = { k1 with dur := k1.vis, pend := [] } := ⟨_, rfl⟩
  have hw2 : k1.sync = (0, k2) := by rw [hk2]; exact Dk.sync_on ho1f
  have st2 : runOps [.sy, .wr A.length (mkBA [1]), .sy] k1 = runOps [.wr A.length (mkBA [1]), .sy] k2 := by
    rw [runOps_ok (by show (k1.sync).1 = 0; rw [hw2])]
    show runOps _ (k1.sync).2 = _
    rw [hw2]
  rw [st2]
  have q1 : k2.dur = k1.vis := by rw [hk2]
  have q2 : k2.vis = k1.vis := by rw [hk2]
  have q3 : k2.pend = [] := by rw [hk2]
  have q4 : k2.off = false := by rw [hk2]; exact ho1f
  have hk2ok : k2.Ok := by
    have := DOp.sy.run_ok hk1ok (by rw [p3]; show 2 ≤ 10000; decide)
    have e : (DOp.sy.run k1).2 = k2 := by show (k1.sync).2 = _; rw [hw2]
    rwa [e] at this
  -- the second write
  obtain ⟨k3, hk3⟩ : ∃ k3, k3 = k2.put A.length (mkBA [1]) := ⟨_, rfl⟩
  have hw3 : k2.write A.length (mkBA [1]) = (0, k3) := by rw [hk3]; exact Dk.write_on q4 (by rw [q1, hs2]; omega)
  obtain ⟨r1, r2, r3⟩ := put_parts k2 A.length (mkBA [1])
  rw [← hk3] at r1 r2 r3
  rw [q3, List.nil_append] at r3
  have hk3ok : k3.Ok := by
    have := (DOp.wr A.length (mkBA [1])).run_ok hk2ok (by rw [q3]; decide)
    have e : ((DOp.wr A.length (mkBA [1])).run k2).2 = k3 := by show (k2.write _ _).2 = _; rw [hw3]
    rwa [e] at this
  have hsp : splice (List.replicate m 0) 0 o1 = o1 ++ List.replicate (m - o1.length) 0 := by
    unfold splice
    rw [List.take_zero, List.nil_append, Nat.zero_add, List.drop_replicate]
  have hv3 : k3.vis = A ++ 1 :: splice (List.replicate m 0) 0 o1 := by
    rw [r2, q2, hv1]
    exact splice_head A 0 1 _
  have hv3' : k3.vis = outsL zero32 (l ++ G) ++ List.replicate (N - (outsL zero32 (l ++ G)).length) 0 := by
    rw [hv3, hsp, hout2, List.append_assoc, List.cons_append]
    congr 4
    rw [List.length_append, List.length_cons]; omega
  have hout2l : (outsL zero32 (l ++ G)).length ≤ N := by rw [hout2, List.length_append, List.length_cons]; omega
  have st3 : runOps [.wr A.length (mkBA [1]), .sy] k2 = runOps [.sy] k3 := by
    rw [runOps_ok (by show (k2.write _ _).1 = 0; rw [hw3])]
    show runOps _ (k2.write _ _).2 = _
    rw [hw3]
  rw [st3]
  cases ho3 : k3.off
  rotate_left
  · right
    have hr : runOps [.sy] k3 = (251, k3) := by
      rw [runOps_no (by show ¬ (k3.sync).1 = 0; rw [Dk.sync_off ho3]; show ¬ (251 : Int) = 0; decide)]
      exact Dk.sync_off ho3
    rw [hr]
    have hd3 : k3.dur = A ++ 0 :: splice (List.replicate m 0) 0 o1 := by rw [r1, q1, hv1]
    have hd3l : k3.dur.length = N := by rw [r1, q1, hv1l]
    refine ⟨rfl, hk3ok, fun x hx => ?_, by show k3.pend.length ≤ 1; rw [r3]; exact Nat.le_refl _, hd3l, fun keep torn => ?_⟩
    · have hx' : x ∈ k3.pend := hx
      rw [r3] at hx'
      rcases List.mem_cons.1 hx' with rfl | hx'
      · show A.length + (mkBA [1]).size ≤ k3.dur.length
        rw [hs2]; omega
      · cases hx'
    · show Good N l (k3.crash keep torn).dur ∨ Good N (l ++ G) (k3.crash keep torn).dur
      have hgl : Good N l k3.dur := by
        rw [hd3]; exact hg0 _ (by rw [← hd3]; exact hd3l)
      rcases crash_one r3 keep torn with e | e
      · rw [e]; exact .inl hgl
      · rcases torn_one torn with e1 | e1
        · rw [e, e1, splice_none]; exact .inl hgl
        · right
          rw [e, e1, hd3, splice_head, ← hv3, hv3']
          exact good_rep hout2l
  · left
    have hr : runOps [.sy] k3 = (0, { k3 with dur := k3.vis, pend := [] }) := by
      rw [runOps_ok (by show (k3.sync).1 = 0; rw [Dk.sync_on ho3])]
      show (0, (k3.sync).2) = _
      rw [Dk.sync_on ho3]
    rw [hr]
    exact ⟨rfl, ⟨rfl, hv3', rfl, hout2l, hlo, hhi, hk3ok.left⟩⟩
/-- What holds of a disk whose content behind a power failure is one of two lists. -/
structure Ends (N : Nat) (l1 l2 : List ByteArray) (k : Dk) : Prop where
  ok : k.Ok
  fits : k.Fit
  pend : k.pend.length ≤ 1
  dur : k.dur.length = N
  good : ∀ keep torn, Good N l1 (k.crash keep torn).dur ∨ Good N l2 (k.crash keep torn).dur
theorem Half.ends {k : Dk} {N : Nat} {l : List ByteArray} (h : Half k N l) : Ends N l l k :=
  ⟨h.ok, h.fits, by rw [h.pend]; exact Nat.zero_le _, by rw [h.dur, h.len], fun keep torn => .inl (by rw [crash_none h.pend, h.dur, h.vis]; exact good_rep h.fit)⟩
theorem Fails.ends {N : Nat} {l G : List ByteArray} {r : Int × Dk} (h : Fails N l G r) : Ends N l (l ++ G) r.2 := ⟨h.2.1, h.2.2.1, h.2.2.2.1, h.2.2.2.2.1, h.2.2.2.2.2⟩
/-- What is left behind a power failure opens as one of the two. -/
theorem Ends.opens {N : Nat} {l1 l2 : List ByteArray} {k : Dk} (h : Ends N l1 l2 k) (hs1 : ∀ r ∈ l1, r.size ≤ 65536) (hs2 : ∀ r ∈ l2, r.size ≤ 65536) (hlo : 1 ≤ N) (hhi : N ≤ 4194304) (keep : List Int) (torn : Int) :
    ∃ (l : List ByteArray) (k' : Dk), (l = l1 ∨ l = l2) ∧ openF (k.crash keep torn) = (0, k', some (adds t00 l)) ∧ Clean ⟨adds t00 l, k', false⟩ N l ∧ (k.crash keep torn).Ok ∧ (k.crash keep torn).pend = [] := by
  have hok := crash_ok h.ok h.fits keep torn
  rcases h.good keep torn with hg | hg
  · obtain ⟨k', h1, h2⟩ := good_open (k := k.crash keep torn) hg hs1 rfl rfl rfl rfl rfl hlo hhi
    exact ⟨l1, k', .inl rfl, h1, h2, hok, rfl⟩
  · obtain ⟨k', h1, h2⟩ := good_open (k := k.crash keep torn) hg hs2 rfl rfl rfl rfl rfl hlo hhi
    exact ⟨l2, k', .inr rfl, h1, h2, hok, rfl⟩
/-- A group is appended to a journal whose records are durable, while the power may fail. -/
theorem half_step {j : Jn} {N : Nat} {l G : List ByteArray} (ht : j.t = adds t00 l) (hb : j.br = false) (h : Half j.k N l) (hg : G.any isLong = false) : ∃ (e : Int) (j2 : Jn), j.append G = (e, j2) ∧
    ((e = 0 ∧ j2.t = adds t00 (l ++ G) ∧ j2.br = false ∧ Half j2.k N (l ++ G)) ∨ (e = 261 ∧ j2 = j) ∨ (e = 251 ∧ j2.t = j.t ∧ j2.br = true ∧ Ends N l (l ++ G) j2.k)) := by
  have hlen := h.len
  have hdl : j.k.dur.length = N := by rw [h.dur, hlen]
  have hnb : ¬ (j.br = true ∨ G.any isLong = true) := by rw [hg, hb]; rintro (h | h) <;> cases h
  have hsz : j.t.size = (outsL zero32 l).length := by rw [ht, adds0_size]
  have hfit := h.fit
  by_cases hf : j.t.size + (outsL j.t.head G).length ≤ N
  · have h1 : ¬ (j.k.dur.length : Int) - (j.t.size : Int) < ((outsL j.t.head G).length : Int) := by omega
    by_cases hgn : G = []
    · subst hgn
      exact ⟨0, j, append_nil hnb h1 rfl, .inl ⟨rfl, by rw [List.append_nil]; exact ht, hb, by rw [List.append_nil]; exact h⟩⟩
    · have hne := outsL_ne (h := j.t.head) hgn
      have hr := runs (G := G) h hgn (by rw [← ht]; omega)
      rw [← ht] at hr
      rcases hr with ⟨e1, h2⟩ | hF
      · exact ⟨0, _, append_ok hnb h1 hne e1, .inl ⟨rfl, by show adds j.t G = _; rw [ht, adds_app], hb, h2⟩⟩
      · have e1 := hF.1
        exact ⟨_, _, append_no hnb h1 hne (by rw [e1]; decide), .inr (.inr ⟨e1, rfl, rfl, hF.ends⟩)⟩
  · exact ⟨261, j, append_full hnb (by omega), .inr (.inl ⟨rfl, rfl⟩)⟩
/-- Cut, on a disk whose records are durable. -/
theorem Half.cut {k : Dk} {N : Nat} {l : List ByteArray} (h : Half k N l) (n : Nat) (hn : n ≤ 1000000) : Half (k.cut n).2 N l := by
  unfold Dk.cut
  split
  · exact h
  · exact ⟨h.dur, h.vis, h.pend, h.fit, h.lo, h.hi, hn⟩
end Go.Sx
/- Plain, chapter 27: what a deed does, with and without power. -/
namespace Go.Sx
open Go
theorem hwYT {G G2 : Prop} (x : G2) (hwq : Hold G2 → G := by
    intro hQq
    repeat' (first | refine HL.pa ?_ (POp.pneN rfl rfl) | refine HL.pa ?_ (POp.pnil1 rfl rfl) | refine HL.pa ?_ (POp.pnil0 rfl rfl) | refine HL.pa ?_ (POp.nilCheck rfl) | apply HL.fold | apply HA.fold | apply HL.nil | apply HX.n_then | apply HC.seq | apply HC.region | refine HL.pa ?_ | refine HL.ga rfl ?_ | refine HL.na rfl ?_ | refine HL.nu rfl rfl ?_ | apply HC.block | apply HC.skip | apply HC.exit | apply HC.ret | apply HX.e_block | refine HX.e_other rfl ?_ | apply HX.e_then | apply HX.e_again | apply HX.n_block | apply HX.r_then | apply HX.r_block | apply HX.r_again | refine HC.cond_yes rfl ?_ | refine HC.cond_no rfl ?_ | refine HL.one (H1.ldb rfl memA rfl rfl ?_) | refine HC.cond rfl (fun hc => ?_) (fun hc => ?_) | refine HC.cond_b rfl (fun hc => ?_) (fun hc => ?_))
    exact hQq.get) : G := hwq ⟨x⟩
structure DeedV where
  kind : Int
  object : Int
  fragment : Int
  s : ByteArray
  keep : List Int
  vk : Value
instance : Inhabited DeedV := ⟨⟨0, 0, 0, ByteArray.mk #[], [], undef⟩⟩
def deedC (q : DeedV) : List Value := [zv q.kind, zv q.object, zv q.fragment, .string q.s, q.vk]
def deedAt (l : List DeedV) (i : Nat) : DeedV := l.getD i default
/-- A slice of deeds. -/
structure RdDeeds (w : World) (a : Option Addr) (c : Nat) (l : List DeedV) : Prop where
  cap : l.length ≤ c
  cells : l = [] ∨ ∃ b off, a = some ⟨b, off, none⟩ ∧ b < w.heap.size ∧ ∀ i, i < l.length → ∀ (j : Nat) (u : Value), (deedC (deedAt l i))[j]? = some u → w.cell? ⟨b, off + i * 5 + j, none⟩ = some u
  kind : ∀ i, i < l.length → -9223372036854775808 ≤ (deedAt l i).kind ∧ (deedAt l i).kind ≤ 9223372036854775807
  object : ∀ i, i < l.length → -9223372036854775808 ≤ (deedAt l i).object ∧ (deedAt l i).object ≤ 9223372036854775807
  fragment : ∀ i, i < l.length → -9223372036854775808 ≤ (deedAt l i).fragment ∧ (deedAt l i).fragment ≤ 9223372036854775807
  s : ∀ i, i < l.length → (deedAt l i).s.size ≤ 9223372036854775807
  keep : ∀ i, i < l.length → Rd w (deedAt l i).vk (ints (deedAt l i).keep) ∧ (deedAt l i).keep.length ≤ 9223372036854775807
def objD (q : DeedV) : Int := 1 + pk q.object 4
def plD (q : DeedV) : PK := (objD q, pk q.fragment 5)
/-- A deed: the error, the fragments, the journal. -/
def doF (m : PM) (j : Jn) (q : DeedV) : Int × PM × Jn := if pk q.kind 6 = 5 then ((dropF m j (objD q)).2.1, (dropF m j (objD q)).2.2.1, (dropF m j (objD q)).2.2.2) else storeF m j (plD q) (cutS 200 q.s)
def doM (m : PM) (q : DeedV) : PM := if pk q.kind 6 = 5 then dropM m (objD q) else setM m (plD q) (cutS 200 q.s)
/-- The records that a deed appends. -/
def doR (m : PM) (q : DeedV) : List ByteArray := if pk q.kind 6 = 5 then (if (dropM m (objD q)).length = m.length then [] else [recD (objD q)]) else [recS (plD q) (cutS 200 q.s)]
/-- A custodian whose records are durable, behind at most i deeds. -/
structure DI (i : Nat) (m : PM) (j : Jn) (l : List ByteArray) : Prop where
  c : CClean m j 20000 l
  len : l.length ≤ i
  sz : ∀ r ∈ l, r.size ≤ 300
end Go.Sx
/- Chapter 27: a deed, and whether two custodians have the same: the walks. -/
namespace Go.Sx
open Go Go.Proofs Go.RowKit
/-- What is digested for an answer. -/
def askB (s ch : ByteArray) : ByteArray := (strN ch.size ++ ch) ++ s
theorem askB_size (s ch : ByteArray) (hc : ch.size ≤ 100) : (askB s ch).size ≤ s.size + 110 := by
  have h1 := strN_size (n := ch.size) (by omega)
  unfold askB
  rw [ByteArray.size_append, ByteArray.size_append]
  omega
theorem expB_ask {s ch : ByteArray} (hc : ch.size ≤ 100) : expB s ch = sumS (askB s ch) := by unfold expB; rw [if_neg (by omega)]; rfl
/-- The numbers of a deed are such. -/
structure DeedOk (q : DeedV) : Prop where
  k1 : -9223372036854775808 ≤ q.kind
  k2 : q.kind ≤ 9223372036854775807
  o1 : -9223372036854775808 ≤ q.object
  o2 : q.object ≤ 9223372036854775807
  f1 : -9223372036854775808 ≤ q.fragment
  f2 : q.fragment ≤ 9223372036854775807
  s : q.s.size ≤ 9223372036854775807
theorem RdDeeds.ok {w : World} {a : Option Addr} {c : Nat} {l : List DeedV} (h : RdDeeds w a c l) {i : Nat} (hi : i < l.length) : DeedOk (deedAt l i) :=
  ⟨(h.kind i hi).1, (h.kind i hi).2, (h.object i hi).1, (h.object i hi).2, (h.fragment i hi).1, (h.fragment i hi).2, h.s i hi⟩
attribute [local irreducible] WC WL WX POp Then Again Fn NX W1 WA WO QL RP RA Yld LoopAt HC HL HX HN H1 HA HO HQ HB HP A.blk A.grow A.rd A.obj A.mp AgainH CutH
attribute [local irreducible] A.pm A.mx A.mit sumS newK expB askB
theorem refText27_fn (s : ByteArray) (hs : s.size ≤ 65536) (w : World) : Fn Tryz.prog 47 #[.string s] w fun v w' => v = .string (strN s.size ++ s) ∧ Ext w w' := by
  refine enterH (l := [_]) rfl Tryz.ntmps47 rfl ?_
  refine hwYT ?_
  refine HL.one (H1.callx (vs := [_]) rfl rfl (fun w' _ => refPutString_fn s hs w') ?_)
  refine hwYT ?_
  exact HX.ret1 rfl rfl fun w' hM => ⟨rfl, hM.ext⟩
theorem asked_fn (s ch : ByteArray) (hs : s.size ≤ 100000) (hc : ch.size ≤ 100) (w : World) : Fn Tryz.prog 16 #[.string s, .string ch] w fun v w' => v = .string (askB s ch) ∧ Ext w w' := by
  have hz := strN_size (n := ch.size) (by omega)
  have h1 := ba_append_size (strN ch.size) ch
  refine enterH (l := [_, _]) rfl Tryz.ntmps16 rfl ?_
  refine hwYT ?_
  refine HL.one (H1.callx (vs := [_]) rfl rfl (fun w' _ => refText27_fn ch (by omega) w') ?_)
  refine hwYT ?_
  exact HX.ret1 rfl rfl fun w' hM => ⟨by unfold askB; rfl, hM.ext⟩
end Go.Sx
/- Plain, chapter 27: the reference's fragments are in ascending order. -/
namespace Go.Sx
open Go
/-- The cells of a piece, and of pieces. -/
def pieC (x : PK × ByteArray) : List Value := [zv x.1.1, zv x.1.2, .string x.2]
def piecs (l : PM) : List Value := l.flatMap pieC
theorem pieC_len (x : PK × ByteArray) : (pieC x).length = 3 := rfl
theorem pieC_one (x : PK × ByteArray) : ∀ v ∈ pieC x, v.oneCell' = true := by
  intro v hv
  rcases List.mem_cons.1 hv with rfl | hv
  · rfl
  rcases List.mem_cons.1 hv with rfl | hv
  · rfl
  rcases List.mem_cons.1 hv with rfl | hv
  · rfl
  · cases hv
theorem piecs_get : ∀ {l : PM} {j : Nat} {x : PK × ByteArray}, l[j]? = some x → ∀ (i : Nat) (v : Value), (pieC x)[i]? = some v → (piecs l)[j * 3 + i]? = some v
  | [], _, _, h, _, _, _ => by simp at h
  | y :: l, 0, x, h, i, v, hv => by
    have h1 : some y = some x := h
    cases h1
    have hi : i < 3 := (List.getElem?_eq_some_iff.1 hv).1
    show (pieC y ++ piecs l)[0 * 3 + i]? = some v
    rw [Nat.zero_mul, Nat.zero_add, List.getElem?_append_left (by rw [pieC_len]; exact hi)]
    exact hv
  | y :: l, j + 1, x, h, i, v, hv => by
    have h1 : l[j]? = some x := h
    have h2 := piecs_get h1 i v hv
    show (pieC y ++ piecs l)[(j + 1) * 3 + i]? = some v
    rw [List.getElem?_append_right (by rw [pieC_len]; omega), pieC_len, ← h2]
    congr 1
    omega
theorem piecs_snoc (l : PM) (x : PK × ByteArray) : piecs l ++ pieC x = piecs (l ++ [x]) := by simp [piecs]
/-- One more piece is looked at: what is put is put ahead of the first one that is not less. -/
def putStep (p : PK) (s : ByteArray) (st : PM × Bool) (x : PK × ByteArray) : PM × Bool :=
  let st1 := if ¬ leP x.1 p ∧ st.2 = false then (st.1 ++ [(p, s)], true) else st
  if x.1 = p then st1 else (st1.1 ++ [x], st1.2)
def putPL (l : PM) (p : PK) (s : ByteArray) : PM := if (l.foldl (putStep p s) ([], false)).2 then (l.foldl (putStep p s) ([], false)).1 else (l.foldl (putStep p s) ([], false)).1 ++ [(p, s)]
/-- Pieces in ascending order that are those of a map. -/
structure SortL (l m : PM) : Prop where
  perm : l.Perm m
  ord : l.Pairwise fun x y => leP x.1 y.1
theorem leP_trans {a b c : PK} (h : leP a b) (h2 : leP b c) : leP a c := by unfold leP at *; omega
theorem leP_irr (a : PK) : ¬ leP a a := by unfold leP; omega
theorem leP_tri {a b : PK} (h : ¬ leP a b) (h2 : a ≠ b) : leP b a := by
  unfold leP at *
  have : ¬ (a.1 = b.1 ∧ a.2 = b.2) := fun h => h2 (Prod.ext h.1 h.2)
  omega
theorem fold_done (p : PK) (s : ByteArray) : ∀ (l out : PM), (∀ x ∈ l, leP p x.1) → l.foldl (putStep p s) (out, true) = (out ++ l, true)
  | [], out, _ => by simp
  | x :: l, out, h => by
    have h1 := h x (List.mem_cons_self ..)
    have hne : ¬ x.1 = p := fun e => leP_irr p (by rw [e] at h1; exact h1)
    have hs : putStep p s (out, true) x = (out ++ [x], true) := by
      unfold putStep
      simp [hne]
    show l.foldl (putStep p s) (putStep p s (out, true) x) = _
    rw [hs, fold_done p s l _ fun y hy => h y (List.mem_cons_of_mem _ hy), List.append_assoc]
    rfl
theorem fold_put (p : PK) (s : ByteArray) : ∀ (l out : PM), (l.Pairwise fun x y => leP x.1 y.1) → ∃ (a b : PM), (if (l.foldl (putStep p s) (out, false)).2 then (l.foldl (putStep p s) (out, false)).1 else (l.foldl (putStep p s) (out, false)).1 ++ [(p, s)]) = out ++ (a ++ (p, s) :: b) ∧
    (∀ x ∈ a, leP x.1 p) ∧ (∀ x ∈ b, leP p x.1) ∧ ((∃ u, l = a ++ (p, u) :: b) ∨ l = a ++ b)
  | [], out, _ => ⟨[], [], by simp, (fun _ h => by cases h), (fun _ h => by cases h), .inr rfl⟩
  | x :: l, out, h => by
    rw [List.pairwise_cons] at h
    by_cases h1 : leP x.1 p
    · have hne : ¬ x.1 = p := fun e => leP_irr p (by rw [e] at h1; exact h1)
      have hs : putStep p s (out, false) x = (out ++ [x], false) := by
        unfold putStep
        simp [hne, h1]
      obtain ⟨a, b, k1, k2, k3, k4⟩ := fold_put p s l (out ++ [x]) h.2
      refine ⟨x :: a, b, ?_, ?_, k3, ?_⟩
      · show (if (l.foldl (putStep p s) (putStep p s (out, false) x)).2 then (l.foldl (putStep p s) (putStep p s (out, false) x)).1 else (l.foldl (putStep p s) (putStep p s (out, false) x)).1 ++ [(p, s)]) = _
        rw [hs, k1]
        simp
      · intro y hy
        rcases List.mem_cons.1 hy with rfl | hy
        · exact h1
        · exact k2 y hy
      · rcases k4 with ⟨u, k4⟩ | k4
        · exact .inl ⟨u, by rw [k4]; rfl⟩
        · exact .inr (by rw [k4]; rfl)
    · have hgt : ∀ y ∈ l, leP p y.1 := fun y hy => by
        by_cases e : x.1 = p
        · rw [← e]; exact h.1 y hy
        · exact leP_trans (leP_tri h1 e) (h.1 y hy)
      by_cases e : x.1 = p
      · have hs : putStep p s (out, false) x = (out ++ [(p, s)], true) := by
          unfold putStep
          simp [e, leP_irr p]
        refine ⟨[], l, ?_, (fun _ h => by cases h), hgt, .inl ⟨x.2, by rw [← e]; rfl⟩⟩
        show (if (l.foldl (putStep p s) (putStep p s (out, false) x)).2 then (l.foldl (putStep p s) (putStep p s (out, false) x)).1 else (l.foldl (putStep p s) (putStep p s (out, false) x)).1 ++ [(p, s)]) = _
        rw [hs, fold_done p s l _ hgt]
        simp
      · have hs : putStep p s (out, false) x = (out ++ [(p, s)] ++ [x], true) := by
          unfold putStep
          simp [e, h1]
        refine ⟨[], x :: l, ?_, (fun _ h => by cases h), fun y hy => ?_, .inr rfl⟩
        · show (if (l.foldl (putStep p s) (putStep p s (out, false) x)).2 then (l.foldl (putStep p s) (putStep p s (out, false) x)).1 else (l.foldl (putStep p s) (putStep p s (out, false) x)).1 ++ [(p, s)]) = _
          rw [hs, fold_done p s l _ hgt]
          simp
        · rcases List.mem_cons.1 hy with rfl | hy
          · exact leP_tri h1 e
          · exact hgt y hy
theorem setM_at {a b : PM} {p : PK} {u s : ByteArray} (h : ∀ x ∈ a, x.1 ≠ p) : setM (a ++ (p, u) :: b) p s = a ++ (p, s) :: b := by
  induction a with
  | nil => show (if p = p then (p, s) :: b else _) = _; rw [if_pos rfl]; rfl
  | cons x a ih =>
    obtain ⟨y, v⟩ := x
    have h1 := h _ (List.mem_cons_self ..)
    show (if p = y then (p, s) :: (a ++ (p, u) :: b) else (y, v) :: setM (a ++ (p, u) :: b) p s) = (y, v) :: (a ++ (p, s) :: b)
    rw [if_neg (fun e => h1 e.symm), ih fun x hx => h x (List.mem_cons_of_mem _ hx)]
theorem setM_new {a : PM} {p : PK} {s : ByteArray} (h : ∀ x ∈ a, x.1 ≠ p) : setM a p s = a ++ [(p, s)] := by
  induction a with
  | nil => rfl
  | cons x a ih =>
    obtain ⟨y, v⟩ := x
    have h1 := h _ (List.mem_cons_self ..)
    show (if p = y then (p, s) :: a else (y, v) :: setM a p s) = (y, v) :: (a ++ [(p, s)])
    rw [if_neg (fun e => h1 e.symm), ih fun x hx => h x (List.mem_cons_of_mem _ hx)]
theorem split_key {m : PM} {p : PK} (h : p ∈ m.map Prod.fst) (hk : (m.map Prod.fst).Nodup) : ∃ a b u, m = a ++ (p, u) :: b ∧ (∀ x ∈ a, x.1 ≠ p) := by
  induction m with
  | nil => cases h
  | cons x m ih =>
    obtain ⟨y, v⟩ := x
    rw [List.map_cons, List.nodup_cons] at hk
    rw [List.map_cons] at h
    by_cases e : y = p
    · subst e
      exact ⟨[], m, v, rfl, fun _ h => by cases h⟩
    · rcases List.mem_cons.1 h with h | h
      · exact absurd h.symm e
      · obtain ⟨a, b, u, k1, k2⟩ := ih h hk.2
        refine ⟨(y, v) :: a, b, u, by rw [k1]; rfl, fun x hx => ?_⟩
        rcases List.mem_cons.1 hx with rfl | hx
        · exact e
        · exact k2 x hx
theorem SortL.keys {l m : PM} (h : SortL l m) : SortedP (l.map Prod.fst) m := by
  refine ⟨h.perm.map _, ?_⟩
  rw [List.pairwise_map]
  exact h.ord.imp fun h1 h2 => leP_irr _ (leP_trans h1 h2)
theorem getM_of_mem {m : PM} {x : PK} {s : ByteArray} (hk : (m.map Prod.fst).Nodup) (h : (x, s) ∈ m) : getM m x = some s := by
  obtain ⟨u, hu⟩ := getM_some (List.mem_map.2 ⟨_, h, rfl⟩)
  have h2 := getM_mem2 hu
  induction m with
  | nil => cases h
  | cons y m ih =>
    obtain ⟨z, v⟩ := y
    have h1 : getM ((z, v) :: m) x = if x = z then some v else getM m x := rfl
    rw [List.map_cons, List.nodup_cons] at hk
    rw [h1] at hu ⊢
    by_cases e : x = z
    · rw [if_pos e]
      subst e
      rcases List.mem_cons.1 h with h | h
      · cases h; rfl
      · exact absurd (List.mem_map.2 ⟨_, h, rfl⟩) hk.1
    · rw [if_neg e] at hu ⊢
      rcases List.mem_cons.1 h with h | h
      · cases h; exact absurd rfl e
      · exact ih hk.2 h hu (getM_mem2 hu)
theorem getM_none {m : PM} {x : PK} (h : x ∉ m.map Prod.fst) : getM m x = none := by
  cases hg : getM m x with
  | none => rfl
  | some s => exact absurd (List.mem_map.2 ⟨_, getM_mem2 hg, rfl⟩) h
theorem SortL.get {l m : PM} (h : SortL l m) (hk : (m.map Prod.fst).Nodup) (p : PK) : getM l p = getM m p := by
  by_cases hp : p ∈ l.map Prod.fst
  · obtain ⟨s, hs⟩ := getM_some hp
    rw [hs, getM_of_mem hk (h.perm.subset (getM_mem2 hs))]
  · rw [getM_none hp, getM_none fun hm => hp ((h.perm.map Prod.fst).symm.subset hm)]
/-- put keeps the order, and is the map's. -/
theorem SortL.put {l m : PM} (h : SortL l m) (hk : (m.map Prod.fst).Nodup) (p : PK) (s : ByteArray) : SortL (putPL l p s) (setM m p s) := by
  obtain ⟨a, b, h1, h2, h3, h4⟩ := fold_put p s l [] h.ord
  have hp : putPL l p s = a ++ (p, s) :: b := h1
  have ha : ∀ x ∈ a, x.1 ≠ p := fun x hx e => leP_irr p (by have := h2 x hx; rw [e] at this; exact this)
  have hb : ∀ x ∈ b, x.1 ≠ p := fun x hx e => leP_irr p (by have := h3 x hx; rw [e] at this; exact this)
  rw [hp]
  refine ⟨?_, ?_⟩
  · by_cases hm : p ∈ m.map Prod.fst
    · obtain ⟨c, d, u, e1, e2⟩ := split_key hm hk
      rw [e1, setM_at e2]
      rcases h4 with ⟨v, h4⟩ | h4
      · have hperm : (a ++ (p, v) :: b).Perm (c ++ (p, u) :: d) := by rw [← h4, ← e1]; exact h.perm
        have hmem : (p, u) ∈ a ++ (p, v) :: b := hperm.symm.subset (List.mem_append_right _ (.head _))
        have huv : u = v := by
          rcases List.mem_append.1 hmem with h | h
          · exact absurd rfl (ha _ h)
          · rcases List.mem_cons.1 h with h | h
            · exact congrArg Prod.snd h
            · exact absurd rfl (hb _ h)
        subst huv
        have h5 : (a ++ b).Perm (c ++ d) := (List.perm_cons (p, u)).1 (List.perm_middle.symm.trans (hperm.trans List.perm_middle))
        exact List.perm_middle.trans (((List.perm_cons (p, s)).2 h5).trans List.perm_middle.symm)
      · exfalso
        have hmem : (p, u) ∈ a ++ b := by
          rw [← h4]
          exact h.perm.symm.subset (by rw [e1]; exact List.mem_append_right _ (.head _))
        rcases List.mem_append.1 hmem with h | h
        · exact ha _ h rfl
        · exact hb _ h rfl
    · have hnew : ∀ x ∈ m, x.1 ≠ p := fun x hx e => hm (List.mem_map.2 ⟨x, hx, e⟩)
      rw [setM_new hnew]
      rcases h4 with ⟨v, h4⟩ | h4
      · exact absurd rfl (hnew (p, v) (h.perm.subset (by rw [h4]; exact List.mem_append_right _ (.head _))))
      · have h5 : (a ++ b).Perm m := by rw [← h4]; exact h.perm
        exact List.perm_middle.trans (((List.perm_cons (p, s)).2 h5).trans (List.perm_append_singleton (p, s) m).symm)
  · have hab : (a ++ b).Pairwise fun x y => leP x.1 y.1 := by
      rcases h4 with ⟨v, h4⟩ | h4
      · have := h.ord
        rw [h4] at this
        exact this.sublist (List.Sublist.append (List.Sublist.refl a) (List.sublist_cons_self _ _))
      · rw [← h4]; exact h.ord
    rw [List.pairwise_append] at hab ⊢
    refine ⟨hab.1, List.pairwise_cons.2 ⟨fun x hx => h3 x hx, hab.2.1⟩, fun x hx y hy => ?_⟩
    rcases List.mem_cons.1 hy with rfl | hy
    · exact h2 x hx
    · exact hab.2.2 x hx y hy
theorem SortL.drop {l m : PM} (h : SortL l m) (o : Int) : SortL (dropM l o) (dropM m o) := ⟨h.perm.filter _, h.ord.sublist List.filter_sublist⟩
theorem sortL0 : SortL [] [] := ⟨List.Perm.refl _, List.Pairwise.nil⟩
theorem dropM_snoc (l : PM) (x : PK × ByteArray) (o : Int) : dropM (l ++ [x]) o = if x.1.1 = o then dropM l o else dropM l o ++ [x] := by
  unfold dropM
  rw [List.filter_append]
  by_cases h : x.1.1 = o
  · rw [if_pos h, List.filter_cons_of_neg (by simpa using h)]; simp
  · rw [if_neg h, List.filter_cons_of_pos (by simpa using h)]; rfl
end Go.Sx
