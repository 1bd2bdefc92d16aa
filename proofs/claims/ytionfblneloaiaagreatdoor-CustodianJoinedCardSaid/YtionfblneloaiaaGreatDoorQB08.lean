/- Chapter 27: places in their order, and Holds: the walks. -/
import Derived.Test.YtionfblneloaiaaGreatDoorQB07
namespace Go.Sx
open Go Go.Proofs Go.RowKit
theorem hwYI {G G2 : Prop} (x : G2) (hwq : Hold G2 → G := by
    intro hQq
    repeat' (first | refine HL.pa ?_ (POp.pneN rfl rfl) | refine HL.pa ?_ (POp.pnil1 rfl rfl) | refine HL.pa ?_ (POp.pnil0 rfl rfl) | refine HL.pa ?_ (POp.nilCheck rfl) | apply HL.fold | apply HA.fold | apply HL.nil | apply HX.n_then | apply HC.seq | apply HC.region | refine HL.pa ?_ | refine HL.ga rfl ?_ | refine HL.na rfl ?_ | refine HL.nu rfl rfl ?_ | apply HC.block | apply HC.skip | apply HC.exit | apply HC.ret | apply HX.e_block | refine HX.e_other rfl ?_ | apply HX.e_then | apply HX.e_again | apply HX.n_block | apply HX.r_then | apply HX.r_block | apply HX.r_again | refine HC.cond_yes rfl ?_ | refine HC.cond_no rfl ?_ | refine HL.one (H1.ldb rfl memA rfl rfl ?_) | refine HC.cond rfl (fun hc => ?_) (fun hc => ?_) | refine HC.cond_b rfl (fun hc => ?_) (fun hc => ?_))
    exact hQq.get) : G := hwq ⟨x⟩
theorem hbYI {G G2 : Prop} (x : G2) (hwq : Hold G2 → G := by
    intro hQq
    repeat' (first | refine HL.pa ?_ (POp.pneN rfl rfl) | refine HL.pa ?_ (POp.pnil1 rfl rfl) | refine HL.pa ?_ (POp.pnil0 rfl rfl) | refine HL.pa ?_ (POp.nilCheck rfl) | apply HL.fold | apply HA.fold | apply HL.nil | apply HX.n_then | apply HC.seq | apply HC.region | refine HL.pa ?_ | refine HL.ga rfl ?_ | refine HL.na rfl ?_ | refine HL.nu rfl rfl ?_ | apply HC.skip | apply HC.exit | apply HC.ret | apply HX.e_block | refine HX.e_other rfl ?_ | apply HX.e_then | apply HX.e_again | apply HX.n_block | apply HX.r_then | apply HX.r_block | apply HX.r_again | refine HC.cond_yes rfl ?_ | refine HC.cond_no rfl ?_ | refine HL.one (H1.ldb rfl memA rfl rfl ?_) | refine HC.cond rfl (fun hc => ?_) (fun hc => ?_) | refine HC.cond_b rfl (fun hc => ?_) (fun hc => ?_))
    exact hQq.get) : G := hwq ⟨x⟩
abbrev fnW (f : Nat) : Value := .func (.func f) #[] #[]
def pcells (p : PK) : List Value := [zv p.1, zv p.2]
def pcl (l : List PK) : List Value := l.flatMap pcells
theorem pcells_len (p : PK) : (pcells p).length = 2 := rfl
theorem pcells_one (p : PK) : ∀ v ∈ pcells p, v.oneCell' = true := by
  intro v hv
  rcases List.mem_cons.1 hv with rfl | hv
  · rfl
  rcases List.mem_cons.1 hv with rfl | hv
  · rfl
  · cases hv
theorem pcl_len : ∀ l : List PK, (pcl l).length = l.length * 2
  | [] => rfl
  | p :: l => by
    show (pcells p ++ pcl l).length = (l.length + 1) * 2
    rw [List.length_append, pcl_len l, pcells_len]; omega
theorem pcl_get {l : List PK} : ∀ {j : Nat} {p : PK}, l[j]? = some p → ∀ (i : Nat) (v : Value), (pcells p)[i]? = some v → (pcl l)[j * 2 + i]? = some v := by
  induction l with
  | nil => intro j p h; simp at h
  | cons q l ih =>
    intro j p h i v hv
    show (pcells q ++ pcl l)[j * 2 + i]? = some v
    cases j with
    | zero =>
      simp only [List.getElem?_cons_zero, Option.some.injEq] at h
      subst h
      have hlt := (List.getElem?_eq_some_iff.1 hv).1
      rw [Nat.zero_mul, Nat.zero_add, List.getElem?_append_left hlt]
      exact hv
    | succ j =>
      rw [List.getElem?_append_right (by rw [pcells_len]; omega), pcells_len, show (j + 1) * 2 + i - 2 = j * 2 + i by omega]
      exact ih (by simpa using h) i v hv
theorem pcl_snoc (l : List PK) (p : PK) : pcl l ++ pcells p = pcl (l ++ [p]) := by simp [pcl]
theorem pk_at {l : List PK} {j : Nat} (h : j < l.length) : l[j]? = some l.toArray[j]! := by simp [h]
theorem flatK_pcl (l : List PK) : (Go.Sort.flatK pcells 2 l.toArray).toList = pcl l := by
  apply List.ext_getElem?
  intro t
  have hsz : (Go.Sort.flatK pcells 2 l.toArray).size = l.length * 2 := by simp [Go.Sort.flatK]
  by_cases ht : t < l.length * 2
  · have h1 := Go.Sort.get_flatK pcells 2 l.toArray t (by simpa using ht)
    have hj : t / 2 < l.length := by omega
    have hm : t % 2 < 2 := Nat.mod_lt _ (by decide)
    have h2 : (pcells l.toArray[t / 2]!)[t % 2]? = some (pcells l.toArray[t / 2]!)[t % 2]! := by
      rw [List.getElem!_eq_getElem?_getD, List.getElem?_eq_getElem (by rw [pcells_len]; exact hm)]; rfl
    have h3 := pcl_get (pk_at hj) (t % 2) _ h2
    rw [show t / 2 * 2 + t % 2 = t by omega] at h3
    rw [h3, ← h1]
    have ht' : t < (Go.Sort.flatK pcells 2 l.toArray).size := by omega
    exact arr_at ht'
  · rw [List.getElem?_eq_none (by rw [Array.length_toList, hsz]; omega), List.getElem?_eq_none (by rw [pcl_len]; omega)]
theorem cmpLaysP (blk off size : Nat) (w : World) : CmpLays Tryz.prog 52 #[] pcells 2 cfP blk off size w := fun m os dk _ x y => by
  refine Calls.mono (compare27 x y _) ?_
  rintro e w' ⟨v, rfl, rfl, q, os', hw⟩
  exact ⟨rfl, q, os', hw⟩
theorem sortP_fn {w0 w : World} {H : List Atom} {H' : List PK → List Atom} {a : Option Addr} {c : Nat} {l : List PK} (hM : Mm w0 H w) (hl : l.length ≤ 1000000)
    (hr : ∀ l' : List PK, l'.length = l.length → Rpl (A.grow 76 2 a c l.length (pcl l)) (A.grow 76 2 a c l'.length (pcl l')) H (H' l')) :
    Fn Tryz.prog 97 #[.slice a l.length c, fnW 52] w fun v w' => ∃ l', (l'.Perm l ∧ l'.Pairwise fun x y => ¬ leP y x) ∧ v = .tuple #[] ∧ Mm w0 (H' l') w' := by
  by_cases h0 : l = []
  · subst h0
    refine Calls.mono (AnyF.slices_SortFunc_none Tryz.sortP a c (fnW 52) w) ?_
    rintro e w' ⟨rfl, rfl⟩
    exact ⟨_, rfl, [], ⟨List.Perm.refl _, List.Pairwise.nil⟩, rfl, Rpl.same (hr [] rfl) ▸ hM⟩
  have hne : l.length ≠ 0 := fun e => h0 (List.eq_nil_of_length_eq_zero e)
  have hown := hM.own (hr l rfl).mem
  obtain ⟨b, cur, rfl, hg, hnc, hcm, hcs, htake⟩ : ∃ b cur, a = some ⟨b, 0, none⟩ ∧ w.heap[b]? = some (.cells cur 76 (0, 0)) ∧ l.length ≤ c ∧ c ≤ maxLen ∧ cur.size = c * 2 ∧ cur.toList.take (l.length * 2) = pcl l := by
    rcases hown.2 with ⟨-, h2⟩ | ⟨g, cap, cur, hv, -, hg, hnc, hcm, hcs, ht⟩
    · exact absurd h2 hne
    · cases hv; exact ⟨g, cur, rfl, hg, hnc, hcm, hcs, ht⟩
  have hlt := (Array.getElem?_eq_some_iff.1 hg).1
  have hfs : ∀ l : List PK, (Go.Sort.flatK pcells 2 l.toArray).size = l.length * 2 := fun l => by simp [Go.Sort.flatK]
  have hH : Go.Sort.HoldsK pcells 2 w b 0 l.toArray := fun j hj => by
    rw [hfs] at hj
    have h1 : (pcl l)[j]? = some (Go.Sort.flatK pcells 2 l.toArray)[j]! := by
      rw [← flatK_pcl]
      have hj' : j < (Go.Sort.flatK pcells 2 l.toArray).size := by rw [hfs]; exact hj
      exact arr_at hj'
    rw [Nat.zero_add]
    exact ⟨ownsRow_cell hown h1, by simp [World.frozen?, hg]⟩
  have eg : ∀ args w, (callFunc 52 args).run Tryz.prog w = .ok (.enter 52 args) w := CallOk.run
  have hS := AnyQ.slices_SortFunc Tryz.sortP 2 Tryz.isAgg76 Tryz.sizeOf76 pcells pcells_len pcells_one cfP swoP 52 #[] b 0 c l.toArray w eg (cmpLaysP b 0 _ w) hH hlt (by simp; omega)
  refine Calls.mono hS ?_
  rintro e w' ⟨rfl, d', n, os, hp, hs, rfl⟩
  have hsz : d'.size = l.length := by have := hp.1; simpa using this
  obtain ⟨l', rfl⟩ : ∃ l' : List PK, d' = l'.toArray := ⟨d'.toList, by simp⟩
  have hl' : l'.length = l.length := by simpa using hsz
  have hperm : l'.Perm l := by
    have h1 := hp.2.2
    have e1 : l'.toArray.extract 0 l.toArray.size = l'.toArray := by
      rw [show l.toArray.size = l'.toArray.size by simp [hl']]; exact Array.extract_size
    have e2 : l.toArray.extract 0 l.toArray.size = l.toArray := Array.extract_size
    rw [e1, e2] at h1
    simpa using h1
  have hsort : l'.Pairwise fun x y => ¬ leP y x := by
    refine List.pairwise_iff_getElem.2 fun i j hi hj hij => ?_
    have h1 := hs i j (Nat.zero_le _) hij (by simp; omega)
    rw [ltP, decide_eq_false_iff_not] at h1
    simpa [hi, hj] using h1
  refine ⟨_, rfl, l', ⟨hperm, hsort⟩, rfl, hM.turn (hr l' hl') rfl rfl rfl ?_ (fun k hk hkb => ?_) ?_ (by simp [A.grow, Value.ownBlock]) (fun b' hb' => .inl (by simpa [A.grow, Value.ownBlock] using hb'))⟩
  · simp [sortWorldK, Go.Sort.putRowK, Go.Sort.grow, Go.Sort.putRow, Go.Sort.mapBlock, Go.Sort.ahead]
  · have hkb' : ¬ b = k := fun e => hkb (by subst e; simp [A.grow, Value.ownBlock])
    have hs1 : (Go.Sort.putRow id (Go.Sort.ahead w n) b 0 (Go.Sort.flatK pcells 2 l'.toArray)).heap.size = w.heap.size := by simp [Go.Sort.putRow, Go.Sort.mapBlock, Go.Sort.ahead]
    show ((Go.Sort.putRow id (Go.Sort.ahead w n) b 0 (Go.Sort.flatK pcells 2 l'.toArray)).heap ++ os)[k]? = _
    rw [Array.getElem?_append, if_pos (by rw [hs1]; exact hk)]
    show (w.heap.modify b _)[k]? = _
    rw [Array.getElem?_modify, if_neg hkb']
  · rw [hl']
    refine ⟨by rw [pcl_len, hl'], .inr ⟨b, c, Go.Sort.putCells id 0 (Go.Sort.flatK pcells 2 l'.toArray) cur, rfl, Nat.zero_le _, ?_, hnc, hcm, by simp [Go.Sort.putCells, hcs], ?_⟩⟩
    · have hm : (Go.Sort.putRow id (Go.Sort.ahead w n) b 0 (Go.Sort.flatK pcells 2 l'.toArray)).heap[b]? = some (.cells (Go.Sort.putCells id 0 (Go.Sort.flatK pcells 2 l'.toArray) cur) 76 (0, 0)) := by
        simp [Go.Sort.putRow, Go.Sort.mapBlock, Go.Sort.ahead, Array.getElem?_modify, hg, Go.Sort.onCells]
      have hs1 : (Go.Sort.putRow id (Go.Sort.ahead w n) b 0 (Go.Sort.flatK pcells 2 l'.toArray)).heap.size = w.heap.size := by simp [Go.Sort.putRow, Go.Sort.mapBlock, Go.Sort.ahead]
      show ((Go.Sort.putRow id (Go.Sort.ahead w n) b 0 (Go.Sort.flatK pcells 2 l'.toArray)).heap ++ os)[b]? = _
      rw [Array.getElem?_append, if_pos (by rw [hs1]; exact hlt), hm]
    · have h1 := putCells_id (Go.Sort.flatK pcells 2 l'.toArray) cur (by rw [hfs, hcs, hl']; exact Nat.mul_le_mul_right _ hnc)
      rw [hfs, hl', flatK_pcl] at h1
      exact h1
end Go.Sx
namespace Go.Sx
open Go Go.Proofs Go.RowKit
/-- The keys that were handed out, and the stamps that were seen. -/
structure KeysI (m : PM) (es : Array MapEntry) (seen : Array Nat) (ks : List PK) : Prop where
  nd : ks.Nodup
  sub : ∀ k ∈ ks, k ∈ m.map Prod.fst
  vis : ∀ e ∈ es.toList, e.born ∈ seen → ∀ k, e.key = pkV k → k ∈ ks
  back : ∀ k ∈ ks, ∃ e ∈ es.toList, e.key = pkV k ∧ e.born ∈ seen
theorem nodup_len : ∀ {l m : List PK}, l.Nodup → (∀ x ∈ l, x ∈ m) → l.length ≤ m.length
  | [], _, _, _ => Nat.zero_le _
  | a :: l, m, h, hs => by
    rw [List.nodup_cons] at h
    have h1 := nodup_len (m := m.erase a) h.2 fun x hx => (List.mem_erase_of_ne (fun (e : x = a) => h.1 (by rw [← e]; exact hx))).2 (hs x (List.mem_cons_of_mem _ hx))
    rw [List.length_erase_of_mem (hs a (List.mem_cons_self ..))] at h1
    have h2 := List.length_pos_of_mem (hs a (List.mem_cons_self ..))
    rw [List.length_cons]; omega
theorem perm_of_nodup {l m : List PK} (h1 : l.Nodup) (h2 : m.Nodup) (h : ∀ x, x ∈ l ↔ x ∈ m) : l.Perm m := by
  rw [List.perm_iff_count]
  intro a
  rw [h1.count, h2.count]
  by_cases ha : a ∈ l
  · rw [if_pos ha, if_pos ((h a).1 ha)]
  · rw [if_neg ha, if_neg fun hm => ha ((h a).2 hm)]
attribute [local irreducible] WC WL WX POp Then Again Fn NX W1 WA WO QL RP RA Yld LoopAt HC HL HX HN H1 HA HO HQ HB HP A.blk A.grow A.rd A.obj A.mp AgainH CutH
attribute [local irreducible] A.pm A.mx A.mit sumS A.dfr A.loop
theorem keys27_fn (bm : Nat) (w : World) : Fn Tryz.prog 51 #[.map (some bm)] w fun u w' => ∃ b1 : Nat, True ∧ u = .func (.func 98) #[] #[.pointer (some ⟨b1, 0, none⟩)] ∧ Mm w [A.blk b1 [.map (some bm)] 81] w' := by
  refine enterH (l := [_]) rfl Tryz.ntmps51 rfl ?_
  refine hwYI ?_
  refine HL.one (H1.box rfl rfl rfl (fun b1 => ?_))
  refine hwYI ?_
  exact HX.ret1 rfl rfl fun w' hM => ⟨b1, trivial, rfl, hM⟩
set_option maxHeartbeats 1000000 in
theorem keys1_fn {w0 : World} {K0 K1 : Atom} {b1 b2 bm lp clk : Nat} {es : Array MapEntry} {m : PM} (hb : w0.cell? ⟨b1, 0, none⟩ = some (.map (some bm))) (hmap : w0.heap[bm]? = some (.map es clk)) (hms : MPl (liftP m) es clk) (hk : (m.map Prod.fst).Nodup)
    (hy : ∀ R (ks : List PK) (p : PK) (z : Option Addr × Nat), ks.length < m.length → ∀ w, Mm w0 (K0 :: K1 :: A.blk b2 [.slice z.1 ks.length z.2] 90 :: A.grow 76 2 z.1 z.2 ks.length (pcl ks) :: R) w →
      Yld Tryz.prog lp [pkV p] w fun b w' => b = true ∧ ∃ z' : Option Addr × Nat, True ∧ Mm w0 (K0 :: K1 :: A.blk b2 [.slice z'.1 (ks ++ [p]).length z'.2] 90 :: A.grow 76 2 z'.1 z'.2 (ks ++ [p]).length (pcl (ks ++ [p])) :: R) w') :
    ∀ w, Mm w0 (K0 :: K1 :: A.blk b2 [.slice none 0 0] 90 :: A.grow 76 2 none 0 0 [] :: []) w →
      Fn Tryz.prog 98 (.func (.yield lp) #[] #[] :: [.pointer (some ⟨b1, 0, none⟩)]).toArray w fun _ w' => ∃ z : List PK × Option Addr × Nat, z.1.Perm (m.map Prod.fst) ∧ Mm w0 (K0 :: K1 :: A.blk b2 [.slice z.2.1 z.1.length z.2.2] 90 :: A.grow 76 2 z.2.1 z.2.2 z.1.length (pcl z.1) :: []) w' := by
  intro w hM
  have hmw : ∀ {H} {w' : World}, Mm w0 H w' → w'.heap[bm]? = some (.map es clk) := fun hM' => by
    rw [hM'.ext.block bm (Array.getElem?_eq_some_iff.1 hmap).1]; exact hmap
  refine enterK (l := [_, _]) hM rfl Tryz.ntmps98 rfl ?_
  refine hwYI ?_
  refine HL.one (H1.ld0 rfl hb rfl ?_)
  refine hwYI ?_
  refine HL.one (H1.mqrange (es := es) (clk := clk) rfl (fun w' hM => hmw hM) rfl (fun it => ?_))
  refine hwYI ?_
  refine HC.loop (α := Array Nat × List PK × Option Addr × Nat) (fun _ => [(0, .func (.yield lp) #[] #[]), (5, .pointer (some ⟨it, 0, none⟩))])
    (fun z => K0 :: K1 :: A.blk b2 [.slice z.2.2.1 z.2.1.length z.2.2.2] 90 :: A.grow 76 2 z.2.2.1 z.2.2.2 z.2.1.length (pcl z.2.1) :: [A.mit it bm clk z.1]) (fun z => KeysI m es z.1 z.2.1) (fun z => mleft es z.1) (#[], [], (none, 0)) ⟨List.nodup_nil, (fun _ h => by cases h), fun e _ hs => absurd hs (by simp), fun _ h => by cases h⟩ esA (Hs.cons (Pick.there Pick.here) (Hs.cons (Pick.there Pick.here) (Hs.cons (Pick.there Pick.here) (Hs.cons (Pick.there Pick.here) (Hs.refl _))))) ?_
  rintro ⟨seen, ks, z⟩ hI
  dsimp only at hI ⊢
  refine hwYI ?_
  refine HL.one (H1.mqnext (H' := fun s => K0 :: K1 :: A.blk b2 [.slice z.1 ks.length z.2] 90 :: A.grow 76 2 z.1 z.2 ks.length (pcl ks) :: [A.mit it bm clk s]) rfl (fun w' hM => hmw hM) hms.born (fun s => Rpl.there (Rpl.there (Rpl.there (Rpl.there Rpl.here)))) rfl (fun hall => ?_) (fun e he hne => ?_))
  · refine hwYI ?_
    refine HX.end0 rfl fun w' hM => ⟨(ks, z), perm_of_nodup hI.nd hk fun x => ⟨hI.sub x, fun hx => ?_⟩, hM.sub (Hs.cons Pick.here (Hs.cons Pick.here (Hs.cons Pick.here (Hs.cons Pick.here (Hs.refl _).skip))))⟩
    obtain ⟨p, hp, rfl⟩ := List.mem_map.1 hx
    obtain ⟨e, he, h1, -⟩ := hms.of (List.mem_map.2 ⟨p, hp, rfl⟩)
    exact hI.vis e he (hall e he) p.1 h1
  obtain ⟨q, hq, hkey, hval⟩ := hms.ent he
  obtain ⟨p, hp, rfl⟩ := List.mem_map.1 hq
  dsimp only at hkey hval
  have hnew : p.1 ∉ ks := fun h => by
    obtain ⟨e', he', h1, h2⟩ := hI.back p.1 h
    have : e' = e := by
      have k1 : (es.toList.map fun e => (e.key, e.val)) = (liftP m).map fun p => (pkV p.1, p.2) := hms.ents
      obtain ⟨i, hi⟩ := List.mem_iff_getElem?.1 he
      obtain ⟨j, hj⟩ := List.mem_iff_getElem?.1 he'
      have n1 : (m.map Prod.fst)[i]? = some p.1 := by
        have := congrArg (fun l => l[i]?) k1
        simp only [List.getElem?_map, hi, Option.map_some] at this
        cases hm : m[i]? with
        | none => unfold liftP at this; rw [List.getElem?_map, hm] at this; cases this
        | some x =>
          unfold liftP at this
          rw [List.getElem?_map, hm] at this
          simp only [Option.map_some, Option.some.injEq, Prod.mk.injEq] at this
          rw [hkey] at this
          rw [List.getElem?_map, hm, Option.map_some, pkV_inj this.1]
      have n2 : (m.map Prod.fst)[j]? = some p.1 := by
        have := congrArg (fun l => l[j]?) k1
        simp only [List.getElem?_map, hj, Option.map_some] at this
        cases hm : m[j]? with
        | none => unfold liftP at this; rw [List.getElem?_map, hm] at this; cases this
        | some x =>
          unfold liftP at this
          rw [List.getElem?_map, hm] at this
          simp only [Option.map_some, Option.some.injEq, Prod.mk.injEq] at this
          rw [h1] at this
          rw [List.getElem?_map, hm, Option.map_some, pkV_inj this.1]
      have hlt : i < (m.map Prod.fst).length := (List.getElem?_eq_some_iff.1 n1).1
      have e2 := (List.getElem?_inj hlt hk).1 (n1.trans n2.symm)
      subst e2
      rw [hi] at hj
      exact (Option.some.inj hj).symm
    subst this
    exact hne h2
  have hin : p.1 ∈ m.map Prod.fst := List.mem_map.2 ⟨p, hp, rfl⟩
  have hlen : ks.length < m.length := by
    have h1 : (ks ++ [p.1]).Nodup := by
      refine List.nodup_append.2 ⟨hI.nd, by simp, fun a ha c hc e => ?_⟩
      rw [List.mem_singleton] at hc
      subst hc; subst e; exact hnew ha
    have h2 : ∀ x ∈ ks ++ [p.1], x ∈ m.map Prod.fst := fun x hx => by
      rcases List.mem_append.1 hx with hx | hx
      · exact hI.sub x hx
      · rw [List.mem_singleton] at hx; rw [hx]; exact hin
    have h3 := nodup_len h1 h2
    rw [List.length_append, List.length_map] at h3
    exact h3
  rw [hkey, hval]
  refine hwYI ?_
  refine HL.one (H1.mqentry (e := e) rfl (fun w' hM => hmw hM) he hms.nd (.tail _ (.tail _ (.tail _ (.tail _ (.head _))))) rfl ?_)
  rw [hkey, hval, pkV_cells]
  refine hwYI ?_
  refine HL.one (H1.alloc (cs := [zv 0, zv 0]) rfl rfl (fun b5 => ?_))
  refine hwYI ?_
  refine HL.one (H1.stAgg (cs := [zv 0, zv 0]) (vs := [zv p.1.1, zv p.1.2]) rfl rfl rfl (by intro v hv; rcases List.mem_cons.1 hv with rfl | hv; rfl; rcases List.mem_cons.1 hv with rfl | hv; rfl; cases hv) rplA rfl ?_)
  refine hwYI ?_
  refine HL.one (H1.ldAgg (vs := [zv p.1.1, zv p.1.2]) rfl memA rfl (fun i v hv => by rw [Nat.zero_add]; exact hv) rfl ?_)
  refine hwYI ?_
  refine HL.mem (K0 :: K1 :: A.blk b2 [.slice z.1 ks.length z.2] 90 :: A.grow 76 2 z.1 z.2 ks.length (pcl ks) :: [A.mit it bm clk (seen.push e.born)]) (Hs.refl _).skip ?_
  refine HL.one (H1.yield (vs := [pkV p.1]) rfl rfl rfl (hy [A.mit it bm clk (seen.push e.born)] ks p.1 z hlen) ?_)
  rintro z' -
  refine hwYI ?_
  refine HX.again (seen.push e.born, ks ++ [p.1], z') ⟨?_, fun k hk' => ?_, fun e' he' hs' k hk' => ?_, fun k hk' => ?_⟩ (mleft_lt he hne) esA (Hs.refl _)
  · refine List.nodup_append.2 ⟨hI.nd, by simp, fun a ha c hc e => ?_⟩
    rw [List.mem_singleton] at hc
    subst hc; subst e; exact hnew ha
  · rcases List.mem_append.1 hk' with hx | hx
    · exact hI.sub k hx
    · rw [List.mem_singleton] at hx; rw [hx]; exact hin
  · rcases Array.mem_push.1 hs' with h1 | h1
    · exact List.mem_append_left _ (hI.vis e' he' h1 k hk')
    · have e1 : e' = e := stamp_inj hms.nd he' he h1
      subst e1
      rw [hkey] at hk'
      exact List.mem_append_right _ (by rw [pkV_inj hk']; exact List.mem_singleton.2 rfl)
  · rcases List.mem_append.1 hk' with hx | hx
    · obtain ⟨e', h1, h2, h3⟩ := hI.back k hx
      exact ⟨e', h1, h2, Array.mem_push.2 (.inl h3)⟩
    · rw [List.mem_singleton] at hx
      subst hx
      exact ⟨e, he, hkey, Array.mem_push.2 (.inr rfl)⟩
set_option maxHeartbeats 1000000 in
theorem appendSeq27_fn {b1 bm clk : Nat} {es : Array MapEntry} {m : PM} (w : World) (hb : w.cell? ⟨b1, 0, none⟩ = some (.map (some bm))) (hmap : w.heap[bm]? = some (.map es clk)) (hms : MPl (liftP m) es clk) (hk : (m.map Prod.fst).Nodup) (hl : m.length ≤ 400000) :
    Fn Tryz.prog 154 #[.slice none 0 0, .func (.func 98) #[] #[.pointer (some ⟨b1, 0, none⟩)]] w fun u w' => ∃ z : List PK × Option Addr × Nat, z.1.Perm (m.map Prod.fst) ∧ u = .slice z.2.1 z.1.length z.2.2 ∧ Mm w [A.grow 76 2 z.2.1 z.2.2 z.1.length (pcl z.1)] w' := by
  refine enterMH (l := [_, _]) rfl Tryz.ntmps154 rfl ?_
  refine hwYI ?_
  refine HL.one (H1.box rfl rfl rfl (fun b2 => ?_))
  refine hwYI ?_
  refine HC.grow0 76 2 ?_
  refine HC.sub [(2, .pointer (some ⟨b2, 0, none⟩)), (6, .func (.func 98) #[] #[.pointer (some ⟨b1, 0, none⟩)])] [A.blk b2 [.slice none 0 0] 90, A.grow 76 2 none 0 0 []] ?_ esA (Hs.cons (Pick.there Pick.here) (Hs.cons Pick.here (Hs.nil _)))
  refine HC.rangeFunc (α := List PK × Option Addr × Nat) (lb := [.pointer (some ⟨b1, 0, none⟩)]) (fun z => [A.blk b2 [.slice z.2.1 z.1.length z.2.2] 90, A.grow 76 2 z.2.1 z.2.2 z.1.length (pcl z.1)]) (fun z => z.1.Perm (m.map Prod.fst)) rfl ?_ ?_
  · intro D lp L hL w1 hM1
    refine (keys1_fn (b2 := b2) (m := m) hb hmap hms hk ?_ w1 hM1).mono fun v w2 h => ?_
    · rintro R ks p ⟨aq, cq⟩ hlt
      dsimp only
      have hsn := pcl_snoc ks p
      refine Yld.ofH hL memA rfl rfl ?_
      dsimp only [List.zip_cons_cons, List.zip_nil_right, putAll]
      rw [pkV_cells]
      refine hwYI ?_
      refine HL.one (H1.alloc (cs := [zv 0, zv 0]) rfl rfl (fun b5 => ?_))
      refine hwYI ?_
      refine HL.one (H1.stAgg (cs := [zv 0, zv 0]) (vs := [zv p.1, zv p.2]) rfl rfl rfl (by intro v hv; rcases List.mem_cons.1 hv with rfl | hv; rfl; rcases List.mem_cons.1 hv with rfl | hv; rfl; cases hv) rplA rfl ?_)
      refine hwYI ?_
      refine HX.ra hL rplA ?_
      refine hwYI ?_
      refine HL.one (H1.ldAgg (vs := [zv p.1, zv p.2]) rfl memA rfl (fun i v hv => by rw [Nat.zero_add]; exact hv) rfl ?_)
      refine hwYI ?_
      refine HL.one (H1.lit (cs := [zv p.1, zv p.2]) rfl rfl rfl rfl rfl rfl (fun b9 => ?_))
      refine hwYI ?_
      refine HL.one (H1.app (sz := 2) (news := [zv p.1, zv p.2]) rfl (by decide) rfl rfl (fun _ _ => by first | ((repeat (first | with_reducible exact Rpl.here | with_reducible apply Rpl.there)); done) | (repeat (first | exact Rpl.here | apply Rpl.there))) rfl (fun w' hM j u hj => ?_) (by intro v hv; rcases List.mem_cons.1 hv with rfl | hv; rfl; rcases List.mem_cons.1 hv with rfl | hv; rfl; cases hv) (by omega) (by decide) rfl (fun a' c' hac => ?_))
      · rw [add_lit, Nat.zero_add]; exact (hM.blk (b := b9) memA).cell hj
      rw [show pcl ks ++ [zv p.1, zv p.2] = pcl (ks ++ [p]) from hsn, show ks.length + 1 = (ks ++ [p]).length from by rw [List.length_append]; rfl]
      refine hwYI ?_
      refine HL.one (H1.st (b := b2) rfl rfl (by intro _ h; cases h) (by intro _ h; cases h) rplA (by exact Nat.zero_lt_one) ?_)
      refine hwYI ?_
      refine HX.rp_n hL rplA fun w' hM => ⟨rfl, (a', c'), trivial, ?_⟩
      exact hM.sub (Hs.refl _).skip.skip
    · obtain ⟨⟨ks, z⟩, h1, h2⟩ := h
      exact ⟨(ks, z), h1, h2⟩
  · rintro D ⟨ks, az, cz⟩ hp
    dsimp only at hp ⊢
    refine hwYI ?_
    exact HX.retM1 rfl rfl Pick.here fun w' hM => ⟨(ks, az, cz), hp, rfl, hM.tail⟩
theorem collect27_fn {b1 bm clk : Nat} {es : Array MapEntry} {m : PM} (w : World) (hb : w.cell? ⟨b1, 0, none⟩ = some (.map (some bm))) (hmap : w.heap[bm]? = some (.map es clk)) (hms : MPl (liftP m) es clk) (hk : (m.map Prod.fst).Nodup) (hl : m.length ≤ 400000) :
    Fn Tryz.prog 96 #[.func (.func 98) #[] #[.pointer (some ⟨b1, 0, none⟩)]] w fun u w' => ∃ z : List PK × Option Addr × Nat, z.1.Perm (m.map Prod.fst) ∧ u = .slice z.2.1 z.1.length z.2.2 ∧ Mm w [A.grow 76 2 z.2.1 z.2.2 z.1.length (pcl z.1)] w' := by
  refine enterH (l := [_]) rfl Tryz.ntmps96 rfl ?_
  refine hwYI ?_
  refine HL.one (H1.callz (vs := [.slice none 0 0, .func (.func 98) #[] #[.pointer (some ⟨b1, 0, none⟩)]]) rfl rfl (fun w' hM => appendSeq27_fn w' (cell_ext hM.ext hb) (by rw [hM.ext.block bm (Array.getElem?_eq_some_iff.1 hmap).1]; exact hmap) hms hk hl) ?_)
  rintro ⟨ks, a2, c2⟩ hp
  dsimp only
  refine hwYI ?_
  exact HX.ret1 rfl rfl fun w' hM => ⟨(ks, a2, c2), hp, rfl, hM⟩
/-- Places in their order. -/
def SortedP (l : List PK) (m : PM) : Prop := l.Perm (m.map Prod.fst) ∧ l.Pairwise fun x y => ¬ leP y x
theorem sorted27_fn {b1 bm clk : Nat} {es : Array MapEntry} {m : PM} (w : World) (hb : w.cell? ⟨b1, 0, none⟩ = some (.map (some bm))) (hmap : w.heap[bm]? = some (.map es clk)) (hms : MPl (liftP m) es clk) (hk : (m.map Prod.fst).Nodup) (hl : m.length ≤ 400000) :
    Fn Tryz.prog 50 #[.func (.func 98) #[] #[.pointer (some ⟨b1, 0, none⟩)], fnW 52] w fun u w' => ∃ z : List PK × Option Addr × Nat, SortedP z.1 m ∧ u = .slice z.2.1 z.1.length z.2.2 ∧ Mm w [A.grow 76 2 z.2.1 z.2.2 z.1.length (pcl z.1)] w' := by
  refine enterH (l := [_, _]) rfl Tryz.ntmps50 rfl ?_
  refine hwYI ?_
  refine HL.one (H1.callz (vs := [.func (.func 98) #[] #[.pointer (some ⟨b1, 0, none⟩)]]) rfl rfl (fun w' hM => collect27_fn w' (cell_ext hM.ext hb) (by rw [hM.ext.block bm (Array.getElem?_eq_some_iff.1 hmap).1]; exact hmap) hms hk hl) ?_)
  rintro ⟨ks, a2, c2⟩ hp
  dsimp only at hp ⊢
  have hkl := hp.length_eq
  rw [List.length_map] at hkl
  refine hwYI ?_
  refine HL.one (H1.callk (α := List PK) (V := fun _ => .tuple #[]) (I := fun l => l.Perm ks ∧ l.Pairwise fun x y => ¬ leP y x) (H' := fun l => [A.grow 76 2 a2 c2 l.length (pcl l)]) (vs := [.slice a2 ks.length c2, fnW 52]) rfl rfl
    (fun w' hM => sortP_fn hM (by omega) (fun l' hl' => Rpl.here)) ?_)
  rintro l' ⟨hp2, hs2⟩
  have hll := hp2.length_eq
  rw [← hll]
  refine hwYI ?_
  exact HX.ret1 rfl rfl fun w' hM => ⟨(l', a2, c2), ⟨hp2.trans hp, hs2⟩, rfl, hM⟩
end Go.Sx
/- Chapter 27: Holds, SamePairs, opened: the walks. -/
namespace Go.Sx
open Go Go.Proofs Go.RowKit
theorem Mm.pm {w0 w : World} {H : List Atom} {b : Nat} {l : List (PK × Value)} (h : Mm w0 H w) (hm : A.pm b l ∈ H) : ∃ es clk, w.heap[b]? = some (.map es clk) ∧ MPl l es clk := by
  obtain ⟨o, h1, es, clk, rfl, h2⟩ : ∃ o, w.heap[b]? = some o ∧ pmP l o := h.all _ hm
  exact ⟨es, clk, h1, h2⟩
/-- A slice of pairs of numbers. -/
def RdP (w : World) (v : Value) (l : List PK) : Prop := ∃ a c, v = .slice a l.length c ∧ l.length ≤ c ∧ (l = [] ∨ ∃ b off, a = some ⟨b, off, none⟩ ∧ ∀ i u, (pcl l)[i]? = some u → w.cell? ⟨b, off + i, none⟩ = some u)
theorem Mm.grP {w0 w : World} {H : List Atom} {e : TypeId} {a : Option Addr} {c : Nat} {l : List PK} (h : Mm w0 H w) (hm : A.grow e 2 a c l.length (pcl l) ∈ H) : RdP w (.slice a l.length c) l := by
  have hown := h.own hm
  rcases hown.2 with ⟨hv, h2⟩ | ⟨g, cap, cur, hv, hb, hg, hnc, hcm, hcs, ht⟩
  · injection hv with e1 e2 e3
    subst e3
    exact ⟨a, 0, rfl, by omega, .inl (List.eq_nil_of_length_eq_zero h2)⟩
  · cases hv
    exact ⟨_, _, rfl, hnc, .inr ⟨g, 0, rfl, fun i u hu => by rw [Nat.zero_add]; exact ownsRow_cell hown hu⟩⟩
theorem run_eqA (d : Nat) (a b : PK) (w : World) : (Op.equalIn (d + 2) 43 (pkV a) (pkV b)).run Tryz.prog w = .ok (decide (a = b)) w := by
  obtain ⟨a1, a2⟩ := a
  obtain ⟨b1, b2⟩ := b
  have hi : ITy Tryz.prog 3 (.int .i64 0) 1 8 := inferInstance
  have hq : ∀ x y : Int, (Op.equalIn (d + 1) 3 (.int .i64 x) (.int .i64 y)).run Tryz.prog w = .ok (x == y) w := fun x y => by
    simp [Op.equalIn, Sem.run_bind, run_underlying Tryz.underlying3, Result.andThen]
  have h0 := run_partP (w := w) #[zv a1, zv a2] 0 (zv a1) rfl
  have h1 := run_partP (w := w) #[zv a1, zv a2] 1 (zv a2) rfl
  have h2 := run_partP (w := w) #[zv b1, zv b2] 0 (zv b1) rfl
  have h3 := run_partP (w := w) #[zv b1, zv b2] 1 (zv b2) rfl
  have h4 : (Op.equalIn (d + 1) 3 (zv a1) (zv b1)).run Tryz.prog w = .ok (a1 == b1) w := hq a1 b1
  have h5 : (Op.equalIn (d + 1) 3 (zv a2) (zv b2)).run Tryz.prog w = .ok (a2 == b2) w := hq a2 b2
  have hd : decide ((a1, a2) = (b1, b2)) = ((a1 == b1) && (a2 == b2)) := by
    rw [Bool.eq_iff_iff, decide_eq_true_eq, Prod.mk.injEq, Bool.and_eq_true, beq_iff_eq, beq_iff_eq]
  rw [hd]
  generalize (a1 == b1) = u at *
  generalize (a2 == b2) = v at *
  rw [show d + 2 = (d + 1) + 1 from rfl]
  unfold Op.equalIn pkV
  simp only [Sem.run_bind, run_underlying Tryz.underlying43, Result.andThen, run_sizeOf (h := hi)]
  cases u <;> cases v <;> simp [Std.Legacy.Range.forIn_eq_forIn_range', Std.Legacy.Range.size, List.range', Sem.run_bind, Result.andThen, h0, h1, h2, h3, h4, h5]
theorem POp.neqA {N : Nat} {ds : List Deferred} {E : Env} {x y : Operand} {t' ty : TypeId} {a b : PK} (hx : Env.ev E x = some (.agg [zv a.1, zv a.2].toArray)) (hy : Env.ev E y = some (.agg [zv b.1, zv b.2].toArray)) :
    POp Tryz.prog N ds E (.binOp .neq 43 x y t') ty (.bool (!decide (a = b))) :=
  POp.bin hx hy (fun w => run_eqGuard_agg w _ _ _ _ _ _ (by kernel_rfl)) fun w => by
    have h := run_eqA 9998 a b w
    have h2 : (Op.equal 43 (.agg [zv a.1, zv a.2].toArray) (.agg [zv b.1, zv b.2].toArray)).run Tryz.prog w = .ok (decide (a = b)) w := h
    simp only [Go.binOp, Sem.run_bind, h2, Result.andThen, Sem.run_pure]
attribute [local irreducible] WC WL WX POp Then Again Fn NX W1 WA WO QL RP RA Yld LoopAt HC HL HX HN H1 HA HO HQ HB HP A.blk A.grow A.rd A.obj A.mp AgainH CutH
attribute [local irreducible] A.pm A.mx A.mit sumS
theorem samePairs_fn (v u : Value) (l m : List PK) (hl : l.length ≤ 1000000) (hm : m.length ≤ 1000000) (w : World) (hR : RdP w v l) (hS : RdP w u m) :
    Fn Tryz.prog 38 #[v, u] w fun x w' => x = .bool (decide (l = m)) ∧ Ext w w' := by
  obtain ⟨a0, c0, rfl, hc0, hR⟩ := hR
  obtain ⟨a1, c1, rfl, hc1, hS⟩ := hS
  refine enterH (l := [_, _]) rfl Tryz.ntmps38 rfl ?_
  by_cases hlen : l.length = m.length
  rotate_left
  · have h1 : ¬ (l.length : Int) = (m.length : Int) := by omega
    refine hwYI ?_
    exact HX.ret1 rfl rfl fun w' hM => ⟨by rw [decide_eq_false fun h => hlen (by rw [h])], hM.ext⟩
  have h1 : (l.length : Int) = (m.length : Int) := by omega
  have h1' : ¬ ¬ (l.length : Int) = (m.length : Int) := fun h => h h1
  refine hwYI ?_
  refine HC.loop (α := Nat) (fun i => [(0, .slice a0 l.length c0), (1, .slice a1 m.length c1), (5, zv (i : Int))]) (fun _ => []) (fun i => i ≤ l.length ∧ l.take i = m.take i) (fun i => l.length - i) 0 ⟨Nat.zero_le _, rfl⟩ esA (Hs.refl _) ?_
  rintro i ⟨hi, hpre⟩
  by_cases hlt : i < l.length
  · obtain ⟨p, hp⟩ : ∃ p, l[i]? = some p := ⟨_, List.getElem?_eq_getElem hlt⟩
    obtain ⟨q, hq⟩ : ∃ q, m[i]? = some q := ⟨_, List.getElem?_eq_getElem (by omega)⟩
    have t1 : l.take (i + 1) = l.take i ++ [p] := by rw [List.take_add_one, hp]; rfl
    have t2 : m.take (i + 1) = m.take i ++ [q] := by rw [List.take_add_one, hq]; rfl
    have hg := fun j v h => pcl_get hp j v h
    have hg2 := fun j v h => pcl_get hq j v h
    obtain ⟨b0, o0, rfl, hb0⟩ : ∃ b off, a0 = some ⟨b, off, none⟩ ∧ ∀ i u, (pcl l)[i]? = some u → w.cell? ⟨b, off + i, none⟩ = some u := by
      rcases hR with h | h
      · rw [h] at hlt; cases hlt
      · exact h
    obtain ⟨b1, o1, rfl, hb1⟩ : ∃ b off, a1 = some ⟨b, off, none⟩ ∧ ∀ i u, (pcl m)[i]? = some u → w.cell? ⟨b, off + i, none⟩ = some u := by
      rcases hS with h | h
      · rw [h] at hlen; rw [hlen] at hlt; cases hlt
      · exact h
    have hcl : ∀ j u, [zv p.1, zv p.2][j]? = some u → w.cell? ⟨b0, o0 + i * 2 + j, none⟩ = some u := fun j u hu => by rw [Nat.add_assoc]; exact hb0 _ _ (hg j u hu)
    have hcm : ∀ j u, [zv q.1, zv q.2][j]? = some u → w.cell? ⟨b1, o1 + i * 2 + j, none⟩ = some u := fun j u hu => by rw [Nat.add_assoc]; exact hb1 _ _ (hg2 j u hu)
    refine hwYI ?_
    refine HC.cut (α := Unit) (fun _ => [(0, .slice (some ⟨b0, o0, none⟩) l.length c0), (1, .slice (some ⟨b1, o1, none⟩) m.length c1), (5, zv (i : Int)), (25, .bool (!decide (p = q)))]) (fun _ => []) (fun _ => True) ?_ ?_
    · refine HC.any rfl ?_
      refine HA.pa 0 rfl ?_
      refine HA.pa 1 rfl ?_
      refine HA.pa 2 rfl ?_
      refine HA.pa 4 rfl ?_
      refine HA.pa 5 rfl ?_
      refine HA.pa 6 rfl ?_
      refine HA.all [3, 7] (by kernel_rfl) rfl ⟨⟨_, rfl, ?_⟩, ⟨_, rfl, ?_⟩, trivial⟩
      · refine HO.one ?_
        refine H1.ldAggw (vs := [zv p.1, zv p.2]) rfl rfl (fun w' hM j u hu => cell_ext hM.ext (hcl j u hu)) rfl ?_
        apply HA.fold
        refine HA.all [7] (by kernel_rfl) rfl ⟨⟨_, rfl, ?_⟩, trivial⟩
        refine HO.one ?_
        refine H1.ldAggw (vs := [zv q.1, zv q.2]) rfl rfl (fun w' hM j u hu => cell_ext hM.ext (hcm j u hu)) rfl ?_
        apply HA.fold
        refine HA.pa 8 rfl ?_ (POp.neqA rfl rfl)
        refine HA.done (by kernel_rfl) ?_
        exact HX.cut () trivial esA (Hs.refl _)
      · refine HO.one ?_
        refine H1.ldAggw (vs := [zv q.1, zv q.2]) rfl rfl (fun w' hM j u hu => cell_ext hM.ext (hcm j u hu)) rfl ?_
        apply HA.fold
        refine HA.all [3] (by kernel_rfl) rfl ⟨⟨_, rfl, ?_⟩, trivial⟩
        refine HO.one ?_
        refine H1.ldAggw (vs := [zv p.1, zv p.2]) rfl rfl (fun w' hM j u hu => cell_ext hM.ext (hcl j u hu)) rfl ?_
        apply HA.fold
        refine HA.pa 8 rfl ?_ (POp.neqA rfl rfl)
        refine HA.done (by kernel_rfl) ?_
        exact HX.cut () trivial esA (Hs.refl _)
    rintro - -
    by_cases he : p = q
    · subst he
      rw [decide_eq_true rfl]
      refine hwYI ?_
      exact HX.again (i + 1) ⟨hlt, by rw [t1, t2, hpre]⟩ (by show l.length - (i + 1) < l.length - i; omega) esA (Hs.refl _)
    · rw [decide_eq_false he]
      have hne : ¬ l = m := fun h => by
        subst h
        rw [hp] at hq
        exact he (Option.some.inj hq)
      refine hwYI ?_
      exact HX.ret1 rfl rfl fun w' hM => ⟨by rw [decide_eq_false hne], hM.ext⟩
  · obtain rfl : i = l.length := by omega
    have he : l = m := by rw [List.take_length] at hpre; rw [hpre, hlen, List.take_length]
    refine hwYI ?_
    exact HX.ret1 rfl rfl fun w' hM => ⟨by rw [decide_eq_true he], hM.ext⟩
set_option maxHeartbeats 1000000 in
theorem holds27_fn {w0 w : World} {H : List Atom} {bx bm bj : Nat} {m : PM} (hM : Mm w0 (A.blk bx (cuC bm bj) 84 :: A.pm bm (liftP m) :: H) w) (hk : (m.map Prod.fst).Nodup) (hl : m.length ≤ 400000) :
    Fn Tryz.prog 20 #[.pointer (some ⟨bx, 0, none⟩)] w fun v w' => ∃ z : List PK × Option Addr × Nat, SortedP z.1 m ∧ v = .slice z.2.1 z.1.length z.2.2 ∧ Mm w0 (A.grow 43 2 z.2.1 z.2.2 z.1.length (pcl z.1) :: A.blk bx (cuC bm bj) 84 :: A.pm bm (liftP m) :: H) w' := by
  refine enterK (l := [_]) hM rfl Tryz.ntmps20 rfl ?_
  refine hwYI ?_
  refine HL.one (H1.callz (vs := [.map (some bm)]) rfl rfl (fun w' hM => keys27_fn bm w') ?_)
  rintro b1 -
  refine hwYI ?_
  refine HL.one (H1.callz (α := List PK × Option Addr × Nat) (V := fun z => .slice z.2.1 z.1.length z.2.2) (Hn := fun z => [A.grow 76 2 z.2.1 z.2.2 z.1.length (pcl z.1)]) (I := fun z => SortedP z.1 m) (vs := [.func (.func 98) #[] #[.pointer (some ⟨b1, 0, none⟩)], fnW 52]) rfl rfl (fun w' hM => by
    obtain ⟨es, clk, h1, h2⟩ := hM.pm (b := bm) (l := liftP m) memA
    exact sorted27_fn w' ((hM.blk (b := b1) memA).cell rfl) h1 h2 hk hl) ?_)
  rintro ⟨l, a, c⟩ hS
  dsimp only at hS ⊢
  have hll := hS.1.length_eq
  rw [List.length_map] at hll
  refine hbYI ?_
  refine HC.grow0 43 2 ?_
  repeat refine HC.seq ?_
  refine HC.cut (α := Option Addr × Nat) (fun z => [(2, .slice z.1 l.length z.2)]) (fun z => A.grow 43 2 z.1 z.2 l.length (pcl l) :: A.blk bx (cuC bm bj) 84 :: A.pm bm (liftP m) :: H) (fun _ => True) ?_ ?_
  · refine HC.block ?_
    refine HC.loop (α := Nat × Option Addr × Nat) (fun z => [(2, .slice z.2.1 z.1 z.2.2), (12, .slice a l.length c), (13, zv (l.length : Int)), (14, zv (z.1 : Int))])
      (fun z => A.grow 43 2 z.2.1 z.2.2 z.1 (pcl (l.take z.1)) :: A.grow 76 2 a c l.length (pcl l) :: A.blk bx (cuC bm bj) 84 :: A.pm bm (liftP m) :: H) (fun z => z.1 ≤ l.length) (fun z => l.length - z.1) (0, none, 0) (Nat.zero_le _) esA (Hs.cons Pick.here (Hs.cons Pick.here (Hs.cons (Pick.there Pick.here) (Hs.cons (Pick.there Pick.here) (Hs.refl _).skip)))) ?_
    rintro ⟨i, a2, c2⟩ hi
    dsimp only at hi ⊢
    by_cases hlt : i < l.length
    · obtain ⟨p, hp⟩ : ∃ p, l[i]? = some p := ⟨_, List.getElem?_eq_getElem hlt⟩
      have hg := fun j v h => pcl_get hp j v h
      have htk : l.take (i + 1) = l.take i ++ [p] := by rw [List.take_add_one, hp]; rfl
      have hsn := pcl_snoc (l.take i) p
      rw [← htk] at hsn
      refine HC.openg (e := 76) (sz := 2) (a := a) (c := c) (n := l.length) (xs := pcl l) (.tail _ (.head _)) (by omega) ?_
      rintro g rfl
      refine hwYI ?_
      refine HL.one (H1.ldAggw (b := g) (off := i * 2) (vs := [zv p.1, zv p.2]) rfl rfl (fun w' hM j u hu => ownsRow_cell (hM.own (e := 76) (sz := 2) (a := some ⟨g, 0, none⟩) (c := c) (xs := pcl l) (.tail _ (.head _))) (hg j u hu)) rfl ?_)
      refine hwYI ?_
      refine HL.one (H1.alloc (cs := [zv 0, zv 0]) rfl rfl (fun b5 => ?_))
      refine hwYI ?_
      refine HL.one (H1.stAgg (cs := [zv 0, zv 0]) (vs := [zv p.1, zv p.2]) rfl rfl rfl (by intro v hv; rcases List.mem_cons.1 hv with rfl | hv; rfl; rcases List.mem_cons.1 hv with rfl | hv; rfl; cases hv) rplA rfl ?_)
      refine hwYI ?_
      refine HL.build (cs := [zv p.1, zv p.2]) rfl rfl rfl ?_
      refine hwYI ?_
      refine HL.one (H1.lit (cs := [zv p.1, zv p.2]) rfl rfl rfl rfl rfl rfl (fun b9 => ?_))
      refine hwYI ?_
      refine HL.one (H1.app (sz := 2) (news := [zv p.1, zv p.2]) rfl (by decide) rfl rfl (fun _ _ => by first | ((repeat (first | with_reducible exact Rpl.here | with_reducible apply Rpl.there)); done) | (repeat (first | exact Rpl.here | apply Rpl.there))) rfl (fun w' hM j u hj => ?_) (by intro v hv; rcases List.mem_cons.1 hv with rfl | hv; rfl; rcases List.mem_cons.1 hv with rfl | hv; rfl; cases hv) (by omega) (by decide) rfl (fun a' c' hac => ?_))
      · rw [add_lit, Nat.zero_add]; exact (hM.blk (b := b9) memA).cell hj
      rw [show pcl (l.take i) ++ [zv p.1, zv p.2] = pcl (l.take (i + 1)) from hsn]
      refine hwYI ?_
      exact HX.again (i + 1, a', c') hlt (by show l.length - (i + 1) < l.length - i; omega) esA (Hs.cons (Pick.there (Pick.there Pick.here)) (Hs.cons (Pick.there (Pick.there Pick.here)) (Hs.cons (Pick.there (Pick.there Pick.here)) (Hs.cons (Pick.there (Pick.there Pick.here)) (Hs.refl _).skip.skip))))
    · obtain rfl : i = l.length := by omega
      rw [List.take_length]
      refine hwYI ?_
      exact HX.cut (a2, c2) trivial esA (Hs.cons Pick.here (Hs.refl _).skip)
  rintro ⟨a2, c2⟩ -
  dsimp only
  refine hwYI ?_
  exact HX.ret1 rfl rfl fun w' hM => ⟨(l, a2, c2), hS, rfl, hM⟩
end Go.Sx
/- Plain, chapter 27: what Store and Drop append is replayed as what they did. -/
namespace Go.Sx
open Go
theorem hwYK {G G2 : Prop} (x : G2) (hwq : Hold G2 → G := by
    intro hQq
    repeat' (first | refine HL.pa ?_ (POp.pneN rfl rfl) | refine HL.pa ?_ (POp.pnil1 rfl rfl) | refine HL.pa ?_ (POp.pnil0 rfl rfl) | refine HL.pa ?_ (POp.nilCheck rfl) | apply HL.fold | apply HA.fold | apply HL.nil | apply HX.n_then | apply HC.seq | apply HC.region | refine HL.pa ?_ | refine HL.ga rfl ?_ | refine HL.na rfl ?_ | refine HL.nu rfl rfl ?_ | apply HC.block | apply HC.skip | apply HC.exit | apply HC.ret | apply HX.e_block | refine HX.e_other rfl ?_ | apply HX.e_then | apply HX.e_again | apply HX.n_block | apply HX.r_then | apply HX.r_block | apply HX.r_again | refine HC.cond_yes rfl ?_ | refine HC.cond_no rfl ?_ | refine HL.one (H1.ldb rfl memA rfl rfl ?_) | refine HC.cond rfl (fun hc => ?_) (fun hc => ?_) | refine HC.cond_b rfl (fun hc => ?_) (fun hc => ?_))
    exact hQq.get) : G := hwq ⟨x⟩
theorem putsB_L : ∀ (l : List Nat) (s : ByteArray), (putsB s l).data.toList = s.data.toList ++ l.flatMap putN
  | [], s => by simp [putsB]
  | n :: l, s => by
    show (putsB (s ++ strN n) l).data.toList = _
    rw [putsB_L l, ByteArray.data_append]
    simp [strN, List.flatMap_cons]
theorem recS_L (p : PK) (s : ByteArray) : (recS p s).data.toList = 115 :: (putN p.1.toNat ++ (putN p.2.toNat ++ (putN s.data.toList.length ++ s.data.toList ++ []))) := by
  unfold recS
  have hl : s.data.toList.length = s.size := by rw [Array.length_toList]; rfl
  rw [ByteArray.data_append, ByteArray.data_append, Array.toList_append, putsB_L, Array.toList_append, hl]
  simp [strN, mkB, List.flatMap_cons]
theorem recD_L (o : Int) : (recD o).data.toList = 100 :: (putN o.toNat ++ []) := by
  unfold recD
  rw [putsB_L]
  simp [mkB, List.flatMap_cons]
theorem mkBA_self (s : ByteArray) : mkBA s.data.toList = s := ba_ext rfl
theorem replay_recS (m : PM) {p : PK} {s : ByteArray} (hp : okP p) (hs : s.size ≤ 4096) : replayF m (recS p s) = some (setM m p s) := by
  obtain ⟨h1, h2, h3, h4⟩ := hp
  have hL := recS_L p s
  have hl : s.data.toList.length = s.size := by rw [Array.length_toList]; rfl
  have hrl : (recS p s).data.toList.length = (recS p s).size := by rw [Array.length_toList]; rfl
  have d1 : (recS p s).data.toList.drop 1 = putN p.1.toNat ++ (putN p.2.toNat ++ (putN s.data.toList.length ++ s.data.toList ++ [])) := by rw [hL]; rfl
  have e1 := decI_putN (n := p.1.toNat) (by omega) d1
  have d2 := drop_app d1
  have e2 := decI_putN (n := p.2.toNat) (by omega) d2
  have d3 := drop_app d2
  have e3 := decS_putN (by omega) d3
  have hlen : (recS p s).size = 1 + (putN p.1.toNat).length + (putN p.2.toNat).length + (putN s.data.toList.length).length + s.data.toList.length := by
    rw [← hrl, hL]
    simp only [List.length_cons, List.length_append, List.length_nil]
    omega
  have hsb : sb (recS p s) 0 = 115 := by unfold sb; rw [hL]; rfl
  have u1 : unz (2 * p.1.toNat) = p.1 := by rw [unz_even]; omega
  have u2 : unz (2 * p.2.toNat) = p.2 := by rw [unz_even]; omega
  unfold replayF
  rw [if_neg (by omega), e1]
  dsimp only
  rw [if_pos hsb, e2]
  dsimp only
  rw [e3]
  dsimp only
  rw [u1, u2, if_pos ⟨⟨h1, h2, h3, h4⟩, by omega⟩, if_pos (by omega), mkBA_self]
theorem replay_recD (m : PM) {o : Int} (hp : okP (o, 0)) (hd : (dropM m o).length < m.length) : replayF m (recD o) = some (dropM m o) := by
  have hL := recD_L o
  have hrl : (recD o).data.toList.length = (recD o).size := by rw [Array.length_toList]; rfl
  have d1 : (recD o).data.toList.drop 1 = putN o.toNat ++ [] := by rw [hL]; rfl
  have h0 := hp
  obtain ⟨h1, h2, -, -⟩ := h0
  dsimp only at h1 h2
  have e1 := decI_putN (n := o.toNat) (by omega) d1
  have hlen : (recD o).size = 1 + (putN o.toNat).length := by
    rw [← hrl, hL]
    simp only [List.length_cons, List.length_append, List.length_nil]
    omega
  have hsb : sb (recD o) 0 = 100 := by unfold sb; rw [hL]; rfl
  have u1 : unz (2 * o.toNat) = o := by rw [unz_even]; omega
  unfold replayF
  rw [if_neg (by omega), e1]
  dsimp only
  rw [if_neg (by rw [hsb]; decide), if_pos hsb, u1, if_pos ⟨hp, hd⟩, if_pos (by omega)]
/-- A custodian whose records are durable: what they are, what they do. -/
structure CClean (m : PM) (j : Jn) (N : Nat) (l : List ByteArray) : Prop where
  jn : Clean j N l
  rep : replaysF [] l = some m
  nd : (m.map Prod.fst).Nodup
  len : m.length ≤ l.length
  sz : ∀ p ∈ m, p.2.size ≤ 4096
  ok : ∀ p ∈ m, okP p.1
  rcs : ∀ r ∈ l, r.size ≤ 4200
theorem cclean0 {N : Nat} (h1 : 1 ≤ N) (h2 : N ≤ 4194304) : CClean [] ⟨t00, newK N, false⟩ N [] :=
  ⟨clean0 h1 h2, rfl, List.nodup_nil, Nat.le_refl _, (fun _ h => by cases h), (fun _ h => by cases h), fun _ h => by cases h⟩
theorem CClean.need {m : PM} {j : Jn} {N : Nat} {l : List ByteArray} (h : CClean m j N l) : j.t.size = needL l := h.jn.size
theorem one_long {r : ByteArray} (h : r.size ≤ 65536) : ([r] : List ByteArray).any isLong = false := not_long fun x hx => by
  rcases List.mem_cons.1 hx with rfl | hx
  · exact h
  · cases hx
/-- A fragment is stored. -/
theorem CClean.store {m : PM} {j : Jn} {N : Nat} {l : List ByteArray} (h : CClean m j N l) {p : PK} {s : ByteArray} (hp : okP p) (hs : s.size ≤ 4096) (hf : needL (l ++ [recS p s]) ≤ N) :
    ∃ j', storeF m j p s = (0, setM m p s, j') ∧ CClean (setM m p s) j' N (l ++ [recS p s]) := by
  have hrs := recS_size hp hs
  have hfit : j.t.size + (outsL j.t.head [recS p s]).length ≤ N := by
    rw [h.need, outsL_need, ← needL_app]; exact hf
  obtain ⟨j', hap, hc⟩ := h.jn.app (one_long (by omega)) hfit
  refine ⟨j', ?_, hc, ?_, setM_nodup _ _ h.nd, ?_, ?_, ?_, ?_⟩
  · unfold storeF
    rw [if_neg (by rintro (h | h); exact h hp; omega), hap]
    rfl
  · rw [replaysF_snoc, h.rep]; exact replay_recS m hp hs
  · have h1 := setM_len m p s
    have h2 := h.len
    rw [List.length_append]
    show _ ≤ l.length + 1
    omega
  · intro x hx
    rcases setM_mem hx with hx | rfl
    · exact h.sz x hx
    · exact hs
  · intro x hx
    rcases setM_mem hx with hx | rfl
    · exact h.ok x hx
    · exact hp
  · intro r hr
    rcases List.mem_append.1 hr with hr | hr
    · exact h.rcs r hr
    · rcases List.mem_cons.1 hr with rfl | hr
      · exact hrs
      · cases hr
theorem storeF_bad {m : PM} {j : Jn} {p : PK} {s : ByteArray} (h : ¬ okP p ∨ 4096 < s.size) : storeF m j p s = (270, m, j) := by unfold storeF; rw [if_pos h]
/-- An object is removed. -/
theorem CClean.drop {m : PM} {j : Jn} {N : Nat} {l : List ByteArray} (h : CClean m j N l) {o : Int} (hp : okP (o, 0)) (hd : (dropM m o).length < m.length) (hf : needL (l ++ [recD o]) ≤ N) :
    ∃ j', dropF m j o = ((m.length : Int) - ((dropM m o).length : Int), 0, dropM m o, j') ∧ CClean (dropM m o) j' N (l ++ [recD o]) := by
  have h0 := hp
  obtain ⟨k1, k2, -, -⟩ := h0
  have hrs := recD_size (o := o) k2
  have hfit : j.t.size + (outsL j.t.head [recD o]).length ≤ N := by
    rw [h.need, outsL_need, ← needL_app]; exact hf
  obtain ⟨j', hap, hc⟩ := h.jn.app (one_long (by omega)) hfit
  refine ⟨j', ?_, hc, ?_, dropM_nodup _ h.nd, ?_, fun x hx => h.sz x (List.mem_filter.1 hx).1, fun x hx => h.ok x (List.mem_filter.1 hx).1, ?_⟩
  · unfold dropF
    rw [if_neg (fun h => h hp), if_neg (by omega), hap]
    rfl
  · rw [replaysF_snoc, h.rep]; exact replay_recD m hp hd
  · have h2 := h.len
    rw [List.length_append]
    show _ ≤ l.length + 1
    omega
  · intro r hr
    rcases List.mem_append.1 hr with hr | hr
    · exact h.rcs r hr
    · rcases List.mem_cons.1 hr with rfl | hr
      · omega
      · cases hr
/-- Nothing is removed. -/
theorem dropF_none {m : PM} {j : Jn} {o : Int} (hp : okP (o, 0)) (hd : (dropM m o).length = m.length) : dropF m j o = (0, 0, m, j) := by
  unfold dropF
  rw [if_neg (fun h => h hp), if_pos hd]
theorem CClean.opens {m : PM} {j : Jn} {N : Nat} {l : List ByteArray} (h : CClean m j N l) : openF j.k = (0, j.k, some (adds t00 l)) := h.jn.opens fun r hr => Nat.le_trans (h.rcs r hr) (by decide)
end Go.Sx
/- Chapter 27: opened, and the fixed examples: the walks. -/
namespace Go.Sx
open Go Go.Proofs Go.RowKit
theorem sorted_eq : ∀ {l l' : List PK}, l.Perm l' → (l.Pairwise fun x y => ¬ leP y x) → (l'.Pairwise fun x y => ¬ leP y x) → l = l'
  | [], l', h, _, _ => (List.nil_perm.1 h).symm
  | a :: t, [], h, _, _ => by cases List.perm_nil.1 h
  | a :: t, b :: t', h, h1, h2 => by
    rw [List.pairwise_cons] at h1 h2
    have e : a = b := by
      have ha := h.subset (List.mem_cons_self ..)
      have hb := h.symm.subset (List.mem_cons_self ..)
      rcases List.mem_cons.1 ha with ha | ha
      · exact ha
      rcases List.mem_cons.1 hb with hb | hb
      · exact hb.symm
      have k1 := h2.1 a ha
      have k2 := h1.1 b hb
      unfold leP at k1 k2
      exact Prod.ext (by omega) (by omega)
    subst e
    rw [sorted_eq ((List.perm_cons a).1 h) h1.2 h2.2]
theorem SortedP.eq {l l' : List PK} {m : PM} (h : SortedP l m) (h' : SortedP l' m) : l = l' := sorted_eq (h.1.trans h'.1.symm) h.2 h'.2
theorem CClean.jeq {m : PM} {j : Jn} {N : Nat} {l : List ByteArray} (h : CClean m j N l) : j = ⟨adds t00 l, j.k, false⟩ := by
  have h1 := h.jn.t
  have h2 := h.jn.br
  obtain ⟨t, k, br⟩ := j
  dsimp only at h1 h2
  rw [h1, h2]
theorem copen_F {w0 w : World} {H : List Atom} {bd b1 b2 pc : Nat} {pa : Option Addr} {k : Dk} {ea ec : Addr} (hG : RoundG w0) (hE : ErrG ea w0) (hC : CErrG ec w0) (hM : Mm w0 (dkH bd b1 b2 pa pc k H) w) (hk : k.Ok) (hp : k.pend.length ≤ 9000)
    (hop : (∃ t k', openF k = (0, k', some t) ∧ t.recs.length ≤ 100000 ∧ ∀ r ∈ t.recs, r.size ≤ 65536) ∨ (∃ e k', openF k = (e, k', none) ∧ e ≠ 0)) :
    Fn Tryz.prog 25 #[.pointer (some ⟨bd, 0, none⟩)] w fun v w' => copenP w0 bd b1 b2 H (openF k) v w' := copen_all hG hE hC hM hk hp hop
theorem HX.ret3y {P : Program} {N : Nat} {E : Env} {w0 : World} {H : List Atom} {fn : Func} {t1 t2 t3 : Nat} {v1 v2 v3 : Value} {R : Value → World → Prop} (hr : fn.results = #[.tmp t1, .tmp t2, .tmp t3]) (h1 : Env.g E t1 = some v1) (h2 : Env.g E t2 = some v2) (h3 : Env.g E t3 = some v3) (h : ∀ w, Mm w0 H w → R (.tuple #[v1, v2, v3]) w) :
    HX N [] .ret (bodyPost P fn (RetP R)) E w0 H := fun w hM => WX.ret3 (P := P) hr h1 h2 h3 (h w hM)
attribute [local irreducible] WC WL WX POp Then Again Fn NX W1 WA WO QL RP RA Yld LoopAt HC HL HX HN H1 HA HO HQ HB HP A.blk A.grow A.rd A.obj A.mp AgainH CutH
attribute [local irreducible] A.pm A.mx A.mit sumS newK
theorem copen_fn {w0 w : World} {H : List Atom} {bd b1 b2 pc N : Nat} {pa : Option Addr} {m : PM} {j : Jn} {l : List ByteArray} {ea ec : Addr} (hG : RoundG w0) (hE : ErrG ea w0) (hC : CErrG ec w0) (h : CClean m j N l) (hl : l.length ≤ 100000) (hM : Mm w0 (dkH bd b1 b2 pa pc j.k H) w) :
    Fn Tryz.prog 25 #[.pointer (some ⟨bd, 0, none⟩)] w fun v w' => ∃ z : Nat × Nat × Nat × (Option Addr × Nat) × (Option Addr × Nat), True ∧ v = .tuple #[.pointer (some ⟨z.1, 0, none⟩), zv 0] ∧ Mm w0 (cuH z.1 z.2.1 z.2.2.1 bd b1 b2 z.2.2.2.1.1 z.2.2.2.1.2 z.2.2.2.2.1 z.2.2.2.2.2 m j H) w' := by
  have hop := h.opens
  have hr : (adds t00 l).recs = l := adds0_recs l
  have hF : Fn Tryz.prog 25 #[.pointer (some ⟨bd, 0, none⟩)] w fun v w' => copenP w0 bd b1 b2 H (openF j.k) v w' :=
    copen_F hG hE hC hM h.jn.ok (by rw [h.jn.pend]; exact Nat.zero_le _) (.inl ⟨_, _, hop, by rw [hr]; exact hl, by rw [hr]; exact fun r hr => Nat.le_trans (h.rcs r hr) (by decide)⟩)
  refine hF.mono fun v w2 h1 => ?_
  rw [hop] at h1
  unfold copenP at h1
  dsimp only at h1
  rw [hr, h.rep] at h1
  obtain ⟨z, h2, h3⟩ := h1
  refine ⟨z, trivial, h2, ?_⟩
  rw [h.jeq]; exact h3
theorem opened_fn {w : World} {ea ec : Addr} (hG : RoundG w) (hE : ErrG ea w) (hC : CErrG ec w) (N : Nat) (h1 : 1 ≤ N) (h2 : N ≤ 4194304) :
    Fn Tryz.prog 12 #[zv (N : Int)] w fun v w' => ∃ z : (Nat × Nat × Nat) × Nat × Nat × Nat × (Option Addr × Nat) × (Option Addr × Nat), True ∧ v = .tuple #[.pointer (some ⟨z.2.1, 0, none⟩), .pointer (some ⟨z.1.1, 0, none⟩), .bool true] ∧
      Mm w (cuH z.2.1 z.2.2.1 z.2.2.2.1 z.1.1 z.1.2.1 z.1.2.2 z.2.2.2.2.1.1 z.2.2.2.2.1.2 z.2.2.2.2.2.1 z.2.2.2.2.2.2 [] ⟨t00, newK N, false⟩ []) w' := by
  refine enterH (l := [_]) rfl Tryz.ntmps12 rfl ?_
  refine hwYK ?_
  refine HL.one (H1.callz (vs := [zv (N : Int)]) rfl rfl (fun w' hM => new_fn N h1 h2 w') ?_)
  rintro ⟨bd, b1, b2⟩ -
  dsimp only
  refine hwYK ?_
  refine HL.one (H1.callk (α := Nat × Nat × Nat × (Option Addr × Nat) × (Option Addr × Nat)) (V := fun z => .tuple #[.pointer (some ⟨z.1, 0, none⟩), zv 0]) (I := fun _ => True) (H' := fun z => cuH z.1 z.2.1 z.2.2.1 bd b1 b2 z.2.2.2.1.1 z.2.2.2.1.2 z.2.2.2.2.1 z.2.2.2.2.2 [] ⟨t00, newK N, false⟩ []) (vs := [_]) rfl rfl
    (fun w' hM => copen_fn hG hE hC (cclean0 h1 h2) (Nat.zero_le _) hM) ?_)
  rintro ⟨bx, bm, bj, ⟨a, c⟩, ⟨pa, pc⟩⟩ -
  dsimp only
  refine hwYK ?_
  exact HX.ret3y (P := Tryz.prog) rfl rfl rfl rfl fun w' hM => ⟨((bd, b1, b2), bx, bm, bj, (a, c), (pa, pc)), trivial, rfl, hM⟩
end Go.Sx
/- Chapter 27: the fixed examples: the walk. -/
namespace Go.Sx
open Go Go.Proofs Go.RowKit
theorem hwYL {G G2 : Prop} (x : G2) (hwq : Hold G2 → G := by
    intro hQq
    repeat' (first | refine HL.pa ?_ (POp.pneN rfl rfl) | refine HL.pa ?_ (POp.pnil1 rfl rfl) | refine HL.pa ?_ (POp.pnil0 rfl rfl) | refine HL.pa ?_ (POp.nilCheck rfl) | apply HL.fold | apply HA.fold | apply HL.nil | apply HX.n_then | apply HC.seq | apply HC.region | refine HL.pa ?_ | refine HL.ga rfl ?_ | refine HL.na rfl ?_ | refine HL.nu rfl rfl ?_ | apply HC.block | apply HC.skip | apply HC.exit | apply HC.ret | apply HX.e_block | refine HX.e_other rfl ?_ | apply HX.e_then | apply HX.e_again | apply HX.n_block | apply HX.r_then | apply HX.r_block | apply HX.r_again | refine HC.cond_yes rfl ?_ | refine HC.cond_no rfl ?_ | refine HL.one (H1.ldb rfl memA rfl rfl ?_) | refine HC.cond rfl (fun hc => ?_) (fun hc => ?_) | refine HC.cond_b rfl (fun hc => ?_) (fun hc => ?_))
    exact hQq.get) : G := hwq ⟨x⟩
theorem needL_le27 : ∀ (l : List ByteArray), (∀ r ∈ l, r.size ≤ 100) → needL l ≤ 150 * l.length
  | [], _ => Nat.zero_le _
  | r :: l, h => by
    have h1 := needL_le27 l fun x hx => h x (List.mem_cons_of_mem _ hx)
    have h2 := h r (List.mem_cons_self ..)
    have h3 := strN_size (n := r.size) (by omega)
    show (33 + (strN r.size).size + r.size) + needL l ≤ 150 * (l.length + 1)
    omega
theorem recS_le {p : PK} {s : ByteArray} (hp : okP p) (hs : s.size ≤ 60) : (recS p s).size ≤ 100 := by
  obtain ⟨h1, h2, h3, h4⟩ := hp
  have h5 := putsB_size [p.1.toNat, p.2.toNat] (mkB 115) (by
    intro n hn
    rcases List.mem_cons.1 hn with rfl | hn
    · omega
    rcases List.mem_cons.1 hn with rfl | hn
    · omega
    · cases hn)
  have h6 := strN_size (n := s.size) (by omega)
  have h7 : (mkB 115).size = 1 := rfl
  unfold recS
  rw [ByteArray.size_append, ByteArray.size_append]
  simp only [List.length_cons, List.length_nil] at h5
  omega
abbrev ab27 : ByteArray := ByteArray.mk #[97, 98]
abbrev cd27 : ByteArray := ByteArray.mk #[99, 100]
abbrev ef27 : ByteArray := ByteArray.mk #[101, 102]
abbrev x27 : ByteArray := ByteArray.mk #[120]
def m27 : PM := [((5, 0), ef27), ((5, 3), cd27)]
def l27 : List ByteArray := [recS (5, 0) ab27, recS (5, 3) cd27, recS (5, 0) ef27]
theorem l27_size : ∀ r ∈ l27, r.size ≤ 100 := by
  intro r hr
  rcases List.mem_cons.1 hr with rfl | hr
  · exact recS_le (by decide) (by decide)
  rcases List.mem_cons.1 hr with rfl | hr
  · exact recS_le (by decide) (by decide)
  rcases List.mem_cons.1 hr with rfl | hr
  · exact recS_le (by decide) (by decide)
  · cases hr
theorem sane_plain27 : ∃ j1 j2 j3 j4 : Jn, storeF [] ⟨t00, newK 2000, false⟩ (5, 0) ab27 = (0, [((5, 0), ab27)], j1) ∧ CClean [((5, 0), ab27)] j1 2000 [recS (5, 0) ab27]
    ∧ storeF [((5, 0), ab27)] j1 (5, 3) cd27 = (0, [((5, 0), ab27), ((5, 3), cd27)], j2) ∧ CClean [((5, 0), ab27), ((5, 3), cd27)] j2 2000 [recS (5, 0) ab27, recS (5, 3) cd27]
    ∧ storeF [((5, 0), ab27), ((5, 3), cd27)] j2 (5, 0) ef27 = (0, m27, j3) ∧ CClean m27 j3 2000 l27
    ∧ dropF m27 j3 5 = (2, 0, [], j4) ∧ CClean [] j4 2000 (l27 ++ [recD 5]) := by
  have h0 := cclean0 (N := 2000) (by decide) (by decide)
  have z := l27_size
  have z1 : (recS (5, 0) ab27).size ≤ 100 := z _ (.head _)
  have z2 : (recS (5, 3) cd27).size ≤ 100 := z _ (.tail _ (.head _))
  obtain ⟨j1, e1, h1⟩ := h0.store (p := (5, 0)) (s := ab27) (by decide) (by decide) (by
    refine Nat.le_trans (needL_le27 _ fun r hr => ?_) (show 150 * 1 ≤ 2000 by decide)
    rcases List.mem_cons.1 hr with rfl | hr
    · exact z1
    · cases hr)
  obtain ⟨j2, e2, h2⟩ := h1.store (p := (5, 3)) (s := cd27) (by decide) (by decide) (by
    refine Nat.le_trans (needL_le27 _ fun r hr => ?_) (show 150 * 2 ≤ 2000 by decide)
    rcases List.mem_cons.1 hr with rfl | hr
    · exact z1
    rcases List.mem_cons.1 hr with rfl | hr
    · exact z2
    · cases hr)
  obtain ⟨j3, e3, h3⟩ := h2.store (p := (5, 0)) (s := ef27) (by decide) (by decide) (Nat.le_trans (needL_le27 l27 z) (show 150 * 3 ≤ 2000 by decide))
  have z4 := recD_size (o := 5) (by decide)
  obtain ⟨j4, e4, h4⟩ := CClean.drop (m := m27) (l := l27) (j := j3) h3 (o := 5) (by decide) (by decide) (by
    refine Nat.le_trans (needL_le27 _ fun r hr => ?_) (show 150 * 4 ≤ 2000 by decide)
    rcases List.mem_append.1 hr with hr | hr
    · exact z r hr
    rcases List.mem_cons.1 hr with rfl | hr
    · omega
    · cases hr)
  exact ⟨j1, j2, j3, j4, e1, h1, e2, h2, e3, h3, e4, h4⟩
def ps27 : List PK := [(5, 0), (5, 3)]
theorem ps27_sorted : SortedP ps27 m27 := ⟨List.Perm.refl _, by unfold ps27 leP; simp⟩
theorem ps27_rd {w : World} {b : Nat} {e : TypeId} (h : Blk w b (pcl ps27) e) : RdP w (.slice (some ⟨b, 0, none⟩) 2 2) ps27 :=
  ⟨_, _, rfl, Nat.le_refl _, .inr ⟨b, 0, rfl, fun i u hu => by rw [Nat.zero_add]; exact h.cell hu⟩⟩
theorem fetch27 : fetchV m27 (5, 0) = .tuple #[.string ef27, zv 0] := rfl
theorem ans27 : ansV m27 (5, 3) x27 = .tuple #[.string (expB cd27 x27), zv 0] := by
  unfold ansV
  rw [if_neg (by decide)]
  rfl
theorem ans27n : ansV m27 (5, 1) x27 = .tuple #[.string (ByteArray.mk #[]), zv 271] := by
  unfold ansV
  rw [if_neg (by decide)]
  rfl
theorem exp27 : (expB cd27 x27).size = 32 := by
  unfold expB
  rw [if_neg (by decide)]
  exact sumS_size _
theorem get27 (s : ByteArray) {p : PK} (h : getM m27 p = some s) : s.size ≤ 100000 := by
  have h1 : getM m27 p = if p = (5, 0) then some ef27 else if p = (5, 3) then some cd27 else none := rfl
  rw [h1] at h
  split at h
  · cases h; decide
  split at h
  · cases h; decide
  · cases h
attribute [local irreducible] WC WL WX POp Then Again Fn NX W1 WA WO QL RP RA Yld LoopAt HC HL HX HN H1 HA HO HQ HB HP A.blk A.grow A.rd A.obj A.mp AgainH CutH
attribute [local irreducible] A.pm A.mx A.mit sumS newK expB
set_option maxHeartbeats 4000000 in
theorem sane27_fn {w : World} {ea ec : Addr} (hG : RoundG w) (hE : ErrG ea w) (hC : CErrG ec w) : Fn Tryz.prog 10 #[] w fun v w' => v = .bool true ∧ Ext w w' := by
  obtain ⟨j1, j2, j3, j4, e1, h1, e2, h2, e3, h3, e4, h4⟩ := sane_plain27
  have h0 := cclean0 (N := 2000) (by decide) (by decide)
  have e5 : dropF [] j4 5 = (0, 0, [], j4) := dropF_none (by decide) rfl
  refine enterH (l := []) rfl Tryz.ntmps10 rfl ?_
  refine hwYL ?_
  refine HL.one (H1.callz (α := (Nat × Nat × Nat) × Nat × Nat × Nat × (Option Addr × Nat) × (Option Addr × Nat)) (V := fun z => .tuple #[.pointer (some ⟨z.2.1, 0, none⟩), .pointer (some ⟨z.1.1, 0, none⟩), .bool true])
    (Hn := fun z => cuH z.2.1 z.2.2.1 z.2.2.2.1 z.1.1 z.1.2.1 z.1.2.2 z.2.2.2.2.1.1 z.2.2.2.2.1.2 z.2.2.2.2.2.1 z.2.2.2.2.2.2 [] ⟨t00, newK 2000, false⟩ []) (I := fun _ => True) (vs := [zv 2000]) rfl rfl (fun w' hM => opened_fn (hG.ext hM.ext) (hE.ext hM.ext) (hC.ext hM.ext) 2000 (by decide) (by decide)) ?_)
  rintro ⟨⟨bd, b1, b2⟩, bx, bm, bj, ⟨a, c⟩, ⟨pa, pc⟩⟩ -
  dsimp only
  refine hwYL ?_
  refine HL.one (H1.callk (α := (Option Addr × Nat) × (Option Addr × Nat)) (V := fun _ => zv 0) (I := fun _ => True) (H' := fun q => cuH bx bm bj bd b1 b2 q.1.1 q.1.2 q.2.1 q.2.2 [((5, 0), ab27)] j1 []) (vs := [_, zv 5, zv 0, .string ab27]) rfl rfl
    (fun w' hM => by
      have h := store_fn (5, 0) ab27 hG hM (h0.jn.jok (Nat.zero_le _))
      rw [e1] at h
      exact h) ?_)
  rintro ⟨⟨a, c⟩, ⟨pa, pc⟩⟩ -
  dsimp only
  refine hwYL ?_
  refine HL.one (H1.callk (α := (Option Addr × Nat) × (Option Addr × Nat)) (V := fun _ => zv 0) (I := fun _ => True) (H' := fun q => cuH bx bm bj bd b1 b2 q.1.1 q.1.2 q.2.1 q.2.2 [((5, 0), ab27), ((5, 3), cd27)] j2 []) (vs := [_, zv 5, zv 3, .string cd27]) rfl rfl
    (fun w' hM => by
      have h := store_fn (5, 3) cd27 hG hM (h1.jn.jok (by decide))
      rw [e2] at h
      exact h) ?_)
  rintro ⟨⟨a, c⟩, ⟨pa, pc⟩⟩ -
  dsimp only
  refine hwYL ?_
  refine HL.one (H1.callk (α := (Option Addr × Nat) × (Option Addr × Nat)) (V := fun _ => zv 0) (I := fun _ => True) (H' := fun q => cuH bx bm bj bd b1 b2 q.1.1 q.1.2 q.2.1 q.2.2 m27 j3 []) (vs := [_, zv 5, zv 0, .string ef27]) rfl rfl
    (fun w' hM => by
      have h := store_fn (5, 0) ef27 hG hM (h2.jn.jok (by decide))
      rw [e3] at h
      exact h) ?_)
  rintro ⟨⟨a, c⟩, ⟨pa, pc⟩⟩ -
  dsimp only
  refine hwYL ?_
  refine HL.one (H1.callk (α := Unit) (V := fun _ => .tuple #[.string ef27, zv 0]) (I := fun _ => True) (H' := fun _ => cuH bx bm bj bd b1 b2 a c pa pc m27 j3 []) (vs := [_, zv 5, zv 0]) rfl rfl
    (fun w' hM => by
      have h := fetch_fn (5, 0) hM
      rw [fetch27] at h
      exact h) ?_)
  rintro - -
  refine hwYL ?_
  refine HL.one (H1.callk (α := Unit) (V := fun _ => .tuple #[.string (expB cd27 x27), zv 0]) (I := fun _ => True) (H' := fun _ => cuH bx bm bj bd b1 b2 a c pa pc m27 j3 []) (vs := [_, zv 5, zv 3, .string x27]) rfl rfl
    (fun w' hM => by
      have h := answer_fn (5, 3) x27 hG hM (fun s hs => get27 s hs)
      rw [ans27] at h
      exact h) ?_)
  rintro - -
  refine hwYL ?_
  refine HL.one (H1.callk (α := Unit) (V := fun _ => .tuple #[.string (ByteArray.mk #[]), zv 271]) (I := fun _ => True) (H' := fun _ => cuH bx bm bj bd b1 b2 a c pa pc m27 j3 []) (vs := [_, zv 5, zv 1, .string x27]) rfl rfl
    (fun w' hM => by
      have h := answer_fn (5, 1) x27 hG hM (fun s hs => get27 s hs)
      rw [ans27n] at h
      exact h) ?_)
  rintro - -
  refine hwYL ?_
  refine HL.one (H1.callk (α := Nat × Nat × Nat × (Option Addr × Nat) × (Option Addr × Nat)) (V := fun z => .tuple #[.pointer (some ⟨z.1, 0, none⟩), zv 0]) (I := fun _ => True)
    (H' := fun z => cuH z.1 z.2.1 z.2.2.1 bd b1 b2 z.2.2.2.1.1 z.2.2.2.1.2 z.2.2.2.2.1 z.2.2.2.2.2 m27 j3 [A.blk bx (cuC bm bj) 84, A.pm bm (liftP m27), A.blk bj (tpC a c j3.t (jnR bd j3.br)) 179, A.grow 9 1 a c j3.t.recs.length (strs j3.t.recs)]) (vs := [_]) rfl rfl
    (fun w' hM => copen_fn hG hE hC h3 (by decide) (hM.sub (Hs.cons (Pick.there (Pick.there (Pick.there (Pick.there Pick.here)))) (Hs.cons (Pick.there (Pick.there (Pick.there (Pick.there Pick.here)))) (Hs.cons (Pick.there (Pick.there (Pick.there (Pick.there Pick.here)))) (Hs.cons (Pick.there (Pick.there (Pick.there (Pick.there Pick.here)))) (Hs.refl _))))))) ?_)
  rintro ⟨by_, bn, bk, ⟨a2, c2⟩, ⟨pa2, pc2⟩⟩ -
  dsimp only
  refine hwYL ?_
  refine HL.one (H1.callk (α := List PK × Option Addr × Nat) (V := fun z => .slice z.2.1 z.1.length z.2.2) (I := fun z => SortedP z.1 m27)
    (H' := fun z => A.grow 43 2 z.2.1 z.2.2 z.1.length (pcl z.1) :: A.blk bx (cuC bm bj) 84 :: A.pm bm (liftP m27) :: A.blk by_ (cuC bn bk) 84 :: A.pm bn (liftP m27) :: jnlH bk bd b1 b2 a2 c2 pa2 pc2 j3 [A.blk bj (tpC a c j3.t (jnR bd j3.br)) 179, A.grow 9 1 a c j3.t.recs.length (strs j3.t.recs)]) (vs := [_]) rfl rfl
    (fun w' hM => holds27_fn (hM.sub (Hs.cons (Pick.there (Pick.there (Pick.there (Pick.there (Pick.there (Pick.there (Pick.there (Pick.there Pick.here)))))))) (Hs.cons (Pick.there (Pick.there (Pick.there (Pick.there (Pick.there (Pick.there (Pick.there (Pick.there Pick.here)))))))) (Hs.refl _)))) h3.nd (by decide)) ?_)
  rintro ⟨q1, a3, c3⟩ hS
  dsimp only at hS ⊢
  obtain rfl := hS.eq ps27_sorted
  refine hwYL ?_
  refine HL.build (cs := [zv 5, zv 0]) rfl rfl rfl ?_
  refine HL.build (cs := [zv 5, zv 3]) rfl rfl rfl ?_
  refine HL.one (H1.lit (cs := pcl ps27) rfl rfl rfl rfl rfl rfl (fun b9 => ?_))
  refine hwYL ?_
  refine HL.one (H1.callx (vs := [.slice a3 2 c3, .slice (some ⟨b9, 0, none⟩) 2 2]) rfl rfl (fun w' hM => samePairs_fn (.slice a3 2 c3) (.slice (some ⟨b9, 0, none⟩) 2 2) ps27 ps27 (by decide) (by decide) w' (hM.grP (e := 43) (l := ps27) memA) (ps27_rd (hM.blk (b := b9) memA))) ?_)
  rw [decide_eq_true rfl]
  refine hwYL ?_
  refine HL.one (H1.callk (α := List PK × Option Addr × Nat) (V := fun z => .slice z.2.1 z.1.length z.2.2) (I := fun z => SortedP z.1 m27)
    (H' := fun z => A.grow 43 2 z.2.1 z.2.2 z.1.length (pcl z.1) :: A.blk by_ (cuC bn bk) 84 :: A.pm bn (liftP m27) :: A.blk bx (cuC bm bj) 84 :: A.pm bm (liftP m27) :: jnlH bk bd b1 b2 a2 c2 pa2 pc2 j3 [A.blk bj (tpC a c j3.t (jnR bd j3.br)) 179, A.grow 9 1 a c j3.t.recs.length (strs j3.t.recs)]) (vs := [_]) rfl rfl
    (fun w' hM => holds27_fn (hM.sub (Hs.cons (Pick.there (Pick.there (Pick.there (Pick.there Pick.here)))) (Hs.cons (Pick.there (Pick.there (Pick.there (Pick.there Pick.here)))) (Hs.refl _).skip.skip))) h3.nd (by decide)) ?_)
  rintro ⟨q2, a4, c4⟩ hS
  dsimp only at hS ⊢
  obtain rfl := hS.eq ps27_sorted
  refine hwYL ?_
  refine HL.one (H1.callk (α := List PK × Option Addr × Nat) (V := fun z => .slice z.2.1 z.1.length z.2.2) (I := fun z => SortedP z.1 m27)
    (H' := fun z => A.grow 43 2 z.2.1 z.2.2 z.1.length (pcl z.1) :: A.grow 43 2 a4 c4 ps27.length (pcl ps27) :: A.blk bx (cuC bm bj) 84 :: A.pm bm (liftP m27) :: jnlH bk bd b1 b2 a2 c2 pa2 pc2 j3 [A.blk bj (tpC a c j3.t (jnR bd j3.br)) 179, A.grow 9 1 a c j3.t.recs.length (strs j3.t.recs)]) (vs := [_]) rfl rfl
    (fun w' hM => (holds27_fn (H := A.grow 43 2 a4 c4 ps27.length (pcl ps27) :: jnlH bk bd b1 b2 a2 c2 pa2 pc2 j3 [A.blk bj (tpC a c j3.t (jnR bd j3.br)) 179, A.grow 9 1 a c j3.t.recs.length (strs j3.t.recs)]) (hM.sub (Hs.cons (Pick.there (Pick.there (Pick.there Pick.here))) (Hs.cons (Pick.there (Pick.there (Pick.there Pick.here))) (Hs.cons Pick.here (Hs.refl _).skip.skip)))) h3.nd (by decide)).mono fun v w2 h => by
      obtain ⟨z, k1, k2, k3⟩ := h
      exact ⟨z, k1, k2, k3.sub (Hs.cons Pick.here (Hs.cons (Pick.there (Pick.there Pick.here)) (Hs.refl _)))⟩) ?_)
  rintro ⟨q3, a5, c5⟩ hS
  dsimp only at hS ⊢
  obtain rfl := hS.eq ps27_sorted
  refine hwYL ?_
  refine HL.one (H1.callx (vs := [.slice a4 2 c4, .slice a5 2 c5]) rfl rfl (fun w' hM => samePairs_fn (.slice a4 2 c4) (.slice a5 2 c5) ps27 ps27 (by decide) (by decide) w' (hM.grP (e := 43) (a := a4) (c := c4) (l := ps27) memA) (hM.grP (e := 43) (a := a5) (c := c5) (l := ps27) memA)) ?_)
  rw [decide_eq_true rfl]
  refine hwYL ?_
  refine HL.one (H1.callk (α := Nat × (Option Addr × Nat) × (Option Addr × Nat)) (V := fun _ => .tuple #[zv 2, zv 0]) (I := fun _ => True) (H' := fun q => cuH bx q.1 bj bd b1 b2 q.2.1.1 q.2.1.2 q.2.2.1 q.2.2.2 [] j4 []) (vs := [_, zv 5]) rfl rfl
    (fun w' hM => by
      have h := cdrop_fn (m := m27) (j := j3) (H := []) 5 hG (hM.sub (Hs.cons (Pick.there (Pick.there Pick.here)) (Hs.cons (Pick.there (Pick.there Pick.here)) (Hs.cons (Pick.there (Pick.there (Pick.there (Pick.there (Pick.there (Pick.there (Pick.there (Pick.there Pick.here)))))))) (Hs.cons (Pick.there (Pick.there (Pick.there (Pick.there (Pick.there (Pick.there (Pick.there (Pick.there Pick.here)))))))) (Hs.cons (Pick.there (Pick.there (Pick.there (Pick.there Pick.here)))) (Hs.cons (Pick.there (Pick.there (Pick.there (Pick.there Pick.here)))) (Hs.cons (Pick.there (Pick.there (Pick.there (Pick.there Pick.here)))) (Hs.cons (Pick.there (Pick.there (Pick.there (Pick.there Pick.here)))) (Hs.refl _).skip.skip.skip.skip))))))))) (h3.jn.jok (by decide)) h3.nd (by decide)
      rw [e4] at h
      exact h) ?_)
  rintro ⟨bm, ⟨a, c⟩, ⟨pa, pc⟩⟩ -
  dsimp only
  refine hwYL ?_
  refine HL.one (H1.callk (α := Nat × (Option Addr × Nat) × (Option Addr × Nat)) (V := fun _ => .tuple #[zv 0, zv 0]) (I := fun _ => True) (H' := fun q => cuH bx q.1 bj bd b1 b2 q.2.1.1 q.2.1.2 q.2.2.1 q.2.2.2 [] j4 []) (vs := [_, zv 5]) rfl rfl
    (fun w' hM => by
      have h := cdrop_fn (m := []) (j := j4) (H := []) 5 hG hM (h4.jn.jok (by decide)) h4.nd (by decide)
      rw [e5] at h
      exact h) ?_)
  rintro ⟨bm, ⟨a, c⟩, ⟨pa, pc⟩⟩ -
  dsimp only
  refine hwYL ?_
  refine HL.one (H1.callk (α := (Option Addr × Nat) × (Option Addr × Nat)) (V := fun _ => zv 270) (I := fun _ => True) (H' := fun q => cuH bx bm bj bd b1 b2 q.1.1 q.1.2 q.2.1 q.2.2 [] j4 []) (vs := [_, zv 0, zv 0, .string (ByteArray.mk #[97])]) rfl rfl
    (fun w' hM => by
      have h := store_fn (0, 0) (ByteArray.mk #[97]) hG hM (h4.jn.jok (by decide))
      rw [storeF_bad (.inl (by decide))] at h
      exact h) ?_)
  rintro ⟨⟨a, c⟩, ⟨pa, pc⟩⟩ -
  dsimp only
  refine hwYL ?_
  refine HL.one (H1.callk (α := (Option Addr × Nat) × (Option Addr × Nat)) (V := fun _ => zv 270) (I := fun _ => True) (H' := fun q => cuH bx bm bj bd b1 b2 q.1.1 q.1.2 q.2.1 q.2.2 [] j4 []) (vs := [_, zv 1, zv 9, .string (ByteArray.mk #[97])]) rfl rfl
    (fun w' hM => by
      have h := store_fn (1, 9) (ByteArray.mk #[97]) hG hM (h4.jn.jok (by decide))
      rw [storeF_bad (.inl (by decide))] at h
      exact h) ?_)
  rintro ⟨⟨a, c⟩, ⟨pa, pc⟩⟩ -
  dsimp only
  refine hwYL ?_
  refine HL.one (H1.callx (vs := [.string cd27, .string x27]) rfl rfl (fun w' hM => expected_fn cd27 x27 (hG.ext hM.ext) (by decide)) ?_)
  have h32 := exp27
  obtain ⟨xb, hxb⟩ : ∃ xb, xb = expB cd27 x27 := ⟨_, rfl⟩
  rw [← hxb] at h32 ⊢
  refine hwYL ?_
  exact HX.ret1 rfl rfl fun w' hM => ⟨rfl, hM.ext⟩
end Go.Sx
/- Chapter 27: pick; what a custodian on any disk has; what is left of other objects. -/
namespace Go.Sx
open Go Go.Proofs Go.RowKit
theorem setM_good {m : PM} {p : PK} {s : ByteArray} (hp : okP p) (hs : s.size ≤ 4096) (hm : ∀ x ∈ m, okP x.1 ∧ x.2.size ≤ 4096) : ∀ x ∈ setM m p s, okP x.1 ∧ x.2.size ≤ 4096 := fun x hx => by
  rcases setM_mem hx with hx | rfl
  · exact hm x hx
  · exact ⟨hp, hs⟩
theorem dropM_good {m : PM} {o : Int} (hm : ∀ x ∈ m, okP x.1 ∧ x.2.size ≤ 4096) : ∀ x ∈ dropM m o, okP x.1 ∧ x.2.size ≤ 4096 := fun x hx => hm x (List.mem_filter.1 hx).1
theorem replay_good {m m2 : PM} {s : ByteArray} (h : replayF m s = some m2) (hm : ∀ x ∈ m, okP x.1 ∧ x.2.size ≤ 4096) : ∀ x ∈ m2, okP x.1 ∧ x.2.size ≤ 4096 := by
  unfold replayF at h
  split at h
  · cases h
  split at h
  · cases h
  split at h
  · split at h
    · cases h
    split at h
    · cases h
    split at h
    · rename_i h1
      split at h
      · cases h
        exact setM_good h1.1 (by rw [mkBA_size2]; exact h1.2) hm
      · cases h
    · cases h
  split at h
  · split at h
    · split at h
      · cases h
        exact dropM_good hm
      · cases h
    · cases h
  · cases h
/-- How many places of a list are of an object. -/
def ownC (o : Int) (l : List PK) : Nat := (l.filter fun p => decide (p.1 = o)).length
theorem fetchV_some {m : PM} {p : PK} {s : ByteArray} (h : getM m p = some s) : fetchV m p = .tuple #[.string s, zv 0] := by unfold fetchV; rw [h]
attribute [local irreducible] WC WL WX POp Then Again Fn NX W1 WA WO QL RP RA Yld LoopAt HC HL HX HN H1 HA HO HQ HB HP A.blk A.grow A.rd A.obj A.mp AgainH CutH
theorem pick27_fn (c n : Int) (h1 : -9223372036854775808 ≤ c) (h2 : c ≤ 9223372036854775807) (hn : 0 < n) (w : World) : Fn Tryz.prog 18 #[zv c, zv n] w fun v w' => v = zv (pk c n) ∧ w = w' := by
  refine enter (l := [_, _]) rfl Tryz.ntmps18 rfl ?_
  by_cases h : c < 0
  · repeat' (first | apply WL.fold | apply WA.fold | apply WL.nil | apply WX.n_then | apply WC.seq | apply WC.region | refine WL.pa ?_ | refine WL.ga rfl ?_ | refine WL.na rfl ?_ | refine WL.nu rfl rfl ?_ | apply WC.block | apply WC.skip | apply WC.exit | apply WC.ret | apply WX.e_block | refine WX.e_other rfl ?_ | apply WX.e_then | apply WX.e_again | apply WX.n_block | apply WX.r_then | apply WX.r_block | apply WX.r_again | refine WC.cond_yes rfl ?_ | refine WC.cond_no rfl ?_ | refine WC.cond rfl (fun hc => ?_) (fun hc => ?_) | refine WC.cond_b rfl (fun hc => ?_) (fun hc => ?_))
    exact WX.ret1 rfl rfl ⟨by rw [pk, if_pos h], rfl⟩
  · repeat' (first | apply WL.fold | apply WA.fold | apply WL.nil | apply WX.n_then | apply WC.seq | apply WC.region | refine WL.pa ?_ | refine WL.ga rfl ?_ | refine WL.na rfl ?_ | refine WL.nu rfl rfl ?_ | apply WC.block | apply WC.skip | apply WC.exit | apply WC.ret | apply WX.e_block | refine WX.e_other rfl ?_ | apply WX.e_then | apply WX.e_again | apply WX.n_block | apply WX.r_then | apply WX.r_block | apply WX.r_again | refine WC.cond_yes rfl ?_ | refine WC.cond_no rfl ?_ | refine WC.cond rfl (fun hc => ?_) (fun hc => ?_) | refine WC.cond_b rfl (fun hc => ?_) (fun hc => ?_))
    exact WX.ret1 rfl rfl ⟨by rw [pk, if_neg h], rfl⟩
theorem cut27_fn (s : ByteArray) (n : Nat) (hs : s.size ≤ 9223372036854775807) (w : World) : Fn Tryz.prog 11 #[.string s, zv (n : Int)] w fun v w' => v = .string (cutS n s) ∧ w = w' := by
  have hm : min (s.size : Int) (n : Int) = ((min s.size n : Nat) : Int) := by omega
  refine enter (l := [_, _]) rfl Tryz.ntmps11 rfl ?_
  repeat' (first | apply WL.fold | apply WA.fold | apply WL.nil | apply WX.n_then | apply WC.seq | apply WC.region | refine WL.pa ?_ | refine WL.ga rfl ?_ | refine WL.na rfl ?_ | refine WL.nu rfl rfl ?_ | apply WC.block | apply WC.skip | apply WC.exit | apply WC.ret | apply WX.e_block | refine WX.e_other rfl ?_ | apply WX.e_then | apply WX.e_again | apply WX.n_block | apply WX.r_then | apply WX.r_block | apply WX.r_again | refine WC.cond_yes rfl ?_ | refine WC.cond_no rfl ?_ | refine WC.cond rfl (fun hc => ?_) (fun hc => ?_) | refine WC.cond_b rfl (fun hc => ?_) (fun hc => ?_))
  exact WX.ret1 rfl rfl ⟨by rw [hm, Int.toNat_natCast]; rfl, rfl⟩
end Go.Sx
/- Plain, chapters 25 and 26: a group that is appended while the power may fail. -/
namespace Go.Sx
open Go
/-- A disk on which records are kept, and nothing is pending; it may have no power. -/
structure Half (k : Dk) (N : Nat) (l : List ByteArray) : Prop where
  dur : k.dur = k.vis
  vis : k.vis = outsL zero32 l ++ List.replicate (N - (outsL zero32 l).length) 0
  pend : k.pend = []
  fit : (outsL zero32 l).length ≤ N
  lo : 1 ≤ N
  hi : N ≤ 4194304
  left : k.left ≤ 1000000
/-- A content that reads as records. -/
def Good (N : Nat) (l : List ByteArray) (D : List UInt8) : Prop := D.length = N ∧ ∃ Y, D = outsL zero32 l ++ Y ∧ (Y = [] ∨ ∃ Y', Y = 0 :: Y')
theorem good_rep {N : Nat} {l : List ByteArray} (h : (outsL zero32 l).length ≤ N) : Good N l (outsL zero32 l ++ List.replicate (N - (outsL zero32 l).length) 0) := by
  refine ⟨by rw [List.length_append, List.length_replicate]; omega, _, rfl, ?_⟩
  cases N - (outsL zero32 l).length with
  | zero => exact .inl rfl
  | succ m => exact .inr ⟨List.replicate m 0, List.replicate_succ⟩
theorem Half.len {k : Dk} {N : Nat} {l : List ByteArray} (h : Half k N l) : k.vis.length = N := by
  have h1 := h.fit
  rw [h.vis, List.length_append, List.length_replicate]; omega
theorem Half.ok {k : Dk} {N : Nat} {l : List ByteArray} (h : Half k N l) : k.Ok := by
  have h1 := h.len
  have h2 := h.lo
  have h3 := h.hi
  exact ⟨by rw [h.dur], by rw [h.dur]; omega, by rw [h.dur]; omega, h.left, by rw [h.pend]; exact Nat.zero_le _⟩
theorem Half.fits {k : Dk} {N : Nat} {l : List ByteArray} (h : Half k N l) : k.Fit := fun x hx => by rw [h.pend] at hx; cases hx
theorem Clean.half {j : Jn} {N : Nat} {l : List ByteArray} (h : Clean j N l) : Half j.k N l :=
  ⟨h.dur, by have := h.vis; rw [h.t, adds0_size] at this; exact this, h.pend, by have := h.fit; rw [h.t, adds0_size] at this; exact this, h.lo, h.hi, by rw [h.left]; exact Nat.zero_le _⟩
theorem Half.clean {k : Dk} {N : Nat} {l : List ByteArray} (h : Half k N l) (ho : k.off = false) (hl : k.left = 0) : Clean ⟨adds t00 l, k, false⟩ N l :=
  ⟨rfl, rfl, ho, hl, h.pend, h.dur, by rw [adds0_size]; exact h.vis, by rw [adds0_size]; exact h.fit, h.lo, h.hi⟩
/-- What is good is opened. -/
theorem good_open {k : Dk} {N : Nat} {l : List ByteArray} {D : List UInt8} (h : Good N l D) (hs : ∀ r ∈ l, r.size ≤ 65536) (ho : k.off = false) (hl : k.left = 0) (hd : k.dur = D) (hv : k.vis = D) (hp : k.pend = []) (hlo : 1 ≤ N) (hhi : N ≤ 4194304) :
    ∃ k', openF k = (0, k', some (adds t00 l)) ∧ Clean ⟨adds t00 l, k', false⟩ N l := by
  obtain ⟨hlen, Y, hY, hY0⟩ := h
  have hlY := congrArg List.length hY
  rw [List.length_append, hlen] at hlY
  have hload : loadF k.vis t00 = some (adds t00 l) := by
    rw [hv, loadF_adds l t00 (rest := Y) hs hY]
    refine loadF_end fun h1 => h1.2 ?_
    have hdr : D.drop (adds t00 l).size = Y := by rw [adds0_size, hY, List.drop_left]
    rcases hY0 with rfl | ⟨Y', rfl⟩
    · have := h1.1
      rw [adds0_size] at this
      simp at hlY
      omega
    · exact (getD_drop hdr).2.1
  by_cases hz : isZero (k.vis.drop (adds t00 l).size) = true
  · refine ⟨k, openF_zero ho hload hz, ?_⟩
    have hYz : isZero Y = true := by rw [hv, adds0_size, hY, List.drop_left] at hz; exact hz
    have hh : Half k N l := ⟨by rw [hd, hv], by rw [hv, hY, isZero_rep hYz]; congr 2; omega, hp, by omega, hlo, hhi, by rw [hl]; exact Nat.zero_le _⟩
    exact hh.clean ho hl
  · have hsz : (mkBA (List.replicate (k.vis.length - (adds t00 l).size) 0)).size = N - (outsL zero32 l).length := by
      show (List.replicate (k.vis.length - (adds t00 l).size) (0 : UInt8)).toArray.size = _
      rw [List.size_toArray, List.length_replicate, hv, hlen, adds0_size]
    have hw := put_vis (k := k) (off := (adds t00 l).size) (s := mkBA (List.replicate (k.vis.length - (adds t00 l).size) 0)) ho hl (by rw [hsz, adds0_size, hd]; omega)
    have hrun : runOps (clr k (adds t00 l)) k = (0, ⟨false, 0, splice k.vis (adds t00 l).size (List.replicate (k.vis.length - (adds t00 l).size) 0), splice k.vis (adds t00 l).size (List.replicate (k.vis.length - (adds t00 l).size) 0), []⟩) := by
      unfold clr
      rw [runOps_ok (show ((DOp.wr _ _).run k).1 = 0 by show (k.write _ _).1 = 0; rw [hw])]
      show runOps _ (k.write _ _).2 = _
      rw [hw]
      rw [runOps_ok (show (DOp.sy.run _).1 = 0 from by show (Dk.sync _).1 = 0; rw [Dk.sync_on rfl])]
      show (0, (Dk.sync _).2) = _
      rw [Dk.sync_on rfl]; rfl
    refine ⟨_, openF_clr ho hload hz (by rw [hrun]), ?_⟩
    rw [hrun]
    have hvis : splice k.vis (adds t00 l).size (List.replicate (k.vis.length - (adds t00 l).size) 0) = outsL zero32 l ++ List.replicate (N - (outsL zero32 l).length) 0 := by
      rw [hv, hlen, adds0_size, hY]
      unfold splice
      rw [List.take_left, List.length_replicate, List.drop_of_length_le (by rw [List.length_append]; omega), List.append_nil]
    have hh : Half ⟨false, 0, splice k.vis (adds t00 l).size (List.replicate (k.vis.length - (adds t00 l).size) 0), splice k.vis (adds t00 l).size (List.replicate (k.vis.length - (adds t00 l).size) 0), []⟩ N l :=
      ⟨rfl, hvis, rfl, by omega, hlo, hhi, Nat.zero_le _⟩
    exact hh.clean rfl rfl
theorem crash_none {k : Dk} (h : k.pend = []) (keep : List Int) (torn : Int) : (k.crash keep torn).dur = k.dur := by
  show applyL k.pend torn (crashL keep k.pend.length) k.dur = _
  rw [h]; rfl
/-- What comes of a group that is appended while the power may fail. -/
def Fails (N : Nat) (l G : List ByteArray) (r : Int × Dk) : Prop :=
  r.1 = 251 ∧ r.2.Ok ∧ r.2.Fit ∧ r.2.pend.length ≤ 1 ∧ r.2.dur.length = N ∧ ∀ keep torn, Good N l (r.2.crash keep torn).dur ∨ Good N (l ++ G) (r.2.crash keep torn).dur
/-- What holds of a disk whose content behind a power failure is one of two lists. -/
structure Ends (N : Nat) (l1 l2 : List ByteArray) (k : Dk) : Prop where
  ok : k.Ok
  fits : k.Fit
  pend : k.pend.length ≤ 1
  dur : k.dur.length = N
  good : ∀ keep torn, Good N l1 (k.crash keep torn).dur ∨ Good N l2 (k.crash keep torn).dur
theorem Half.ends {k : Dk} {N : Nat} {l : List ByteArray} (h : Half k N l) : Ends N l l k :=
  ⟨h.ok, h.fits, by rw [h.pend]; exact Nat.zero_le _, by rw [h.dur, h.len], fun keep torn => .inl (by rw [crash_none h.pend, h.dur, h.vis]; exact good_rep h.fit)⟩
/-- What is left behind a power failure opens as one of the two. -/
theorem Ends.opens {N : Nat} {l1 l2 : List ByteArray} {k : Dk} (h : Ends N l1 l2 k) (hs1 : ∀ r ∈ l1, r.size ≤ 65536) (hs2 : ∀ r ∈ l2, r.size ≤ 65536) (hlo : 1 ≤ N) (hhi : N ≤ 4194304) (keep : List Int) (torn : Int) :
    ∃ (l : List ByteArray) (k' : Dk), (l = l1 ∨ l = l2) ∧ openF (k.crash keep torn) = (0, k', some (adds t00 l)) ∧ Clean ⟨adds t00 l, k', false⟩ N l ∧ (k.crash keep torn).Ok ∧ (k.crash keep torn).pend = [] := by
  have hok := crash_ok h.ok h.fits keep torn
  rcases h.good keep torn with hg | hg
  · obtain ⟨k', h1, h2⟩ := good_open (k := k.crash keep torn) hg hs1 rfl rfl rfl rfl rfl hlo hhi
    exact ⟨l1, k', .inl rfl, h1, h2, hok, rfl⟩
  · obtain ⟨k', h1, h2⟩ := good_open (k := k.crash keep torn) hg hs2 rfl rfl rfl rfl rfl hlo hhi
    exact ⟨l2, k', .inr rfl, h1, h2, hok, rfl⟩
end Go.Sx
/- Plain, chapter 27: what a deed does, with and without power. -/
namespace Go.Sx
open Go
structure DeedV where
  kind : Int
  object : Int
  fragment : Int
  s : ByteArray
  keep : List Int
  vk : Value
instance : Inhabited DeedV := ⟨⟨0, 0, 0, ByteArray.mk #[], [], undef⟩⟩
def deedC (q : DeedV) : List Value := [zv q.kind, zv q.object, zv q.fragment, .string q.s, q.vk]
def deedAt (l : List DeedV) (i : Nat) : DeedV := l.getD i default
/-- A slice of deeds. -/
structure RdDeeds (w : World) (a : Option Addr) (c : Nat) (l : List DeedV) : Prop where
  cap : l.length ≤ c
  cells : l = [] ∨ ∃ b off, a = some ⟨b, off, none⟩ ∧ b < w.heap.size ∧ ∀ i, i < l.length → ∀ (j : Nat) (u : Value), (deedC (deedAt l i))[j]? = some u → w.cell? ⟨b, off + i * 5 + j, none⟩ = some u
  kind : ∀ i, i < l.length → -9223372036854775808 ≤ (deedAt l i).kind ∧ (deedAt l i).kind ≤ 9223372036854775807
  object : ∀ i, i < l.length → -9223372036854775808 ≤ (deedAt l i).object ∧ (deedAt l i).object ≤ 9223372036854775807
  fragment : ∀ i, i < l.length → -9223372036854775808 ≤ (deedAt l i).fragment ∧ (deedAt l i).fragment ≤ 9223372036854775807
  s : ∀ i, i < l.length → (deedAt l i).s.size ≤ 9223372036854775807
  keep : ∀ i, i < l.length → Rd w (deedAt l i).vk (ints (deedAt l i).keep) ∧ (deedAt l i).keep.length ≤ 9223372036854775807
def objD (q : DeedV) : Int := 1 + pk q.object 4
def plD (q : DeedV) : PK := (objD q, pk q.fragment 5)
/-- A deed: the error, the fragments, the journal. -/
def doF (m : PM) (j : Jn) (q : DeedV) : Int × PM × Jn := if pk q.kind 6 = 5 then ((dropF m j (objD q)).2.1, (dropF m j (objD q)).2.2.1, (dropF m j (objD q)).2.2.2) else storeF m j (plD q) (cutS 200 q.s)
def doM (m : PM) (q : DeedV) : PM := if pk q.kind 6 = 5 then dropM m (objD q) else setM m (plD q) (cutS 200 q.s)
/-- The records that a deed appends. -/
def doR (m : PM) (q : DeedV) : List ByteArray := if pk q.kind 6 = 5 then (if (dropM m (objD q)).length = m.length then [] else [recD (objD q)]) else [recS (plD q) (cutS 200 q.s)]
theorem recS_le3 {p : PK} {s : ByteArray} (hp : okP p) (hs : s.size ≤ 200) : (recS p s).size ≤ 300 := by
  obtain ⟨h1, h2, h3, h4⟩ := hp
  have h5 := putsB_size [p.1.toNat, p.2.toNat] (mkB 115) (by
    intro n hn
    rcases List.mem_cons.1 hn with rfl | hn
    · omega
    rcases List.mem_cons.1 hn with rfl | hn
    · omega
    · cases hn)
  have h6 := strN_size (n := s.size) (by omega)
  have h7 : (mkB 115).size = 1 := rfl
  unfold recS
  rw [ByteArray.size_append, ByteArray.size_append]
  simp only [List.length_cons, List.length_nil] at h5
  omega
theorem needL_le3 : ∀ (l : List ByteArray), (∀ r ∈ l, r.size ≤ 300) → needL l ≤ 350 * l.length
  | [], _ => Nat.zero_le _
  | r :: l, h => by
    have h1 := needL_le3 l fun x hx => h x (List.mem_cons_of_mem _ hx)
    have h2 := h r (List.mem_cons_self ..)
    have h3 := strN_size (n := r.size) (by omega)
    show (33 + (strN r.size).size + r.size) + needL l ≤ 350 * (l.length + 1)
    omega
/-- A custodian whose records are durable, behind at most i deeds. -/
structure DI (i : Nat) (m : PM) (j : Jn) (l : List ByteArray) : Prop where
  c : CClean m j 20000 l
  len : l.length ≤ i
  sz : ∀ r ∈ l, r.size ≤ 300
end Go.Sx
/- Chapter 27: a deed, and whether two custodians have the same: the walks. -/
namespace Go.Sx
open Go Go.Proofs Go.RowKit
/-- What is digested for an answer. -/
def askB (s ch : ByteArray) : ByteArray := (strN ch.size ++ ch) ++ s
/-- The numbers of a deed are such. -/
structure DeedOk (q : DeedV) : Prop where
  k1 : -9223372036854775808 ≤ q.kind
  k2 : q.kind ≤ 9223372036854775807
  o1 : -9223372036854775808 ≤ q.object
  o2 : q.object ≤ 9223372036854775807
  f1 : -9223372036854775808 ≤ q.fragment
  f2 : q.fragment ≤ 9223372036854775807
  s : q.s.size ≤ 9223372036854775807
attribute [local irreducible] WC WL WX POp Then Again Fn NX W1 WA WO QL RP RA Yld LoopAt HC HL HX HN H1 HA HO HQ HB HP A.blk A.grow A.rd A.obj A.mp AgainH CutH
attribute [local irreducible] A.pm A.mx A.mit sumS newK expB askB
end Go.Sx
/- slices.Sort and slices.Compact at numbers. -/
namespace Go.Sx
open Go Go.Proofs Go.RowKit
def srtI (l : List Int) : List Int := l.mergeSort fun x y => decide (x ≤ y)
theorem srtI_perm (l : List Int) : (srtI l).Perm l := List.mergeSort_perm _ _
theorem srtI_len (l : List Int) : (srtI l).length = l.length := (srtI_perm l).length_eq
theorem srtI_pw (l : List Int) : (srtI l).Pairwise (· ≤ ·) := by
  have := List.pairwise_mergeSort (le := fun x y : Int => decide (x ≤ y)) (by intro a b c; simp only [decide_eq_true_eq]; omega) (by intro a b; simp only [Bool.or_eq_true, decide_eq_true_eq]; omega) l
  exact this.imp fun h => by simpa using h
/-- The numbers, ascending, each once. -/
def numL (l : List Int) : List Int := Lib.compact (srtI l)
theorem compact_mem {m : List Int} (x : Int) : x ∈ Lib.compact m ↔ x ∈ m := by
  unfold Lib.compact Lib.compactUpTo
  rw [List.mem_map]
  constructor
  · rintro ⟨j, hj, rfl⟩
    have hlt := List.mem_range.1 (List.mem_filter.1 hj).1
    simp [hlt]
  · intro h
    obtain ⟨i, hi, hx⟩ := List.getElem_of_mem h
    suffices H : ∀ n i (hi : i < m.length), i ≤ n → m[i] = x → ∃ j, j ∈ (List.range m.length).filter (Lib.keeps m.toArray) ∧ m.toArray[j]! = x from H i i hi (Nat.le_refl _) hx
    intro n
    induction n with
    | zero =>
      intro i hi h0 hx
      obtain rfl : i = 0 := by omega
      exact ⟨0, List.mem_filter.2 ⟨List.mem_range.2 hi, by unfold Lib.keeps; simp⟩, by simp [hi, hx]⟩
    | succ n ih =>
      intro i hi hn hx
      by_cases hk : Lib.keeps m.toArray i = true
      · exact ⟨i, List.mem_filter.2 ⟨List.mem_range.2 hi, hk⟩, by simp [hi, hx]⟩
      · unfold Lib.keeps at hk
        rw [decide_eq_true_eq, not_or, Decidable.not_not] at hk
        have hi1 : i - 1 < m.length := by omega
        refine ih (i - 1) hi1 (by omega) ?_
        have := hk.2
        simp [hi, hi1] at this
        rw [← this]; exact hx
theorem compact_lt {m : List Int} (h : m.Pairwise (· ≤ ·)) : (Lib.compact m).Pairwise (· < ·) := by
  unfold Lib.compact Lib.compactUpTo
  rw [List.pairwise_map]
  refine ((List.pairwise_lt_range (n := m.length)).filter (Lib.keeps m.toArray)).imp_of_mem fun {i j} hi hj hij => ?_
  have hi1 := List.mem_range.1 (List.mem_filter.1 hi).1
  have hj1 := List.mem_filter.1 hj
  have hj2 := List.mem_range.1 hj1.1
  have hk := hj1.2
  unfold Lib.keeps at hk
  rw [decide_eq_true_eq] at hk
  have hj3 : j - 1 < m.length := by omega
  have hne : m[j] ≠ m[j - 1] := by
    rcases hk with hk | hk
    · omega
    · simpa [hj2, hj3] using hk
  have h1 := List.pairwise_iff_getElem.1 h (j - 1) j hj3 hj2 (by omega)
  have h2 : m[i] ≤ m[j - 1] := by
    by_cases e : i = j - 1
    · subst e; exact Int.le_refl _
    · exact List.pairwise_iff_getElem.1 h i (j - 1) hi1 hj3 (by omega)
  simp only [List.getElem!_toArray, List.getElem!_eq_getElem?_getD, List.getElem?_eq_getElem hi1, List.getElem?_eq_getElem hj2, Option.getD_some]
  omega
theorem mem_numL {l : List Int} {x : Int} : x ∈ numL l ↔ x ∈ l := by unfold numL; rw [compact_mem, (srtI_perm l).mem_iff]
theorem numL_lt (l : List Int) : (numL l).Pairwise (· < ·) := compact_lt (srtI_pw l)
theorem numL_len (l : List Int) : (numL l).length ≤ l.length := by
  rw [← srtI_len l]
  exact Lib.compact_length_le _
theorem putCells_take (ys : List Int) (cur : Array Value) (h : ys.length ≤ cur.size) : (Go.Sort.putCells (Value.int .i64) 0 ys.toArray cur).toList.take ys.length = ints ys := by
  apply List.ext_getElem?
  intro i
  rw [List.getElem?_take]
  by_cases hi : i < ys.length
  · rw [if_pos hi, ints_get hi]
    have hi2 : i < cur.size := by omega
    simp [Go.Sort.putCells, hi2, at', zv, hi]
  · rw [if_neg hi, List.getElem?_eq_none (by rw [ints_len]; omega)]
theorem sortI_fn {w0 w : World} {H H' : List Atom} {a : Option Addr} {c : Nat} {l : List Int} (hM : Mm w0 H w) (hr : Rpl (A.grow 3 1 a c l.length (ints l)) (A.grow 3 1 a c l.length (ints (srtI l))) H H') (hl : l.length ≤ 1000000) :
    Fn Tryz.prog 126 #[.slice a l.length c] w fun v w' => v = .tuple #[] ∧ Mm w0 H' w' := by
  by_cases h0 : l = []
  · subst h0
    refine Calls.mono (Tryz.slices_Sort_int_none a c w) ?_
    rintro e w' ⟨rfl, rfl⟩
    have hs : srtI [] = [] := by simp [srtI]
    rw [hs] at hr
    exact ⟨_, rfl, rfl, Rpl.same hr ▸ hM⟩
  have hne : l.length ≠ 0 := fun e => h0 (List.eq_nil_of_length_eq_zero e)
  have hown := hM.own hr.mem
  obtain ⟨b, cur, rfl, hg, hnc, hcm, hcs⟩ : ∃ b cur, a = some ⟨b, 0, none⟩ ∧ w.heap[b]? = some (.cells cur 3 (0, 0)) ∧ l.length ≤ c ∧ c ≤ maxLen ∧ cur.size = c * 1 := by
    rcases hown.2 with ⟨-, h2⟩ | ⟨g, cap, cur, hv, -, hg, hnc, hcm, hcs, -⟩
    · exact absurd h2 hne
    · cases hv; exact ⟨g, cur, rfl, hg, hnc, hcm, hcs⟩
  have hlt := (Array.getElem?_eq_some_iff.1 hg).1
  have hcell : ∀ j, j < l.length → w.cell? ⟨b, j, none⟩ = some (zv (at' l j)) := fun j hj => ownsRow_cell hown (ints_get hj)
  refine Calls.mono (Tryz.slices_Sort_int b 0 c l w (fun j hj => ?_) hlt (by omega)) ?_
  · have hj' : j < l.length := by simpa using hj
    rw [Nat.zero_add, hcell j hj']
    refine ⟨?_, by simp [World.frozen?, hg]⟩
    simp [at', hj', zv, getElem!_pos]
  · rintro e w' ⟨rfl, n, os, rfl⟩
    have hs : (Go.Sort.putRow (Value.int .i64) (Go.Sort.ahead w n) b 0 (srtI l).toArray).heap.size = w.heap.size := by simp [Go.Sort.putRow, Go.Sort.mapBlock, Go.Sort.ahead]
    refine ⟨_, rfl, rfl, hM.turn hr rfl rfl rfl ?_ (fun k hk hkb => ?_) ?_ (by simp [A.grow, Value.ownBlock]) (fun b' hb' => .inl (by simpa [A.grow, Value.ownBlock] using hb'))⟩
    · simp [Go.Sort.grow, Go.Sort.putRow, Go.Sort.mapBlock, Go.Sort.ahead]
    · have hkb' : ¬ b = k := fun e => hkb (by subst e; simp [A.grow, Value.ownBlock])
      show ((Go.Sort.putRow (Value.int .i64) (Go.Sort.ahead w n) b 0 (srtI l).toArray).heap ++ os)[k]? = _
      rw [Array.getElem?_append, if_pos (by rw [hs]; exact hk)]
      show (w.heap.modify b _)[k]? = _
      rw [Array.getElem?_modify, if_neg hkb']
    · have hls := srtI_len l
      refine ⟨by simp [ints, hls], .inr ⟨b, c, Go.Sort.putCells (Value.int .i64) 0 (srtI l).toArray cur, rfl, Nat.zero_le _, ?_, hnc, hcm, by simp [Go.Sort.putCells, hcs], ?_⟩⟩
      · have hm : (Go.Sort.putRow (Value.int .i64) (Go.Sort.ahead w n) b 0 (srtI l).toArray).heap[b]? = some (.cells (Go.Sort.putCells (Value.int .i64) 0 (srtI l).toArray cur) 3 (0, 0)) := by
          simp [Go.Sort.putRow, Go.Sort.mapBlock, Go.Sort.ahead, Array.getElem?_modify, hg, Go.Sort.onCells]
        show (Go.Sort.grow (Go.Sort.putRow (Value.int .i64) (Go.Sort.ahead w n) b 0 (srtI l).toArray) os).heap[b]? = _
        rw [Go.Sort.grow]
        simp only [Array.getElem?_append]
        rw [if_pos (by rw [hs]; exact hlt), hm]
      · rw [Nat.mul_one, ← hls]
        exact putCells_take _ _ (by omega)
theorem compactI_fn {w0 w : World} {H H' : List Atom} {a : Option Addr} {c : Nat} {l : List Int} (hM : Mm w0 H w) (hr : Rpl (A.grow 3 1 a c l.length (ints l)) (A.grow 3 1 a c (Lib.compact l).length (ints (Lib.compact l))) H H') (hl : l.length ≤ 1000000) :
    Fn Tryz.prog 72 #[.slice a l.length c] w fun v w' => v = .slice a (Lib.compact l).length c ∧ Mm w0 H' w' := by
  by_cases h0 : l = []
  · subst h0
    refine Calls.mono (Tryz.slices_Compact_int_empty a c w) ?_
    rintro e w' ⟨rfl, rfl⟩
    exact ⟨_, rfl, rfl, Rpl.same hr ▸ hM⟩
  have hne : l.length ≠ 0 := fun e => h0 (List.eq_nil_of_length_eq_zero e)
  have hown := hM.own hr.mem
  obtain ⟨b, cur, rfl, hg, hnc, hcm, hcs⟩ : ∃ b cur, a = some ⟨b, 0, none⟩ ∧ w.heap[b]? = some (.cells cur 3 (0, 0)) ∧ l.length ≤ c ∧ c ≤ maxLen ∧ cur.size = c * 1 := by
    rcases hown.2 with ⟨-, h2⟩ | ⟨g, cap, cur, hv, -, hg, hnc, hcm, hcs, -⟩
    · exact absurd h2 hne
    · cases hv; exact ⟨g, cur, rfl, hg, hnc, hcm, hcs⟩
  have hlt := (Array.getElem?_eq_some_iff.1 hg).1
  have hcell : ∀ j, j < l.length → w.cell? ⟨b, j, none⟩ = some (zv (at' l j)) := fun j hj => ownsRow_cell hown (ints_get hj)
  have hle : (Lib.compact l).length ≤ l.length := Lib.compact_length_le l
  refine Calls.mono (Tryz.slices_Compact_int b 0 c l w (fun j hj => ?_) (by omega) hnc) ?_
  · have hj' : j < l.length := by simpa using hj
    rw [Nat.zero_add, hcell j hj']
    refine ⟨?_, by simp [World.frozen?, hg]⟩
    simp [at', hj', zv, getElem!_pos]
  · rintro e w' ⟨rfl, q, rfl⟩
    obtain ⟨ys, hys⟩ : ∃ ys, ys = Lib.compact l ++ List.replicate (l.length - (Lib.compact l).length) 0 := ⟨_, rfl⟩
    have hyl : ys.length = l.length := by rw [hys, List.length_append, List.length_replicate]; omega
    rw [← hys]
    refine ⟨_, rfl, rfl, hM.turn hr rfl rfl rfl (by simp [Go.Sort.putRow, Go.Sort.mapBlock, Go.Sort.ahead]) (fun k hk hkb => ?_) ?_ (by simp [A.grow, Value.ownBlock]) (fun b' hb' => .inl (by simpa [A.grow, Value.ownBlock] using hb'))⟩
    · have hkb' : ¬ b = k := fun e => hkb (by subst e; simp [A.grow, Value.ownBlock])
      show (w.heap.modify b _)[k]? = _
      rw [Array.getElem?_modify, if_neg hkb']
    · refine ⟨by simp [ints], .inr ⟨b, c, Go.Sort.putCells (Value.int .i64) 0 ys.toArray cur, rfl, Nat.zero_le _, ?_, by omega, hcm, by simp [Go.Sort.putCells, hcs], ?_⟩⟩
      · simp [Go.Sort.putRow, Go.Sort.mapBlock, Go.Sort.ahead, Array.getElem?_modify, hg, Go.Sort.onCells]
      · have h1 := putCells_take ys cur (by omega)
        have h2 : (Go.Sort.putCells (Value.int .i64) 0 ys.toArray cur).toList.take ((Lib.compact l).length * 1) = ((Go.Sort.putCells (Value.int .i64) 0 ys.toArray cur).toList.take ys.length).take (Lib.compact l).length := by
          rw [List.take_take, Nat.mul_one, Nat.min_eq_left (by omega)]
        rw [h2, h1, hys, ints_app, ← ints_len (Lib.compact l), List.take_left]
end Go.Sx
/- Chapter 25: a power failure: the library's functions, the walks. -/
namespace Go.Sx
open Go Go.Proofs Go.RowKit
theorem hwKF {G G2 : Prop} (x : G2) (hwq : Hold G2 → G := by
    intro hQq
    repeat' (first | refine HL.pa ?_ (POp.pnil1 rfl rfl) | refine HL.pa ?_ (POp.pnil0 rfl rfl) | refine HL.pa ?_ (POp.nilCheck rfl) | apply HL.fold | apply HA.fold | apply HL.nil | apply HX.n_then | apply HC.seq | apply HC.region | refine HL.pa ?_ | refine HL.ga rfl ?_ | refine HL.na rfl ?_ | refine HL.nu rfl rfl ?_ | apply HC.block | apply HC.skip | apply HC.exit | apply HC.ret | apply HX.e_block | refine HX.e_other rfl ?_ | apply HX.e_then | apply HX.e_again | apply HX.n_block | apply HX.r_then | apply HX.r_block | apply HX.r_again | refine HC.cond_yes rfl ?_ | refine HC.cond_no rfl ?_ | refine HL.one (H1.ldb rfl memA rfl rfl ?_) | refine HC.cond rfl (fun hc => ?_) (fun hc => ?_) | refine HC.cond_b rfl (fun hc => ?_) (fun hc => ?_))
    exact hQq.get) : G := hwq ⟨x⟩
theorem hbKF {G G2 : Prop} (x : G2) (hwq : Hold G2 → G := by
    intro hQq
    repeat' (first | refine HL.pa ?_ (POp.pnil1 rfl rfl) | refine HL.pa ?_ (POp.pnil0 rfl rfl) | refine HL.pa ?_ (POp.nilCheck rfl) | apply HL.fold | apply HA.fold | apply HL.nil | apply HX.n_then | apply HC.seq | apply HC.region | refine HL.pa ?_ | refine HL.ga rfl ?_ | refine HL.na rfl ?_ | refine HL.nu rfl rfl ?_ | apply HC.skip | apply HC.exit | apply HC.ret | apply HX.e_block | refine HX.e_other rfl ?_ | apply HX.e_then | apply HX.e_again | apply HX.n_block | apply HX.r_then | apply HX.r_block | apply HX.r_again | refine HC.cond_yes rfl ?_ | refine HC.cond_no rfl ?_ | refine HL.one (H1.ldb rfl memA rfl rfl ?_) | refine HC.cond rfl (fun hc => ?_) (fun hc => ?_) | refine HC.cond_b rfl (fun hc => ?_) (fun hc => ?_))
    exact hQq.get) : G := hwq ⟨x⟩
theorem ints_snoc2 (l : List Int) (x : Int) : ints l ++ [zv x] = ints (l ++ [x]) := by simp [ints]
theorem take_at2 {l : List Int} {i : Nat} (h : i < l.length) : l.take (i + 1) = l.take i ++ [l.getD i 0] := by
  rw [List.take_add_one, List.getElem?_eq_getElem h]
  simp [h]
theorem ints_get2 {l : List Int} {i : Nat} (h : i < l.length) : (ints l)[i]? = some (zv (l.getD i 0)) := by unfold ints; simp [h]
theorem rd_someI {w : World} {a : Option Addr} {n c : Nat} {l : List Int} (h : Rd w (.slice a n c) (ints l)) (hne : l ≠ []) : ∃ b off, a = some ⟨b, off, none⟩ := by
  obtain ⟨b, off, cc, e, -⟩ := h.at (by intro e; exact hne (by simpa [ints] using e))
  cases e
  exact ⟨b, off, rfl⟩
attribute [local irreducible] WC WL WX POp Then Again Fn NX W1 WA WO QL RP RA Yld LoopAt HC HL HX HN H1 HA HO HQ HB HP A.blk A.grow A.rd A.obj A.mp AgainH CutH
attribute [local irreducible] A.dfr A.loop
theorem values_fn (a : Option Addr) (n c : Nat) (w : World) : Fn Tryz.prog 74 #[.slice a n c] w fun u w' => ∃ b : Nat, True ∧ u = .func (.func 127) #[] #[.pointer (some ⟨b, 0, none⟩)] ∧ Mm w [A.blk b [.slice a n c] 38] w' := by
  refine enterH (l := [_]) rfl Tryz.ntmps74 rfl ?_
  refine hwKF ?_
  refine HL.one (H1.box rfl rfl rfl (fun b1 => ?_))
  refine hwKF ?_
  exact HX.ret1 rfl rfl fun w' hM => ⟨b1, trivial, rfl, hM⟩
theorem values1_fn {w0 : World} {K0 K1 : Atom} {Hq : Nat → Option Addr × Nat → List Atom} {b1 lp c : Nat} {a : Option Addr} {z0 : Option Addr × Nat} (l : List Int) (hR : Rd w0 (.slice a l.length c) (ints l)) (hb : w0.cell? ⟨b1, 0, none⟩ = some (.slice a l.length c)) (hl : l.length ≤ 1000000)
    (hy : ∀ q z, q < l.length → ∀ w, Mm w0 (K0 :: K1 :: Hq q z) w →
      Yld Tryz.prog lp [zv (l.getD q 0)] w fun b w' => b = true ∧ ∃ z' : Option Addr × Nat, True ∧ Mm w0 (K0 :: K1 :: Hq (q + 1) z') w') :
    ∀ w, Mm w0 (K0 :: K1 :: Hq 0 z0) w →
      Fn Tryz.prog 127 (.func (.yield lp) #[] #[] :: [.pointer (some ⟨b1, 0, none⟩)]).toArray w fun _ w' => ∃ z : Option Addr × Nat, True ∧ Mm w0 (K0 :: K1 :: Hq l.length z) w' := by
  intro w hM
  refine enterK (l := [_, _]) hM rfl Tryz.ntmps127 rfl ?_
  refine hwKF ?_
  refine HL.one (H1.ld0 rfl hb rfl ?_)
  refine hwKF ?_
  refine HC.loop (α := Nat × Option Addr × Nat) (fun z => [(0, .func (.yield lp) #[] #[]), (5, .slice a l.length c), (6, zv (l.length : Int)), (7, zv (z.1 : Int))]) (fun z => K0 :: K1 :: Hq z.1 z.2) (fun z => z.1 ≤ l.length) (fun z => l.length - z.1) (0, z0) (Nat.zero_le _) esA (Hs.refl _) ?_
  rintro ⟨q, z⟩ hq
  dsimp only at hq ⊢
  by_cases hlt : q < l.length
  · obtain ⟨b, off, rfl⟩ := rd_someI hR (by rintro rfl; simp at hlt)
    have hget := hR.cell (ints_get2 hlt)
    have hyq := hy q z hlt
    generalize l.getD q 0 = x at hget hyq
    refine hwKF ?_
    refine HL.one (H1.ld0 rfl hget rfl ?_)
    refine hwKF ?_
    refine HL.one (H1.yield rfl rfl rfl hyq ?_)
    rintro z' -
    refine hwKF ?_
    exact HX.again (q + 1, z') hlt (by show l.length - (q + 1) < l.length - q; omega) esA (Hs.refl _)
  · obtain rfl : q = l.length := by omega
    refine hwKF ?_
    exact HX.end0 rfl fun w' hM => ⟨z, trivial, hM⟩
theorem appendSeq_fn {b1 c : Nat} {a : Option Addr} (l : List Int) (w : World) (hR : Rd w (.slice a l.length c) (ints l)) (hb : Blk w b1 [.slice a l.length c] 38) (hl : l.length ≤ 900000) :
    Fn Tryz.prog 165 #[.slice none 0 0, .func (.func 127) #[] #[.pointer (some ⟨b1, 0, none⟩)]] w fun u w' => ∃ z : Option Addr × Nat, True ∧ u = .slice z.1 l.length z.2 ∧ Mm w [A.grow 3 1 z.1 z.2 l.length (ints l)] w' := by
  refine enterMH (l := [_, _]) rfl Tryz.ntmps165 rfl ?_
  refine hwKF ?_
  refine HL.one (H1.box rfl rfl rfl (fun b2 => ?_))
  refine hwKF ?_
  refine HC.grow0 3 1 ?_
  refine HC.sub [(2, .pointer (some ⟨b2, 0, none⟩)), (6, .func (.func 127) #[] #[.pointer (some ⟨b1, 0, none⟩)])] [A.blk b2 [.slice none 0 0] 38, A.grow 3 1 none 0 0 (ints (l.take 0))] ?_ esA (Hs.cons (Pick.there Pick.here) (Hs.cons Pick.here (Hs.nil _)))
  refine HC.rangeFunc (α := Option Addr × Nat) (lb := [.pointer (some ⟨b1, 0, none⟩)]) (fun z => [A.blk b2 [.slice z.1 l.length z.2] 38, A.grow 3 1 z.1 z.2 l.length (ints l)]) (fun _ => True) rfl ?_ ?_
  · intro D lp L hL w1 hM1
    refine (values1_fn (Hq := fun q z => [A.blk b2 [.slice z.1 q z.2] 38, A.grow 3 1 z.1 z.2 q (ints (l.take q))]) (z0 := (none, 0)) l hR (hb.cell rfl) (by omega) ?_ w1 hM1).mono fun v w2 h => ?_
    · rintro q ⟨aq, cq⟩ hq
      have htk := take_at2 hq
      generalize l.getD q 0 = x at htk
      dsimp only
      refine Yld.ofH hL memA rfl rfl ?_
      dsimp only [List.zip_cons_cons, List.zip_nil_right, putAll]
      refine hwKF ?_
      refine HX.ra hL rplA ?_
      refine hwKF ?_
      refine HL.one (H1.lit (cs := [zv x]) rfl rfl rfl rfl rfl rfl (fun b9 => ?_))
      refine hwKF ?_
      refine HL.one (H1.app1 (u := zv x) rfl rfl (fun _ _ => by first | ((repeat (first | with_reducible exact Rpl.here | with_reducible apply Rpl.there)); done) | (repeat (first | exact Rpl.here | apply Rpl.there))) memA rfl rfl (by omega) rfl rfl (fun a' c' => ?_))
      rw [ints_snoc2, ← htk]
      refine hwKF ?_
      refine HL.one (H1.st (b := b2) rfl rfl (by intro _ h; cases h) (by intro _ h; cases h) rplA (by exact Nat.zero_lt_one) ?_)
      refine hwKF ?_
      refine HX.rp_n hL rplA fun w' hM => ⟨rfl, (some ⟨a', 0, none⟩, c'), trivial, ?_⟩
      exact hM.tail
    · obtain ⟨z, h1, h2⟩ := h
      rw [List.take_length] at h2
      exact ⟨z, h1, h2⟩
  · rintro D ⟨az, cz⟩ -
    dsimp only
    refine hwKF ?_
    exact HX.retM1 rfl rfl Pick.here fun w' hM => ⟨(az, cz), trivial, rfl, hM.tail⟩
theorem collect_fn {b1 c : Nat} {a : Option Addr} (l : List Int) (w : World) (hR : Rd w (.slice a l.length c) (ints l)) (hb : Blk w b1 [.slice a l.length c] 38) (hl : l.length ≤ 900000) :
    Fn Tryz.prog 125 #[.func (.func 127) #[] #[.pointer (some ⟨b1, 0, none⟩)]] w fun u w' => ∃ z : Option Addr × Nat, True ∧ u = .slice z.1 l.length z.2 ∧ Mm w [A.grow 3 1 z.1 z.2 l.length (ints l)] w' := by
  refine enterH (l := [_]) rfl Tryz.ntmps125 rfl ?_
  refine hwKF ?_
  refine HL.one (H1.callz (vs := [.slice none 0 0, .func (.func 127) #[] #[.pointer (some ⟨b1, 0, none⟩)]]) rfl rfl (fun w' hM => appendSeq_fn l w' (hR.ext hM.ext) (blk_ext hb hM.ext) hl) ?_)
  rintro ⟨a2, c2⟩ -
  dsimp only
  refine hwKF ?_
  exact HX.ret1 rfl rfl fun w' hM => ⟨(a2, c2), trivial, rfl, hM⟩
theorem sorted_fn {b1 c : Nat} {a : Option Addr} (l : List Int) (w : World) (hR : Rd w (.slice a l.length c) (ints l)) (hb : Blk w b1 [.slice a l.length c] 38) (hl : l.length ≤ 900000) :
    Fn Tryz.prog 73 #[.func (.func 127) #[] #[.pointer (some ⟨b1, 0, none⟩)]] w fun u w' => ∃ z : Option Addr × Nat, True ∧ u = .slice z.1 (srtI l).length z.2 ∧ Mm w [A.grow 3 1 z.1 z.2 (srtI l).length (ints (srtI l))] w' := by
  rw [srtI_len]
  refine enterH (l := [_]) rfl Tryz.ntmps73 rfl ?_
  refine hwKF ?_
  refine HL.one (H1.callz (vs := [.func (.func 127) #[] #[.pointer (some ⟨b1, 0, none⟩)]]) rfl rfl (fun w' hM => collect_fn l w' (hR.ext hM.ext) (blk_ext hb hM.ext) hl) ?_)
  rintro ⟨a2, c2⟩ -
  dsimp only
  refine hwKF ?_
  refine HL.one (H1.callk (α := Unit) (V := fun _ => .tuple #[]) (I := fun _ => True) (H' := fun _ => [A.grow 3 1 a2 c2 l.length (ints (srtI l))]) (vs := [.slice a2 l.length c2]) rfl rfl (fun w' hM => (sortI_fn hM Rpl.here (by omega)).mono fun v w2 h => ⟨(), trivial, h⟩) ?_)
  rintro - -
  refine hwKF ?_
  exact HX.ret1 rfl rfl fun w' hM => ⟨(a2, c2), trivial, rfl, hM⟩
end Go.Sx
/- Chapter 25: slices.DeleteFunc at numbers: the walks. -/
namespace Go.Sx
open Go Go.Proofs Go.RowKit
section
variable {P : Program} {r : Option Nat} {N : Nat} {ds : List Deferred} {ol rest : List Oper} {Q : Post} {E : Env} {w0 : World} {H : List Atom} {next : Act → World → Prop} {g : Option (Nat × Bool)}
variable {d : Option Nat} {t ty : TypeId} {pos : String} {af : Array Edge} {x y : Operand}
/-- clear, of the end of a slice of the call's own. -/
theorem H1.clearT {e : TypeId} {z : Value} {bb b i m n c c2 : Nat} {xs : List Value} {H' : List Atom} [h : UTy P t (.slice e)] [hi : ITy P e z 1 bb] (hzc : z.cells = #[z]) (h1 : z.oneCell' = true)
    (hx : Env.ev E x = some (.slice (some ⟨b, i, none⟩) m c2)) (hl : xs.length = n) (hm : i + m = n) (hm0 : 0 < m) (hr : Rpl (A.grow e 1 (some ⟨b, 0, none⟩) c n xs) (A.grow e 1 (some ⟨b, 0, none⟩) c n (xs.take i ++ List.replicate m z)) H H') (hd : dOk d N = true) (hn : HN N ds next (putE d (.tuple #[]) E) w0 H') :
    H1 P r N ds next ⟨d, .call ⟨.builtin .clear, #[x], #[t]⟩, ty, pos, af, g⟩ Q E w0 H := fun w hM => by
  have hown := hM.own hr.mem
  obtain ⟨cur, hg, hnc, hcm, hcs, htk⟩ : ∃ cur, w.heap[b]? = some (.cells cur e (0, 0)) ∧ n ≤ c ∧ c ≤ maxLen ∧ cur.size = c * 1 ∧ cur.toList.take (n * 1) = xs := by
    rcases hown.2 with ⟨hv, -⟩ | ⟨q, cap, cur, hv, -, hg, hnc, hcm, hcs, htk⟩
    · cases hv
    · cases hv; exact ⟨cur, hg, hnc, hcm, hcs, htk⟩
  have hzr : (Builtin.zeroCells z.cells m).toList = List.replicate m z := by
    rw [hzc]
    unfold Builtin.zeroCells
    rw [Array.toList_map]
    refine List.eq_replicate_iff.2 ⟨by simp, fun v hv => ?_⟩
    obtain ⟨j, -, rfl⟩ := List.mem_map.1 hv
    simp [Nat.mod_one]
  have hst := run_storeCells_at P b i e (List.replicate m z) 0 cur w hg (by rw [List.length_replicate]; omega) (by intro v hv; rw [(List.mem_replicate.1 hv).2]; exact h1)
  simp only [Nat.add_zero, List.length_replicate] at hst
  obtain ⟨m', rfl⟩ : ∃ m', m = m' + 1 := ⟨m - 1, by omega⟩
  have hrun : (Builtin.clear_ #[t] ty #[.slice (some ⟨b, i, none⟩) (m' + 1) c2]).run P w = .ok (.tuple #[]) (w.setRow b (cur.toList.take i ++ List.replicate (m' + 1) z ++ cur.toList.drop (i + (m' + 1))).toArray) := by
    simp [Builtin.clear_, run_underlying h.is, run_zeroValue (h := hi), hzr, hst]
  have htk' : cur.toList.take n = xs := by rw [Nat.mul_one] at htk; exact htk
  refine W1.run (v := .tuple #[]) (w' := w.setRow b (cur.toList.take i ++ List.replicate (m' + 1) z ++ cur.toList.drop (i + (m' + 1))).toArray) (fun a ha => ?_) rfl hd (hn _ (hM.turn hr rfl rfl rfl (by simp [World.setRow]) (fun k hk hk' => ?_) ⟨?_, .inr ⟨b, c, (cur.toList.take i ++ List.replicate (m' + 1) z ++ cur.toList.drop (i + (m' + 1))).toArray, rfl, Nat.zero_le _, ?_, hnc, hcm, ?_, ?_⟩⟩ (by simp [A.grow, Value.ownBlock]) fun b' hb' => .inl hb'))
  · simp only [execOp, resolve, invoke, Go.builtin, Sem.run_bind, Sem.run_pure, Result.andThen, List.map_toArray, List.map_cons, List.map_nil, ha.ev hx, hrun]
  · have hne : ¬ b = k := fun e => hk' (by simp [A.grow, Value.ownBlock, e])
    simp [World.setRow, Array.getElem?_modify, hne]
  · rw [List.length_append, List.length_take, List.length_replicate]; omega
  · exact setRow_heap w b _ _ e _ hg
  · rw [List.size_toArray, List.length_append, List.length_append, List.length_take, List.length_replicate, List.length_drop, Array.length_toList]; omega
  · rw [List.toList_toArray, Nat.mul_one, ← htk', List.take_take, Nat.min_eq_left (by omega)]
    rw [List.take_append_of_le_length (by rw [List.length_append, List.length_take, List.length_replicate, Array.length_toList]; omega), List.take_of_length_le (by rw [List.length_append, List.length_take, List.length_replicate]; omega)]
/-- The first part of a slice of the call's own. -/
theorem ownsRow_pre {w : World} {base c n i : Nat} {e : TypeId} {a : Option Addr} {xs : List Value} (h : w.ownsRow base e 1 (.slice a n c) n xs) (hi : i ≤ n) (h0 : n ≠ 0) : w.ownsRow base e 1 (.slice a i c) i (xs.take i) := by
  have hl := h.1
  rcases h.2 with ⟨hv, hz⟩ | ⟨g, cap, cur, hv, hb, hg, hnc, hcm, hcs, htk⟩
  · exact absurd hz h0
  · cases hv
    exact ⟨by rw [List.length_take]; omega, .inr ⟨g, c, cur, rfl, hb, hg, by omega, hcm, hcs, by rw [← htk, List.take_take]; congr 1; omega⟩⟩
theorem Mm.growPre {e : TypeId} {c n i : Nat} {a : Option Addr} {xs : List Value} {w : World} (hM : Mm w0 (A.grow e 1 a c n xs :: H) w) (hi : i ≤ n) (h0 : n ≠ 0) : Mm w0 (A.grow e 1 a c i (xs.take i) :: H) w :=
  hM.turn Rpl.here rfl rfl rfl (Nat.le_refl _) (fun _ _ _ => rfl) (ownsRow_pre (hM.own (.head _)) hi h0) (by cases a <;> simp [A.grow, Value.ownBlock]) (fun b hb => .inl (by cases a <;> exact hb))
end
/-- Which is the first that is struck. -/
def FirstI (l : List Int) (p : Int → Bool) (k : Int) : Prop := (k = -1 ∧ ∀ x ∈ l, p x = false) ∨ ∃ i : Nat, k = (i : Int) ∧ i < l.length ∧ (∀ x ∈ l.take i, p x = false) ∧ p (l.getD i 0) = true
theorem filt_all {l : List Int} {p : Int → Bool} (h : ∀ x ∈ l, p x = false) : l.filter (fun x => !p x) = l := List.filter_eq_self.2 fun x hx => by rw [h x hx]; rfl
theorem filt_step {l : List Int} {p : Int → Bool} {j : Nat} (h : j < l.length) : (l.take (j + 1)).filter (fun x => !p x) = if p (l.getD j 0) then (l.take j).filter (fun x => !p x) else (l.take j).filter (fun x => !p x) ++ [l.getD j 0] := by
  rw [take_at2 h, List.filter_append]
  generalize l.getD j 0 = x
  cases hp : p x <;> simp [hp]
theorem ints_set2 (l : List Int) (i : Nat) (x : Int) : (ints l).set i (zv x) = ints (l.set i x) := by unfold ints; rw [List.map_set]
theorem ints_len2 (l : List Int) : (ints l).length = l.length := by simp [ints]
theorem drop_at2 {l : List Int} {j : Nat} (h : j < l.length) : l.drop j = l.getD j 0 :: l.drop (j + 1) := by
  rw [List.drop_eq_getElem_cons h]
  simp [h]
theorem HC.capOfI {P : Program} {r : Option Nat} {N : Nat} {ds : List Deferred} {Q : Post} {E : Env} {w0 : World} {H : List Atom} {e : TypeId} {co : Code} {n c : Nat} {a : Option Addr} {xs : List Value} (hm : A.grow e 1 a c n xs ∈ H) (h : n ≤ c → HC P r N ds co Q E w0 H) : HC P r N ds co Q E w0 H := fun w hM => by
  refine h ?_ w hM
  rcases (hM.own hm).2 with ⟨h1, rfl⟩ | ⟨g, cap, cur, hv, -, -, hnc, -⟩
  · exact Nat.zero_le _
  · cases hv; exact hnc
attribute [local irreducible] WC WL WX POp Then Again Fn NX W1 WA WO QL RP RA Yld LoopAt HC HL HX HN H1 HA HO HQ HB HP A.blk A.grow A.rd A.obj A.mp AgainH CutH
theorem indexFI_fn {w0 : World} {H : List Atom} {f : FuncId} {cap : List Value} [hf : CallOk Tryz.prog f] (p : Int → Bool) (l : List Int) {a : Option Addr} {c : Nat} (hl : l.length ≤ 1000000) (hm : A.grow 3 1 a c l.length (ints l) ∈ H)
    (hp : ∀ x ∈ l, ∀ w, Mm w0 H w → Fn Tryz.prog f ([zv x] ++ cap).toArray w fun v w' => v = .bool (p x) ∧ Ext w w') (w : World) (hM : Mm w0 H w) :
    Fn Tryz.prog 128 #[.slice a l.length c, .func (.func f) #[] cap.toArray] w fun u w' => ∃ k : Int, FirstI l p k ∧ u = zv k ∧ Mm w0 H w' := by
  refine enterK (l := [_, _]) hM rfl Tryz.ntmps128 rfl ?_
  refine hwKF ?_
  refine HC.loop (α := Nat) (fun i => [(0, .slice a l.length c), (1, .func (.func f) #[] cap.toArray), (7, zv (l.length : Int)), (8, zv (i : Int))]) (fun _ => H) (fun i => i ≤ l.length ∧ ∀ x ∈ l.take i, p x = false) (fun i => l.length - i) 0 ⟨Nat.zero_le _, fun x hx => by rw [List.take_zero] at hx; cases hx⟩ esA (Hs.refl _) ?_
  rintro i ⟨hi, hpre⟩
  by_cases hlt : i < l.length
  · refine HC.openg hm (by omega) ?_
    rintro b rfl
    have hget := ints_get2 hlt
    have htk := take_at2 hlt
    have hmem : l.getD i 0 ∈ l := by simp [hlt]
    have hpx := hp _ hmem
    have hfi : p (l.getD i 0) = true → FirstI l p (i : Int) := fun h => .inr ⟨i, rfl, hlt, hpre, h⟩
    generalize l.getD i 0 = x at hget htk hpx hfi
    refine hwKF ?_
    refine HL.one (H1.ldg rfl hm hget rfl ?_)
    refine hwKF ?_
    refine HL.one (H1.callv0 (f := f) (u := .bool (p x)) (cap := cap) (vs := [zv x]) rfl rfl rfl (fun w' hM => hpx w' hM) ?_)
    cases hpv : p x
    · refine hwKF ?_
      refine HX.again (i + 1) ⟨hlt, fun y hy => ?_⟩ (by show l.length - (i + 1) < l.length - i; omega) esA (Hs.refl _)
      rw [htk] at hy
      rcases List.mem_append.1 hy with hy | hy
      · exact hpre y hy
      · rw [List.mem_singleton.1 hy]; exact hpv
    · refine hwKF ?_
      exact HX.ret1 rfl rfl fun w' hM => ⟨(i : Int), hfi hpv, rfl, hM⟩
  · obtain rfl : i = l.length := by omega
    rw [List.take_length] at hpre
    refine hwKF ?_
    exact HX.ret1 rfl rfl fun w' hM => ⟨-1, .inl ⟨rfl, hpre⟩, rfl, hM⟩
set_option maxHeartbeats 1000000 in
theorem deleteFI_fn {w0 : World} {K : List Atom} {f : FuncId} {cap : List Value} [hf : CallOk Tryz.prog f] (p : Int → Bool) (l : List Int) {a : Option Addr} {c : Nat} (hl : l.length ≤ 1000000)
    (hp : ∀ x ∈ l, ∀ a' c' n' xs' w, Mm w0 (A.grow 3 1 a' c' n' xs' :: K) w → Fn Tryz.prog f ([zv x] ++ cap).toArray w fun v w' => v = .bool (p x) ∧ Ext w w') (w : World) (hM : Mm w0 (A.grow 3 1 a c l.length (ints l) :: K) w) :
    Fn Tryz.prog 75 #[.slice a l.length c, .func (.func f) #[] cap.toArray] w fun u w' => u = .slice a (l.filter fun x => !p x).length c ∧ Mm w0 (A.grow 3 1 a c (l.filter fun x => !p x).length (ints (l.filter fun x => !p x)) :: K) w' := by
  refine enterK (l := [_, _]) hM rfl Tryz.ntmps75 rfl ?_
  refine hwKF ?_
  refine HL.one (H1.callk (α := Int) (V := fun k => zv k) (I := fun k => FirstI l p k) (H' := fun _ => A.grow 3 1 a c l.length (ints l) :: K) (vs := [.slice a l.length c, .func (.func f) #[] cap.toArray]) rfl rfl (fun w' hM => indexFI_fn p l hl (.head _) (fun x hx w2 hM2 => hp x hx _ _ _ _ w2 hM2) w' hM) ?_)
  rintro k (⟨rfl, hall⟩ | ⟨i0, rfl, hi0, hpre, hpi⟩)
  · rw [filt_all hall]
    refine hwKF ?_
    exact HX.ret1 rfl rfl fun w' hM => ⟨rfl, hM⟩
  have hne1 : ¬ (i0 : Int) = -1 := by omega
  refine hwKF ?_
  have hF0 : (l.take (i0 + 1)).filter (fun x => !p x) = l.take i0 := by
    rw [filt_step hi0, if_pos hpi]
    exact filt_all hpre
  refine HC.loop (α := Nat × List Int) (fun z => [(0, .slice a l.length c), (1, .func (.func f) #[] cap.toArray), (5, zv (((l.take z.1).filter fun x => !p x).length : Int)), (6, zv (z.1 : Int))])
    (fun z => A.grow 3 1 a c l.length (ints ((l.take z.1).filter (fun x => !p x) ++ z.2 ++ l.drop z.1)) :: K)
    (fun z => z.1 ≤ l.length ∧ ((l.take z.1).filter fun x => !p x).length + z.2.length = z.1 ∧ z.2 ≠ []) (fun z => l.length - z.1) (i0 + 1, [l.getD i0 0])
    ⟨hi0, by show ((l.take (i0 + 1)).filter fun x => !p x).length + 1 = i0 + 1; rw [hF0, List.length_take]; omega, by simp⟩ ⟨rfl, rfl, ?_, rfl, trivial⟩ ?_ ?_
  · show some (zv _) = some (zv _)
    rw [hF0, List.length_take, Nat.min_eq_left (by omega)]
  · show Hs _ (A.grow _ 1 a c l.length (ints ((l.take (i0 + 1)).filter (fun x => !p x) ++ [l.getD i0 0] ++ l.drop (i0 + 1))) :: K)
    rw [hF0, ← take_at2 hi0, List.take_append_drop]
    exact Hs.refl _
  rintro ⟨j, M⟩ ⟨hj, hlen, hM0⟩
  dsimp only at hj hlen hM0 ⊢
  have hMl : 0 < M.length := List.length_pos_iff.2 hM0
  refine HC.openg (e := 3) (sz := 1) (.head _) (by omega) ?_
  rintro b rfl
  by_cases hlt : j < l.length
  · have hfs := filt_step (p := p) hlt
    have hdr := drop_at2 hlt
    have hmem : l.getD j 0 ∈ l := by simp [hlt]
    have hpx := hp _ hmem
    obtain ⟨F, hF⟩ : ∃ F, F = (l.take j).filter fun x => !p x := ⟨_, rfl⟩
    rw [← hF] at hlen hfs ⊢
    generalize l.getD j 0 = x at hfs hdr hpx
    have hget : (ints (F ++ M ++ l.drop j))[j]? = some (zv x) := by
      unfold ints
      rw [List.getElem?_map, List.getElem?_append_right (by rw [List.length_append]; omega), List.length_append, hlen, Nat.sub_self, hdr]; rfl
    obtain ⟨m0, M', hMM⟩ := List.exists_cons_of_ne_nil hM0
    have hset : (F ++ M ++ l.drop j).set F.length x = F ++ [x] ++ (M' ++ [x]) ++ l.drop (j + 1) := by
      rw [hMM, hdr, List.append_assoc, List.set_append_right _ _ (Nat.le_refl _), Nat.sub_self]
      simp
    have hkeep : F ++ M ++ l.drop j = F ++ (M ++ [x]) ++ l.drop (j + 1) := by rw [hdr]; simp
    have hML : M.length = M'.length + 1 := by rw [hMM]; rfl
    refine hwKF ?_
    refine HL.one (H1.ldg rfl (.head _) hget rfl ?_)
    refine hwKF ?_
    refine HL.one (H1.callv0 (f := f) (u := .bool (p x)) (cap := cap) (vs := [zv x]) rfl rfl rfl (fun w' hM => hpx _ _ _ _ w' hM) ?_)
    cases hpv : p x
    · rw [hpv, if_neg (by decide)] at hfs
      refine hwKF ?_
      refine HL.one (H1.stg (b := b) (i := F.length) rfl rfl (by intro _ h; cases h) (by intro _ h; cases h) rplA (by rw [ints_len2, List.length_append, List.length_append, List.length_drop]; omega) ?_)
      rw [ints_set2, hset]
      refine hwKF ?_
      refine HX.again (j + 1, M' ++ [x]) ⟨hlt, by show _ + (M' ++ [x]).length = j + 1; rw [hfs, List.length_append, List.length_append]; show F.length + 1 + (M'.length + 1) = j + 1; omega, by simp⟩ (by show l.length - (j + 1) < l.length - j; omega) ⟨rfl, rfl, ?_, rfl, trivial⟩ (by dsimp only; rw [hfs]; exact Hs.refl _)
      show some (zv _) = some (zv _)
      rw [hfs, List.length_append]; rfl
    · rw [hpv, if_pos rfl] at hfs
      rw [hkeep]
      refine hwKF ?_
      exact HX.again (j + 1, M ++ [x]) ⟨hlt, by show _ + (M ++ [x]).length = j + 1; rw [hfs, List.length_append]; show F.length + (M.length + 1) = j + 1; omega, by simp⟩ (by show l.length - (j + 1) < l.length - j; omega) ⟨rfl, rfl, by show some (zv _) = some (zv _); rw [hfs], rfl, trivial⟩ (by dsimp only; rw [hfs]; exact Hs.refl _)
  · obtain rfl : j = l.length := by omega
    rw [List.take_length] at hlen ⊢
    obtain ⟨F, hF⟩ : ∃ F, F = l.filter fun x => !p x := ⟨_, rfl⟩
    rw [← hF] at hlen ⊢
    rw [List.drop_length, List.append_nil]
    refine HC.capOfI (e := 3) (.head _) fun hcap => ?_
    refine hwKF ?_
    refine HL.pa ?_ (POp.cut_l rfl rfl (by omega) (by omega) (by omega))
    rw [show 0 + ((F.length : Nat) : Int).toNat * 1 = F.length from by omega, show l.length - ((F.length : Nat) : Int).toNat = M.length from by omega]
    refine hwKF ?_
    refine HL.one (H1.clearT rfl rfl rfl (by rw [ints_len2, List.length_append]; omega) hlen hMl rplA rfl ?_)
    refine hwKF ?_
    refine HX.ret1 rfl rfl fun w' hM => ⟨by rw [Int.toNat_natCast], ?_⟩
    have hM2 := Mm.growPre (i := F.length) hM (by omega) (by omega)
    have e : (List.take F.length (ints (F ++ M)) ++ List.replicate M.length (zv 0)).take F.length = ints F := by
      have t1 : (ints (F ++ M)).take F.length = ints F := by unfold ints; rw [← List.map_take, List.take_left]
      rw [t1, List.take_append_of_le_length (by rw [ints_len2]; exact Nat.le_refl _), List.take_of_length_le (by rw [ints_len2]; exact Nat.le_refl _)]
    have e2 : List.replicate M.length (zv 0) = List.replicate M.length (Value.int IntKind.i64 0) := rfl
    rw [← e2] at hM2
    rw [e] at hM2
    exact hM2
end Go.Sx
/- Chapter 25: a power failure: Crash, the walk. -/
namespace Go.Sx
open Go Go.Proofs Go.RowKit
def outP (n : Nat) (i : Int) : Bool := decide (i < 0) || decide ((n : Int) ≤ i)
theorem numL_asc (l : List Int) : Asc (numL l) := numL_lt l
theorem order_crash (keep : List Int) (n : Nat) : (numL keep).filter (fun i => !outP n i) = (crashL keep n).map fun i : Nat => (i : Int) := order_eq (numL_asc keep) fun _ => mem_numL
theorem pendC_get {l : List (Nat × ByteArray)} : ∀ {i : Nat}, i < l.length → (pendC l)[2 * i]? = some (zv ((pendAt l i).1 : Int)) ∧ (pendC l)[2 * i + 1]? = some (.string (pendAt l i).2) := by
  induction l with
  | nil => intro i h; cases h
  | cons x l ih =>
    intro i h
    have e : pendC (x :: l) = zv (x.1 : Int) :: .string x.2 :: pendC l := rfl
    cases i with
    | zero => rw [e]; exact ⟨rfl, rfl⟩
    | succ i =>
      have h2 := ih (i := i) (by rw [List.length_cons] at h; omega)
      rw [e, show 2 * (i + 1) = 2 * i + 1 + 1 from by omega]
      exact h2
attribute [local irreducible] WC WL WX POp Then Again Fn NX W1 WA WO QL RP RA Yld LoopAt HC HL HX HN H1 HA HO HQ HB HP A.blk A.grow A.rd A.obj A.mp AgainH CutH
theorem crash1_fn {w : World} {b3 bd n pc : Nat} {pa : Option Addr} (i : Int) (h3 : w.cell? ⟨b3, 0, none⟩ = some (.pointer (some ⟨bd, 0, none⟩))) (h4 : w.cell? ⟨bd, 4, none⟩ = some (.slice pa n pc)) :
    Fn Tryz.prog 76 ([zv i] ++ [Value.pointer (some ⟨b3, 0, none⟩)]).toArray w fun v w' => v = .bool (outP n i) ∧ Ext w w' := by
  refine enterH (l := [_, _]) rfl Tryz.ntmps76 rfl ?_
  by_cases h1 : i < 0
  · refine hwKF ?_
    exact HX.ret1 rfl rfl fun w' hM => ⟨by unfold outP; rw [decide_eq_true h1, Bool.true_or], hM.ext⟩
  · refine hwKF ?_
    refine HL.one (H1.ld0 rfl h3 rfl ?_)
    refine hwKF ?_
    refine HL.one (H1.ld0 rfl h4 rfl ?_)
    refine hwKF ?_
    exact HX.ret1 rfl rfl fun w' hM => ⟨by unfold outP; rw [decide_eq_false h1, Bool.false_or], hM.ext⟩
theorem settle2_fn {w0 w : World} {H : List Atom} {bd b1 b2 pc : Nat} {pa : Option Addr} {k : Dk} (hM : Mm w0 (dkH bd b1 b2 pa pc k H) w) (hl : k.vis.length = k.dur.length) :
    Fn Tryz.prog 77 #[.pointer (some ⟨bd, 0, none⟩), .slice (some ⟨b1, 0, none⟩) k.dur.length k.dur.length, .slice (some ⟨b2, 0, none⟩) k.vis.length k.vis.length] w fun v w' => v = .tuple #[] ∧
      Mm w0 (dkH bd b1 b2 pa pc { k with vis := k.dur, pend := [] } H) w' := by
  have hu1 := ub_len k.dur
  have hu2 := ub_len k.vis
  refine enterK (l := [_, _, _]) hM rfl Tryz.ntmps77 rfl ?_
  refine hwKF ?_
  refine HL.one (H1.copyB (b := b2) (cur := ub k.vis) (cs := ub k.dur) (cur' := ub k.dur) rfl rfl (by omega) (fun w' hM j v hv => ?_) (by
    intro v hv
    obtain ⟨x, -, rfl⟩ := List.mem_map.1 hv
    rfl) (by omega) ?_ rplA rfl ?_)
  · rw [add_lit, Nat.zero_add]
    exact (hM.blk (b := b1) (cs := ub k.dur) memA).cell hv
  · rw [List.take_zero, List.nil_append, Nat.zero_add, hu1, List.drop_of_length_le (by omega), List.append_nil]
  refine hwKF ?_
  refine HL.one (H1.clearG rfl (by intro v hv; rcases List.mem_cons.1 hv with rfl | hv; rfl; rcases List.mem_cons.1 hv with rfl | hv; rfl; cases hv) (by decide) rfl rplA rfl ?_)
  refine hwKF ?_
  refine HL.growCut (e := 106) (sz := 2) (a := pa) (c := pc) (n := k.pend.length) rplA ?_
  refine HL.pa ?_ (POp.pre_any rfl rfl (by decide) (by omega))
  refine hwKF ?_
  refine HL.one (H1.st rfl rfl (by intro _ h; cases h) (by intro _ h; cases h) rplA (by show 4 < 5; decide) ?_)
  refine hwKF ?_
  have e : (dkC b1 b2 pa pc k).set (0 + 4) (Value.slice pa (Int.toNat 0) pc) = dkC b1 b2 pa pc { k with vis := k.dur, pend := [] } := by
    show [_, _, _, _, _] = [_, _, _, _, _]
    rw [hl]; rfl
  rw [e]
  exact HX.end0 rfl fun w' hM => ⟨rfl, hM⟩
set_option maxHeartbeats 4000000 in
theorem crash_fn {w0 w : World} {H : List Atom} {bd b1 b2 pc ck : Nat} {pa ak : Option Addr} {k : Dk} (keep : List Int) (torn : Int) (ht1 : -9223372036854775808 ≤ torn) (ht2 : torn ≤ 9223372036854775807) (hM : Mm w0 (dkH bd b1 b2 pa pc k H) w) (hk : k.Ok) (hf : k.Fit) (hl : keep.length ≤ 1000)
    (hR : ∀ w', Mm w0 (dkH bd b1 b2 pa pc k H) w' → Rd w' (.slice ak keep.length ck) (ints keep)) :
    Fn Tryz.prog 33 #[.pointer (some ⟨bd, 0, none⟩), .slice ak keep.length ck, zv torn] w fun v w' => v = zv 0 ∧ Mm w0 (dkH bd b1 b2 pa pc (k.crash keep torn) H) w' := by
  have hlen := hk.len
  have hlo := hk.lo
  have hhi := hk.hi
  have hpn := hk.pend
  refine enterK (l := [_, _, _]) hM rfl Tryz.ntmps33 rfl ?_
  refine hwKF ?_
  refine HL.one (H1.box rfl rfl rfl (fun b3 => ?_))
  refine hwKF ?_
  refine HL.one (H1.callz (vs := [.slice ak keep.length ck]) rfl rfl (fun w' hM => values_fn ak keep.length ck w') ?_)
  rintro bv -
  refine hwKF ?_
  refine HL.one (H1.callz (vs := [.func (.func 127) #[] #[.pointer (some ⟨bv, 0, none⟩)]]) rfl rfl (fun w' hM => sorted_fn keep w' (hR w' (hM.sub (Hs.refl _).skip.skip)) (hM.blk (b := bv) memA) (by omega)) ?_)
  rintro ⟨ao, cs⟩ -
  dsimp only
  refine hwKF ?_
  have hsl : (srtI keep).length = keep.length := srtI_len keep
  refine HL.one (H1.callk (α := Unit) (V := fun _ => .slice ao (numL keep).length cs) (I := fun _ => True) (H' := fun _ => A.grow 3 1 ao cs (numL keep).length (ints (numL keep)) :: A.blk b3 [.pointer (some ⟨bd, 0, none⟩)] 25 :: dkH bd b1 b2 pa pc k H) (vs := [.slice ao (srtI keep).length cs]) rfl rfl (fun w' hM => (compactI_fn hM Rpl.here (by omega)).mono fun v w2 h => ⟨(), trivial, h.1, h.2.sub (Hs.cons Pick.here (Hs.cons (Pick.there Pick.here) (Hs.refl _).skip))⟩) ?_)
  rintro - -
  have hnl := numL_len keep
  refine hwKF ?_
  obtain ⟨L, hL⟩ : ∃ L, L = crashL keep k.pend.length := ⟨_, rfl⟩
  obtain ⟨L2, hL2⟩ : ∃ L2, L2 = L.map fun i : Nat => (i : Int) := ⟨_, rfl⟩
  have hord := order_crash keep k.pend.length
  rw [← hL, ← hL2] at hord
  have hLlt : ∀ i ∈ L, i < k.pend.length := fun i hi => crashL_lt (by rw [← hL]; exact hi)
  have hLl : L2.length = L.length := by rw [hL2, List.length_map]
  refine HL.one (H1.callk (α := Unit) (V := fun _ => .slice ao L2.length cs) (I := fun _ => True) (H' := fun _ => A.grow 3 1 ao cs L2.length (ints L2) :: A.blk b3 [.pointer (some ⟨bd, 0, none⟩)] 25 :: dkH bd b1 b2 pa pc k H) (vs := [.slice ao (numL keep).length cs, .func (.func 76) #[] #[.pointer (some ⟨b3, 0, none⟩)]]) rfl rfl
    (fun w' hM => by
      have h := deleteFI_fn (f := 76) (cap := [.pointer (some ⟨b3, 0, none⟩)]) (K := A.blk b3 [.pointer (some ⟨bd, 0, none⟩)] 25 :: dkH bd b1 b2 pa pc k H) (outP k.pend.length) (numL keep) (by omega) (fun x _ a' c' n' xs' w2 hM2 => crash1_fn x ((hM2.blk (b := b3) (cs := [.pointer (some ⟨bd, 0, none⟩)]) (.tail _ (.head _))).cell rfl) ((hM2.blk (b := bd) (cs := dkC b1 b2 pa pc k) (.tail _ (.tail _ (.head _)))).cell rfl)) w' hM
      rw [hord] at h
      exact h.mono fun v w2 h => ⟨(), trivial, h⟩) ?_)
  rintro - -
  have hL2l : L2.length ≤ 1000 := by
    have h1 : ((numL keep).filter fun i => !outP k.pend.length i).length ≤ (numL keep).length := List.length_filter_le _ _
    rw [hord] at h1
    omega
  refine hbKF ?_
  repeat refine HC.seq ?_
  have hcr : (k.crash keep torn).dur = applyL k.pend torn L k.dur := by show applyL k.pend torn (crashL keep k.pend.length) k.dur = _; rw [← hL]
  have hcrl := crash_len hf keep torn
  refine HC.cut (α := Unit) (fun _ => [(3, .pointer (some ⟨b3, 0, none⟩))]) (fun _ => A.blk b3 [.pointer (some ⟨bd, 0, none⟩)] 25 :: dkH bd b1 b2 pa pc { k with dur := (k.crash keep torn).dur } H) (fun _ => True) ?_ ?_
  · refine HC.block ?_
    refine HC.sub [(2, zv torn), (3, .pointer (some ⟨b3, 0, none⟩)), (7, .slice ao L2.length cs), (20, .slice ao L2.length cs), (21, zv (L2.length : Int)), (22, zv 0)] (A.grow 3 1 ao cs L2.length (ints L2) :: A.blk b3 [.pointer (some ⟨bd, 0, none⟩)] 25 :: dkH bd b1 b2 pa pc k H) ?_ esA (Hs.refl _)
    refine HC.loop (α := Nat × List UInt8) (fun z => [(2, zv torn), (3, .pointer (some ⟨b3, 0, none⟩)), (7, .slice ao L2.length cs), (20, .slice ao L2.length cs), (21, zv (L2.length : Int)), (22, zv (z.1 : Int))]) (fun z => A.grow 3 1 ao cs L2.length (ints L2) :: A.blk b3 [.pointer (some ⟨bd, 0, none⟩)] 25 :: dkH bd b1 b2 pa pc { k with dur := z.2 } H)
      (fun z => z.1 ≤ L2.length ∧ applyL k.pend torn (L.drop z.1) z.2 = (k.crash keep torn).dur ∧ z.2.length = k.dur.length) (fun z => L2.length - z.1) (0, k.dur) ⟨Nat.zero_le _, hcr.symm, rfl⟩ esA (Hs.refl _) ?_
    rintro ⟨q, D⟩ ⟨hq, happ, hDl⟩
    dsimp only at hq happ hDl ⊢
    by_cases hlt : q < L2.length
    · have hltL : q < L.length := by omega
      obtain ⟨i0, hi0⟩ : ∃ i0, L[q]? = some i0 := ⟨_, List.getElem?_eq_getElem hltL⟩
      have hi0lt : i0 < k.pend.length := hLlt i0 (List.mem_of_getElem? hi0)
      have hdr : L.drop q = i0 :: L.drop (q + 1) := by
        rw [List.drop_eq_getElem_cons hltL]
        congr 1
        rw [List.getElem?_eq_getElem hltL] at hi0
        exact Option.some.inj hi0
      have hget : (ints L2)[q]? = some (zv (i0 : Int)) := by
        rw [hL2]; unfold ints
        rw [List.getElem?_map, List.getElem?_map, hi0]; rfl
      have hpm := hf _ (pendAt_mem hi0lt)
      obtain ⟨hg1, hg2⟩ := pendC_get hi0lt
      rw [hdr] at happ
      have hunf : applyL k.pend torn (i0 :: L.drop (q + 1)) D = applyL k.pend torn (L.drop (q + 1)) (splice D (pendAt k.pend i0).1 (tornS torn (L.drop (q + 1)).isEmpty (pendAt k.pend i0).2).data.toList) := rfl
      rw [hunf] at happ
      have hts := tornS_size torn (L.drop (q + 1)).isEmpty (pendAt k.pend i0).2
      have hlast : (L.drop (q + 1)).isEmpty = decide (q + 1 = L2.length) := by
        by_cases h : q + 1 = L2.length
        · rw [List.drop_of_length_le (by omega), decide_eq_true h]; rfl
        · rw [decide_eq_false h]
          have : L.drop (q + 1) ≠ [] := by
            intro e
            have := congrArg List.length e
            rw [List.length_drop] at this
            simp at this; omega
          cases hx : L.drop (q + 1) with
          | nil => exact absurd hx this
          | cons _ _ => rfl
      generalize (pendAt k.pend i0).1 = off at hg1 happ hpm
      generalize (pendAt k.pend i0).2 = s at hg2 happ hts hpm
      obtain ⟨s', hs'⟩ : ∃ s', s' = tornS torn (L.drop (q + 1)).isEmpty s := ⟨_, rfl⟩
      rw [← hs'] at happ hts
      rw [hlast] at hs'
      have hs'l : s'.data.toList.length = s'.size := by rw [Array.length_toList]; rfl
      have hspl : (splice D off s'.data.toList).length = D.length := splice_len (by omega)
      refine HC.openg (e := 3) (sz := 1) (a := ao) (c := cs) (n := L2.length) (xs := ints L2) (.head _) (by omega) ?_
      rintro go rfl
      refine HC.openg (e := 106) (sz := 2) (a := pa) (c := pc) (n := k.pend.length) (xs := pendC k.pend) (.tail _ (.tail _ (.tail _ (.tail _ (.tail _ (.head _)))))) (by omega) ?_
      rintro gp rfl
      refine hwKF ?_
      refine HL.one (H1.ldg rfl (.head _) hget rfl ?_)
      refine hwKF ?_
      dsimp only
      refine hwKF ?_
      refine HL.one (H1.ldAggw (b := gp) (off := i0 * 2) (vs := [zv (off : Int), .string s]) rfl rfl (fun w' hM j u hu => ?_) rfl ?_)
      · have hown := hM.own (e := 106) (sz := 2) (a := some ⟨gp, 0, none⟩) (c := pc) (xs := pendC k.pend) (.tail _ (.tail _ (.tail _ (.tail _ (.tail _ (.head _))))))
        match j, hu with
        | 0, hu => cases hu; rw [show i0 * 2 + 0 = 2 * i0 from by omega]; exact ownsRow_cell hown hg1
        | 1, hu => cases hu; rw [show i0 * 2 + 1 = 2 * i0 + 1 from by omega]; exact ownsRow_cell hown hg2
        | j + 2, hu => cases hu
      refine hwKF ?_
      refine HL.one (H1.alloc (cs := [zv 0, .string (ByteArray.mk #[])]) (by kernel_rfl) rfl (fun tw => ?_))
      refine hwKF ?_
      refine HL.one (H1.stAgg (cs := [zv 0, .string (ByteArray.mk #[])]) rfl rfl rfl (by intro v hv; rcases List.mem_cons.1 hv with rfl | hv; rfl; rcases List.mem_cons.1 hv with rfl | hv; rfl; cases hv) rplA rfl ?_)
      have hdk : dkC b1 b2 (some ⟨gp, 0, none⟩) pc { k with dur := D } = dkC b1 b2 (some ⟨gp, 0, none⟩) pc { k with dur := splice D off s'.data.toList } := by
        show [_, _, _, _, _] = [_, _, _, _, _]
        rw [hspl]
      by_cases hla : q + 1 = L2.length
      · have hqi : (q : Int) = (L2.length : Int) - 1 := by omega
        rw [decide_eq_true hla] at hs'
        by_cases htn : 0 ≤ torn
        · have hse : s' = s.extract 0 (min torn (s.size : Int)).toNat := by rw [hs']; unfold tornS; rw [if_pos ⟨rfl, htn⟩]
          refine hwKF ?_
          rw [← hse]
          refine HL.one (H1.st (b := tw) rfl rfl (by intro _ h; cases h) (by intro _ h; cases h) Rpl.here (by show 1 < 2; decide) ?_)
          refine hwKF ?_
          refine HC.anyC ([(⟨b3, 0, none⟩, .pointer (some ⟨bd, 0, none⟩)), (⟨bd, 2, none⟩, .slice (some ⟨b1, 0, none⟩) D.length D.length)]) rfl ?_
          refine HB.ld 1 rfl rfl memD ?_
          refine HB.pa 2 rfl ?_ (POp.nilCheck rfl)
          refine HB.pa 3 rfl ?_
          refine HB.ld 4 rfl rfl memD ?_
          refine HB.all (by (exact Keep.blk (b := b3) memD rfl (Keep.blk (b := bd) memD rfl Keep.nil))) [0] (by kernel_rfl) rfl ⟨⟨_, rfl, ?_⟩, trivial⟩
          refine HP.one ?_
          refine H1.ldAgg (b := tw) (vs := [zv (off : Int), .string s']) rfl (.head _) rfl (fun i v h => by rw [show 0 + i = i from Nat.zero_add i]; exact h) rfl ?_
          apply HB.fold
          refine HB.all (by (exact Keep.blk (b := b3) memD rfl (Keep.blk (b := bd) memD rfl Keep.nil))) [5] (by kernel_rfl) rfl ⟨⟨_, rfl, ?_⟩, trivial⟩
          refine HP.one ?_
          refine H1.callk (α := Unit) (V := fun _ => .tuple #[]) (I := fun _ => True) (H' := fun _ => A.blk b1 (ub (splice D off s'.data.toList)) 5 :: A.blk tw [zv (off : Int), .string s'] 106 :: A.grow 3 1 (some ⟨go, 0, none⟩) cs L2.length (ints L2) :: A.blk b3 [.pointer (some ⟨bd, 0, none⟩)] 25 :: A.blk bd (dkC b1 b2 (some ⟨gp, 0, none⟩) pc { k with dur := D }) 102 :: A.blk b2 (ub k.vis) 5 :: A.grow 106 2 (some ⟨gp, 0, none⟩) pc k.pend.length (pendC k.pend) :: H) (vs := [.agg [zv (off : Int), .string s'].toArray, _]) rfl rfl
              (fun w' hM => (onto_fn (l := D) off s' (hM.sub (Hs.cons (Pick.there (Pick.there (Pick.there (Pick.there Pick.here)))) (Hs.refl _))) (by omega) (by omega)).mono fun v w2 h => ⟨(), trivial, h⟩) ?_
          rintro - -
          apply HB.fold
          refine HB.done (by (exact Keep.blk (b := b3) memD rfl (Keep.blk (b := bd) memD rfl Keep.nil))) (by kernel_rfl) ?_
          refine hwKF ?_
          rw [hdk]
          exact HX.again (q + 1, splice D off s'.data.toList) ⟨hlt, happ, by show (splice D off s'.data.toList).length = _; rw [hspl]; exact hDl⟩ (by show L2.length - (q + 1) < L2.length - q; omega) esA (Hs.cons (Pick.there (Pick.there Pick.here)) (Hs.cons (Pick.there (Pick.there Pick.here)) (Hs.cons (Pick.there (Pick.there Pick.here)) (Hs.cons Pick.here (Hs.cons (Pick.there Pick.here) (Hs.cons (Pick.there Pick.here) (Hs.refl _).skip))))))
        · have hse : s' = s := by rw [hs']; unfold tornS; rw [if_neg (fun h => htn h.2)]
          subst hse
          refine hwKF ?_
          refine HC.anyC ([(⟨b3, 0, none⟩, .pointer (some ⟨bd, 0, none⟩)), (⟨bd, 2, none⟩, .slice (some ⟨b1, 0, none⟩) D.length D.length)]) rfl ?_
          refine HB.ld 1 rfl rfl memD ?_
          refine HB.pa 2 rfl ?_ (POp.nilCheck rfl)
          refine HB.pa 3 rfl ?_
          refine HB.ld 4 rfl rfl memD ?_
          refine HB.all (by (exact Keep.blk (b := b3) memD rfl (Keep.blk (b := bd) memD rfl Keep.nil))) [0] (by kernel_rfl) rfl ⟨⟨_, rfl, ?_⟩, trivial⟩
          refine HP.one ?_
          refine H1.ldAgg (b := tw) (vs := [zv (off : Int), .string s']) rfl (.head _) rfl (fun i v h => by rw [show 0 + i = i from Nat.zero_add i]; exact h) rfl ?_
          apply HB.fold
          refine HB.all (by (exact Keep.blk (b := b3) memD rfl (Keep.blk (b := bd) memD rfl Keep.nil))) [5] (by kernel_rfl) rfl ⟨⟨_, rfl, ?_⟩, trivial⟩
          refine HP.one ?_
          refine H1.callk (α := Unit) (V := fun _ => .tuple #[]) (I := fun _ => True) (H' := fun _ => A.blk b1 (ub (splice D off s'.data.toList)) 5 :: A.blk tw [zv (off : Int), .string s'] 106 :: A.grow 3 1 (some ⟨go, 0, none⟩) cs L2.length (ints L2) :: A.blk b3 [.pointer (some ⟨bd, 0, none⟩)] 25 :: A.blk bd (dkC b1 b2 (some ⟨gp, 0, none⟩) pc { k with dur := D }) 102 :: A.blk b2 (ub k.vis) 5 :: A.grow 106 2 (some ⟨gp, 0, none⟩) pc k.pend.length (pendC k.pend) :: H) (vs := [.agg [zv (off : Int), .string s'].toArray, _]) rfl rfl
              (fun w' hM => (onto_fn (l := D) off s' (hM.sub (Hs.cons (Pick.there (Pick.there (Pick.there (Pick.there Pick.here)))) (Hs.refl _))) (by omega) (by omega)).mono fun v w2 h => ⟨(), trivial, h⟩) ?_
          rintro - -
          apply HB.fold
          refine HB.done (by (exact Keep.blk (b := b3) memD rfl (Keep.blk (b := bd) memD rfl Keep.nil))) (by kernel_rfl) ?_
          refine hwKF ?_
          rw [hdk]
          exact HX.again (q + 1, splice D off s'.data.toList) ⟨hlt, happ, by show (splice D off s'.data.toList).length = _; rw [hspl]; exact hDl⟩ (by show L2.length - (q + 1) < L2.length - q; omega) esA (Hs.cons (Pick.there (Pick.there Pick.here)) (Hs.cons (Pick.there (Pick.there Pick.here)) (Hs.cons (Pick.there (Pick.there Pick.here)) (Hs.cons Pick.here (Hs.cons (Pick.there Pick.here) (Hs.cons (Pick.there Pick.here) (Hs.refl _).skip))))))
      · have hqi : ¬ (q : Int) = (L2.length : Int) - 1 := by omega
        rw [decide_eq_false hla] at hs'
        have hse : s' = s := by rw [hs']; unfold tornS; rw [if_neg (fun h => by cases h.1)]
        subst hse
        refine hwKF ?_
        refine HC.anyC ([(⟨b3, 0, none⟩, .pointer (some ⟨bd, 0, none⟩)), (⟨bd, 2, none⟩, .slice (some ⟨b1, 0, none⟩) D.length D.length)]) rfl ?_
        refine HB.ld 1 rfl rfl memD ?_
        refine HB.pa 2 rfl ?_ (POp.nilCheck rfl)
        refine HB.pa 3 rfl ?_
        refine HB.ld 4 rfl rfl memD ?_
        refine HB.all (by (exact Keep.blk (b := b3) memD rfl (Keep.blk (b := bd) memD rfl Keep.nil))) [0] (by kernel_rfl) rfl ⟨⟨_, rfl, ?_⟩, trivial⟩
        refine HP.one ?_
        refine H1.ldAgg (b := tw) (vs := [zv (off : Int), .string s']) rfl (.head _) rfl (fun i v h => by rw [show 0 + i = i from Nat.zero_add i]; exact h) rfl ?_
        apply HB.fold
        refine HB.all (by (exact Keep.blk (b := b3) memD rfl (Keep.blk (b := bd) memD rfl Keep.nil))) [5] (by kernel_rfl) rfl ⟨⟨_, rfl, ?_⟩, trivial⟩
        refine HP.one ?_
        refine H1.callk (α := Unit) (V := fun _ => .tuple #[]) (I := fun _ => True) (H' := fun _ => A.blk b1 (ub (splice D off s'.data.toList)) 5 :: A.blk tw [zv (off : Int), .string s'] 106 :: A.grow 3 1 (some ⟨go, 0, none⟩) cs L2.length (ints L2) :: A.blk b3 [.pointer (some ⟨bd, 0, none⟩)] 25 :: A.blk bd (dkC b1 b2 (some ⟨gp, 0, none⟩) pc { k with dur := D }) 102 :: A.blk b2 (ub k.vis) 5 :: A.grow 106 2 (some ⟨gp, 0, none⟩) pc k.pend.length (pendC k.pend) :: H) (vs := [.agg [zv (off : Int), .string s'].toArray, _]) rfl rfl
            (fun w' hM => (onto_fn (l := D) off s' (hM.sub (Hs.cons (Pick.there (Pick.there (Pick.there (Pick.there Pick.here)))) (Hs.refl _))) (by omega) (by omega)).mono fun v w2 h => ⟨(), trivial, h⟩) ?_
        rintro - -
        apply HB.fold
        refine HB.done (by (exact Keep.blk (b := b3) memD rfl (Keep.blk (b := bd) memD rfl Keep.nil))) (by kernel_rfl) ?_
        refine hwKF ?_
        rw [hdk]
        exact HX.again (q + 1, splice D off s'.data.toList) ⟨hlt, happ, by show (splice D off s'.data.toList).length = _; rw [hspl]; exact hDl⟩ (by show L2.length - (q + 1) < L2.length - q; omega) esA (Hs.cons (Pick.there (Pick.there Pick.here)) (Hs.cons (Pick.there (Pick.there Pick.here)) (Hs.cons (Pick.there (Pick.there Pick.here)) (Hs.cons Pick.here (Hs.cons (Pick.there Pick.here) (Hs.cons (Pick.there Pick.here) (Hs.refl _).skip))))))
    · obtain rfl : q = L2.length := by omega
      rw [hLl, List.drop_length] at happ
      have happ' : D = (k.crash keep torn).dur := happ
      refine hwKF ?_
      exact HX.cut () trivial esA (by rw [← happ']; exact (Hs.refl _).skip)
  · rintro - -
    refine hwKF ?_
    refine HC.anyC ([(⟨b3, 0, none⟩, .pointer (some ⟨bd, 0, none⟩)), (⟨bd, 2, none⟩, .slice (some ⟨b1, 0, none⟩) (k.crash keep torn).dur.length (k.crash keep torn).dur.length), (⟨bd, 3, none⟩, .slice (some ⟨b2, 0, none⟩) k.vis.length k.vis.length)]) rfl ?_
    refine HB.ld 0 rfl rfl memD ?_
    refine HB.ld 1 rfl rfl memD ?_
    refine HB.pa 2 rfl ?_ (POp.nilCheck rfl)
    refine HB.pa 3 rfl ?_
    refine HB.ld 4 rfl rfl memD ?_
    refine HB.ld 5 rfl rfl memD ?_
    refine HB.pa 6 rfl ?_ (POp.nilCheck rfl)
    refine HB.pa 7 rfl ?_
    refine HB.ld 8 rfl rfl memD ?_
    refine HB.all (by (first | exact Keep.blk (b := b3) memD rfl (Keep.blk (b := bd) memD rfl (Keep.blk (b := bd) memD rfl Keep.nil)) | exact Keep.blk (b := b3) memD rfl (Keep.blk (b := bd) memD rfl (Keep.blk (b := bd) memD (by show some (Value.slice (some ⟨b2, 0, none⟩) (k.crash keep torn).dur.length (k.crash keep torn).dur.length) = _; rw [hcrl, hlen]) Keep.nil)))) [9] (by kernel_rfl) rfl ⟨⟨_, rfl, ?_⟩, trivial⟩
    refine HP.one ?_
    refine H1.callk (α := Unit) (V := fun _ => .tuple #[]) (I := fun _ => True) (H' := fun _ => dkH bd b1 b2 pa pc { k with dur := (k.crash keep torn).dur, vis := (k.crash keep torn).dur, pend := [] } (A.blk b3 [.pointer (some ⟨bd, 0, none⟩)] 25 :: H)) (vs := [_, _, _]) rfl rfl
        (fun w' hM => (settle2_fn (k := { k with dur := (k.crash keep torn).dur }) (hM.sub (Hs.cons (Pick.there Pick.here) (Hs.cons (Pick.there Pick.here) (Hs.cons (Pick.there Pick.here) (Hs.cons (Pick.there Pick.here) (Hs.refl _)))))) (by show k.vis.length = (k.crash keep torn).dur.length; rw [hcrl, hlen])).mono fun v w2 h => ⟨(), trivial, h⟩) ?_
    rintro - -
    apply HB.fold
    refine HB.done (by (first | exact Keep.blk (b := b3) memD rfl (Keep.blk (b := bd) memD rfl (Keep.blk (b := bd) memD rfl Keep.nil)) | exact Keep.blk (b := b3) memD rfl (Keep.blk (b := bd) memD rfl (Keep.blk (b := bd) memD (by show some (Value.slice (some ⟨b2, 0, none⟩) (k.crash keep torn).dur.length (k.crash keep torn).dur.length) = _; rw [hcrl, hlen]) Keep.nil)))) (by kernel_rfl) ?_
    refine hwKF ?_
    refine HL.build (cs := [.bool false, zv 0]) rfl rfl rfl ?_
    refine hwKF ?_
    refine HL.one (H1.stAggO (b := bd) (o := 0) (cs := dkC b1 b2 pa pc { k with dur := (k.crash keep torn).dur, vis := (k.crash keep torn).dur, pend := [] }) (cs' := dkC b1 b2 pa pc (k.crash keep torn)) rfl rfl rfl (by intro v hv; rcases List.mem_cons.1 hv with rfl | hv; rfl; rcases List.mem_cons.1 hv with rfl | hv; rfl; cases hv) (by show 0 + 2 ≤ 5; decide) rfl rplA ?_)
    refine hwKF ?_
    exact HX.ret1 rfl rfl fun w' hM => ⟨rfl, hM.sub (Hs.cons Pick.here (Hs.cons Pick.here (Hs.cons Pick.here (Hs.cons Pick.here (Hs.refl _).skip))))⟩
end Go.Sx
