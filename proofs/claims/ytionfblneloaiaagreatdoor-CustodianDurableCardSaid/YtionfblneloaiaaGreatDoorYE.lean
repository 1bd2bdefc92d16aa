/- Chapter 27: fragments that are removed: maps.DeleteFunc, maps.Clone, Drop: the walks. -/
import Derived.Test.YtionfblneloaiaaGreatDoorYC
import Derived.Test.YtionfblneloaiaaGreatDoorShelf3
namespace Go.Sx
open Go Go.Proofs Go.RowKit
theorem hwYE {G G2 : Prop} (x : G2) (hwq : Hold G2 → G := by
    intro hQq
    repeat' (first | refine HL.pa ?_ (POp.pnil1 rfl rfl) | refine HL.pa ?_ (POp.pnil0 rfl rfl) | refine HL.pa ?_ (POp.nilCheck rfl) | apply HL.fold | apply HA.fold | apply HL.nil | apply HX.n_then | apply HC.seq | apply HC.region | refine HL.pa ?_ | refine HL.ga rfl ?_ | refine HL.na rfl ?_ | refine HL.nu rfl rfl ?_ | apply HC.block | apply HC.skip | apply HC.exit | apply HC.ret | apply HX.e_block | refine HX.e_other rfl ?_ | apply HX.e_then | apply HX.e_again | apply HX.n_block | apply HX.r_then | apply HX.r_block | apply HX.r_again | refine HC.cond_yes rfl ?_ | refine HC.cond_no rfl ?_ | refine HL.one (H1.ldb rfl memA rfl rfl ?_) | refine HC.cond rfl (fun hc => ?_) (fun hc => ?_) | refine HC.cond_b rfl (fun hc => ?_) (fun hc => ?_))
    exact hQq.get) : G := hwq ⟨x⟩
theorem hnYE {G G2 : Prop} (x : G2) (hwq : Hold G2 → G := by
    intro hQq
    repeat' (first | refine HL.pa ?_ (POp.pnil1 rfl rfl) | refine HL.pa ?_ (POp.pnil0 rfl rfl) | refine HL.pa ?_ (POp.nilCheck rfl) | apply HL.fold | apply HA.fold | apply HL.nil | apply HX.n_then | apply HC.seq | apply HC.region | refine HL.pa ?_ | refine HL.ga rfl ?_ | refine HL.na rfl ?_ | refine HL.nu rfl rfl ?_ | apply HC.block | apply HC.skip | apply HC.exit | apply HC.ret | apply HX.e_block | refine HX.e_other rfl ?_ | apply HX.e_then | apply HX.e_again | apply HX.n_block | apply HX.r_then | apply HX.r_block | apply HX.r_again | refine HC.cond_yes rfl ?_ | refine HC.cond_no rfl ?_ | refine HL.one (H1.ldb rfl memA rfl rfl ?_))
    exact hQq.get) : G := hwq ⟨x⟩
theorem MPl.erase {L : List (PK × Value)} {es : Array MapEntry} {clk : Nat} (h : MPl L es clk) (i : Nat) : MPl (L.eraseIdx i) (es.eraseIdxIfInBounds i) clk := by
  refine ⟨?_, fun e he => ?_, ?_⟩
  · rw [Array.toList_eraseIdxIfInBounds, ← map_eraseIdx, h.ents, map_eraseIdx]
  · rw [Array.toList_eraseIdxIfInBounds] at he
    exact h.born e (List.mem_of_mem_eraseIdx he)
  · rw [Array.toList_eraseIdxIfInBounds]
    exact List.Nodup.sublist ((List.eraseIdx_sublist _ i).map _) h.nd
theorem Mm.mxpm {w0 w : World} {b clk : Nat} {es : Array MapEntry} {L : List (PK × Value)} {H : List Atom} (h : Mm w0 (A.mx b es clk :: H) w) (hl : MPl L es clk) : Mm w0 (A.pm b L :: H) w := h.head rfl (by
  obtain ⟨o, h1, rfl⟩ : ∃ o, w.heap[b]? = some o ∧ o = .map es clk := h.all _ (List.Mem.head _)
  exact ⟨_, h1, es, clk, rfl, hl⟩)
theorem midxP_no {l : List (PK × Value)} {x : PK} (h : midxP l x = none) : ∀ p ∈ l, p.1 ≠ x := by
  induction l with
  | nil => intro p hp; simp at hp
  | cons q l ih =>
    obtain ⟨y, u⟩ := q
    simp only [midxP] at h
    by_cases hxy : x = y
    · rw [if_pos hxy] at h; cases h
    · rw [if_neg hxy, Option.map_eq_none_iff] at h
      intro p hp
      rcases List.mem_cons.1 hp with rfl | hp
      · exact fun e => hxy e.symm
      · exact ih h p hp
theorem midxP_lift {m : PM} (hk : (m.map Prod.fst).Nodup) {p : PK × ByteArray} (hp : p ∈ m) : ∃ i, m[i]? = some p ∧ midxP (liftP m) p.1 = some (i, .string p.2) := by
  cases h : midxP (liftP m) p.1 with
  | none => exact absurd rfl (midxP_no h _ (List.mem_map.2 ⟨p, hp, rfl⟩))
  | some q =>
    obtain ⟨i, u⟩ := q
    have h1 := (midxP_some u h).2.2
    unfold liftP at h1
    rw [List.getElem?_map, Option.map_eq_some_iff] at h1
    obtain ⟨s, h2, h3⟩ := h1
    obtain ⟨j, hj⟩ := List.mem_iff_getElem?.1 hp
    injection h3 with h3 h4
    have n1 : (m.map Prod.fst)[i]? = some p.1 := by simp [h2, h3]
    have n2 : (m.map Prod.fst)[j]? = some p.1 := by simp [hj]
    have hlt : i < (m.map Prod.fst).length := (List.getElem?_eq_some_iff.1 n1).1
    have e := (List.getElem?_inj hlt hk).1 (n1.trans n2.symm)
    subst e
    rw [hj] at h2
    have e2 := Option.some.inj h2
    refine ⟨i, hj, ?_⟩
    rw [← h4, e2]
theorem mem_eraseP {m : PM} (hk : (m.map Prod.fst).Nodup) {i : Nat} {p : PK × ByteArray} (hi : m[i]? = some p) (q : PK × ByteArray) : q ∈ m.eraseIdx i ↔ q ∈ m ∧ q ≠ p := by
  rw [List.mem_eraseIdx_iff_getElem?]
  constructor
  · rintro ⟨j, hne, hj⟩
    refine ⟨List.mem_of_getElem? hj, fun e => hne ?_⟩
    subst e
    have n1 : (m.map Prod.fst)[i]? = some q.1 := by simp [hi]
    have n2 : (m.map Prod.fst)[j]? = some q.1 := by simp [hj]
    have hlt : j < (m.map Prod.fst).length := (List.getElem?_eq_some_iff.1 n2).1
    exact (List.getElem?_inj hlt hk).1 (n2.trans n1.symm)
  · rintro ⟨hq, hne⟩
    obtain ⟨j, hj⟩ := List.mem_iff_getElem?.1 hq
    refine ⟨j, fun e => hne ?_, hj⟩
    subst e
    rw [hi] at hj
    exact (Option.some.inj hj).symm
section
variable {r : Option Nat} {N : Nat} {ds : List Deferred} {Q : Post} {E : Env} {w0 : World} {H : List Atom} {next : Act → World → Prop} {g : Option (Nat × Bool)}
variable {t ty e : TypeId} {pos : String} {af : Array Edge} {x y : Operand}
theorem HL.openpm {ol l : List Oper} {b : Nat} {L : List (PK × Value)} (h : ∀ es clk, MPl L es clk → HL Tryz.prog r N ds ol l Q E w0 (A.mx b es clk :: H)) : HL Tryz.prog r N ds ol l Q E w0 (A.pm b L :: H) := fun w hM => by
  obtain ⟨o, h1, es, clk, rfl, h2⟩ : ∃ o, w.heap[b]? = some o ∧ pmP L o := hM.all _ (List.Mem.head _)
  exact h es clk h2 w (hM.head rfl ⟨_, h1, rfl⟩)
theorem H1.pmdel {u : TypeId} {b clk i : Nat} {es : Array MapEntry} {L : List (PK × Value)} {n : PK} {v : Value} {H' : List Atom} [ht : UTy Tryz.prog t (.map 76 e)] (hx : Env.ev E x = some (.map (some b))) (hy : Env.ev E y = some (pkV n))
    (hl : MPl L es clk) (hi : midxP L n = some (i, v)) (hr : Rpl (A.mx b es clk) (A.mx b (es.eraseIdxIfInBounds i) clk) H H') (h : HN N ds next E w0 H') :
    H1 Tryz.prog r N ds next ⟨none, .call ⟨.builtin .delete, #[x, y], #[t, u]⟩, ty, pos, af, g⟩ Q E w0 H := fun w hM => by
  have hb := hM.mx hr.mem
  have hlt := (Array.getElem?_eq_some_iff.1 hb).1
  have hf := run_findKeyP (w := w) n es.toList L hl.ents
  rw [hi] at hf
  have hrun : (Builtin.delete_ #[t, u] ty #[.map (some b), pkV n]).run Tryz.prog w = .ok (.tuple #[]) (w.putObj b (.map (es.eraseIdxIfInBounds i) clk)) := by
    unfold Builtin.delete_
    simp [Sem.run_bind, run_underlying ht.is, Result.andThen, run_getMap hb, run_checkKeyP _ 9998 n, hf, run_setMap _ hb]
  refine W1.run (v := .tuple #[]) (w' := w.putObj b (.map (es.eraseIdxIfInBounds i) clk)) (fun a ha => ?_) rfl rfl (h _ (hM.turn hr rfl rfl rfl (by simp) (fun k _ hk' => ?_) ⟨_, World.putObj_heap_same hlt, rfl⟩ (by simp [A.mx, A.obj]) fun b' hb' => .inl hb'))
  · simp only [execOp, resolve, invoke, Go.builtin, Sem.run_bind, Sem.run_pure, Result.andThen, List.map_toArray, List.map_cons, List.map_nil, ha.ev hx, ha.ev hy, hrun]
  · exact World.putObj_heap_other (by simpa [A.mx, A.obj] using hk')
end
theorem MPl.len {L : List (PK × Value)} {es : Array MapEntry} {clk : Nat} (h : MPl L es clk) : es.size = L.length := by
  have := congrArg List.length h.ents
  simpa using this
/-- What is left without an object. -/
def dropM (m : PM) (o : Int) : PM := m.filter fun p => decide (p.1.1 ≠ o)
theorem filter_of {α : Type} {keep : α → Bool} {m m' : List α} (hn : m.Nodup) (hs : m'.Sublist m) (h1 : ∀ p ∈ m', keep p = true) (h2 : ∀ p ∈ m, keep p = true → p ∈ m') : m' = m.filter keep := by
  induction hs with
  | slnil => rfl
  | @cons m' m a hs ih =>
    rw [List.nodup_cons] at hn
    cases hk : keep a with
    | true => exact absurd (hs.subset (h2 a (List.mem_cons_self ..) hk)) hn.1
    | false =>
      rw [List.filter_cons_of_neg (by rw [hk]; exact Bool.false_ne_true)]
      exact ih hn.2 h1 fun p hp h => h2 p (List.mem_cons_of_mem _ hp) h
  | @cons_cons m' m a hs ih =>
    rw [List.nodup_cons] at hn
    rw [List.filter_cons_of_pos (h1 a (List.mem_cons_self ..))]
    congr 1
    refine ih hn.2 (fun p hp => h1 p (List.mem_cons_of_mem _ hp)) fun p hp h => ?_
    rcases List.mem_cons.1 (h2 p (List.mem_cons_of_mem _ hp) h) with rfl | h3
    · exact absurd hp hn.1
    · exact h3
theorem nodup_of_fst {m : PM} (h : (m.map Prod.fst).Nodup) : m.Nodup := List.Pairwise.of_map Prod.fst (fun _ _ h e => h (congrArg _ e)) h
theorem clone27_fn {w0 w : World} {H : List Atom} {b : Nat} {m : PM} (hM : Mm w0 (A.pm b (liftP m) :: H) w) :
    Fn Tryz.prog 53 #[.map (some b)] w fun v w' => ∃ b2 : Nat, True ∧ v = .map (some b2) ∧ Mm w0 (A.pm b2 (liftP m) :: A.pm b (liftP m) :: H) w' := by
  obtain ⟨o, h1, es, clk, rfl, h2⟩ : ∃ o, w.heap[b]? = some o ∧ pmP (liftP m) o := hM.all _ (List.Mem.head _)
  refine Calls.mono (AnyW.maps_Clone Tryz.cloneP b es clk w h1) ?_
  rintro e w' ⟨rfl, rfl⟩
  refine ⟨_, rfl, w.heap.size, trivial, rfl, ?_⟩
  refine (hM.more (Ext.alloc w _)).cons ⟨_, World.alloc_heap_new w _, _, _, rfl, h2⟩ (by simp [A.pm, A.obj]) fun b' hb => ?_
  have hb' : b' = w.heap.size := by simpa [A.pm, A.obj] using hb
  subst hb'
  refine ⟨fun hm => ?_, hM.ext.size, by simp⟩
  have := (hM.rng _ hm).2
  omega
theorem H1.pmlen {r : Option Nat} {N : Nat} {ds : List Deferred} {Q : Post} {E : Env} {w0 : World} {H : List Atom} {next : Act → World → Prop} {g : Option (Nat × Bool)} {d : Nat} {t ty e : TypeId} {pos : String} {af : Array Edge} {x : Operand}
    {b : Nat} {l : List (PK × Value)} [ht : UTy Tryz.prog t (.map 76 e)] (hx : Env.ev E x = some (.map (some b))) (hm : A.pm b l ∈ H) (hd : Nat.blt d N = true)
    (h : HN N ds next ((d, .int .i64 (l.length : Int)) :: E) w0 H) : H1 Tryz.prog r N ds next ⟨some d, .call ⟨.builtin .len, #[x], #[t]⟩, ty, pos, af, g⟩ Q E w0 H := fun w hM => by
  obtain ⟨o, hb, es, clk, rfl, hes⟩ : ∃ o, w.heap[b]? = some o ∧ pmP l o := hM.all _ hm
  have hlen := hes.len
  refine W1.run (v := .int .i64 (l.length : Int)) (w' := w) (fun a ha => ?_) rfl hd (h w hM)
  simp [execOp, ha.ev hx, resolve, invoke, Go.builtin, Builtin.len_, run_underlying ht.is, run_getMap hb, goInt, Sem.run_bind, Result.andThen, hlen]
theorem liftP_len (m : PM) : (liftP m).length = m.length := by simp [liftP]
theorem dropM_len (m : PM) (o : Int) : (dropM m o).length ≤ m.length := List.length_filter_le _ _
attribute [local irreducible] WC WL WX POp Then Again Fn NX W1 WA WO QL RP RA Yld LoopAt HC HL HX HN H1 HA HO HQ HB HP A.blk A.grow A.rd A.obj A.mp AgainH CutH
attribute [local irreducible] A.pm A.mx A.mit sumS
theorem drop1_fn (p : PK) (s : ByteArray) (b3 : Nat) (o : Int) (w : World) (hb : w.cell? ⟨b3, 0, none⟩ = some (zv o)) : Fn Tryz.prog 103 #[pkV p, .string s, .pointer (some ⟨b3, 0, none⟩)] w fun v w' => v = .bool (decide (p.1 = o)) ∧ Ext w w' := by
  rw [pkV_cells]
  refine enterH (l := [_, _, _]) rfl Tryz.ntmps103 rfl ?_
  refine hwYE ?_
  refine HL.one (H1.boxAgg (cs := [zv p.1, zv p.2]) rfl rfl (fun b1 => ?_))
  refine hwYE ?_
  refine HL.one (H1.ld0 rfl hb rfl ?_)
  refine hwYE ?_
  exact HX.ret1 rfl rfl fun w' hM => ⟨rfl, hM.ext⟩
set_option maxHeartbeats 1000000 in
theorem deleteFuncP_fn {w0 w : World} {H : List Atom} {b b3 : Nat} {m : PM} {o : Int} {eb : TypeId} (hM : Mm w0 (A.pm b (liftP m) :: A.blk b3 [zv o] eb :: H) w) (hk : (m.map Prod.fst).Nodup) :
    Fn Tryz.prog 102 #[.map (some b), .func (.func 103) #[] #[.pointer (some ⟨b3, 0, none⟩)]] w fun v w' => ∃ _ : Unit, True ∧ v = .tuple #[] ∧ Mm w0 (A.pm b (liftP (dropM m o)) :: A.blk b3 [zv o] eb :: H) w' := by
  refine enterK (l := [_, _]) hM rfl Tryz.ntmps102 rfl ?_
  refine hwYE ?_
  refine HL.openpm fun es clk hms => ?_
  refine HL.one (H1.mqrange (es := es) (clk := clk) rfl (fun w' hM => hM.mx (.head _)) rfl (fun it => ?_))
  refine hwYE ?_
  refine HC.loop (α := Array MapEntry × Array Nat × PM) (fun _ => [(0, .map (some b)), (1, .func (.func 103) #[] #[.pointer (some ⟨b3, 0, none⟩)]), (7, .pointer (some ⟨it, 0, none⟩))])
    (fun z => A.mit it b clk z.2.1 :: A.mx b z.1 clk :: A.blk b3 [zv o] eb :: H)
    (fun z => MPl (liftP z.2.2) z.1 clk ∧ (z.2.2.map Prod.fst).Nodup ∧ z.2.2.Sublist m ∧ (∀ p ∈ m, decide (p.1.1 ≠ o) = true → p ∈ z.2.2) ∧ ∀ e ∈ z.1.toList, e.born ∈ z.2.1 → ∀ p ∈ z.2.2, e.key = pkV p.1 → decide (p.1.1 ≠ o) = true)
    (fun z => mleft z.1 z.2.1) (es, #[], m) ⟨hms, hk, List.Sublist.refl _, fun _ h _ => h, fun e _ hs => absurd hs (by simp)⟩ esA (Hs.refl _) ?_
  rintro ⟨es', seen, m'⟩ ⟨hI, hk', hs1, hs2, hsn⟩
  dsimp only at hI hk' hs1 hs2 hsn ⊢
  refine hwYE ?_
  refine HL.one (H1.mqnext (H' := fun s => A.mit it b clk s :: A.mx b es' clk :: A.blk b3 [zv o] eb :: H) rfl (fun w' hM => hM.mx (.tail _ (.head _))) hI.born (fun s => Rpl.here) rfl (fun hall => ?_) (fun e he hne => ?_))
  · refine hwYE ?_
    have hfin : m' = dropM m o := filter_of (nodup_of_fst hk) hs1 (fun p hp => by
      obtain ⟨e, he, h1, -⟩ := hI.of (List.mem_map.2 ⟨p, hp, rfl⟩)
      exact hsn e he (hall e he) p hp h1) hs2
    rw [← hfin]
    exact HX.end0 rfl fun w' hM => ⟨(), trivial, rfl, hM.tail.mxpm hI⟩
  obtain ⟨q, hq, hkey, hval⟩ := hI.ent he
  obtain ⟨p, hp, rfl⟩ := List.mem_map.1 hq
  dsimp only at hkey hval
  have hkp : ∀ p' ∈ m', e.key = pkV p'.1 → p' = p := fun p' hp' h => by
    rw [hkey] at h
    have h2 := pkV_inj h
    obtain ⟨i, hi, -⟩ := midxP_lift hk' hp
    obtain ⟨j, hj, -⟩ := midxP_lift hk' hp'
    have n1 : (m'.map Prod.fst)[i]? = some p.1 := by simp [hi]
    have n2 : (m'.map Prod.fst)[j]? = some p.1 := by simp [hj, h2]
    have hlt : i < (m'.map Prod.fst).length := (List.getElem?_eq_some_iff.1 n1).1
    have e2 := (List.getElem?_inj hlt hk').1 (n1.trans n2.symm)
    subst e2
    rw [hi] at hj
    exact (Option.some.inj hj).symm
  rw [hkey, hval]
  refine hwYE ?_
  refine HL.one (H1.mqentry (e := e) rfl (fun w' hM => hM.mx (.tail _ (.head _))) he hI.nd (.head _) rfl ?_)
  rw [hkey, hval, pkV_cells]
  refine hwYE ?_
  refine HL.one (H1.alloc (cs := [zv 0, zv 0]) rfl rfl (fun b5 => ?_))
  refine hwYE ?_
  refine HL.one (H1.stAgg (cs := [zv 0, zv 0]) (vs := [zv p.1.1, zv p.1.2]) rfl rfl rfl (by intro v hv; rcases List.mem_cons.1 hv with rfl | hv; rfl; rcases List.mem_cons.1 hv with rfl | hv; rfl; cases hv) rplA rfl ?_)
  refine hwYE ?_
  refine HL.one (H1.ldAgg (vs := [zv p.1.1, zv p.1.2]) rfl memA rfl (fun i v hv => by rw [Nat.zero_add]; exact hv) rfl ?_)
  refine hwYE ?_
  refine HL.one (H1.callv0 (f := 103) (cap := [.pointer (some ⟨b3, 0, none⟩)]) (vs := [pkV p.1, .string p.2]) rfl rfl rfl (fun w' hM => drop1_fn p.1 p.2 b3 o w' ((hM.blk (b := b3) memA).cell rfl)) ?_)
  have hlt := mleft_lt he hne
  by_cases hg : p.1.1 = o
  rotate_left
  · rw [decide_eq_false hg]
    refine hwYE ?_
    refine HX.again (es', seen.push e.born, m') ⟨hI, hk', hs1, hs2, fun e' he' hs' p' hp' h => ?_⟩ hlt esA (Hs.refl _).skip
    rcases Array.mem_push.1 hs' with h1 | h1
    · exact hsn e' he' h1 p' hp' h
    · have e1 : e' = e := stamp_inj hI.nd he' he h1
      subst e1
      rw [hkp p' hp' h]; exact decide_eq_true hg
  · rw [decide_eq_true hg]
    obtain ⟨i, hi, hmi⟩ := midxP_lift hk' hp
    have hme := mem_eraseP hk' hi
    refine hwYE ?_
    refine HL.one (H1.ldAgg (vs := [zv p.1.1, zv p.1.2]) rfl memA rfl (fun i v hv => by rw [Nat.zero_add]; exact hv) rfl ?_)
    refine hwYE ?_
    refine HL.one (H1.pmdel (n := p.1) rfl rfl hI hmi rplA ?_)
    refine hwYE ?_
    refine HX.again (es'.eraseIdxIfInBounds i, seen.push e.born, m'.eraseIdx i) ⟨?_, ?_, (List.eraseIdx_sublist _ i).trans hs1, fun q hq h => (hme q).2 ⟨hs2 q hq h, fun e1 => ?_⟩, fun e' he' hs' p' hp' h => ?_⟩ (Nat.lt_of_le_of_lt (mleft_erase _ _ _) hlt) esA (Hs.refl _).skip
    · have := hI.erase i
      rwa [show (liftP m').eraseIdx i = liftP (m'.eraseIdx i) from map_eraseIdx _ _ _] at this
    · exact List.Nodup.sublist ((List.eraseIdx_sublist _ i).map _) hk'
    · rw [e1] at h; exact absurd hg (of_decide_eq_true h)
    · dsimp only at he' hs' hp'
      rw [Array.toList_eraseIdxIfInBounds] at he'
      have he2 := List.mem_of_mem_eraseIdx he'
      have hp2 := (hme p').1 hp'
      rcases Array.mem_push.1 hs' with h1 | h1
      · exact hsn e' he2 h1 p' hp2.1 h
      · have e1 : e' = e := stamp_inj hI.nd he2 he h1
        subst e1
        exact absurd (hkp p' hp2.1 h) hp2.2
/-- The fragments of an object are removed. -/
theorem dropP_fn {w0 w : World} {H : List Atom} {b : Nat} {m : PM} {o : Int} (hM : Mm w0 (A.pm b (liftP m) :: H) w) (hk : (m.map Prod.fst).Nodup) (hl : m.length ≤ 1000000) :
    Fn Tryz.prog 54 #[.map (some b), zv o] w fun v w' => ∃ _ : Unit, True ∧ v = zv ((m.length : Int) - ((dropM m o).length : Int)) ∧ Mm w0 (A.pm b (liftP (dropM m o)) :: H) w' := by
  have hdl := dropM_len m o
  have l1 := liftP_len m
  have l2 := liftP_len (dropM m o)
  refine enterK (l := [_, _]) hM rfl Tryz.ntmps54 rfl ?_
  refine hwYE ?_
  refine HL.one (H1.box rfl rfl rfl (fun b3 => ?_))
  refine hwYE ?_
  refine HL.one (H1.pmlen rfl memA rfl ?_)
  rw [l1]
  refine hwYE ?_
  refine HL.one (H1.callk (α := Unit) (V := fun _ => .tuple #[]) (I := fun _ => True) (H' := fun _ => A.pm b (liftP (dropM m o)) :: A.blk b3 [zv o] 3 :: H) (vs := [.map (some b), .func (.func 103) #[] #[.pointer (some ⟨b3, 0, none⟩)]]) rfl rfl
    (fun w' hM => deleteFuncP_fn (hM.sub (Hs.cons (Pick.there Pick.here) (Hs.refl _))) hk) ?_)
  rintro - -
  refine hwYE ?_
  refine HL.one (H1.pmlen rfl memA rfl ?_)
  rw [l2]
  refine hwYE ?_
  exact HX.ret1 rfl rfl fun w' hM => ⟨(), trivial, rfl, hM.sub (Hs.cons Pick.here (Hs.refl _).skip)⟩
/-- Drop: how many there were, the error, the fragments, the journal. -/
def dropF (m : PM) (j : Jn) (o : Int) : Int × Int × PM × Jn :=
  if ¬ okP (o, 0) then (0, 270, m, j) else if (dropM m o).length = m.length then (0, 0, m, j)
  else if (j.append [recD o]).1 = 0 then ((m.length : Int) - ((dropM m o).length : Int), 0, dropM m o, (j.append [recD o]).2) else (0, (j.append [recD o]).1, m, (j.append [recD o]).2)
set_option maxHeartbeats 1000000 in
theorem cdrop_fn {w0 w : World} {H : List Atom} {bx bm bj bd b1 b2 c pc : Nat} {a pa : Option Addr} {m : PM} {j : Jn} (o : Int) (hG : RoundG w0) (hM : Mm w0 (cuH bx bm bj bd b1 b2 a c pa pc m j H) w) (hj : JOk j) (hk : (m.map Prod.fst).Nodup) (hl : m.length ≤ 1000000) :
    Fn Tryz.prog 21 #[.pointer (some ⟨bx, 0, none⟩), zv o] w fun v w' => ∃ q : Nat × (Option Addr × Nat) × (Option Addr × Nat), True ∧ v = .tuple #[zv (dropF m j o).1, zv (dropF m j o).2.1] ∧ Mm w0 (cuH bx q.1 bj bd b1 b2 q.2.1.1 q.2.1.2 q.2.2.1 q.2.2.2 (dropF m j o).2.2.1 (dropF m j o).2.2.2 H) w' := by
  have hdl := dropM_len m o
  refine enterK (l := [_, _]) hM rfl Tryz.ntmps21 rfl ?_
  refine hwYE ?_
  refine HL.build (cs := [zv o, zv 0]) rfl rfl rfl ?_
  refine hwYE ?_
  refine HL.one (H1.callx (vs := [pkV (o, 0)]) rfl rfl (fun w' _ => isValid_fn (o, 0) w') ?_)
  unfold dropF
  by_cases hv : okP (o, 0)
  rotate_left
  · rw [decide_eq_false hv, if_pos hv]
    refine hwYE ?_
    exact HX.ret2 rfl rfl rfl fun w' hM => ⟨(bm, (a, c), (pa, pc)), trivial, rfl, hM⟩
  rw [decide_eq_true hv, if_neg (fun h => h hv)]
  refine hwYE ?_
  refine HL.one (H1.callk (α := Nat) (V := fun b => .map (some b)) (I := fun _ => True) (H' := fun b => A.pm b (liftP m) :: cuH bx bm bj bd b1 b2 a c pa pc m j H) (vs := [.map (some bm)]) rfl rfl
    (fun w' hM => (clone27_fn (hM.sub (Hs.cons (Pick.there Pick.here) (Hs.refl _)))).mono fun v w2 h => by
      obtain ⟨b, h1, h2, h3⟩ := h
      exact ⟨b, h1, h2, h3.sub (Hs.cons Pick.here (Hs.cons (Pick.there Pick.here) (Hs.refl _)))⟩) ?_)
  rintro b2' -
  refine hwYE ?_
  refine HL.one (H1.callk (α := Unit) (V := fun _ => zv ((m.length : Int) - ((dropM m o).length : Int))) (I := fun _ => True) (H' := fun _ => A.pm b2' (liftP (dropM m o)) :: cuH bx bm bj bd b1 b2 a c pa pc m j H) (vs := [.map (some b2'), _]) rfl rfl
    (fun w' hM => dropP_fn hM hk hl) ?_)
  rintro - -
  by_cases h0 : (dropM m o).length = m.length
  · have h0' : (m.length : Int) - ((dropM m o).length : Int) = 0 := by omega
    rw [if_pos h0]
    refine hwYE ?_
    exact HX.ret2 rfl rfl rfl fun w' hM => ⟨(bm, (a, c), (pa, pc)), trivial, rfl, hM.tail⟩
  have h0' : ¬ (m.length : Int) - ((dropM m o).length : Int) = 0 := by omega
  rw [if_neg h0]
  obtain ⟨e, j2, hap⟩ : ∃ e j2, j.append [recD o] = (e, j2) := ⟨_, _, rfl⟩
  rw [hap]
  dsimp only
  have hv0 := hv
  obtain ⟨k1, k2, -, -⟩ := hv0
  dsimp only at k1 k2
  have hns : ∀ n ∈ [o.toNat], n ≤ 1099511627776 := by
    intro n hn
    rcases List.mem_cons.1 hn with rfl | hn
    · omega
    · cases hn
  have e12 : ints (intsN [o.toNat]) = [zv o] := by
    have e1 : ((o.toNat : Nat) : Int) = o := by omega
    show [zv ((o.toNat : Nat) : Int)] = _
    rw [e1]
  have hrs := recD_size k2
  refine hwYE ?_
  refine HL.one (H1.lit (cs := [zv o]) rfl rfl rfl rfl rfl rfl (fun b8 => ?_))
  refine hwYE ?_
  refine HL.one (H1.callx (vs := [.string (mkB 100), .slice (some ⟨b8, 0, none⟩) 1 1]) rfl rfl (fun w' hM => put27_fn (mkB 100) [o.toNat] _ (by decide) hns (by show 1 ≤ 100; decide) w' (by rw [e12]; exact blk_rd (e := 3) (hM.blk (.head _)) rfl)) ?_)
  refine hwYE ?_
  refine HL.one (H1.callk (α := (Option Addr × Nat) × (Option Addr × Nat)) (V := fun _ => zv e) (I := fun _ => True) (H' := fun q => cuH bx bm bj bd b1 b2 q.1.1 q.1.2 q.2.1 q.2.2 m j2 (A.pm b2' (liftP (dropM m o)) :: H)) (vs := [_, .string (recD o)]) rfl rfl
    (fun w' hM => cappend_fn hap hG (hM.sub (Hs.cons (Pick.there (Pick.there Pick.here)) (Hs.cons (Pick.there (Pick.there Pick.here)) (Hs.cons (Pick.there (Pick.there Pick.here)) (Hs.cons (Pick.there (Pick.there Pick.here)) (Hs.cons (Pick.there (Pick.there Pick.here)) (Hs.cons (Pick.there (Pick.there Pick.here)) (Hs.cons (Pick.there (Pick.there Pick.here)) (Hs.cons (Pick.there (Pick.there Pick.here)) ((Hs.refl _).skip)))))))))) hj (by omega)) ?_)
  rintro ⟨⟨a2, c2⟩, ⟨pa2, pc2⟩⟩ -
  dsimp only
  by_cases he : e = 0
  · subst he
    rw [if_pos rfl]
    refine hwYE ?_
    refine HL.one (H1.st (b := bx) rfl rfl (by intro _ h; cases h) (by intro _ h; cases h) rplA (by show 0 < 2; decide) ?_)
    refine hwYE ?_
    exact HX.ret2 rfl rfl rfl fun w' hM => ⟨(b2', (a2, c2), (pa2, pc2)), trivial, rfl, hM.sub (Hs.cons Pick.here (Hs.cons (Pick.there (Pick.there (Pick.there (Pick.there (Pick.there (Pick.there (Pick.there Pick.here))))))) (Hs.cons (Pick.there Pick.here) (Hs.cons (Pick.there Pick.here) (Hs.cons (Pick.there Pick.here) (Hs.cons (Pick.there Pick.here) (Hs.cons (Pick.there Pick.here) (Hs.cons (Pick.there Pick.here) (Hs.refl _).skip))))))))⟩
  · rw [if_neg he]
    refine hwYE ?_
    exact HX.ret2 rfl rfl rfl fun w' hM => ⟨(bm, (a2, c2), (pa2, pc2)), trivial, rfl, hM.sub (Hs.cons Pick.here (Hs.cons Pick.here (Hs.cons Pick.here (Hs.cons Pick.here (Hs.cons Pick.here (Hs.cons Pick.here (Hs.cons Pick.here (Hs.cons Pick.here (Hs.refl _).skip))))))))⟩
end Go.Sx
/- Chapter 27: what a record does: number, text, replay: the walks. -/
namespace Go.Sx
open Go Go.Proofs Go.RowKit
/-- The error of a record that is not right. -/
def CErrG (a : Addr) (w : World) : Prop := w.cell? ⟨0, 0, none⟩ = some (errV a)
theorem CErrG.ext {a : Addr} {w w' : World} (h : CErrG a w) (k : Ext w w') : CErrG a w' := cell_ext k h
/-- What a record does to fragments; none: it is not right. -/
def replayF (m : PM) (s : ByteArray) : Option PM :=
  if s.size = 0 then none else
  match decI s.data.toList 1 with
  | none => none
  | some (z, q) =>
    if sb s 0 = 115 then
      match decI s.data.toList q with
      | none => none
      | some (z2, q2) => match decS s.data.toList q2 with
        | none => none
        | some (r, q3) => if okP (unz z, unz z2) ∧ r.length ≤ 4096 then (if q3 = s.size then some (setM m (unz z, unz z2) (mkBA r)) else none) else none
    else if sb s 0 = 100 then (if okP (unz z, 0) ∧ (dropM m (unz z)).length < m.length then (if q = s.size then some (dropM m (unz z)) else none) else none)
    else none
theorem mkBA_size2 (l : List UInt8) : (mkBA l).size = l.length := by show l.toArray.size = _; rw [List.size_toArray]
theorem decI_le {s : List UInt8} {p : Nat} (hp : p ≤ s.length) {z q : Nat} (h : decI s p = some (z, q)) : p < q ∧ q ≤ s.length := decG_le 9 0 0 (by omega) h
theorem setM_mem {m : PM} {k : PK} {s : ByteArray} {p : PK × ByteArray} (h : p ∈ setM m k s) : p ∈ m ∨ p = (k, s) := by
  induction m with
  | nil => exact .inr (List.mem_singleton.1 h)
  | cons q m ih =>
    obtain ⟨y, u⟩ := q
    simp only [setM] at h
    split at h
    · rcases List.mem_cons.1 h with h | h
      · exact .inr h
      · exact .inl (List.mem_cons_of_mem _ h)
    · rcases List.mem_cons.1 h with h | h
      · exact .inl (by rw [h]; exact List.mem_cons_self ..)
      · rcases ih h with h | h
        · exact .inl (List.mem_cons_of_mem _ h)
        · exact .inr h
theorem setM_fst {m : PM} {k x : PK} {s : ByteArray} (h : x ∈ (setM m k s).map Prod.fst) : x ∈ m.map Prod.fst ∨ x = k := by
  obtain ⟨p, hp, rfl⟩ := List.mem_map.1 h
  rcases setM_mem hp with h | rfl
  · exact .inl (List.mem_map.2 ⟨p, h, rfl⟩)
  · exact .inr rfl
theorem setM_nodup {m : PM} (k : PK) (s : ByteArray) (h : (m.map Prod.fst).Nodup) : ((setM m k s).map Prod.fst).Nodup := by
  induction m with
  | nil => simp [setM]
  | cons q m ih =>
    obtain ⟨y, u⟩ := q
    rw [List.map_cons, List.nodup_cons] at h
    simp only [setM]
    split
    · rename_i e
      rw [List.map_cons, List.nodup_cons]
      exact ⟨by rw [e]; exact h.1, h.2⟩
    · rename_i e
      rw [List.map_cons, List.nodup_cons]
      refine ⟨fun h2 => ?_, ih h.2⟩
      rcases setM_fst h2 with h3 | h3
      · exact h.1 h3
      · exact e h3.symm
theorem dropM_nodup {m : PM} (o : Int) (h : (m.map Prod.fst).Nodup) : ((dropM m o).map Prod.fst).Nodup := List.Nodup.sublist (List.filter_sublist.map _) h
theorem setM_len (m : PM) (k : PK) (s : ByteArray) : (setM m k s).length ≤ m.length + 1 := by
  induction m with
  | nil => exact Nat.le_refl _
  | cons q m ih =>
    obtain ⟨y, u⟩ := q
    simp only [setM]
    split
    · exact Nat.le_succ _
    · exact Nat.succ_le_succ ih
theorem HX.ret1E {P : Program} {N : Nat} {E : Env} {w0 : World} {H : List Atom} {fn : Func} {t : Nat} {v : Value} {R : Ending → World → Prop} (hr : fn.results = #[.tmp t]) (hv : Env.g E t = some v) (h : ∀ w, Mm w0 H w → R (.returned v) w) : HX N [] .ret (bodyPost P fn R) E w0 H := fun w hM a ha =>
  ⟨ha.defers, _, results_tmp hr _ _ _, by rw [Array.getD_eq_getD_getElem?, ha.get _ _ hv]; exact h w hM⟩
attribute [local irreducible] WC WL WX POp Then Again Fn NX W1 WA WO QL RP RA Yld LoopAt HC HL HX HN H1 HA HO HQ HB HP A.blk A.grow A.rd A.obj A.mp AgainH CutH
attribute [local irreducible] A.pm A.mx A.mit sumS
theorem ccheck_fn {w0 w : World} {H : List Atom} {a : Addr} (b : Bool) (hM : Mm w0 H w) (hE : CErrG a w0) :
    Calls Tryz.prog 112 #[.bool b] w (EndP (fun _ : Unit => b = true) (fun _ => .tuple #[]) (fun _ => H) (fun _ : Unit => b = false) (errP a) (fun _ => H) w0) := by
  refine enterE (l := [_]) hM rfl Tryz.ntmps112 rfl ?_
  cases b
  · refine hwYE ?_
    refine HL.one (H1.ld0 rfl hE rfl ?_)
    refine hwYE ?_
    refine HL.one (H1.panic rfl ?_)
    exact HX.panE fun w' hM => .inr ⟨(), rfl, rfl, hM⟩
  · refine hwYE ?_
    exact HX.end0E rfl fun w' hM => .inl ⟨(), rfl, rfl, hM⟩
theorem number27_fn {w0 w : World} {H : List Atom} {br p : Nat} {ea : Addr} (s : ByteArray) (hE : CErrG ea w0) (hM : Mm w0 (A.blk br [.string s, zv (p : Int)] 190 :: H) w) (hp : p ≤ s.size) (hs : s.size ≤ 5000000) :
    Calls Tryz.prog 113 #[.pointer (some ⟨br, 0, none⟩)] w (EndP (fun x : Nat × Nat => decI s.data.toList p = some x) (fun x => zv (unz x.1)) (fun x => A.blk br [.string s, zv (x.2 : Int)] 190 :: H)
      (fun _ : Unit => decI s.data.toList p = none) (errP ea) (fun _ => H) w0) := by
  have hint := fun w' => int_fn s p hp hs w'
  refine enterE (l := [_]) hM rfl Tryz.ntmps113 rfl ?_
  refine hwYE ?_
  cases hd : decI s.data.toList p with
  | none =>
    rw [hd] at hint
    refine HC.anyC ([(⟨br, 0, none⟩, .string s), (⟨br, 1, none⟩, zv (p : Int))]) rfl ?_
    refine HB.pa 0 rfl ?_
    refine HB.pa 1 rfl ?_ (POp.nilCheck rfl)
    refine HB.pa 2 rfl ?_
    refine HB.ld 3 rfl rfl memD ?_
    refine HB.pa 4 rfl ?_
    refine HB.pa 5 rfl ?_ (POp.nilCheck rfl)
    refine HB.pa 6 rfl ?_
    refine HB.ld 7 rfl rfl memD ?_
    refine HB.all (by (exact Keep.blk (b := br) memD rfl (Keep.blk (b := br) memD rfl Keep.nil))) [8] (by kernel_rfl) rfl ⟨⟨_, rfl, ?_⟩, trivial⟩
    refine HP.one ?_
    refine H1.call0 (vs := [.string s, zv (p : Int)]) rfl rfl (fun w' _ => hint w') ?_
    apply HB.fold
    refine HB.pa 9 rfl ?_
    refine HB.pa 10 rfl ?_
    refine HB.pa 11 rfl ?_
    refine HB.pa 12 rfl ?_
    refine HB.pa 13 rfl ?_
    refine HB.pa 14 rfl ?_
    refine HB.pa 15 rfl ?_
    refine HB.done (by (exact Keep.blk (b := br) memD rfl (Keep.blk (b := br) memD rfl Keep.nil))) (by kernel_rfl) ?_
    refine hwYE ?_
    refine HL.one (H1.callE (vs := [.bool false]) rfl rfl (fun w' hM => ccheck_fn _ hM hE) (fun _ hb2 => ?_) (fun _ hb2 => ?_))
    · cases hb2
    repeat (first | apply HX.p_then | apply HX.p_block | apply HX.p_again)
    exact HX.panE fun w' hM => .inr ⟨(), rfl, rfl, hM.tail⟩
  | some x =>
    obtain ⟨z, q⟩ := x
    rw [hd] at hint
    refine HC.anyC ([(⟨br, 0, none⟩, .string s), (⟨br, 1, none⟩, zv (p : Int))]) rfl ?_
    refine HB.pa 0 rfl ?_
    refine HB.pa 1 rfl ?_ (POp.nilCheck rfl)
    refine HB.pa 2 rfl ?_
    refine HB.ld 3 rfl rfl memD ?_
    refine HB.pa 4 rfl ?_
    refine HB.pa 5 rfl ?_ (POp.nilCheck rfl)
    refine HB.pa 6 rfl ?_
    refine HB.ld 7 rfl rfl memD ?_
    refine HB.all (by (exact Keep.blk (b := br) memD rfl (Keep.blk (b := br) memD rfl Keep.nil))) [8] (by kernel_rfl) rfl ⟨⟨_, rfl, ?_⟩, trivial⟩
    refine HP.one ?_
    refine H1.call0 (vs := [.string s, zv (p : Int)]) rfl rfl (fun w' _ => hint w') ?_
    apply HB.fold
    refine HB.pa 9 rfl ?_
    refine HB.pa 10 rfl ?_
    refine HB.pa 11 rfl ?_
    refine HB.pa 12 rfl ?_
    refine HB.pa 13 rfl ?_
    refine HB.pa 14 rfl ?_
    refine HB.pa 15 rfl ?_
    refine HB.done (by (exact Keep.blk (b := br) memD rfl (Keep.blk (b := br) memD rfl Keep.nil))) (by kernel_rfl) ?_
    refine hwYE ?_
    refine HL.one (H1.callE (vs := [.bool true]) rfl rfl (fun w' hM => ccheck_fn _ hM hE) (fun _ hb2 => ?_) (fun _ hb2 => ?_))
    rotate_left
    · cases hb2
    refine hwYE ?_
    refine HL.one (H1.st rfl rfl (by intro _ h; cases h) (by intro _ h; cases h) rplA (by show 1 < 2; decide) ?_)
    refine hwYE ?_
    exact HX.ret1E rfl rfl fun w' hM => .inl ⟨(z, q), rfl, rfl, hM⟩
theorem text27_fn {w0 w : World} {H : List Atom} {br p : Nat} {ea : Addr} (s : ByteArray) (hE : CErrG ea w0) (hM : Mm w0 (A.blk br [.string s, zv (p : Int)] 190 :: H) w) (hp : p ≤ s.size) (hs : s.size ≤ 5000000) :
    Calls Tryz.prog 114 #[.pointer (some ⟨br, 0, none⟩)] w (EndP (fun x : List UInt8 × Nat => decS s.data.toList p = some x) (fun x => .string (mkBA x.1)) (fun x => A.blk br [.string s, zv (x.2 : Int)] 190 :: H)
      (fun _ : Unit => decS s.data.toList p = none) (errP ea) (fun _ => H) w0) := by
  have hint := fun w' => string_fn s p hp hs w'
  refine enterE (l := [_]) hM rfl Tryz.ntmps114 rfl ?_
  refine hwYE ?_
  cases hd : decS s.data.toList p with
  | none =>
    rw [hd] at hint
    refine HC.anyC ([(⟨br, 0, none⟩, .string s), (⟨br, 1, none⟩, zv (p : Int))]) rfl ?_
    refine HB.pa 0 rfl ?_
    refine HB.pa 1 rfl ?_ (POp.nilCheck rfl)
    refine HB.pa 2 rfl ?_
    refine HB.ld 3 rfl rfl memD ?_
    refine HB.pa 4 rfl ?_
    refine HB.pa 5 rfl ?_ (POp.nilCheck rfl)
    refine HB.pa 6 rfl ?_
    refine HB.ld 7 rfl rfl memD ?_
    refine HB.all (by (exact Keep.blk (b := br) memD rfl (Keep.blk (b := br) memD rfl Keep.nil))) [8] (by kernel_rfl) rfl ⟨⟨_, rfl, ?_⟩, trivial⟩
    refine HP.one ?_
    refine H1.call0 (vs := [.string s, zv (p : Int)]) rfl rfl (fun w' _ => hint w') ?_
    apply HB.fold
    refine HB.pa 9 rfl ?_
    refine HB.pa 10 rfl ?_
    refine HB.pa 11 rfl ?_
    refine HB.pa 12 rfl ?_
    refine HB.pa 13 rfl ?_
    refine HB.pa 14 rfl ?_
    refine HB.pa 15 rfl ?_
    refine HB.done (by (exact Keep.blk (b := br) memD rfl (Keep.blk (b := br) memD rfl Keep.nil))) (by kernel_rfl) ?_
    refine hwYE ?_
    refine HL.one (H1.callE (vs := [.bool false]) rfl rfl (fun w' hM => ccheck_fn _ hM hE) (fun _ hb2 => ?_) (fun _ hb2 => ?_))
    · cases hb2
    repeat (first | apply HX.p_then | apply HX.p_block | apply HX.p_again)
    exact HX.panE fun w' hM => .inr ⟨(), rfl, rfl, hM.tail⟩
  | some x =>
    obtain ⟨z, q⟩ := x
    rw [hd] at hint
    refine HC.anyC ([(⟨br, 0, none⟩, .string s), (⟨br, 1, none⟩, zv (p : Int))]) rfl ?_
    refine HB.pa 0 rfl ?_
    refine HB.pa 1 rfl ?_ (POp.nilCheck rfl)
    refine HB.pa 2 rfl ?_
    refine HB.ld 3 rfl rfl memD ?_
    refine HB.pa 4 rfl ?_
    refine HB.pa 5 rfl ?_ (POp.nilCheck rfl)
    refine HB.pa 6 rfl ?_
    refine HB.ld 7 rfl rfl memD ?_
    refine HB.all (by (exact Keep.blk (b := br) memD rfl (Keep.blk (b := br) memD rfl Keep.nil))) [8] (by kernel_rfl) rfl ⟨⟨_, rfl, ?_⟩, trivial⟩
    refine HP.one ?_
    refine H1.call0 (vs := [.string s, zv (p : Int)]) rfl rfl (fun w' _ => hint w') ?_
    apply HB.fold
    refine HB.pa 9 rfl ?_
    refine HB.pa 10 rfl ?_
    refine HB.pa 11 rfl ?_
    refine HB.pa 12 rfl ?_
    refine HB.pa 13 rfl ?_
    refine HB.pa 14 rfl ?_
    refine HB.pa 15 rfl ?_
    refine HB.done (by (exact Keep.blk (b := br) memD rfl (Keep.blk (b := br) memD rfl Keep.nil))) (by kernel_rfl) ?_
    refine hwYE ?_
    refine HL.one (H1.callE (vs := [.bool true]) rfl rfl (fun w' hM => ccheck_fn _ hM hE) (fun _ hb2 => ?_) (fun _ hb2 => ?_))
    rotate_left
    · cases hb2
    refine hwYE ?_
    refine HL.one (H1.st rfl rfl (by intro _ h; cases h) (by intro _ h; cases h) rplA (by show 1 < 2; decide) ?_)
    refine hwYE ?_
    exact HX.ret1E rfl rfl fun w' hM => .inl ⟨(z, q), rfl, rfl, hM⟩
set_option maxHeartbeats 2000000 in
theorem replay_fn {w0 w : World} {H : List Atom} {b : Nat} {m : PM} {ea : Addr} (s : ByteArray) (hE : CErrG ea w0) (hM : Mm w0 (A.pm b (liftP m) :: H) w) (hs : s.size ≤ 5000000) (hk : (m.map Prod.fst).Nodup) (hl : m.length ≤ 900000) :
    Calls Tryz.prog 63 #[.map (some b), .string s] w (EndP (fun m2 : PM => replayF m s = some m2) (fun _ => .tuple #[]) (fun m2 => A.pm b (liftP m2) :: H) (fun _ : Unit => replayF m s = none) (errP ea) (fun _ => H) w0) := by
  have hlen : s.data.toList.length = s.size := by rw [Array.length_toList]; rfl
  refine enterE (l := [_, _]) hM rfl Tryz.ntmps63 rfl ?_
  refine hwYE ?_
  refine HL.one (H1.callE (vs := [.bool (decide (¬ s = ByteArray.mk #[]))]) rfl rfl (fun w' hM => ccheck_fn _ hM hE) (fun _ hb2 => ?_) (fun _ hb2 => ?_))
  rotate_left
  · have he : s = ByteArray.mk #[] := Classical.not_not.1 (of_decide_eq_false hb2)
    repeat (first | apply HX.p_then | apply HX.p_block | apply HX.p_again)
    exact HX.panE fun w' hM => .inr ⟨(), by unfold replayF; rw [if_pos (by rw [he]; rfl)], rfl, hM.tail⟩
  have hne : ¬ s = ByteArray.mk #[] := of_decide_eq_true hb2
  have hs0 : 0 < s.size := by
    rcases Nat.eq_zero_or_pos s.size with h | h
    · exact absurd (ba_ext (List.eq_nil_of_length_eq_zero (by rw [hlen]; exact h))) hne
    · exact h
  have hF0 : ∀ {r}, (match decI s.data.toList 1 with
    | none => none
    | some (z, q) =>
      if sb s 0 = 115 then
        match decI s.data.toList q with
        | none => none
        | some (z2, q2) => match decS s.data.toList q2 with
          | none => none
          | some (r, q3) => if okP (unz z, unz z2) ∧ r.length ≤ 4096 then (if q3 = s.size then some (setM m (unz z, unz z2) (mkBA r)) else none) else none
      else if sb s 0 = 100 then (if okP (unz z, 0) ∧ (dropM m (unz z)).length < m.length then (if q = s.size then some (dropM m (unz z)) else none) else none)
      else none) = r → replayF m s = r := fun h => by unfold replayF; rw [if_neg (by omega)]; exact h
  refine hwYE ?_
  refine HL.build (cs := [.string s, zv 1]) rfl rfl rfl ?_
  refine hwYE ?_
  refine HL.one (H1.boxAgg (cs := [.string s, zv 1]) rfl rfl (fun br => ?_))
  refine hwYE ?_
  refine HL.one (H1.callE (vs := [.pointer (some ⟨br, 0, none⟩)]) rfl rfl (fun w' hM => number27_fn (p := 1) s hE hM (by omega) hs) (fun x hx => ?_) (fun _ hb2 => ?_))
  rotate_left
  · repeat (first | apply HX.p_then | apply HX.p_block | apply HX.p_again)
    exact HX.panE fun w' hM => .inr ⟨(), hF0 (by rw [hb2]), rfl, hM.tail⟩
  obtain ⟨z, q⟩ := x
  rw [hx] at hF0
  dsimp only at hF0 ⊢
  have hq := decI_le (by omega) hx
  rw [hlen] at hq
  obtain ⟨o, ho⟩ : ∃ o, o = unz z := ⟨_, rfl⟩
  rw [← ho] at hF0 ⊢
  refine hwYE ?_
  refine HL.build (cs := [zv o, zv 0]) rfl rfl rfl ?_
  refine hwYE ?_
  refine HL.one (H1.alloc (cs := [zv 0, zv 0]) rfl rfl (fun b5 => ?_))
  refine hwYE ?_
  refine HL.one (H1.stAgg (cs := [zv 0, zv 0]) (vs := [zv o, zv 0]) rfl rfl rfl (by intro v hv; rcases List.mem_cons.1 hv with rfl | hv; rfl; rcases List.mem_cons.1 hv with rfl | hv; rfl; cases hv) rplA rfl ?_)
  refine hnYE ?_
  by_cases h1 : sb s 0 = 115
  · have h1' : ((sb s 0 : Nat) : Int) = 115 := by omega
    rw [if_pos h1] at hF0
    refine hwYE ?_
    refine HL.one (H1.callE (vs := [.pointer (some ⟨br, 0, none⟩)]) rfl rfl (fun w' hM => number27_fn (p := q) s hE (hM.sub (Hs.cons (Pick.there Pick.here) (Hs.refl _))) (by omega) hs) (fun x hx2 => ?_) (fun _ hb2 => ?_))
    rotate_left
    · repeat (first | apply HX.p_then | apply HX.p_block | apply HX.p_again)
      exact HX.panE fun w' hM => .inr ⟨(), hF0 (by rw [hb2]), rfl, hM.tail.tail⟩
    obtain ⟨z2, q2⟩ := x
    rw [hx2] at hF0
    dsimp only at hF0 ⊢
    have hq2 := decI_le (by omega) hx2
    rw [hlen] at hq2
    obtain ⟨f, hf⟩ : ∃ f, f = unz z2 := ⟨_, rfl⟩
    rw [← hf] at hF0 ⊢
    refine hwYE ?_
    refine HL.one (H1.st (b := b5) rfl rfl (by intro _ h; cases h) (by intro _ h; cases h) rplA (by show 1 < 2; decide) ?_)
    refine hwYE ?_
    refine HL.one (H1.callE (vs := [.pointer (some ⟨br, 0, none⟩)]) rfl rfl (fun w' hM => text27_fn (p := q2) s hE hM (by omega) hs) (fun x hx3 => ?_) (fun _ hb2 => ?_))
    rotate_left
    · repeat (first | apply HX.p_then | apply HX.p_block | apply HX.p_again)
      exact HX.panE fun w' hM => .inr ⟨(), hF0 (by rw [hb2]), rfl, hM.tail.tail⟩
    obtain ⟨r, q3⟩ := x
    rw [hx3] at hF0
    dsimp only at hF0 ⊢
    have hq3 := decS_le hx3
    rw [hlen] at hq3
    have hrs := mkBA_size2 r
    refine hwYE ?_
    refine HL.one (H1.ldAgg (vs := [zv o, zv f]) rfl memA rfl (fun i v hv => by show [zv o, zv f][0 + i]? = _; rw [Nat.zero_add]; exact hv) rfl ?_)
    refine hwYE ?_
    refine HL.one (H1.callx (vs := [pkV (o, f)]) rfl rfl (fun w' _ => isValid_fn (o, f) w') ?_)
    by_cases hok : okP (o, f) ∧ r.length ≤ 4096
    rotate_left
    · rw [if_neg hok] at hF0
      by_cases hv : okP (o, f)
      · have hl2 : ¬ ((mkBA r).size : Int) ≤ 4096 := fun h => hok ⟨hv, by omega⟩
        rw [decide_eq_true hv]
        refine hwYE ?_
        rw [decide_eq_false hl2]
        refine HL.one (H1.callE (vs := [.bool false]) rfl rfl (fun w' hM => ccheck_fn _ hM hE) (fun _ hb2 => by cases hb2) (fun _ hb2 => ?_))
        repeat (first | apply HX.p_then | apply HX.p_block | apply HX.p_again)
        exact HX.panE fun w' hM => .inr ⟨(), hF0 rfl, rfl, hM.tail.tail.tail⟩
      · rw [decide_eq_false hv]
        refine hwYE ?_
        refine HL.one (H1.callE (vs := [.bool false]) rfl rfl (fun w' hM => ccheck_fn _ hM hE) (fun _ hb2 => by cases hb2) (fun _ hb2 => ?_))
        repeat (first | apply HX.p_then | apply HX.p_block | apply HX.p_again)
        exact HX.panE fun w' hM => .inr ⟨(), hF0 rfl, rfl, hM.tail.tail.tail⟩
    rw [if_pos hok] at hF0
    have hl2 : ((mkBA r).size : Int) ≤ 4096 := by have := hok.2; omega
    rw [decide_eq_true hok.1]
    refine hwYE ?_
    rw [decide_eq_true hl2]
    refine HL.one (H1.callE (vs := [.bool true]) rfl rfl (fun w' hM => ccheck_fn _ hM hE) (fun _ hb2 => ?_) (fun _ hb2 => by cases hb2))
    refine hwYE ?_
    refine HL.one (H1.ldAgg (vs := [zv o, zv f]) rfl memA rfl (fun i v hv => by show [zv o, zv f][0 + i]? = _; rw [Nat.zero_add]; exact hv) rfl ?_)
    refine hwYE ?_
    refine HL.one (H1.pmset (n := (o, f)) (v := .string (mkBA r)) rfl rfl rfl rplA ?_)
    rw [msetP_lift]
    refine hwYE ?_
    refine HL.one (H1.callE (vs := [.bool (decide ((q3 : Int) = (s.size : Int)))]) rfl rfl (fun w' hM => ccheck_fn _ hM hE) (fun _ hb2 => ?_) (fun _ hb2 => ?_))
    rotate_left
    · repeat (first | apply HX.p_then | apply HX.p_block | apply HX.p_again)
      exact HX.panE fun w' hM => .inr ⟨(), hF0 (by rw [if_neg (fun h => of_decide_eq_false hb2 (by omega))]), rfl, hM.tail.tail.tail⟩
    have hfin : q3 = s.size := by have h := of_decide_eq_true hb2; omega
    refine hwYE ?_
    exact HX.end0E rfl fun w' hM => .inl ⟨_, hF0 (by rw [if_pos hfin]), rfl, hM.tail.tail⟩
  have h1' : ¬ ((sb s 0 : Nat) : Int) = 115 := by omega
  rw [if_neg h1] at hF0
  by_cases h2 : sb s 0 = 100
  rotate_left
  · have h2' : ¬ ((sb s 0 : Nat) : Int) = 100 := by omega
    rw [if_neg h2] at hF0
    refine hwYE ?_
    refine HL.one (H1.callE (vs := [.bool false]) rfl rfl (fun w' hM => ccheck_fn _ hM hE) (fun _ hb2 => by cases hb2) (fun _ hb2 => ?_))
    repeat (first | apply HX.p_then | apply HX.p_block | apply HX.p_again)
    exact HX.panE fun w' hM => .inr ⟨(), hF0 rfl, rfl, hM.tail.tail.tail⟩
  have h2' : ((sb s 0 : Nat) : Int) = 100 := by omega
  have hdl := dropM_len m o
  rw [if_pos h2] at hF0
  refine hwYE ?_
  refine HL.one (H1.ldAgg (vs := [zv o, zv 0]) rfl memA rfl (fun i v hv => by rw [Nat.zero_add]; exact hv) rfl ?_)
  refine hwYE ?_
  refine HL.one (H1.callx (vs := [pkV (o, 0)]) rfl rfl (fun w' _ => isValid_fn (o, 0) w') ?_)
  by_cases hv : okP (o, 0)
  rotate_left
  · rw [if_neg (fun h => hv h.1)] at hF0
    rw [decide_eq_false hv]
    refine hwYE ?_
    refine HL.one (H1.callE (vs := [.bool false]) rfl rfl (fun w' hM => ccheck_fn _ hM hE) (fun _ hb2 => by cases hb2) (fun _ hb2 => ?_))
    repeat (first | apply HX.p_then | apply HX.p_block | apply HX.p_again)
    exact HX.panE fun w' hM => .inr ⟨(), hF0 rfl, rfl, hM.tail.tail.tail⟩
  rw [decide_eq_true hv]
  refine hwYE ?_
  refine HL.one (H1.callk (α := Unit) (V := fun _ => zv ((m.length : Int) - ((dropM m o).length : Int))) (I := fun _ => True) (H' := fun _ => A.pm b (liftP (dropM m o)) :: A.blk b5 [zv o, zv 0] 76 :: A.blk br [.string s, zv (q : Int)] 190 :: H) (vs := [.map (some b), _]) rfl rfl
    (fun w' hM => dropP_fn (hM.sub (Hs.cons (Pick.there (Pick.there Pick.here)) (Hs.refl _))) hk (by omega)) ?_)
  rintro - -
  refine hwYE ?_
  refine HL.one (H1.callE (vs := [.bool (decide (0 < (m.length : Int) - ((dropM m o).length : Int)))]) rfl rfl (fun w' hM => ccheck_fn _ hM hE) (fun _ hb2 => ?_) (fun _ hb2 => ?_))
  rotate_left
  · repeat (first | apply HX.p_then | apply HX.p_block | apply HX.p_again)
    exact HX.panE fun w' hM => .inr ⟨(), hF0 (by rw [if_neg (fun h => of_decide_eq_false hb2 (by have := h.2; omega))]), rfl, hM.tail.tail.tail⟩
  have hlt : (dropM m o).length < m.length := by have h := of_decide_eq_true hb2; omega
  rw [if_pos ⟨hv, hlt⟩] at hF0
  refine hwYE ?_
  refine HL.one (H1.callE (vs := [.bool (decide ((q : Int) = (s.size : Int)))]) rfl rfl (fun w' hM => ccheck_fn _ hM hE) (fun _ hb2 => ?_) (fun _ hb2 => ?_))
  rotate_left
  · repeat (first | apply HX.p_then | apply HX.p_block | apply HX.p_again)
    exact HX.panE fun w' hM => .inr ⟨(), hF0 (by rw [if_neg (fun h => of_decide_eq_false hb2 (by omega))]), rfl, hM.tail.tail.tail⟩
  have hfin : q = s.size := by have h := of_decide_eq_true hb2; omega
  refine hwYE ?_
  exact HX.end0E rfl fun w' hM => .inl ⟨_, hF0 (by rw [if_pos hfin]), rfl, hM.sub (Hs.cons Pick.here (Hs.refl _).skip.skip)⟩
end Go.Sx

