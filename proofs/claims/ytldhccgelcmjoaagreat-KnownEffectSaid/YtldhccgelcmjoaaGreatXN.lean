/- Chapter 21: what is in effect: a map by keys; maps.DeleteFunc. -/
import Derived.Test.YtldhccgelcmjoaaGreatXM
namespace Go.Sx
open Go Go.Proofs Go.RowKit
theorem Mm.head {w0 w : World} {a a' : Atom} {H : List Atom} (h : Mm w0 (a :: H) w) (hfp : a'.fp = a.fp) (hp : a'.p w) : Mm w0 (a' :: H) w := by
  refine ⟨h.ext, fun x hx => ?_, ?_, fun b hb => ?_⟩
  · rcases List.mem_cons.1 hx with rfl | hx
    · exact hp
    · exact h.all x (List.mem_cons_of_mem _ hx)
  · have := h.nd
    rw [fps_cons] at this ⊢
    rwa [hfp]
  · refine h.rng b ?_
    rw [fps_cons] at hb ⊢
    rwa [hfp] at hb
/-- A map whose entries are known one by one. -/
def A.mx (b : Nat) (es : Array MapEntry) (clk : Nat) : Atom := A.obj b fun o => o = .map es clk
theorem Mm.mxms {w0 w : World} {b clk : Nat} {es : Array MapEntry} {L : List (ByteArray × Value)} {H : List Atom} (h : Mm w0 (A.mx b es clk :: H) w) (hl : MS L es clk) : Mm w0 (A.ms b L :: H) w := h.head rfl (by
  obtain ⟨o, h1, rfl⟩ : ∃ o, w.heap[b]? = some o ∧ o = .map es clk := h.all _ (List.Mem.head _)
  exact ⟨_, h1, es, clk, rfl, hl⟩)
theorem Mm.mx {w0 w : World} {b clk : Nat} {es : Array MapEntry} {H : List Atom} (h : Mm w0 H w) (hm : A.mx b es clk ∈ H) : w.heap[b]? = some (.map es clk) := by
  obtain ⟨o, h1, rfl⟩ : ∃ o, w.heap[b]? = some o ∧ o = .map es clk := h.all _ hm
  exact h1
theorem stamp_inj : ∀ {es : List MapEntry}, (es.map (·.born)).Nodup → ∀ {e e' : MapEntry}, e ∈ es → e' ∈ es → e.born = e'.born → e = e'
  | [], _, _, _, he, _, _ => absurd he (by simp)
  | x :: es, h, e, e', he, he', hb => by
    rw [List.map_cons, List.nodup_cons] at h
    rcases List.mem_cons.1 he with h1 | h1 <;> rcases List.mem_cons.1 he' with h2 | h2
    · rw [h1, h2]
    · exact absurd (List.mem_map.2 ⟨e', h2, by rw [← hb, h1]⟩) h.1
    · exact absurd (List.mem_map.2 ⟨e, h1, by rw [hb, h2]⟩) h.1
    · exact stamp_inj h.2 h1 h2 hb
theorem map_eraseIdx {α β : Type} (f : α → β) : ∀ (l : List α) (i : Nat), (l.map f).eraseIdx i = (l.eraseIdx i).map f
  | [], _ => rfl
  | _ :: _, 0 => rfl
  | a :: l, i + 1 => by
    simp only [List.map_cons, List.eraseIdx_cons_succ]
    rw [map_eraseIdx f l i]
theorem MS.erase {L : List (ByteArray × Value)} {es : Array MapEntry} {clk : Nat} (h : MS L es clk) (i : Nat) : MS (L.eraseIdx i) (es.eraseIdxIfInBounds i) clk := by
  refine ⟨?_, fun e he => ?_, ?_⟩
  · rw [Array.toList_eraseIdxIfInBounds, ← map_eraseIdx, h.ents, map_eraseIdx]
  · rw [Array.toList_eraseIdxIfInBounds] at he
    exact h.born e (List.mem_of_mem_eraseIdx he)
  · rw [Array.toList_eraseIdxIfInBounds]
    exact List.Nodup.sublist ((List.eraseIdx_sublist _ i).map _) h.nd
theorem mleft_erase (es : Array MapEntry) (i : Nat) (seen : Array Nat) : mleft (es.eraseIdxIfInBounds i) seen ≤ mleft es seen := by
  unfold mleft
  rw [Array.toList_eraseIdxIfInBounds]
  exact ((List.eraseIdx_sublist _ i).filter _).length_le
/-- Records by their keys, as a map holds them. -/
def liftM (m : List (List UInt8 × Rc)) : List (ByteArray × Value) := m.map fun p => ((⟨p.1.toArray⟩ : ByteArray), recV p.2)
theorem ba_inj {x y : List UInt8} (h : (⟨x.toArray⟩ : ByteArray) = ⟨y.toArray⟩) : x = y := by
  injection h with h
  exact List.toArray_inj h
theorem midxS_no {l : List (ByteArray × Value)} {x : ByteArray} (h : midxS l x = none) : ∀ p ∈ l, p.1 ≠ x := by
  induction l with
  | nil => intro p hp; simp at hp
  | cons q l ih =>
    obtain ⟨y, u⟩ := q
    simp only [midxS] at h
    by_cases hxy : x = y
    · rw [if_pos hxy] at h; cases h
    · rw [if_neg hxy, Option.map_eq_none_iff] at h
      intro p hp
      rcases List.mem_cons.1 hp with rfl | hp
      · exact fun e => hxy e.symm
      · exact ih h p hp
theorem midx_lift_no {m : List (List UInt8 × Rc)} {x : List UInt8} (h : midxS (liftM m) ⟨x.toArray⟩ = none) : ∀ p ∈ m, p.1 ≠ x := fun p hp e =>
  midxS_no h _ (List.mem_map.2 ⟨p, hp, rfl⟩) (by rw [e])
theorem liftM_get {m : List (List UInt8 × Rc)} {i : Nat} {x : List UInt8} {u : Value} (h : (liftM m)[i]? = some (⟨x.toArray⟩, u)) : ∃ s, u = recV s ∧ m[i]? = some (x, s) := by
  unfold liftM at h
  rw [List.getElem?_map, Option.map_eq_some_iff] at h
  obtain ⟨⟨y, s⟩, h1, h2⟩ := h
  injection h2 with h2 h3
  have := ba_inj h2
  subst this
  exact ⟨s, h3.symm, h1⟩
theorem midx_lift_some {m : List (List UInt8 × Rc)} {x : List UInt8} {i : Nat} {u : Value} (h : midxS (liftM m) ⟨x.toArray⟩ = some (i, u)) : ∃ s, u = recV s ∧ m[i]? = some (x, s) :=
  liftM_get (midxS_some u h).2.2
theorem midx_lift {m : List (List UInt8 × Rc)} (hk : (m.map Prod.fst).Nodup) {p : List UInt8 × Rc} (hp : p ∈ m) : ∃ i, m[i]? = some p ∧ midxS (liftM m) ⟨p.1.toArray⟩ = some (i, recV p.2) := by
  cases h : midxS (liftM m) ⟨p.1.toArray⟩ with
  | none => exact absurd rfl (midx_lift_no h p hp)
  | some q =>
    obtain ⟨i, u⟩ := q
    obtain ⟨s, rfl, h2⟩ := midx_lift_some h
    obtain ⟨j, hj⟩ := List.mem_iff_getElem?.1 hp
    have n1 : (m.map Prod.fst)[i]? = some p.1 := by simp [h2]
    have n2 : (m.map Prod.fst)[j]? = some p.1 := by simp [hj]
    have hlt : i < (m.map Prod.fst).length := (List.getElem?_eq_some_iff.1 n1).1
    have e := (List.getElem?_inj hlt hk).1 (n1.trans n2.symm)
    subst e
    rw [hj] at h2
    have e2 := Option.some.inj h2
    refine ⟨i, hj, ?_⟩
    rw [e2]
theorem mem_erase_at {m : List (List UInt8 × Rc)} (hk : (m.map Prod.fst).Nodup) {i : Nat} {p : List UInt8 × Rc} (hi : m[i]? = some p) (q : List UInt8 × Rc) : q ∈ m.eraseIdx i ↔ q ∈ m ∧ q ≠ p := by
  rw [List.mem_eraseIdx_iff_getElem?]
  constructor
  · rintro ⟨j, hne, hj⟩
    refine ⟨List.mem_of_getElem? hj, fun e => hne ?_⟩
    subst e
    have n1 : (m.map Prod.fst)[i]? = some q.1 := by simp [hi]
    have n2 : (m.map Prod.fst)[j]? = some q.1 := by simp [hj]
    have hlt : j < (m.map Prod.fst).length := (List.getElem?_eq_some_iff.1 n2).1
    exact (List.getElem?_inj hlt hk).1 (n2.trans n1.symm)
  · rintro ⟨hq, hne⟩
    obtain ⟨j, hj⟩ := List.mem_iff_getElem?.1 hq
    refine ⟨j, fun e => hne ?_, hj⟩
    subst e
    rw [hi] at hj
    exact (Option.some.inj hj).symm
section
variable {P : Program} {r : Option Nat} {N : Nat} {ds : List Deferred} {Q : Post} {E : Env} {w0 : World} {H : List Atom} {next : Act → World → Prop} {g : Option (Nat × Bool)}
variable {t ty k e : TypeId} {pos : String} {af : Array Edge} {x y : Operand}
theorem HL.openms {ol l : List Oper} {b : Nat} {L : List (ByteArray × Value)} (h : ∀ es clk, MS L es clk → HL P r N ds ol l Q E w0 (A.mx b es clk :: H)) : HL P r N ds ol l Q E w0 (A.ms b L :: H) := fun w hM => by
  obtain ⟨o, h1, es, clk, rfl, h2⟩ : ∃ o, w.heap[b]? = some o ∧ msP L o := hM.all _ (List.Mem.head _)
  exact h es clk h2 w (hM.head rfl ⟨_, h1, rfl⟩)
theorem H1.msdel {u : TypeId} {b clk i : Nat} {es : Array MapEntry} {L : List (ByteArray × Value)} {n : ByteArray} {v : Value} {H' : List Atom} [ht : UTy P t (.map k e)] [hk : UTy P k .string] (hx : Env.ev E x = some (.map (some b))) (hy : Env.ev E y = some (.string n))
    (hl : MS L es clk) (hi : midxS L n = some (i, v)) (hr : Rpl (A.mx b es clk) (A.mx b (es.eraseIdxIfInBounds i) clk) H H') (h : HN N ds next E w0 H') :
    H1 P r N ds next ⟨none, .call ⟨.builtin .delete, #[x, y], #[t, u]⟩, ty, pos, af, g⟩ Q E w0 H := fun w hM => by
  have hb := hM.mx hr.mem
  have hlt := (Array.getElem?_eq_some_iff.1 hb).1
  have hf := run_findKey_str (P := P) (w := w) hk.is n es.toList L hl.ents
  rw [hi] at hf
  have hrun : (Builtin.delete_ #[t, u] ty #[.map (some b), .string n]).run P w = .ok (.tuple #[]) (w.putObj b (.map (es.eraseIdxIfInBounds i) clk)) := by
    unfold Builtin.delete_
    simp [Sem.run_bind, run_underlying ht.is, Result.andThen, run_getMap hb, run_checkKey_str hk.is _ 9999 n, hf, run_setMap _ hb]
  refine W1.run (v := .tuple #[]) (w' := w.putObj b (.map (es.eraseIdxIfInBounds i) clk)) (fun a ha => ?_) rfl rfl (h _ (hM.turn hr rfl rfl rfl (by simp) (fun k _ hk' => ?_) ⟨_, World.putObj_heap_same hlt, rfl⟩ (by simp [A.mx, A.obj]) fun b' hb' => .inl hb'))
  · simp only [execOp, resolve, invoke, Go.builtin, Sem.run_bind, Sem.run_pure, Result.andThen, List.map_toArray, List.map_cons, List.map_nil, ha.ev hx, ha.ev hy, hrun]
  · exact World.putObj_heap_other (by simpa [A.mx, A.obj] using hk')
end
attribute [local irreducible] WC WL WX POp Then Again Fn NX W1 WA WO QL RP RA Yld LoopAt HC HL HX HN H1 HA HO HQ HB HP A.blk A.grow A.rd A.obj A.mp AgainH CutH
attribute [local irreducible] A.ms A.mx A.mit
theorem effect1_fn (k : ByteArray) (r : Rc) (w : World) : Fn Tryz.prog 49 #[.string k, recV r] w fun v w' => v = .bool r.gone ∧ Ext w w' := by
  refine enterH (l := [_, _]) rfl Tryz.ntmps49 rfl ?_
  repeat' (first | apply HL.fold | apply HA.fold | apply HL.nil | apply HX.n_then | apply HC.seq | apply HC.region | refine HL.pa ?_ | refine HL.ga rfl ?_ | refine HL.na rfl ?_ | refine HL.nu rfl rfl ?_ | apply HC.block | apply HC.skip | apply HC.exit | apply HC.ret | apply HX.e_block | refine HX.e_other rfl ?_ | apply HX.e_then | apply HX.e_again | apply HX.n_block | apply HX.r_then | apply HX.r_block | apply HX.r_again | refine HC.cond_yes rfl ?_ | refine HC.cond_no rfl ?_ | refine HL.one (H1.ldb rfl memA rfl rfl ?_) | refine HC.cond rfl (fun hc => ?_) (fun hc => ?_) | refine HC.cond_b rfl (fun hc => ?_) (fun hc => ?_))
  refine HL.one (H1.boxAgg (cs := rcells r) rfl rfl (fun b1 => ?_))
  repeat' (first | apply HL.fold | apply HA.fold | apply HL.nil | apply HX.n_then | apply HC.seq | apply HC.region | refine HL.pa ?_ | refine HL.ga rfl ?_ | refine HL.na rfl ?_ | refine HL.nu rfl rfl ?_ | apply HC.block | apply HC.skip | apply HC.exit | apply HC.ret | apply HX.e_block | refine HX.e_other rfl ?_ | apply HX.e_then | apply HX.e_again | apply HX.n_block | apply HX.r_then | apply HX.r_block | apply HX.r_again | refine HC.cond_yes rfl ?_ | refine HC.cond_no rfl ?_ | refine HL.one (H1.ldb rfl memA rfl rfl ?_) | refine HC.cond rfl (fun hc => ?_) (fun hc => ?_) | refine HC.cond_b rfl (fun hc => ?_) (fun hc => ?_))
  exact HX.ret1 rfl rfl fun w' hM => ⟨rfl, hM.ext⟩
set_option maxHeartbeats 1000000 in
theorem deleteFunc_fn {w0 w : World} {H : List Atom} {b : Nat} {m : List (List UInt8 × Rc)} (hM : Mm w0 (A.ms b (liftM m) :: H) w) (hk : (m.map Prod.fst).Nodup) :
    Fn Tryz.prog 48 #[.map (some b), fnV 49] w fun v w' => ∃ m', ((m'.map Prod.fst).Nodup ∧ ∀ p, p ∈ m' ↔ p ∈ m ∧ p.2.gone = false) ∧ v = .tuple #[] ∧ Mm w0 (A.ms b (liftM m') :: H) w' := by
  refine enterK (l := [_, _]) hM rfl Tryz.ntmps48 rfl ?_
  repeat' (first | apply HL.fold | apply HA.fold | apply HL.nil | apply HX.n_then | apply HC.seq | apply HC.region | refine HL.pa ?_ | refine HL.ga rfl ?_ | refine HL.na rfl ?_ | refine HL.nu rfl rfl ?_ | apply HC.block | apply HC.skip | apply HC.exit | apply HC.ret | apply HX.e_block | refine HX.e_other rfl ?_ | apply HX.e_then | apply HX.e_again | apply HX.n_block | apply HX.r_then | apply HX.r_block | apply HX.r_again | refine HC.cond_yes rfl ?_ | refine HC.cond_no rfl ?_ | refine HL.one (H1.ldb rfl memA rfl rfl ?_) | refine HC.cond rfl (fun hc => ?_) (fun hc => ?_) | refine HC.cond_b rfl (fun hc => ?_) (fun hc => ?_))
  refine HL.openms fun es clk hms => ?_
  refine HL.one (H1.mqrange (es := es) (clk := clk) rfl (fun w' hM => hM.mx (.head _)) rfl (fun it => ?_))
  repeat' (first | apply HL.fold | apply HA.fold | apply HL.nil | apply HX.n_then | apply HC.seq | apply HC.region | refine HL.pa ?_ | refine HL.ga rfl ?_ | refine HL.na rfl ?_ | refine HL.nu rfl rfl ?_ | apply HC.block | apply HC.skip | apply HC.exit | apply HC.ret | apply HX.e_block | refine HX.e_other rfl ?_ | apply HX.e_then | apply HX.e_again | apply HX.n_block | apply HX.r_then | apply HX.r_block | apply HX.r_again | refine HC.cond_yes rfl ?_ | refine HC.cond_no rfl ?_ | refine HL.one (H1.ldb rfl memA rfl rfl ?_) | refine HC.cond rfl (fun hc => ?_) (fun hc => ?_) | refine HC.cond_b rfl (fun hc => ?_) (fun hc => ?_))
  refine HC.loop (α := Array MapEntry × Array Nat × List (List UInt8 × Rc)) (fun _ => [(0, .map (some b)), (1, fnV 49), (7, .pointer (some ⟨it, 0, none⟩))])
    (fun z => A.mit it b clk z.2.1 :: A.mx b z.1 clk :: H)
    (fun z => MS (liftM z.2.2) z.1 clk ∧ (z.2.2.map Prod.fst).Nodup ∧ (∀ p ∈ z.2.2, p ∈ m) ∧ (∀ p ∈ m, p.2.gone = false → p ∈ z.2.2) ∧ ∀ e ∈ z.1.toList, e.born ∈ z.2.1 → ∀ p ∈ z.2.2, e.key = .string ⟨p.1.toArray⟩ → p.2.gone = false)
    (fun z => mleft z.1 z.2.1) (es, #[], m) ⟨hms, hk, fun _ h => h, fun _ h _ => h, fun e _ hs => absurd hs (by simp)⟩ esA (Hs.refl _) ?_
  rintro ⟨es', seen, m'⟩ ⟨hI, hk', hs1, hs2, hsn⟩
  dsimp only at hI hk' hs1 hs2 hsn ⊢
  repeat' (first | apply HL.fold | apply HA.fold | apply HL.nil | apply HX.n_then | apply HC.seq | apply HC.region | refine HL.pa ?_ | refine HL.ga rfl ?_ | refine HL.na rfl ?_ | refine HL.nu rfl rfl ?_ | apply HC.block | apply HC.skip | apply HC.exit | apply HC.ret | apply HX.e_block | refine HX.e_other rfl ?_ | apply HX.e_then | apply HX.e_again | apply HX.n_block | apply HX.r_then | apply HX.r_block | apply HX.r_again | refine HC.cond_yes rfl ?_ | refine HC.cond_no rfl ?_ | refine HL.one (H1.ldb rfl memA rfl rfl ?_) | refine HC.cond rfl (fun hc => ?_) (fun hc => ?_) | refine HC.cond_b rfl (fun hc => ?_) (fun hc => ?_))
  refine HL.one (H1.mqnext (H' := fun s => A.mit it b clk s :: A.mx b es' clk :: H) rfl (fun w' hM => hM.mx (.tail _ (.head _))) hI.born (fun s => Rpl.here) rfl (fun hall => ?_) (fun e he hne => ?_))
  · repeat' (first | apply HL.fold | apply HA.fold | apply HL.nil | apply HX.n_then | apply HC.seq | apply HC.region | refine HL.pa ?_ | refine HL.ga rfl ?_ | refine HL.na rfl ?_ | refine HL.nu rfl rfl ?_ | apply HC.block | apply HC.skip | apply HC.exit | apply HC.ret | apply HX.e_block | refine HX.e_other rfl ?_ | apply HX.e_then | apply HX.e_again | apply HX.n_block | apply HX.r_then | apply HX.r_block | apply HX.r_again | refine HC.cond_yes rfl ?_ | refine HC.cond_no rfl ?_ | refine HL.one (H1.ldb rfl memA rfl rfl ?_) | refine HC.cond rfl (fun hc => ?_) (fun hc => ?_) | refine HC.cond_b rfl (fun hc => ?_) (fun hc => ?_))
    refine HX.end0 rfl fun w' hM => ⟨m', ⟨hk', fun p => ⟨fun hp => ⟨hs1 p hp, ?_⟩, fun hp => hs2 p hp.1 hp.2⟩⟩, rfl, hM.tail.mxms hI⟩
    obtain ⟨e, he, h1, -⟩ := hI.of (List.mem_map.2 ⟨p, hp, rfl⟩)
    exact hsn e he (hall e he) p hp h1
  obtain ⟨q, hq, hkey, hval⟩ := hI.ent he
  obtain ⟨p, hp, rfl⟩ := List.mem_map.1 hq
  dsimp only at hkey hval
  have hkp : ∀ p' ∈ m', e.key = .string ⟨p'.1.toArray⟩ → p' = p := fun p' hp' h => by
    rw [hkey] at h
    injection h with h
    have h2 := ba_inj h
    obtain ⟨i, hi, -⟩ := midx_lift hk' hp
    obtain ⟨j, hj, -⟩ := midx_lift hk' hp'
    have n1 : (m'.map Prod.fst)[i]? = some p.1 := by simp [hi]
    have n2 : (m'.map Prod.fst)[j]? = some p.1 := by simp [hj, h2]
    have hlt : i < (m'.map Prod.fst).length := (List.getElem?_eq_some_iff.1 n1).1
    have e2 := (List.getElem?_inj hlt hk').1 (n1.trans n2.symm)
    subst e2
    rw [hi] at hj
    exact (Option.some.inj hj).symm
  rw [hkey, hval]
  repeat' (first | apply HL.fold | apply HA.fold | apply HL.nil | apply HX.n_then | apply HC.seq | apply HC.region | refine HL.pa ?_ | refine HL.ga rfl ?_ | refine HL.na rfl ?_ | refine HL.nu rfl rfl ?_ | apply HC.block | apply HC.skip | apply HC.exit | apply HC.ret | apply HX.e_block | refine HX.e_other rfl ?_ | apply HX.e_then | apply HX.e_again | apply HX.n_block | apply HX.r_then | apply HX.r_block | apply HX.r_again | refine HC.cond_yes rfl ?_ | refine HC.cond_no rfl ?_ | refine HL.one (H1.ldb rfl memA rfl rfl ?_) | refine HC.cond rfl (fun hc => ?_) (fun hc => ?_) | refine HC.cond_b rfl (fun hc => ?_) (fun hc => ?_))
  refine HL.one (H1.mqentry (e := e) rfl (fun w' hM => hM.mx (.tail _ (.head _))) he hI.nd (.head _) rfl ?_)
  rw [hkey, hval]
  repeat' (first | apply HL.fold | apply HA.fold | apply HL.nil | apply HX.n_then | apply HC.seq | apply HC.region | refine HL.pa ?_ | refine HL.ga rfl ?_ | refine HL.na rfl ?_ | refine HL.nu rfl rfl ?_ | apply HC.block | apply HC.skip | apply HC.exit | apply HC.ret | apply HX.e_block | refine HX.e_other rfl ?_ | apply HX.e_then | apply HX.e_again | apply HX.n_block | apply HX.r_then | apply HX.r_block | apply HX.r_again | refine HC.cond_yes rfl ?_ | refine HC.cond_no rfl ?_ | refine HL.one (H1.ldb rfl memA rfl rfl ?_) | refine HC.cond rfl (fun hc => ?_) (fun hc => ?_) | refine HC.cond_b rfl (fun hc => ?_) (fun hc => ?_))
  refine HL.one (H1.alloc (cs := rcells rcZ) rfl rfl (fun b5 => ?_))
  repeat' (first | apply HL.fold | apply HA.fold | apply HL.nil | apply HX.n_then | apply HC.seq | apply HC.region | refine HL.pa ?_ | refine HL.ga rfl ?_ | refine HL.na rfl ?_ | refine HL.nu rfl rfl ?_ | apply HC.block | apply HC.skip | apply HC.exit | apply HC.ret | apply HX.e_block | refine HX.e_other rfl ?_ | apply HX.e_then | apply HX.e_again | apply HX.n_block | apply HX.r_then | apply HX.r_block | apply HX.r_again | refine HC.cond_yes rfl ?_ | refine HC.cond_no rfl ?_ | refine HL.one (H1.ldb rfl memA rfl rfl ?_) | refine HC.cond rfl (fun hc => ?_) (fun hc => ?_) | refine HC.cond_b rfl (fun hc => ?_) (fun hc => ?_))
  refine HL.one (H1.stAgg (cs := rcells rcZ) (vs := rcells p.2) rfl rfl rfl (rcells_one _) rplA rfl ?_)
  repeat' (first | apply HL.fold | apply HA.fold | apply HL.nil | apply HX.n_then | apply HC.seq | apply HC.region | refine HL.pa ?_ | refine HL.ga rfl ?_ | refine HL.na rfl ?_ | refine HL.nu rfl rfl ?_ | apply HC.block | apply HC.skip | apply HC.exit | apply HC.ret | apply HX.e_block | refine HX.e_other rfl ?_ | apply HX.e_then | apply HX.e_again | apply HX.n_block | apply HX.r_then | apply HX.r_block | apply HX.r_again | refine HC.cond_yes rfl ?_ | refine HC.cond_no rfl ?_ | refine HL.one (H1.ldb rfl memA rfl rfl ?_) | refine HC.cond rfl (fun hc => ?_) (fun hc => ?_) | refine HC.cond_b rfl (fun hc => ?_) (fun hc => ?_))
  refine HL.one (H1.ldAgg (vs := rcells p.2) rfl memA rfl (fun i v hv => by rw [Nat.zero_add]; exact hv) rfl ?_)
  repeat' (first | apply HL.fold | apply HA.fold | apply HL.nil | apply HX.n_then | apply HC.seq | apply HC.region | refine HL.pa ?_ | refine HL.ga rfl ?_ | refine HL.na rfl ?_ | refine HL.nu rfl rfl ?_ | apply HC.block | apply HC.skip | apply HC.exit | apply HC.ret | apply HX.e_block | refine HX.e_other rfl ?_ | apply HX.e_then | apply HX.e_again | apply HX.n_block | apply HX.r_then | apply HX.r_block | apply HX.r_again | refine HC.cond_yes rfl ?_ | refine HC.cond_no rfl ?_ | refine HL.one (H1.ldb rfl memA rfl rfl ?_) | refine HC.cond rfl (fun hc => ?_) (fun hc => ?_) | refine HC.cond_b rfl (fun hc => ?_) (fun hc => ?_))
  refine HL.one (H1.callv0 (f := 49) (cap := []) (vs := [.string ⟨p.1.toArray⟩, recV p.2]) rfl rfl rfl (fun w' _ => effect1_fn _ p.2 w') ?_)
  have hlt := mleft_lt he hne
  cases hg : p.2.gone
  · repeat' (first | apply HL.fold | apply HA.fold | apply HL.nil | apply HX.n_then | apply HC.seq | apply HC.region | refine HL.pa ?_ | refine HL.ga rfl ?_ | refine HL.na rfl ?_ | refine HL.nu rfl rfl ?_ | apply HC.block | apply HC.skip | apply HC.exit | apply HC.ret | apply HX.e_block | refine HX.e_other rfl ?_ | apply HX.e_then | apply HX.e_again | apply HX.n_block | apply HX.r_then | apply HX.r_block | apply HX.r_again | refine HC.cond_yes rfl ?_ | refine HC.cond_no rfl ?_ | refine HL.one (H1.ldb rfl memA rfl rfl ?_) | refine HC.cond rfl (fun hc => ?_) (fun hc => ?_) | refine HC.cond_b rfl (fun hc => ?_) (fun hc => ?_))
    refine HX.again (es', seen.push e.born, m') ⟨hI, hk', hs1, hs2, fun e' he' hs' p' hp' h => ?_⟩ hlt esA (Hs.refl _).skip
    rcases Array.mem_push.1 hs' with h1 | h1
    · exact hsn e' he' h1 p' hp' h
    · have e1 : e' = e := stamp_inj hI.nd he' he h1
      subst e1
      rw [hkp p' hp' h]; exact hg
  · obtain ⟨i, hi, hmi⟩ := midx_lift hk' hp
    have hme := mem_erase_at hk' hi
    repeat' (first | apply HL.fold | apply HA.fold | apply HL.nil | apply HX.n_then | apply HC.seq | apply HC.region | refine HL.pa ?_ | refine HL.ga rfl ?_ | refine HL.na rfl ?_ | refine HL.nu rfl rfl ?_ | apply HC.block | apply HC.skip | apply HC.exit | apply HC.ret | apply HX.e_block | refine HX.e_other rfl ?_ | apply HX.e_then | apply HX.e_again | apply HX.n_block | apply HX.r_then | apply HX.r_block | apply HX.r_again | refine HC.cond_yes rfl ?_ | refine HC.cond_no rfl ?_ | refine HL.one (H1.ldb rfl memA rfl rfl ?_) | refine HC.cond rfl (fun hc => ?_) (fun hc => ?_) | refine HC.cond_b rfl (fun hc => ?_) (fun hc => ?_))
    refine HL.one (H1.msdel rfl rfl hI hmi rplA ?_)
    repeat' (first | apply HL.fold | apply HA.fold | apply HL.nil | apply HX.n_then | apply HC.seq | apply HC.region | refine HL.pa ?_ | refine HL.ga rfl ?_ | refine HL.na rfl ?_ | refine HL.nu rfl rfl ?_ | apply HC.block | apply HC.skip | apply HC.exit | apply HC.ret | apply HX.e_block | refine HX.e_other rfl ?_ | apply HX.e_then | apply HX.e_again | apply HX.n_block | apply HX.r_then | apply HX.r_block | apply HX.r_again | refine HC.cond_yes rfl ?_ | refine HC.cond_no rfl ?_ | refine HL.one (H1.ldb rfl memA rfl rfl ?_) | refine HC.cond rfl (fun hc => ?_) (fun hc => ?_) | refine HC.cond_b rfl (fun hc => ?_) (fun hc => ?_))
    refine HX.again (es'.eraseIdxIfInBounds i, seen.push e.born, m'.eraseIdx i) ⟨?_, ?_, fun q hq => hs1 q (List.mem_of_mem_eraseIdx hq), fun q hq h => (hme q).2 ⟨hs2 q hq h, fun e1 => ?_⟩, fun e' he' hs' p' hp' h => ?_⟩ (Nat.lt_of_le_of_lt (mleft_erase _ _ _) hlt) esA (Hs.refl _).skip
    · have := hI.erase i
      rwa [show (liftM m').eraseIdx i = liftM (m'.eraseIdx i) from map_eraseIdx _ _ _] at this
    · exact List.Nodup.sublist ((List.eraseIdx_sublist _ i).map _) hk'
    · rw [e1, hg] at h; cases h
    · dsimp only at he' hs' hp'
      rw [Array.toList_eraseIdxIfInBounds] at he'
      have he2 := List.mem_of_mem_eraseIdx he'
      have hp2 := (hme p').1 hp'
      rcases Array.mem_push.1 hs' with h1 | h1
      · exact hsn e' he2 h1 p' hp2.1 h
      · have e1 : e' = e := stamp_inj hI.nd he2 he h1
        subst e1
        exact absurd (hkp p' hp2.1 h) hp2.2
end Go.Sx

