/- Chapter 21: Of: what is known on a day. -/
import Derived.Test.YtldhccgelcmjoaaGreatXQ
import Derived.Test.YtldhccgelcmjoaaGreatHc
import Derived.Test.YtldhccgelcmjoaaGreatHl
namespace Go.Sx
open Go Go.Proofs Go.RowKit
theorem nodup_len {α : Type} : ∀ {L l : List α}, L.Nodup → (∀ x ∈ L, x ∈ l) → L.length ≤ l.length
  | [], _, _, _ => Nat.zero_le _
  | a :: L, l, h, hs => by
    obtain ⟨s, t, rfl⟩ := List.append_of_mem (hs a (List.mem_cons_self ..))
    have h1 := List.nodup_cons.1 h
    have h2 := nodup_len (l := s ++ t) h1.2 fun x hx => by
      rcases List.mem_append.1 (hs x (List.mem_cons_of_mem _ hx)) with h3 | h3
      · exact List.mem_append_left _ h3
      · rcases List.mem_cons.1 h3 with rfl | h3
        · exact absurd hx h1.1
        · exact List.mem_append_right _ h3
    simp only [List.length_append, List.length_cons] at h2 ⊢
    omega
abbrev Slot := Option Addr × Nat × List Rc
def slot (x : Slot) : Value := .slice x.1 x.2.2.length x.2.1
def slotA (x : Slot) : Atom := A.grow 24 15 x.1 x.2.1 x.2.2.length (rcl x.2.2)
def slots (q : Nat → Slot) : List Atom := (List.range 8).map fun i => slotA (q i)
def updQ (q : Nat → Slot) (i : Nat) (x : Slot) : Nat → Slot := fun j => if j = i then x else q j
theorem rpl_map {f f' : Nat → Atom} {i : Nat} (hne : ∀ j, j ≠ i → f j = f' j) : ∀ {L : List Nat}, L.Nodup → i ∈ L → Rpl (f i) (f' i) (L.map f) (L.map f')
  | [], _, h => absurd h (by simp)
  | j :: L, hn, h => by
    have h1 := List.nodup_cons.1 hn
    by_cases e : j = i
    · subst e
      rw [List.map_cons, List.map_cons]
      have : L.map f = L.map f' := List.map_congr_left fun x hx => hne x fun e => h1.1 (e ▸ hx)
      rw [this]; exact Rpl.here
    · rw [List.map_cons, List.map_cons, hne j e]
      exact Rpl.there (rpl_map hne h1.2 ((List.mem_cons.1 h).resolve_left fun e2 => e e2.symm))
theorem rpl_slots (q : Nat → Slot) {i : Nat} (h : i < 8) (x : Slot) : Rpl (slotA (q i)) (slotA x) (slots q) (slots (updQ q i x)) := by
  have := rpl_map (f := fun j => slotA (q j)) (f' := fun j => slotA (updQ q i x j)) (i := i) (fun j hj => by show slotA (q j) = slotA (updQ q i x j); rw [show updQ q i x j = q j from if_neg hj]) (L := List.range 8) List.nodup_range (List.mem_range.2 h)
  simp only [updQ, if_true] at this
  exact this
theorem slot_upd (q : Nat → Slot) (i : Nat) (x : Slot) : (row 8 fun j => slot (q j)).set i (slot x) = row 8 fun j => slot (updQ q i x j) :=
  row_step (by show slot (updQ q i x i) = slot x; rw [show updQ q i x i = x from if_pos rfl]) fun j hj => by
    show slot (q j) = slot (updQ q i x j)
    rw [show updQ q i x j = q j from if_neg hj]
theorem recV_inj {r s : Rc} (h : recV r = recV s) : r = s := by
  have h1 : rcells r = rcells s := by
    injection h with h
    exact List.toArray_inj h
  unfold rcells at h1
  simp only [List.cons.injEq, Value.int.injEq, Value.bool.injEq, Value.string.injEq, true_and, and_true] at h1
  obtain ⟨h1, h2, h3, h4, h5, h6, h7, h8, h9, h10, h11, h12, h13, h14, h15⟩ := h1
  cases r; cases s
  simp only at h1 h2 h3 h4 h5 h6 h7 h8 h9 h10 h11 h12 h13 h14 h15
  subst h1 h2 h3 h4 h5 h6 h7 h8 h9 h10 h11 h12 h13 h14 h15
  rfl
/-- A base, as it reads. -/
def BaseV (w : World) (v : Value) (B : Nat → List Rc) : Prop := ∃ s : Nat → Value, v = .agg (row 8 s).toArray ∧ ∀ i, i < 8 → RdR w (s i) (B i)
theorem BaseV.ext {w w' : World} {v : Value} {B : Nat → List Rc} (h : BaseV w v B) (k : Ext w w') : BaseV w' v B := by
  obtain ⟨s, h1, h2⟩ := h
  exact ⟨s, h1, fun i hi => (h2 i hi).ext k⟩
theorem isOf_sorted {l : List Rc} {day : Int} {i : Nat} {L : List Rc} (hn : L.Nodup) (hs : L.Pairwise fun x y => numK x ≤ numK y) (hm : ∀ r, r ∈ L ↔ r.kind = (i : Int) + 1 ∧ Top l day r ∧ r.gone = false) : IsOf l day ((i : Int) + 1) L := by
  refine ⟨?_, fun r => by rw [hm]; exact ⟨fun h => ⟨⟨h.2.1, h.2.2⟩, h.1⟩, fun h => ⟨h.2, h.1.1, h.1.2⟩⟩⟩
  refine (hs.and hn).imp_of_mem fun {a b} ha hb h => ?_
  rw [numK_numR, numK_numR] at h
  have h1 := (hm a).1 ha
  have h2 := (hm b).1 hb
  have hne : numR a ≠ numR b := fun e => h.2 (top_uniq h1.2.1 h2.2.1 (by
    unfold keyR
    unfold numR at e
    rw [e, h1.1, h2.1]))
  omega
theorem Mm.slotsR {w0 w : World} {q : Nat → Slot} {i : Nat} {H : List Atom} (h : Mm w0 H w) (hi : i < 8) (hs : ∀ x ∈ slots q, x ∈ H) : RdR w (slot (q i)) (q i).2.2 :=
  h.recs (hs _ (List.mem_map.2 ⟨i, List.mem_range.2 hi, rfl⟩))
theorem slots_base {w0 w : World} {q : Nat → Slot} (h : Mm w0 (slots q) w) : BaseV w (.agg (row 8 fun i => slot (q i)).toArray) fun i => (q i).2.2 :=
  ⟨_, rfl, fun _ hi => h.slotsR hi fun _ hx => hx⟩
/-- A base that lies in slices of the call's own: its value, its atom, its lists. -/
abbrev bsV (q : Nat → Slot) : Value := .agg (row 8 fun i => slot (q i)).toArray
def bsA (q : Nat → Slot) : Atom := A.all (slots q)
def bsL (q : Nat → Slot) (i : Nat) : List Rc := (q i).2.2
theorem Mm.base {w0 w : World} {q : Nat → Slot} {H : List Atom} (h : Mm w0 H w) (hm : bsA q ∈ H) : BaseV w (bsV q) (bsL q) := by
  have hp : ∀ x ∈ slots q, x.p w := h.all _ hm
  exact ⟨_, rfl, fun i hi => RdR.of_owns (hp _ (List.mem_map.2 ⟨i, List.mem_range.2 hi, rfl⟩))⟩
def q0 : Nat → Slot := fun _ => (none, 0, [])
theorem row0 : (row 8 fun i => slot (q0 i)) = [.slice none 0 0, .slice none 0 0, .slice none 0 0, .slice none 0 0, .slice none 0 0, .slice none 0 0, .slice none 0 0, .slice none 0 0] := rfl
section
variable {P : Program} {r : Option Nat} {N : Nat} {ds : List Deferred} {Q : Post} {E : Env} {w0 : World} {H : List Atom}
theorem Mm.slots0 {w : World} (h : Mm w0 H w) : Mm w0 (slots q0 ++ H) w :=
  (((((((h.grow0 24 15).grow0 24 15).grow0 24 15).grow0 24 15).grow0 24 15).grow0 24 15).grow0 24 15).grow0 24 15
theorem HC.slots0 {co : Code} (h : HC P r N ds co Q E w0 (slots q0 ++ H)) : HC P r N ds co Q E w0 H := fun w hM => h w hM.slots0
end
/-- What the lists hold while the map is ranged over. -/
structure SlotI (es : Array MapEntry) (seen : Array Nat) (q : Nat → Slot) : Prop where
  nd : ∀ i, i < 8 → (q i).2.2.Nodup
  mem : ∀ i, i < 8 → ∀ r, r ∈ (q i).2.2 ↔ r.kind = (i : Int) + 1 ∧ ∃ e ∈ es.toList, e.born ∈ seen ∧ e.val = recV r
theorem SlotI.nil (es : Array MapEntry) : SlotI es #[] q0 := ⟨fun _ _ => List.nodup_nil, fun i hi r => by
  constructor
  · intro h; exact absurd h (by simp [q0])
  · rintro ⟨-, e, -, h, -⟩; exact absurd h (by simp)⟩
theorem SlotI.push {l : List Rc} {day : Int} {m : List (List UInt8 × Rc)} {es : Array MapEntry} {clk : Nat} {seen : Array Nat} {q : Nat → Slot} (h : SlotI es seen q) (hG : EffG l day m) (hms : MS (liftM m) es clk) {e : MapEntry} (he : e ∈ es.toList) (hne : e.born ∉ seen) {r : Rc}
    (hv : e.val = recV r) {k : Nat} (hk8 : k < 8) (hk : r.kind = (k : Int) + 1) (a : Option Addr) (c : Nat) : SlotI es (seen.push e.born) (updQ q k (a, c, (q k).2.2 ++ [r])) := by
  have huniq : ∀ e' ∈ es.toList, e'.val = recV r → e' = e := fun e' he' hv' => by
    obtain ⟨x, hx, h1, h2⟩ := hms.ent he
    obtain ⟨y, hy, h3, h4⟩ := hms.ent he'
    obtain ⟨p, hp, rfl⟩ := List.mem_map.1 hx
    obtain ⟨p', hp', rfl⟩ := List.mem_map.1 hy
    dsimp only at h1 h2 h3 h4
    have e1 : p.2 = r := recV_inj (h2.symm.trans hv)
    have e2 : p'.2 = r := recV_inj (h4.symm.trans hv')
    have e3 : p'.1 = p.1 := by rw [hG.key p hp, hG.key p' hp', e1, e2]
    obtain ⟨i, hi⟩ := List.mem_iff_getElem?.1 (show e ∈ es.toList from he)
    obtain ⟨j, hj⟩ := List.mem_iff_getElem?.1 (show e' ∈ es.toList from he')
    have hi2 : ((liftM m).map Prod.fst)[i]? = some ⟨p.1.toArray⟩ := by
      have h5 := congrArg (fun l => l[i]?) hms.ents
      simp only [List.getElem?_map, hi, Option.map_some] at h5
      cases h6 : (liftM m)[i]? with
      | none => rw [h6] at h5; cases h5
      | some z =>
        rw [h6] at h5
        simp only [Option.map_some, Option.some.injEq, Prod.mk.injEq] at h5
        rw [List.getElem?_map, h6, Option.map_some]
        rw [h1] at h5
        injection h5.1 with h7
        rw [h7]
    have hj2 : ((liftM m).map Prod.fst)[j]? = some ⟨p.1.toArray⟩ := by
      have h5 := congrArg (fun l => l[j]?) hms.ents
      simp only [List.getElem?_map, hj, Option.map_some] at h5
      cases h6 : (liftM m)[j]? with
      | none => rw [h6] at h5; cases h5
      | some z =>
        rw [h6] at h5
        simp only [Option.map_some, Option.some.injEq, Prod.mk.injEq] at h5
        rw [List.getElem?_map, h6, Option.map_some]
        rw [h3, e3] at h5
        injection h5.1 with h7
        rw [h7]
    have hnd : ((liftM m).map Prod.fst).Nodup := by
      have := hG.nd
      unfold liftM
      rw [List.map_map]
      have e4 : (m.map (Prod.fst ∘ fun p : List UInt8 × Rc => ((⟨p.1.toArray⟩ : ByteArray), recV p.2))) = (m.map Prod.fst).map fun x => (⟨x.toArray⟩ : ByteArray) := by rw [List.map_map]; rfl
      rw [e4]
      exact this.map _ fun x y hxy e5 => hxy (ba_inj e5)
    have hlt : i < ((liftM m).map Prod.fst).length := (List.getElem?_eq_some_iff.1 hi2).1
    have e5 := (List.getElem?_inj hlt hnd).1 (hi2.trans hj2.symm)
    subst e5
    rw [hi] at hj
    exact (Option.some.inj hj).symm
  have hno : r ∉ (q k).2.2 := fun hr => by
    obtain ⟨-, e', he', hs', hv'⟩ := (h.mem k hk8 r).1 hr
    rw [huniq e' he' hv'] at hs'
    exact hne hs'
  refine ⟨fun i hi => ?_, fun i hi s => ?_⟩
  · unfold updQ
    split
    · rename_i e1
      subst e1
      refine List.nodup_append.2 ⟨h.nd i hi, by simp, fun a ha b hb e2 => ?_⟩
      obtain rfl := List.mem_singleton.1 hb
      exact hno (e2 ▸ ha)
    · exact h.nd i hi
  · unfold updQ
    split
    · rename_i e1
      subst e1
      rw [List.mem_append, List.mem_singleton, h.mem i hi s]
      constructor
      · rintro (⟨h1, e', he', hs', hv'⟩ | rfl)
        · exact ⟨h1, e', he', Array.mem_push.2 (.inl hs'), hv'⟩
        · exact ⟨hk, e, he, Array.mem_push.2 (.inr rfl), hv⟩
      · rintro ⟨h1, e', he', hs', hv'⟩
        rcases Array.mem_push.1 hs' with h2 | h2
        · exact .inl ⟨h1, e', he', h2, hv'⟩
        · have e2 := stamp_inj hms.nd he' he h2
          subst e2
          exact .inr (recV_inj (hv'.symm.trans hv))
    · rename_i e1
      rw [h.mem i hi s]
      constructor
      · rintro ⟨h1, e', he', hs', hv'⟩
        exact ⟨h1, e', he', Array.mem_push.2 (.inl hs'), hv'⟩
      · rintro ⟨h1, e', he', hs', hv'⟩
        rcases Array.mem_push.1 hs' with h2 | h2
        · exact ⟨h1, e', he', h2, hv'⟩
        · have e2 := stamp_inj hms.nd he' he h2
          subst e2
          have e3 := recV_inj (hv'.symm.trans hv)
          subst e3
          exact absurd (by omega) e1
theorem slot_one (q : Nat → Slot) : ∀ u ∈ (row 8 fun i => slot (q i)), u.oneCell' = true := fun u hu => by
  obtain ⟨i, -, rfl⟩ := List.mem_map.1 hu
  rfl
theorem rpl_push (q : Nat → Slot) {k : Nat} (h : k < 8) (r : Rc) (a' : Option Addr) (c' : Nat) :
    Rpl (A.grow 24 15 (q k).1 (q k).2.1 (q k).2.2.length (rcl (q k).2.2)) (A.grow 24 15 a' c' ((q k).2.2.length + 1) (rcl (q k).2.2 ++ rcells r)) (slots q) (slots (updQ q k (a', c', (q k).2.2 ++ [r]))) := by
  have h1 := rpl_slots q h (a', c', (q k).2.2 ++ [r])
  have h2 : slotA (a', c', (q k).2.2 ++ [r]) = A.grow 24 15 a' c' ((q k).2.2.length + 1) (rcl (q k).2.2 ++ rcells r) := by
    unfold slotA
    dsimp only
    rw [List.length_append, rcl_app]
    simp [rcl]
  rw [h2] at h1
  exact h1
theorem slot_push (q : Nat → Slot) (k : Nat) (r : Rc) (a' : Option Addr) (c' : Nat) : (row 8 fun i => slot (q i)).set k (.slice a' ((q k).2.2.length + 1) c') = row 8 fun j => slot (updQ q k (a', c', (q k).2.2 ++ [r]) j) := by
  rw [← slot_upd]
  congr 1
  unfold slot
  dsimp only
  rw [List.length_append]; rfl
theorem slot_same (q : Nat → Slot) (k : Nat) {l' : List Rc} (h : l'.length = (q k).2.2.length) : (row 8 fun i => slot (q i)) = row 8 fun j => slot (updQ q k ((q k).1, (q k).2.1, l') j) :=
  row_congr fun i _ => by
    unfold updQ
    split
    · rename_i e
      subst e
      unfold slot
      dsimp only
      rw [h]
    · rfl
attribute [local irreducible] WC WL WX POp Then Again Fn NX W1 WA WO QL RP RA Yld LoopAt HC HL HX HN H1 HA HO HQ HB HP A.blk A.grow A.rd A.obj A.mp AgainH CutH
attribute [local irreducible] A.ms A.mx A.mit slots
set_option maxHeartbeats 2000000 in
theorem of_fn (a : Option Addr) (c : Nat) (l : List Rc) (hl : l.length ≤ 1000000) (hok : ∀ r ∈ l, RcOk r) (day : Int) (w : World) (hR : RdR w (.slice a l.length c) l) :
    Fn Tryz.prog 10 #[.slice a l.length c, zv day] w fun v w' => ∃ q, (∀ i : Nat, i < 8 → IsOf l day ((i : Int) + 1) (bsL q i)) ∧ v = bsV q ∧ Mm w [bsA q] w' := by
  refine enterH (l := [_, _]) rfl Tryz.ntmps10 rfl ?_
  repeat' (first | apply HL.fold | apply HA.fold | apply HL.nil | apply HX.n_then | apply HC.seq | apply HC.region | refine HL.pa ?_ | refine HL.ga rfl ?_ | refine HL.na rfl ?_ | refine HL.nu rfl rfl ?_ | apply HC.block | apply HC.skip | apply HC.exit | apply HC.ret | apply HX.e_block | refine HX.e_other rfl ?_ | apply HX.e_then | apply HX.e_again | apply HX.n_block | apply HX.r_then | apply HX.r_block | apply HX.r_again | refine HC.cond_yes rfl ?_ | refine HC.cond_no rfl ?_ | refine HL.one (H1.ldb rfl memA rfl rfl ?_) | refine HC.cond rfl (fun hc => ?_) (fun hc => ?_) | refine HC.cond_b rfl (fun hc => ?_) (fun hc => ?_))
  refine HL.one (H1.alloc (cs := row 8 fun i => slot (q0 i)) rfl rfl (fun b4 => ?_))
  repeat' (first | apply HL.fold | apply HA.fold | apply HL.nil | apply HX.n_then | apply HC.seq | apply HC.region | refine HL.pa ?_ | refine HL.ga rfl ?_ | refine HL.na rfl ?_ | refine HL.nu rfl rfl ?_ | apply HC.block | apply HC.skip | apply HC.exit | apply HC.ret | apply HX.e_block | refine HX.e_other rfl ?_ | apply HX.e_then | apply HX.e_again | apply HX.n_block | apply HX.r_then | apply HX.r_block | apply HX.r_again | refine HC.cond_yes rfl ?_ | refine HC.cond_no rfl ?_ | refine HL.one (H1.ldb rfl memA rfl rfl ?_) | refine HC.cond rfl (fun hc => ?_) (fun hc => ?_) | refine HC.cond_b rfl (fun hc => ?_) (fun hc => ?_))
  refine HL.one (H1.callz1 (α := Nat × List (List UInt8 × Rc)) (V := fun z => .map (some z.1)) (An := fun z => A.ms z.1 (liftM z.2)) (I := fun z => EffG l day z.2) (vs := [.slice a l.length c, zv day]) rfl rfl (fun w' hM => effect_fn a c l hl hok day w' (hR.ext hM.ext)) ?_)
  rintro ⟨bm, m⟩ hG
  dsimp only at hG ⊢
  apply HL.fold
  refine HL.openms fun es clk hms => ?_
  refine HL.one (H1.mqrange (es := es) (clk := clk) rfl (fun w' hM => hM.mx (.head _)) rfl (fun it => ?_))
  repeat' (first | apply HL.fold | apply HA.fold | apply HL.nil | apply HX.n_then | apply HC.seq | apply HC.region | refine HL.pa ?_ | refine HL.ga rfl ?_ | refine HL.na rfl ?_ | refine HL.nu rfl rfl ?_ | apply HC.skip | apply HC.exit | apply HC.ret | apply HX.e_block | refine HX.e_other rfl ?_ | apply HX.e_then | apply HX.e_again | apply HX.n_block | apply HX.r_then | apply HX.r_block | apply HX.r_again | refine HC.cond_yes rfl ?_ | refine HC.cond_no rfl ?_ | refine HL.one (H1.ldb rfl memA rfl rfl ?_) | refine HC.cond rfl (fun hc => ?_) (fun hc => ?_) | refine HC.cond_b rfl (fun hc => ?_) (fun hc => ?_))
  refine HC.slots0 ?_
  refine HC.cut (α := Nat → Slot) (fun _ => [(4, .pointer (some ⟨b4, 0, none⟩))]) (fun q => A.blk b4 (row 8 fun i => slot (q i)) 33 :: slots q)
    (fun q => ∀ i : Nat, i < 8 → (q i).2.2.Nodup ∧ ∀ r, r ∈ (q i).2.2 ↔ r.kind = (i : Int) + 1 ∧ Top l day r ∧ r.gone = false) ?_ ?_
  · repeat' (first | apply HL.fold | apply HA.fold | apply HL.nil | apply HX.n_then | apply HC.seq | apply HC.region | refine HL.pa ?_ | refine HL.ga rfl ?_ | refine HL.na rfl ?_ | refine HL.nu rfl rfl ?_ | apply HC.block | apply HC.skip | apply HC.exit | apply HC.ret | apply HX.e_block | refine HX.e_other rfl ?_ | apply HX.e_then | apply HX.e_again | apply HX.n_block | apply HX.r_then | apply HX.r_block | apply HX.r_again | refine HC.cond_yes rfl ?_ | refine HC.cond_no rfl ?_ | refine HL.one (H1.ldb rfl memA rfl rfl ?_) | refine HC.cond rfl (fun hc => ?_) (fun hc => ?_) | refine HC.cond_b rfl (fun hc => ?_) (fun hc => ?_))
    refine HC.loop (α := Array Nat × (Nat → Slot)) (fun _ => [(4, .pointer (some ⟨b4, 0, none⟩)), (12, .pointer (some ⟨it, 0, none⟩))])
      (fun z => A.mit it bm clk z.1 :: A.mx bm es clk :: A.blk b4 (row 8 fun i => slot (z.2 i)) 33 :: slots z.2) (fun z => SlotI es z.1 z.2) (fun z => mleft es z.1) (#[], q0) (SlotI.nil es) esA ⟨[], by rw [List.append_nil]; exact List.perm_append_comm⟩ ?_
    rintro ⟨seen, q⟩ hI
    dsimp only at hI ⊢
    have hall : ∀ r, (∃ e ∈ es.toList, e.val = recV r) ↔ Top l day r ∧ r.gone = false := fun r => by
      rw [← hG.mem]
      constructor
      · rintro ⟨e, he, hv⟩
        obtain ⟨x, hx, h1, h2⟩ := hms.ent he
        obtain ⟨p, hp, rfl⟩ := List.mem_map.1 hx
        exact ⟨p, hp, recV_inj (h2.symm.trans hv)⟩
      · rintro ⟨p, hp, rfl⟩
        obtain ⟨e, he, h1, h2⟩ := hms.of (List.mem_map.2 ⟨p, hp, rfl⟩)
        exact ⟨e, he, h2⟩
    repeat' (first | apply HL.fold | apply HA.fold | apply HL.nil | apply HX.n_then | apply HC.seq | apply HC.region | refine HL.pa ?_ | refine HL.ga rfl ?_ | refine HL.na rfl ?_ | refine HL.nu rfl rfl ?_ | apply HC.block | apply HC.skip | apply HC.exit | apply HC.ret | apply HX.e_block | refine HX.e_other rfl ?_ | apply HX.e_then | apply HX.e_again | apply HX.n_block | apply HX.r_then | apply HX.r_block | apply HX.r_again | refine HC.cond_yes rfl ?_ | refine HC.cond_no rfl ?_ | refine HL.one (H1.ldb rfl memA rfl rfl ?_) | refine HC.cond rfl (fun hc => ?_) (fun hc => ?_) | refine HC.cond_b rfl (fun hc => ?_) (fun hc => ?_))
    refine HL.one (H1.mqnext (H' := fun s => A.mit it bm clk s :: A.mx bm es clk :: A.blk b4 (row 8 fun i => slot (q i)) 33 :: slots q) rfl (fun w' hM => hM.mx (.tail _ (.head _))) hms.born (fun s => Rpl.here) rfl (fun hseen => ?_) (fun e he hne => ?_))
    · repeat' (first | apply HL.fold | apply HA.fold | apply HL.nil | apply HX.n_then | apply HC.seq | apply HC.region | refine HL.pa ?_ | refine HL.ga rfl ?_ | refine HL.na rfl ?_ | refine HL.nu rfl rfl ?_ | apply HC.block | apply HC.skip | apply HC.exit | apply HC.ret | apply HX.e_block | refine HX.e_other rfl ?_ | apply HX.e_then | apply HX.e_again | apply HX.n_block | apply HX.r_then | apply HX.r_block | apply HX.r_again | refine HC.cond_yes rfl ?_ | refine HC.cond_no rfl ?_ | refine HL.one (H1.ldb rfl memA rfl rfl ?_) | refine HC.cond rfl (fun hc => ?_) (fun hc => ?_) | refine HC.cond_b rfl (fun hc => ?_) (fun hc => ?_))
      refine HX.cut q (fun i hi => ⟨hI.nd i hi, fun r => ?_⟩) esA (Hs.refl _).skip.skip
      rw [hI.mem i hi r, ← hall r]
      exact ⟨fun h => ⟨h.1, by obtain ⟨e, he, -, hv⟩ := h.2; exact ⟨e, he, hv⟩⟩, fun h => ⟨h.1, by obtain ⟨e, he, hv⟩ := h.2; exact ⟨e, he, hseen e he, hv⟩⟩⟩
    obtain ⟨x, hx, hkey, hval⟩ := hms.ent he
    obtain ⟨p, hp, rfl⟩ := List.mem_map.1 hx
    dsimp only at hkey hval
    obtain ⟨r, hr⟩ : ∃ r, r = p.2 := ⟨_, rfl⟩
    rw [← hr] at hval
    have htop := ((hall r).1 ⟨e, he, hval⟩).1
    obtain ⟨k, hk, hk8⟩ : ∃ k : Nat, r.kind = (k : Int) + 1 ∧ k < 8 := ⟨(r.kind - 1).toNat, by have := htop.now.1.kind; omega, by have := htop.now.1.kind; omega⟩
    have hpush := hI.push hG hms he hne hval hk8 hk
    have hlen : (q k).2.2.length + 1 ≤ 1000000 := by
      have h1 := (hpush none 0).nd k hk8
      have h2 := (hpush none 0).mem k hk8
      simp only [updQ, if_true] at h1 h2
      have h3 := nodup_len (l := l) h1 fun s hs => by
        obtain ⟨-, e', he', -, hv'⟩ := (h2 s).1 hs
        exact ((hall s).1 ⟨e', he', hv'⟩).1.mem
      rw [List.length_append, List.length_singleton] at h3
      omega
    rw [hkey, hval]
    repeat' (first | apply HL.fold | apply HA.fold | apply HL.nil | apply HX.n_then | apply HC.seq | apply HC.region | refine HL.pa ?_ | refine HL.ga rfl ?_ | refine HL.na rfl ?_ | refine HL.nu rfl rfl ?_ | apply HC.block | apply HC.skip | apply HC.exit | apply HC.ret | apply HX.e_block | refine HX.e_other rfl ?_ | apply HX.e_then | apply HX.e_again | apply HX.n_block | apply HX.r_then | apply HX.r_block | apply HX.r_again | refine HC.cond_yes rfl ?_ | refine HC.cond_no rfl ?_ | refine HL.one (H1.ldb rfl memA rfl rfl ?_) | refine HC.cond rfl (fun hc => ?_) (fun hc => ?_) | refine HC.cond_b rfl (fun hc => ?_) (fun hc => ?_))
    refine HL.one (H1.mqentry (e := e) rfl (fun w' hM => hM.mx (.tail _ (.head _))) he hms.nd (.head _) rfl ?_)
    rw [hkey, hval]
    repeat' (first | apply HL.fold | apply HA.fold | apply HL.nil | apply HX.n_then | apply HC.seq | apply HC.region | refine HL.pa ?_ | refine HL.ga rfl ?_ | refine HL.na rfl ?_ | refine HL.nu rfl rfl ?_ | apply HC.block | apply HC.skip | apply HC.exit | apply HC.ret | apply HX.e_block | refine HX.e_other rfl ?_ | apply HX.e_then | apply HX.e_again | apply HX.n_block | apply HX.r_then | apply HX.r_block | apply HX.r_again | refine HC.cond_yes rfl ?_ | refine HC.cond_no rfl ?_ | refine HL.one (H1.ldb rfl memA rfl rfl ?_) | refine HC.cond rfl (fun hc => ?_) (fun hc => ?_) | refine HC.cond_b rfl (fun hc => ?_) (fun hc => ?_))
    refine HL.one (H1.alloc (cs := rcells rcZ) rfl rfl (fun b6 => ?_))
    repeat' (first | apply HL.fold | apply HA.fold | apply HL.nil | apply HX.n_then | apply HC.seq | apply HC.region | refine HL.pa ?_ | refine HL.ga rfl ?_ | refine HL.na rfl ?_ | refine HL.nu rfl rfl ?_ | apply HC.block | apply HC.skip | apply HC.exit | apply HC.ret | apply HX.e_block | refine HX.e_other rfl ?_ | apply HX.e_then | apply HX.e_again | apply HX.n_block | apply HX.r_then | apply HX.r_block | apply HX.r_again | refine HC.cond_yes rfl ?_ | refine HC.cond_no rfl ?_ | refine HL.one (H1.ldb rfl memA rfl rfl ?_) | refine HC.cond rfl (fun hc => ?_) (fun hc => ?_) | refine HC.cond_b rfl (fun hc => ?_) (fun hc => ?_))
    refine HL.one (H1.stAgg (cs := rcells rcZ) (vs := rcells r) rfl rfl rfl (rcells_one _) rplA rfl ?_)
    repeat' (first | apply HL.fold | apply HA.fold | apply HL.nil | apply HX.n_then | apply HC.seq | apply HC.region | refine HL.pa ?_ | refine HL.ga rfl ?_ | refine HL.na rfl ?_ | refine HL.nu rfl rfl ?_ | apply HC.block | apply HC.skip | apply HC.exit | apply HC.ret | apply HX.e_block | refine HX.e_other rfl ?_ | apply HX.e_then | apply HX.e_again | apply HX.n_block | apply HX.r_then | apply HX.r_block | apply HX.r_again | refine HC.cond_yes rfl ?_ | refine HC.cond_no rfl ?_ | refine HL.one (H1.ldb rfl memA rfl rfl ?_) | refine HC.cond rfl (fun hc => ?_) (fun hc => ?_) | refine HC.cond_b rfl (fun hc => ?_) (fun hc => ?_))
    refine HL.one (H1.callx (vs := [.pointer (some ⟨b4, 0, none⟩), zv r.kind]) rfl rfl (fun w' _ => by rw [hk]; exact list_fn b4 k hk8 w') ?_)
    repeat' (first | apply HL.fold | apply HA.fold | apply HL.nil | apply HX.n_then | apply HC.seq | apply HC.region | refine HL.pa ?_ | refine HL.ga rfl ?_ | refine HL.na rfl ?_ | refine HL.nu rfl rfl ?_ | apply HC.block | apply HC.skip | apply HC.exit | apply HC.ret | apply HX.e_block | refine HX.e_other rfl ?_ | apply HX.e_then | apply HX.e_again | apply HX.n_block | apply HX.r_then | apply HX.r_block | apply HX.r_again | refine HC.cond_yes rfl ?_ | refine HC.cond_no rfl ?_ | refine HL.one (H1.ldb rfl memA rfl rfl ?_) | refine HC.cond rfl (fun hc => ?_) (fun hc => ?_) | refine HC.cond_b rfl (fun hc => ?_) (fun hc => ?_))
    refine HC.any rfl ?_
    refine HA.pa 0 rfl ?_
    refine HA.pa 1 rfl ?_
    refine HA.pa 2 rfl ?_ (POp.nilCheck rfl)
    refine HA.all [3, 4] (by kernel_rfl) rfl ⟨⟨_, rfl, ?_⟩, ⟨_, rfl, ?_⟩, trivial⟩
    · refine HO.one ?_
      refine H1.ldb (cs := row 8 fun i => slot (q i)) (v := slot (q k)) rfl memA (row_get _ hk8) rfl ?_
      apply HA.fold
      refine HA.all [4] (by kernel_rfl) rfl ⟨⟨_, rfl, ?_⟩, trivial⟩
      refine HO.one ?_
      refine H1.ldAgg (vs := rcells r) rfl (.head _) rfl (fun i v hv => by rw [Nat.zero_add]; exact hv) rfl ?_
      apply HA.fold
      refine HA.all [5] (by kernel_rfl) rfl ⟨⟨_, rfl, ?_⟩, trivial⟩
      refine HO.one ?_
      refine H1.lit (cs := rcells r) rfl rfl rfl rfl rfl rfl (fun b8 => ?_)
      apply HA.fold
      refine HA.all [6] (by kernel_rfl) rfl ⟨⟨_, rfl, ?_⟩, trivial⟩
      refine HO.one ?_
      refine H1.app (e := 24) (sz := 15) (m := 1) (n := (q k).2.2.length) (a := (q k).1) (c := (q k).2.1) (xs := rcl (q k).2.2) (news := rcells r) rfl (by decide) rfl rfl (fun a' c' => Rpl.there (Rpl.there (Rpl.there (Rpl.there (Rpl.there (rpl_push q hk8 r a' c')))))) rfl (fun w hM j u hu => by rw [add_lit, Nat.zero_add]; exact (hM.blk (.head _)).cell hu) (rcells_one r) hlen (by decide) rfl (fun a' c' _ => ?_)
      apply HA.fold
      refine HA.pa 7 rfl ?_ (POp.nilCheck rfl)
      refine HA.all [8] (by kernel_rfl) rfl ⟨⟨_, rfl, ?_⟩, trivial⟩
      refine HO.one ?_
      refine H1.st (b := b4) (i := k) rfl rfl (by intro _ h; cases h) (by intro _ h; cases h) (Rpl.there (Rpl.there (Rpl.there (Rpl.there Rpl.here)))) (by rw [row_len]; exact hk8) ?_
      rw [slot_push]
      apply HA.fold
      refine HA.done (by kernel_rfl) ?_
      repeat' (first | apply HL.fold | apply HA.fold | apply HL.nil | apply HX.n_then | apply HC.seq | apply HC.region | refine HL.pa ?_ | refine HL.ga rfl ?_ | refine HL.na rfl ?_ | refine HL.nu rfl rfl ?_ | apply HC.block | apply HC.skip | apply HC.exit | apply HC.ret | apply HX.e_block | refine HX.e_other rfl ?_ | apply HX.e_then | apply HX.e_again | apply HX.n_block | apply HX.r_then | apply HX.r_block | apply HX.r_again | refine HC.cond_yes rfl ?_ | refine HC.cond_no rfl ?_ | refine HL.one (H1.ldb rfl memA rfl rfl ?_) | refine HC.cond rfl (fun hc => ?_) (fun hc => ?_) | refine HC.cond_b rfl (fun hc => ?_) (fun hc => ?_))
      exact HX.again (seen.push e.born, updQ q k (a', c', (q k).2.2 ++ [r])) (hpush a' c') (mleft_lt he hne) esA (Hs.refl _).skip.skip
    · refine HO.one ?_
      refine H1.ldAgg (vs := rcells r) rfl (.head _) rfl (fun i v hv => by rw [Nat.zero_add]; exact hv) rfl ?_
      apply HA.fold
      refine HA.all [3, 5] (by kernel_rfl) rfl ⟨⟨_, rfl, ?_⟩, ⟨_, rfl, ?_⟩, trivial⟩
      · refine HO.one ?_
        refine H1.ldb (cs := row 8 fun i => slot (q i)) (v := slot (q k)) rfl memA (row_get _ hk8) rfl ?_
        apply HA.fold
        refine HA.all [5] (by kernel_rfl) rfl ⟨⟨_, rfl, ?_⟩, trivial⟩
        refine HO.one ?_
        refine H1.lit (cs := rcells r) rfl rfl rfl rfl rfl rfl (fun b8 => ?_)
        apply HA.fold
        refine HA.all [6] (by kernel_rfl) rfl ⟨⟨_, rfl, ?_⟩, trivial⟩
        refine HO.one ?_
        refine H1.app (e := 24) (sz := 15) (m := 1) (n := (q k).2.2.length) (a := (q k).1) (c := (q k).2.1) (xs := rcl (q k).2.2) (news := rcells r) rfl (by decide) rfl rfl (fun a' c' => Rpl.there (Rpl.there (Rpl.there (Rpl.there (Rpl.there (rpl_push q hk8 r a' c')))))) rfl (fun w hM j u hu => by rw [add_lit, Nat.zero_add]; exact (hM.blk (.head _)).cell hu) (rcells_one r) hlen (by decide) rfl (fun a' c' _ => ?_)
        apply HA.fold
        refine HA.pa 7 rfl ?_ (POp.nilCheck rfl)
        refine HA.all [8] (by kernel_rfl) rfl ⟨⟨_, rfl, ?_⟩, trivial⟩
        refine HO.one ?_
        refine H1.st (b := b4) (i := k) rfl rfl (by intro _ h; cases h) (by intro _ h; cases h) (Rpl.there (Rpl.there (Rpl.there (Rpl.there Rpl.here)))) (by rw [row_len]; exact hk8) ?_
        rw [slot_push]
        apply HA.fold
        refine HA.done (by kernel_rfl) ?_
        repeat' (first | apply HL.fold | apply HA.fold | apply HL.nil | apply HX.n_then | apply HC.seq | apply HC.region | refine HL.pa ?_ | refine HL.ga rfl ?_ | refine HL.na rfl ?_ | refine HL.nu rfl rfl ?_ | apply HC.block | apply HC.skip | apply HC.exit | apply HC.ret | apply HX.e_block | refine HX.e_other rfl ?_ | apply HX.e_then | apply HX.e_again | apply HX.n_block | apply HX.r_then | apply HX.r_block | apply HX.r_again | refine HC.cond_yes rfl ?_ | refine HC.cond_no rfl ?_ | refine HL.one (H1.ldb rfl memA rfl rfl ?_) | refine HC.cond rfl (fun hc => ?_) (fun hc => ?_) | refine HC.cond_b rfl (fun hc => ?_) (fun hc => ?_))
        exact HX.again (seen.push e.born, updQ q k (a', c', (q k).2.2 ++ [r])) (hpush a' c') (mleft_lt he hne) esA (Hs.refl _).skip.skip
      · refine HO.one ?_
        refine H1.lit (cs := rcells r) rfl rfl rfl rfl rfl rfl (fun b8 => ?_)
        apply HA.fold
        refine HA.all [3] (by kernel_rfl) rfl ⟨⟨_, rfl, ?_⟩, trivial⟩
        refine HO.one ?_
        refine H1.ldb (cs := row 8 fun i => slot (q i)) (v := slot (q k)) rfl memA (row_get _ hk8) rfl ?_
        apply HA.fold
        refine HA.all [6] (by kernel_rfl) rfl ⟨⟨_, rfl, ?_⟩, trivial⟩
        refine HO.one ?_
        refine H1.app (e := 24) (sz := 15) (m := 1) (n := (q k).2.2.length) (a := (q k).1) (c := (q k).2.1) (xs := rcl (q k).2.2) (news := rcells r) rfl (by decide) rfl rfl (fun a' c' => Rpl.there (Rpl.there (Rpl.there (Rpl.there (Rpl.there (rpl_push q hk8 r a' c')))))) rfl (fun w hM j u hu => by rw [add_lit, Nat.zero_add]; exact (hM.blk (.head _)).cell hu) (rcells_one r) hlen (by decide) rfl (fun a' c' _ => ?_)
        apply HA.fold
        refine HA.pa 7 rfl ?_ (POp.nilCheck rfl)
        refine HA.all [8] (by kernel_rfl) rfl ⟨⟨_, rfl, ?_⟩, trivial⟩
        refine HO.one ?_
        refine H1.st (b := b4) (i := k) rfl rfl (by intro _ h; cases h) (by intro _ h; cases h) (Rpl.there (Rpl.there (Rpl.there (Rpl.there Rpl.here)))) (by rw [row_len]; exact hk8) ?_
        rw [slot_push]
        apply HA.fold
        refine HA.done (by kernel_rfl) ?_
        repeat' (first | apply HL.fold | apply HA.fold | apply HL.nil | apply HX.n_then | apply HC.seq | apply HC.region | refine HL.pa ?_ | refine HL.ga rfl ?_ | refine HL.na rfl ?_ | refine HL.nu rfl rfl ?_ | apply HC.block | apply HC.skip | apply HC.exit | apply HC.ret | apply HX.e_block | refine HX.e_other rfl ?_ | apply HX.e_then | apply HX.e_again | apply HX.n_block | apply HX.r_then | apply HX.r_block | apply HX.r_again | refine HC.cond_yes rfl ?_ | refine HC.cond_no rfl ?_ | refine HL.one (H1.ldb rfl memA rfl rfl ?_) | refine HC.cond rfl (fun hc => ?_) (fun hc => ?_) | refine HC.cond_b rfl (fun hc => ?_) (fun hc => ?_))
        exact HX.again (seen.push e.born, updQ q k (a', c', (q k).2.2 ++ [r])) (hpush a' c') (mleft_lt he hne) esA (Hs.refl _).skip.skip
  intro q hq
  repeat' (first | apply HL.fold | apply HA.fold | apply HL.nil | apply HX.n_then | apply HC.seq | apply HC.region | refine HL.pa ?_ | refine HL.ga rfl ?_ | refine HL.na rfl ?_ | refine HL.nu rfl rfl ?_ | apply HC.block | apply HC.skip | apply HC.exit | apply HC.ret | apply HX.e_block | refine HX.e_other rfl ?_ | apply HX.e_then | apply HX.e_again | apply HX.n_block | apply HX.r_then | apply HX.r_block | apply HX.r_again | refine HC.cond_yes rfl ?_ | refine HC.cond_no rfl ?_ | refine HL.one (H1.ldb rfl memA rfl rfl ?_) | refine HC.cond rfl (fun hc => ?_) (fun hc => ?_) | refine HC.cond_b rfl (fun hc => ?_) (fun hc => ?_))
  refine HC.loop (α := Nat × (Nat → Slot)) (fun z => [(4, .pointer (some ⟨b4, 0, none⟩)), (28, zv (z.1 : Int))]) (fun z => A.blk b4 (row 8 fun i => slot (z.2 i)) 33 :: slots z.2)
    (fun z => z.1 ≤ 8 ∧ ∀ i : Nat, i < 8 → ((z.2 i).2.2.Nodup ∧ ∀ r, r ∈ (z.2 i).2.2 ↔ r.kind = (i : Int) + 1 ∧ Top l day r ∧ r.gone = false) ∧ (i < z.1 → (z.2 i).2.2.Pairwise fun x y => numK x ≤ numK y)) (fun z => 8 - z.1) (0, q)
    ⟨Nat.zero_le _, fun i hi => ⟨hq i hi, fun h => absurd h (Nat.not_lt_zero _)⟩⟩ esA (Hs.refl _) ?_
  clear hq q
  rintro ⟨j, q⟩ ⟨hj, hI⟩
  dsimp only at hj hI ⊢
  by_cases hlt : j < 8
  · have hjI : ((j : Int) < 8) := by omega
    have hjq := hI j hlt
    have hlen : (q j).2.2.length ≤ 1000000 := by
      have := nodup_len (l := l) hjq.1.1 fun s hs => ((hjq.1.2 s).1 hs).2.1.mem
      omega
    repeat' (first | apply HL.fold | apply HA.fold | apply HL.nil | apply HX.n_then | apply HC.seq | apply HC.region | refine HL.pa ?_ | refine HL.ga rfl ?_ | refine HL.na rfl ?_ | refine HL.nu rfl rfl ?_ | apply HC.block | apply HC.skip | apply HC.exit | apply HC.ret | apply HX.e_block | refine HX.e_other rfl ?_ | apply HX.e_then | apply HX.e_again | apply HX.n_block | apply HX.r_then | apply HX.r_block | apply HX.r_again | refine HC.cond_yes rfl ?_ | refine HC.cond_no rfl ?_ | refine HL.one (H1.ldb rfl memA rfl rfl ?_) | refine HC.cond rfl (fun hc => ?_) (fun hc => ?_) | refine HC.cond_b rfl (fun hc => ?_) (fun hc => ?_))
    refine HL.one (H1.callx (vs := [.pointer (some ⟨b4, 0, none⟩), zv ((j : Int) + 1)]) rfl rfl (fun w' _ => list_fn b4 j hlt w') ?_)
    repeat' (first | apply HL.fold | apply HA.fold | apply HL.nil | apply HX.n_then | apply HC.seq | apply HC.region | refine HL.pa ?_ | refine HL.ga rfl ?_ | refine HL.na rfl ?_ | refine HL.nu rfl rfl ?_ | apply HC.block | apply HC.skip | apply HC.exit | apply HC.ret | apply HX.e_block | refine HX.e_other rfl ?_ | apply HX.e_then | apply HX.e_again | apply HX.n_block | apply HX.r_then | apply HX.r_block | apply HX.r_again | refine HC.cond_yes rfl ?_ | refine HC.cond_no rfl ?_ | refine HL.one (H1.ldb rfl memA rfl rfl ?_) | refine HC.cond rfl (fun hc => ?_) (fun hc => ?_) | refine HC.cond_b rfl (fun hc => ?_) (fun hc => ?_))
    refine HL.pa ?_ (POp.nilCheck rfl)
    refine HL.one (H1.ldb (v := slot (q j)) rfl (.head _) (row_get _ hlt) rfl ?_)
    repeat' (first | apply HL.fold | apply HA.fold | apply HL.nil | apply HX.n_then | apply HC.seq | apply HC.region | refine HL.pa ?_ | refine HL.ga rfl ?_ | refine HL.na rfl ?_ | refine HL.nu rfl rfl ?_ | apply HC.block | apply HC.skip | apply HC.exit | apply HC.ret | apply HX.e_block | refine HX.e_other rfl ?_ | apply HX.e_then | apply HX.e_again | apply HX.n_block | apply HX.r_then | apply HX.r_block | apply HX.r_again | refine HC.cond_yes rfl ?_ | refine HC.cond_no rfl ?_ | refine HL.one (H1.ldb rfl memA rfl rfl ?_) | refine HC.cond rfl (fun hc => ?_) (fun hc => ?_) | refine HC.cond_b rfl (fun hc => ?_) (fun hc => ?_))
    refine HL.one (H1.callk (α := List Rc) (V := fun _ => .tuple #[]) (I := fun l' => l'.Perm (q j).2.2 ∧ l'.Pairwise fun x y => numK x ≤ numK y) (H' := fun l' => A.blk b4 (row 8 fun i => slot (q i)) 33 :: slots (updQ q j ((q j).1, (q j).2.1, l'))) (vs := [slot (q j), fnV 30]) rfl rfl
      (fun w' hM => sortFunc_fn hM hlen (fun l' hl' => Rpl.there (rpl_slots q hlt ((q j).1, (q j).2.1, l')))) ?_)
    rintro l' ⟨hp, hs⟩
    rw [slot_same q j hp.length_eq]
    repeat' (first | apply HL.fold | apply HA.fold | apply HL.nil | apply HX.n_then | apply HC.seq | apply HC.region | refine HL.pa ?_ | refine HL.ga rfl ?_ | refine HL.na rfl ?_ | refine HL.nu rfl rfl ?_ | apply HC.block | apply HC.skip | apply HC.exit | apply HC.ret | apply HX.e_block | refine HX.e_other rfl ?_ | apply HX.e_then | apply HX.e_again | apply HX.n_block | apply HX.r_then | apply HX.r_block | apply HX.r_again | refine HC.cond_yes rfl ?_ | refine HC.cond_no rfl ?_ | refine HL.one (H1.ldb rfl memA rfl rfl ?_) | refine HC.cond rfl (fun hc => ?_) (fun hc => ?_) | refine HC.cond_b rfl (fun hc => ?_) (fun hc => ?_))
    refine HX.again (j + 1, updQ q j ((q j).1, (q j).2.1, l')) ⟨hlt, fun i hi => ?_⟩ (by show 8 - (j + 1) < 8 - j; omega) esA (Hs.refl _)
    dsimp only [updQ]
    by_cases e : i = j
    · subst e
      rw [if_pos rfl]
      dsimp only
      exact ⟨⟨hp.nodup_iff.2 hjq.1.1, fun r => by rw [hp.mem_iff]; exact hjq.1.2 r⟩, fun _ => hs⟩
    · rw [if_neg e]
      exact ⟨(hI i hi).1, fun h => (hI i hi).2 (by omega)⟩
  obtain rfl : j = 8 := by omega
  repeat' (first | apply HL.fold | apply HA.fold | apply HL.nil | apply HX.n_then | apply HC.seq | apply HC.region | refine HL.pa ?_ | refine HL.ga rfl ?_ | refine HL.na rfl ?_ | refine HL.nu rfl rfl ?_ | apply HC.block | apply HC.skip | apply HC.exit | apply HC.ret | apply HX.e_block | refine HX.e_other rfl ?_ | apply HX.e_then | apply HX.e_again | apply HX.n_block | apply HX.r_then | apply HX.r_block | apply HX.r_again | refine HC.cond_yes rfl ?_ | refine HC.cond_no rfl ?_ | refine HL.one (H1.ldb rfl memA rfl rfl ?_) | refine HC.cond rfl (fun hc => ?_) (fun hc => ?_) | refine HC.cond_b rfl (fun hc => ?_) (fun hc => ?_))
  refine HL.one (H1.ldAgg (vs := row 8 fun i => slot (q i)) rfl (.head _) rfl (fun i v hv => by rw [Nat.zero_add]; exact hv) rfl ?_)
  repeat' (first | apply HL.fold | apply HA.fold | apply HL.nil | apply HX.n_then | apply HC.seq | apply HC.region | refine HL.pa ?_ | refine HL.ga rfl ?_ | refine HL.na rfl ?_ | refine HL.nu rfl rfl ?_ | apply HC.block | apply HC.skip | apply HC.exit | apply HC.ret | apply HX.e_block | refine HX.e_other rfl ?_ | apply HX.e_then | apply HX.e_again | apply HX.n_block | apply HX.r_then | apply HX.r_block | apply HX.r_again | refine HC.cond_yes rfl ?_ | refine HC.cond_no rfl ?_ | refine HL.one (H1.ldb rfl memA rfl rfl ?_) | refine HC.cond rfl (fun hc => ?_) (fun hc => ?_) | refine HC.cond_b rfl (fun hc => ?_) (fun hc => ?_))
  refine HL.one (H1.stAgg (cs := row 8 fun i => slot (q i)) (vs := row 8 fun i => slot (q i)) rfl rfl rfl (slot_one q) Rpl.here rfl ?_)
  repeat' (first | apply HL.fold | apply HA.fold | apply HL.nil | apply HX.n_then | apply HC.seq | apply HC.region | refine HL.pa ?_ | refine HL.ga rfl ?_ | refine HL.na rfl ?_ | refine HL.nu rfl rfl ?_ | apply HC.block | apply HC.skip | apply HC.exit | apply HC.ret | apply HX.e_block | refine HX.e_other rfl ?_ | apply HX.e_then | apply HX.e_again | apply HX.n_block | apply HX.r_then | apply HX.r_block | apply HX.r_again | refine HC.cond_yes rfl ?_ | refine HC.cond_no rfl ?_ | refine HL.one (H1.ldb rfl memA rfl rfl ?_) | refine HC.cond rfl (fun hc => ?_) (fun hc => ?_) | refine HC.cond_b rfl (fun hc => ?_) (fun hc => ?_))
  exact HX.retc1 (cs := row 8 fun i => slot (q i)) rfl rfl (.head _) rfl fun w' hM => ⟨q, fun i hi => isOf_sorted (hI i hi).1.1 ((hI i hi).2 hi) (hI i hi).1.2, rfl, hM.tail.pack1⟩
end Go.Sx

