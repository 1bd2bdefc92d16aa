/- Chapter 21: the law KnownEffect: plain; Number and few. -/
import Derived.Test.YtldhccgelcmjoaaGreatV8
namespace Go.Sx
open Go Go.Proofs Go.RowKit
/-- How many of the first records are in effect, each counted once. -/
def WantI (l : List Rc) (day : Int) (i : Nat) (n : Int) : Prop := ∃ W : List Rc, W.Nodup ∧ (∀ r, r ∈ W ↔ r ∈ l.take i ∧ Top l day r ∧ r.gone = false) ∧ n = W.length
theorem WantI.zero (l : List Rc) (day : Int) : WantI l day 0 0 := ⟨[], List.nodup_nil, by simp, rfl⟩
theorem WantI.le {l : List Rc} {day : Int} {i : Nat} {n : Int} (h : WantI l day i n) : 0 ≤ n ∧ n ≤ l.length := by
  obtain ⟨W, h1, h2, rfl⟩ := h
  have := nodup_len h1 fun x hx => List.mem_of_mem_take ((h2 x).1 hx).1
  omega
theorem WantI.yes {l : List Rc} {day : Int} {i : Nat} {n : Int} (h : WantI l day i n) {r : Rc} (hr : l[i]? = some r) (ht : Top l day r) (hg : r.gone = false) (hn : r ∉ l.take i) : WantI l day (i + 1) (n + 1) := by
  obtain ⟨W, h1, h2, rfl⟩ := h
  refine ⟨W ++ [r], ?_, fun s => ?_, by rw [List.length_append]; rfl⟩
  · rw [List.nodup_append]
    refine ⟨h1, List.pairwise_singleton _ _, fun a ha b hb e => ?_⟩
    rw [List.mem_singleton.1 hb] at e
    subst e
    exact hn ((h2 a).1 ha).1
  · rw [take_snoc hr, List.mem_append, List.mem_append, List.mem_singleton, h2]
    constructor
    · rintro (⟨h3, h4⟩ | rfl)
      · exact ⟨.inl h3, h4⟩
      · exact ⟨.inr rfl, ht, hg⟩
    · rintro ⟨h3 | h3, h4⟩
      · exact .inl ⟨h3, h4⟩
      · exact .inr h3
theorem WantI.no {l : List Rc} {day : Int} {i : Nat} {n : Int} (h : WantI l day i n) {r : Rc} (hr : l[i]? = some r) (hn : Top l day r → r.gone = false → r ∈ l.take i) : WantI l day (i + 1) n := by
  obtain ⟨W, h1, h2, rfl⟩ := h
  refine ⟨W, h1, fun s => ?_, rfl⟩
  rw [take_snoc hr, List.mem_append, List.mem_singleton, h2]
  constructor
  · rintro ⟨h3, h4⟩
    exact ⟨.inl h3, h4⟩
  · rintro ⟨h3 | rfl, h4⟩
    · exact ⟨h3, h4⟩
    · exact ⟨hn h4.1 h4.2, h4⟩
/-- How many records stand in the first lists. -/
def cntL (L : Nat → List Rc) : Nat → Nat
  | 0 => 0
  | i + 1 => cntL L i + (L i).length
theorem cntL_le {L : Nat → List Rc} {m : Nat} : ∀ i, (∀ k, k < i → (L k).length ≤ m) → cntL L i ≤ i * m
  | 0, _ => Nat.zero_le _
  | i + 1, h => by
    have h1 := cntL_le i fun k hk => h k (by omega)
    have h2 := h i (by omega)
    rw [Nat.succ_mul]
    exact Nat.add_le_add h1 h2
theorem cnt_list {l : List Rc} {day : Int} {L : Nat → List Rc} (hL : ∀ i : Nat, i < 8 → IsOf l day ((i : Int) + 1) (L i)) : ∀ i : Nat, i ≤ 8 → ∃ W : List Rc, W.Nodup ∧ (∀ r, r ∈ W ↔ (Top l day r ∧ r.gone = false) ∧ r.kind ≤ (i : Int)) ∧ cntL L i = W.length
  | 0, _ => ⟨[], List.nodup_nil, fun r => ⟨fun h => (by cases h), fun h => (by have := h.1.1.now.1.kind; have := h.2; exfalso; omega)⟩, rfl⟩
  | i + 1, hi => by
    obtain ⟨W, h1, h2, h3⟩ := cnt_list hL i (by omega)
    have h4 := hL i (by omega)
    refine ⟨W ++ L i, ?_, fun r => ?_, by rw [List.length_append, ← h3]; rfl⟩
    · rw [List.nodup_append]
      refine ⟨h1, h4.asc.nodup, fun a ha b hb e => ?_⟩
      subst e
      have h5 := ((h2 a).1 ha).2
      have h6 := ((h4.mem a).1 hb).2
      omega
    · rw [List.mem_append, h2, h4.mem]
      constructor
      · rintro (⟨h5, h6⟩ | ⟨h5, h6⟩)
        · exact ⟨h5, by omega⟩
        · exact ⟨h5, by omega⟩
      · rintro ⟨h5, h6⟩
        by_cases h7 : r.kind ≤ i
        · exact .inl ⟨h5, h7⟩
        · exact .inr ⟨h5, by omega⟩
theorem cnt_want {l : List Rc} {day : Int} {L : Nat → List Rc} (hL : ∀ i : Nat, i < 8 → IsOf l day ((i : Int) + 1) (L i)) {n : Int} (h : WantI l day l.length n) : (cntL L 8 : Int) = n := by
  obtain ⟨W, h1, h2, h3⟩ := cnt_list hL 8 (Nat.le_refl _)
  obtain ⟨V, h4, h5, rfl⟩ := h
  rw [h3]
  have e : ∀ r, r ∈ W ↔ r ∈ V := fun r => by
    rw [h2, h5, List.take_length]
    constructor
    · rintro ⟨h6, -⟩
      exact ⟨h6.1.mem, h6⟩
    · rintro ⟨-, h6⟩
      exact ⟨h6, h6.1.now.1.kind.2⟩
  have a := nodup_len h1 fun x hx => (e x).1 hx
  have b := nodup_len h4 fun x hx => (e x).2 hx
  omega
/-- What each record of the lists is. -/
theorem list_at {l : List Rc} {day k : Int} {L : List Rc} (h : IsOf l day k L) {r : Rc} (hr : r ∈ L) : r ∈ l ∧ ValidR r ∧ r.day ≤ day ∧ r.gone = false ∧ r.kind = k ∧ ∀ s ∈ l, s.day ≤ day → ¬ Prev s r := by
  obtain ⟨⟨h1, h2⟩, h3⟩ := (h.mem r).1 hr
  exact ⟨h1.mem, h1.now.1, h1.now.2, h2, h3, h1.top⟩
theorem list_asc {L : List Rc} (h : asK L) {k : Nat} {r s : Rc} (hr : L[k]? = some r) (hs : L[k + 1]? = some s) : numK r < numK s := by
  rw [numK_numR, numK_numR]
  obtain ⟨h1, e1⟩ := List.getElem?_eq_some_iff.1 hr
  obtain ⟨h2, e2⟩ := List.getElem?_eq_some_iff.1 hs
  rw [← e1, ← e2]
  exact List.pairwise_iff_getElem.1 h k (k + 1) h1 h2 (by omega)
/-- Up to here no other record, and not the same one before, speaks against a record. -/
def GoodI (l : List Rc) (day : Int) (i : Nat) (s : Rc) (k : Nat) : Prop := ∀ j t, j < k → l[j]? = some t → ¬ (t.day ≤ day ∧ Prev t s) ∧ ¬ (j < i ∧ t = s)
/-- What a flag says of a record, with the first records seen. -/
def FlagI (l : List Rc) (day : Int) (i : Nat) (s : Rc) (k : Nat) (c : Bool) : Prop :=
  (c = true → (ValidR s ∧ s.day ≤ day ∧ s.gone = false) ∧ GoodI l day i s k) ∧ (c = false → Top l day s → s.gone = false → s ∈ l.take i)
theorem FlagI.zero {l : List Rc} {day : Int} {i : Nat} {s : Rc} {c : Bool} (h : c = true ↔ (ValidR s ∧ s.day ≤ day ∧ s.gone = false)) : FlagI l day i s 0 c :=
  ⟨fun e => ⟨h.1 e, fun j t hj => absurd hj (Nat.not_lt_zero _)⟩, fun e ht hg => by
    rw [h.2 ⟨ht.now.1, ht.now.2, hg⟩] at e
    cases e⟩
theorem FlagI.bad {l : List Rc} {day : Int} {i k k' : Nat} {s t : Rc} (ht : l[k]? = some t) (hb : (t.day ≤ day ∧ Prev t s) ∨ (k < i ∧ t = s)) : FlagI l day i s k' false := by
  refine ⟨fun e => (by cases e), fun _ htop _ => ?_⟩
  rcases hb with ⟨h1, h2⟩ | ⟨h1, rfl⟩
  · exact absurd h2 (htop.top t (List.mem_of_getElem? ht) h1)
  · exact List.mem_of_getElem? (by rw [List.getElem?_take, if_pos h1]; exact ht)
theorem FlagI.good {l : List Rc} {day : Int} {i k : Nat} {s t : Rc} (h : FlagI l day i s k true) (ht : l[k]? = some t) (hb : ¬ ((t.day ≤ day ∧ Prev t s) ∨ (k < i ∧ t = s))) : FlagI l day i s (k + 1) true := by
  refine ⟨fun _ => ⟨(h.1 rfl).1, fun j u hj hu => ?_⟩, fun e => (by cases e)⟩
  by_cases e : j = k
  · subst e
    rw [ht] at hu
    cases hu
    exact ⟨fun h' => hb (.inl h'), fun h' => hb (.inr h')⟩
  · exact (h.1 rfl).2 j u (by omega) hu
theorem FlagI.yes {l : List Rc} {day : Int} {i : Nat} {s : Rc} {n : Int} (hs : l[i]? = some s) (h : FlagI l day i s l.length true) (hw : WantI l day i n) : WantI l day (i + 1) (n + 1) := by
  obtain ⟨⟨h1, h2, h3⟩, h4⟩ := h.1 rfl
  refine hw.yes hs ⟨List.mem_of_getElem? hs, ⟨h1, h2⟩, fun t ht hd hp => ?_⟩ h3 fun hm => ?_
  · obtain ⟨j, hj, e⟩ := List.getElem_of_mem ht
    exact (h4 j t hj (by rw [List.getElem?_eq_getElem hj, e])).1 ⟨hd, hp⟩
  · obtain ⟨j, hj⟩ := List.getElem?_of_mem hm
    have hji : j < i := by
      have := (List.getElem?_eq_some_iff.1 hj).1
      rw [List.length_take] at this
      omega
    rw [List.getElem?_take, if_pos hji] at hj
    exact (h4 j s (List.getElem?_eq_some_iff.1 hj).1 hj).2 ⟨hji, rfl⟩
theorem FlagI.no {l : List Rc} {day : Int} {i k : Nat} {s : Rc} {n : Int} (hs : l[i]? = some s) (h : FlagI l day i s k false) (hw : WantI l day i n) : WantI l day (i + 1) n := hw.no hs (h.2 rfl)
/-- A record of which the text is cut. -/
def cutR (r : Rc) : Rc := ⟨r.kind, r.id, r.version, r.day, r.gone, r.start, r.stop, r.pack, r.person, r.role, r.purpose, r.clause, r.adm, r.party, r.text.extract 0 (min (r.text.size : Int) 50).toNat⟩
theorem cutR_ok {r : Rc} (h : RcOk r) : RcOk (cutR r) := ⟨h.kind, h.id, h.version, h.day, h.start, h.stop, h.pack, h.person, h.role, h.purpose, h.clause, h.party, by
  show (r.text.extract 0 (min (r.text.size : Int) 50).toNat).size ≤ maxLen
  rw [ByteArray.size_extract]
  have := h.text
  omega⟩
theorem cutR_cells (r : Rc) : (rcells r).set 14 (.string (r.text.extract 0 (min (r.text.size : Int) 50).toNat)) = rcells (cutR r) := rfl
/-- An operation whose guard itself is not performed. -/
theorem HO.drop_u {P : Program} {N : Nat} {ds : List Deferred} {ol : List Oper} {Q : Post} {E : Env} {w0 : World} {H : List Atom} {fuel : Nat} {listed : Array Bool} {ty : TypeId} {pos : String} {af : Array Edge} {op : Op} {d : Option Nat} {i j : Nat} {want : Bool} (hj : guardU ol E j = true)
    (h : HA P N ds ol fuel (listed.setIfInBounds i true) Q (putE d undef E) w0 H) (hd : dOk d N = true := by exact rfl) : HO P N ds ol fuel listed i ⟨d, op, ty, pos, af, some (j, want)⟩ Q E w0 H := fun w hM a ha => by
  have hy := guardU_spec hj ha
  have hne : ((none : Option Bool) == some want) = false := by cases want <;> rfl
  simp only [Region.wanted, hy, hne, Bool.false_eq_true, if_false]
  exact h w hM _ (ha.putO hd undef)
attribute [local irreducible] WC WL WX POp Then Again Fn NX W1 WA WO QL RP RA Yld LoopAt HC HL HX HN H1 HA HO HQ HB HP A.blk A.grow A.rd A.obj A.mp AgainH CutH
attribute [local irreducible] A.dfr A.loop bsA cutR
theorem number21_fn (r : Rc) (w : World) : Fn Tryz.prog 13 #[recV r] w fun v w' => v = zv (numK r) ∧ Ext w w' := by
  refine enterH (l := [_]) rfl Tryz.ntmps13 rfl ?_
  repeat' (first | apply HL.fold | apply HA.fold | apply HL.nil | apply HX.n_then | apply HC.seq | apply HC.region | refine HL.pa ?_ | refine HL.ga rfl ?_ | refine HL.na rfl ?_ | refine HL.nu rfl rfl ?_ | apply HC.block | apply HC.skip | apply HC.exit | apply HC.ret | apply HX.e_block | refine HX.e_other rfl ?_ | apply HX.e_then | apply HX.e_again | apply HX.n_block | apply HX.r_then | apply HX.r_block | apply HX.r_again | refine HC.cond_yes rfl ?_ | refine HC.cond_no rfl ?_ | refine HL.one (H1.ldb rfl memA rfl rfl ?_) | refine HC.cond rfl (fun hc => ?_) (fun hc => ?_) | refine HC.cond_b rfl (fun hc => ?_) (fun hc => ?_))
  refine HL.one (H1.boxAgg (cs := rcells r) rfl rfl (fun b1 => ?_))
  unfold numK
  by_cases h1 : r.kind = 2
  · rw [if_pos h1]
    repeat' (first | apply HL.fold | apply HA.fold | apply HL.nil | apply HX.n_then | apply HC.seq | apply HC.region | refine HL.pa ?_ | refine HL.ga rfl ?_ | refine HL.na rfl ?_ | refine HL.nu rfl rfl ?_ | apply HC.block | apply HC.skip | apply HC.exit | apply HC.ret | apply HX.e_block | refine HX.e_other rfl ?_ | apply HX.e_then | apply HX.e_again | apply HX.n_block | apply HX.r_then | apply HX.r_block | apply HX.r_again | refine HC.cond_yes rfl ?_ | refine HC.cond_no rfl ?_ | refine HL.one (H1.ldb rfl memA rfl rfl ?_) | refine HC.cond rfl (fun hc => ?_) (fun hc => ?_) | refine HC.cond_b rfl (fun hc => ?_) (fun hc => ?_))
    exact HX.ret1 rfl rfl fun w' hM => ⟨rfl, hM.ext⟩
  · rw [if_neg h1]
    by_cases h2 : r.kind = 6
    · rw [if_pos h2]
      repeat' (first | apply HL.fold | apply HA.fold | apply HL.nil | apply HX.n_then | apply HC.seq | apply HC.region | refine HL.pa ?_ | refine HL.ga rfl ?_ | refine HL.na rfl ?_ | refine HL.nu rfl rfl ?_ | apply HC.block | apply HC.skip | apply HC.exit | apply HC.ret | apply HX.e_block | refine HX.e_other rfl ?_ | apply HX.e_then | apply HX.e_again | apply HX.n_block | apply HX.r_then | apply HX.r_block | apply HX.r_again | refine HC.cond_yes rfl ?_ | refine HC.cond_no rfl ?_ | refine HL.one (H1.ldb rfl memA rfl rfl ?_) | refine HC.cond rfl (fun hc => ?_) (fun hc => ?_) | refine HC.cond_b rfl (fun hc => ?_) (fun hc => ?_))
      exact HX.ret1 rfl rfl fun w' hM => ⟨rfl, hM.ext⟩
    · rw [if_neg h2]
      repeat' (first | apply HL.fold | apply HA.fold | apply HL.nil | apply HX.n_then | apply HC.seq | apply HC.region | refine HL.pa ?_ | refine HL.ga rfl ?_ | refine HL.na rfl ?_ | refine HL.nu rfl rfl ?_ | apply HC.block | apply HC.skip | apply HC.exit | apply HC.ret | apply HX.e_block | refine HX.e_other rfl ?_ | apply HX.e_then | apply HX.e_again | apply HX.n_block | apply HX.r_then | apply HX.r_block | apply HX.r_again | refine HC.cond_yes rfl ?_ | refine HC.cond_no rfl ?_ | refine HL.one (H1.ldb rfl memA rfl rfl ?_) | refine HC.cond rfl (fun hc => ?_) (fun hc => ?_) | refine HC.cond_b rfl (fun hc => ?_) (fun hc => ?_))
      exact HX.ret1 rfl rfl fun w' hM => ⟨rfl, hM.ext⟩
theorem few_fn21 (a : Option Addr) (c : Nat) (r : Rc) (hs : r.text.size ≤ maxLen) (w : World) (hR : RdR w (.slice a 1 c) [r]) :
    Fn Tryz.prog 7 #[.slice a 1 c] w fun v w' => ∃ z : Option Addr × Nat, True ∧ v = .slice z.1 1 z.2 ∧ Mm w [A.grow 24 15 z.1 z.2 ([cutR r] : List Rc).length (rcl [cutR r])] w' := by
  obtain ⟨b0, o0, rfl, -, hc0⟩ := hR.at (by simp)
  have hd := hc0 0 r rfl
  clear hc0
  have hs' : (r.text.size : Int) ≤ 9223372036854775807 := by simp only [maxLen] at hs; omega
  refine enterH (l := [_]) rfl Tryz.ntmps7 rfl ?_
  repeat' (first | apply HL.fold | apply HA.fold | apply HL.nil | apply HX.n_then | apply HC.seq | apply HC.region | refine HL.pa ?_ | refine HL.ga rfl ?_ | refine HL.na rfl ?_ | refine HL.nu rfl rfl ?_ | apply HC.block | apply HC.skip | apply HC.exit | apply HC.ret | apply HX.e_block | refine HX.e_other rfl ?_ | apply HX.e_then | apply HX.e_again | apply HX.n_block | apply HX.r_then | apply HX.r_block | apply HX.r_again | refine HC.cond_yes rfl ?_ | refine HC.cond_no rfl ?_ | refine HL.one (H1.ldb rfl memA rfl rfl ?_) | refine HC.cond rfl (fun hc => ?_) (fun hc => ?_) | refine HC.cond_b rfl (fun hc => ?_) (fun hc => ?_))
  refine HC.grow0 24 15 ?_
  refine HC.loop (α := Nat × Option Addr × Nat) (fun z => [(0, .slice (some ⟨b0, o0, none⟩) 1 c), (3, .slice z.2.1 ((([cutR r] : List Rc).take z.1)).length z.2.2), (4, zv (z.1 : Int))]) (fun z => [A.grow 24 15 z.2.1 z.2.2 ((([cutR r] : List Rc).take z.1)).length (rcl (([cutR r] : List Rc).take z.1))]) (fun z => z.1 ≤ 1) (fun z => 1 - z.1) (0, none, 0) (Nat.zero_le _) esA (by repeat (first | exact Hs.nil _ | (refine Hs.cons pickA ?_))) ?_
  rintro ⟨i, ai, ci⟩ hi
  dsimp only at hi ⊢
  by_cases hlt : i = 1
  · subst hlt
    repeat' (first | apply HL.fold | apply HA.fold | apply HL.nil | apply HX.n_then | apply HC.seq | apply HC.region | refine HL.pa ?_ | refine HL.ga rfl ?_ | refine HL.na rfl ?_ | refine HL.nu rfl rfl ?_ | apply HC.block | apply HC.skip | apply HC.exit | apply HC.ret | apply HX.e_block | refine HX.e_other rfl ?_ | apply HX.e_then | apply HX.e_again | apply HX.n_block | apply HX.r_then | apply HX.r_block | apply HX.r_again | refine HC.cond_yes rfl ?_ | refine HC.cond_no rfl ?_ | refine HL.one (H1.ldb rfl memA rfl rfl ?_) | refine HC.cond rfl (fun hc => ?_) (fun hc => ?_) | refine HC.cond_b rfl (fun hc => ?_) (fun hc => ?_))
    exact HX.ret1 rfl rfl fun w' hM => ⟨(ai, ci), trivial, rfl, hM.sub (H' := [A.grow 24 15 ai ci ([cutR r] : List Rc).length (rcl [cutR r])]) (by repeat (first | exact Hs.nil _ | (refine Hs.cons pickA ?_)))⟩
  obtain rfl : i = 0 := by omega
  repeat' (first | apply HL.fold | apply HA.fold | apply HL.nil | apply HX.n_then | apply HC.seq | apply HC.region | refine HL.pa ?_ | refine HL.ga rfl ?_ | refine HL.na rfl ?_ | refine HL.nu rfl rfl ?_ | apply HC.block | apply HC.skip | apply HC.exit | apply HC.ret | apply HX.e_block | refine HX.e_other rfl ?_ | apply HX.e_then | apply HX.e_again | apply HX.n_block | apply HX.r_then | apply HX.r_block | apply HX.r_again | refine HC.cond_yes rfl ?_ | refine HC.cond_no rfl ?_ | refine HL.one (H1.ldb rfl memA rfl rfl ?_) | refine HC.cond rfl (fun hc => ?_) (fun hc => ?_) | refine HC.cond_b rfl (fun hc => ?_) (fun hc => ?_))
  refine HL.one (H1.ldAggw (vs := rcells r) rfl rfl (fun w' hM i v hv => by have h := cell_ext hM.ext (hd i v hv); first | exact h | (simpa using h)) rfl ?_)
  repeat' (first | apply HL.fold | apply HA.fold | apply HL.nil | apply HX.n_then | apply HC.seq | apply HC.region | refine HL.pa ?_ | refine HL.ga rfl ?_ | refine HL.na rfl ?_ | refine HL.nu rfl rfl ?_ | apply HC.block | apply HC.skip | apply HC.exit | apply HC.ret | apply HX.e_block | refine HX.e_other rfl ?_ | apply HX.e_then | apply HX.e_again | apply HX.n_block | apply HX.r_then | apply HX.r_block | apply HX.r_again | refine HC.cond_yes rfl ?_ | refine HC.cond_no rfl ?_ | refine HL.one (H1.ldb rfl memA rfl rfl ?_) | refine HC.cond rfl (fun hc => ?_) (fun hc => ?_) | refine HC.cond_b rfl (fun hc => ?_) (fun hc => ?_))
  refine HL.one (H1.alloc (cs := rcells rcZ) rfl rfl (fun b5 => ?_))
  repeat' (first | apply HL.fold | apply HA.fold | apply HL.nil | apply HX.n_then | apply HC.seq | apply HC.region | refine HL.pa ?_ | refine HL.ga rfl ?_ | refine HL.na rfl ?_ | refine HL.nu rfl rfl ?_ | apply HC.block | apply HC.skip | apply HC.exit | apply HC.ret | apply HX.e_block | refine HX.e_other rfl ?_ | apply HX.e_then | apply HX.e_again | apply HX.n_block | apply HX.r_then | apply HX.r_block | apply HX.r_again | refine HC.cond_yes rfl ?_ | refine HC.cond_no rfl ?_ | refine HL.one (H1.ldb rfl memA rfl rfl ?_) | refine HC.cond rfl (fun hc => ?_) (fun hc => ?_) | refine HC.cond_b rfl (fun hc => ?_) (fun hc => ?_))
  refine HL.one (H1.stAgg (cs := rcells rcZ) (vs := rcells r) rfl rfl rfl (rcells_one r) rplA rfl ?_)
  repeat' (first | apply HL.fold | apply HA.fold | apply HL.nil | apply HX.n_then | apply HC.seq | apply HC.region | refine HL.pa ?_ | refine HL.ga rfl ?_ | refine HL.na rfl ?_ | refine HL.nu rfl rfl ?_ | apply HC.block | apply HC.skip | apply HC.exit | apply HC.ret | apply HX.e_block | refine HX.e_other rfl ?_ | apply HX.e_then | apply HX.e_again | apply HX.n_block | apply HX.r_then | apply HX.r_block | apply HX.r_again | refine HC.cond_yes rfl ?_ | refine HC.cond_no rfl ?_ | refine HL.one (H1.ldb rfl memA rfl rfl ?_) | refine HC.cond rfl (fun hc => ?_) (fun hc => ?_) | refine HC.cond_b rfl (fun hc => ?_) (fun hc => ?_))
  refine HL.one (H1.st (b := b5) rfl rfl (by intro _ h; cases h) (by intro _ h; cases h) rplA (of_decide_eq_true rfl) ?_)
  rw [cutR_cells]
  repeat' (first | apply HL.fold | apply HA.fold | apply HL.nil | apply HX.n_then | apply HC.seq | apply HC.region | refine HL.pa ?_ | refine HL.ga rfl ?_ | refine HL.na rfl ?_ | refine HL.nu rfl rfl ?_ | apply HC.block | apply HC.skip | apply HC.exit | apply HC.ret | apply HX.e_block | refine HX.e_other rfl ?_ | apply HX.e_then | apply HX.e_again | apply HX.n_block | apply HX.r_then | apply HX.r_block | apply HX.r_again | refine HC.cond_yes rfl ?_ | refine HC.cond_no rfl ?_ | refine HL.one (H1.ldb rfl memA rfl rfl ?_) | refine HC.cond rfl (fun hc => ?_) (fun hc => ?_) | refine HC.cond_b rfl (fun hc => ?_) (fun hc => ?_))
  refine HL.one (H1.ldAgg (vs := rcells (cutR r)) rfl memA rfl (fun i v hv => by rw [Nat.zero_add]; exact hv) rfl ?_)
  repeat' (first | apply HL.fold | apply HA.fold | apply HL.nil | apply HX.n_then | apply HC.seq | apply HC.region | refine HL.pa ?_ | refine HL.ga rfl ?_ | refine HL.na rfl ?_ | refine HL.nu rfl rfl ?_ | apply HC.block | apply HC.skip | apply HC.exit | apply HC.ret | apply HX.e_block | refine HX.e_other rfl ?_ | apply HX.e_then | apply HX.e_again | apply HX.n_block | apply HX.r_then | apply HX.r_block | apply HX.r_again | refine HC.cond_yes rfl ?_ | refine HC.cond_no rfl ?_ | refine HL.one (H1.ldb rfl memA rfl rfl ?_) | refine HC.cond rfl (fun hc => ?_) (fun hc => ?_) | refine HC.cond_b rfl (fun hc => ?_) (fun hc => ?_))
  refine HL.one (H1.lit (cs := rcells (cutR r)) rfl rfl rfl rfl rfl rfl (fun bs => ?_))
  repeat' (first | apply HL.fold | apply HA.fold | apply HL.nil | apply HX.n_then | apply HC.seq | apply HC.region | refine HL.pa ?_ | refine HL.ga rfl ?_ | refine HL.na rfl ?_ | refine HL.nu rfl rfl ?_ | apply HC.block | apply HC.skip | apply HC.exit | apply HC.ret | apply HX.e_block | refine HX.e_other rfl ?_ | apply HX.e_then | apply HX.e_again | apply HX.n_block | apply HX.r_then | apply HX.r_block | apply HX.r_again | refine HC.cond_yes rfl ?_ | refine HC.cond_no rfl ?_ | refine HL.one (H1.ldb rfl memA rfl rfl ?_) | refine HC.cond rfl (fun hc => ?_) (fun hc => ?_) | refine HC.cond_b rfl (fun hc => ?_) (fun hc => ?_))
  refine HL.one (H1.appRec1 (e := 24) (l := ([cutR r] : List Rc).take 0) (rc := cutR r) (a := ai) (c := ci) rfl rfl rfl (fun a' c' => by first | ((repeat (first | with_reducible exact Rpl.here | with_reducible apply Rpl.there)); done) | (repeat (first | exact Rpl.here | apply Rpl.there))) memA (Nat.zero_le _) (by decide) rfl (fun a1 c1 => ?_))
  rw [show List.take 0 [cutR r] ++ [cutR r] = List.take 1 [cutR r] from rfl]
  repeat' (first | apply HL.fold | apply HA.fold | apply HL.nil | apply HX.n_then | apply HC.seq | apply HC.region | refine HL.pa ?_ | refine HL.ga rfl ?_ | refine HL.na rfl ?_ | refine HL.nu rfl rfl ?_ | apply HC.block | apply HC.skip | apply HC.exit | apply HC.ret | apply HX.e_block | refine HX.e_other rfl ?_ | apply HX.e_then | apply HX.e_again | apply HX.n_block | apply HX.r_then | apply HX.r_block | apply HX.r_again | refine HC.cond_yes rfl ?_ | refine HC.cond_no rfl ?_ | refine HL.one (H1.ldb rfl memA rfl rfl ?_) | refine HC.cond rfl (fun hc => ?_) (fun hc => ?_) | refine HC.cond_b rfl (fun hc => ?_) (fun hc => ?_))
  exact HX.again (1, a1, c1) (Nat.le_refl _) (by show 1 - 1 < 1 - 0; decide) esA (by repeat (first | exact Hs.nil _ | (refine Hs.cons pickA ?_)))
end Go.Sx

