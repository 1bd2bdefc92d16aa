/- Append of a list that may be nil; few. -/
import Derived.Test.YtcnjfccbfdoacaaR7
import Derived.Laws.OwnMore
namespace Go.Sx
open Go Go.Proofs
theorem run_append_none {P : Program} {w : World} (base : Nat) (t ty e : TypeId) (i : TypeInfo) (size : Nat) (ht : P.underlying t = some (.slice e)) (hi : P.info? e = some i)
    (v : Value) (n c : Nat) (xs : List Value) (hown : w.ownsRow base e size v n xs) :
    (Builtin.append_ #[t, t] ty #[v, .slice none 0 c]).run P w = .ok v w := by
  rcases hown.2 with ⟨rfl, rfl⟩ | ⟨g, cap, cur, rfl, _, _, hnc, _⟩
  · simp [Builtin.append_, run_underlying ht, sizeOf, typeInfo, hi, Builtin.lenOf, Builtin.firstCells]
  · simp [Builtin.append_, run_underlying ht, sizeOf, typeInfo, hi, Builtin.lenOf, Builtin.firstCells, hnc, storeCells]
theorem POp.cut_hn {P : Program} {N : Nat} {ds : List Deferred} {E : Env} {t ty : TypeId} {x hi : Operand} {k' : IntKind} {n : Int} {e : TypeId} {l c : Nat} {z : Value} {sz bb : Nat} [h : UTy P t (.slice e)] [hi' : ITy P e z sz bb]
    (hx : Env.ev E x = some (.slice none l c)) (hh : Env.ev E hi = some (.int k' n)) (h1 : 0 ≤ n) (h2 : n ≤ c) :
    POp P N ds E (.slice t x none (some hi) none) ty (.slice none n.toNat c) := fun a ha d pos af g w => by
  by_cases hc : c = 0
  · subst hc
    simp [execOp, ha.ev hx, ha.ev hh, Instr.sliceAt, Instr.slice, run_underlying h.is, Instr.sliceBounds, run_bound h1 (show n ≤ ((0 : Nat) : Int) from h2), Sem.run_bind, run_sizeOf]
  · simp [execOp, ha.ev hx, ha.ev hh, Instr.sliceAt, Instr.slice, run_underlying h.is, Instr.sliceBounds, run_bound h1 h2, Sem.run_bind, run_sizeOf, hc]
theorem POp.cut_hs {P : Program} {N : Nat} {ds : List Deferred} {E : Env} {t ty : TypeId} {x hi : Operand} {k' : IntKind} {n : Int} {e : TypeId} {ad : Addr} {l c : Nat} {z : Value} {sz bb : Nat} [h : UTy P t (.slice e)] [hi' : ITy P e z sz bb]
    (hx : Env.ev E x = some (.slice (some ad) l c)) (hh : Env.ev E hi = some (.int k' n)) (h1 : 0 ≤ n) (h2 : n ≤ c) :
    POp P N ds E (.slice t x none (some hi) none) ty (.slice (some ad) n.toNat c) := fun a ha d pos af g w => by
  have e0 : ad.add 0 = ad := rfl
  by_cases hc : c = 0
  · subst hc
    simp [execOp, ha.ev hx, ha.ev hh, Instr.sliceAt, Instr.slice, run_underlying h.is, Instr.sliceBounds, run_bound h1 (show n ≤ ((0 : Nat) : Int) from h2), Sem.run_bind, run_sizeOf]
  · simp [execOp, ha.ev hx, ha.ev hh, Instr.sliceAt, Instr.slice, run_underlying h.is, Instr.sliceBounds, run_bound h1 h2, Sem.run_bind, run_sizeOf, hc, e0]
theorem POp.cut_hi {P : Program} {N : Nat} {ds : List Deferred} {E : Env} {t ty : TypeId} {x hi : Operand} {k' : IntKind} {n : Int} {e : TypeId} {l c : Nat} {z : Value} {sz bb : Nat} {w0 : World} {a : Option Addr} {vs : List Value} [h : UTy P t (.slice e)] [hi' : ITy P e z sz bb]
    (hR : Rd w0 (.slice a l c) vs) (hx : Env.ev E x = some (.slice a l c)) (hh : Env.ev E hi = some (.int k' n)) (h1 : 0 ≤ n) (h2 : n ≤ c) :
    POp P N ds E (.slice t x none (some hi) none) ty (.slice a n.toNat c) := by
  obtain ⟨a', c', e1, e2, h3⟩ := hR
  cases e1
  cases a with
  | none => exact POp.cut_hn hx hh h1 h2
  | some ad =>
    rcases h3 with h3 | ⟨b, off, h3, -, -⟩
    · exact POp.cut_hs hx hh h1 h2
    · cases h3; exact POp.cut_h hx hh h1 h2
theorem Rpl.same {x : Atom} {H H' : List Atom} (h : Rpl x x H H') : H = H' := by
  generalize hy : x = y at h
  induction h with
  | here => rfl
  | there _ ih => rw [ih]
theorem H1.appR {P : Program} {r : Option Nat} {N : Nat} {ds : List Deferred} {Q : Post} {E : Env} {w0 : World} {H : List Atom} {next : Act → World → Prop} {g : Option (Nat × Bool)}
    {d : Nat} {t ty : TypeId} {pos : String} {af : Array Edge} {x y : Operand}
    {e : TypeId} {z : Value} {bb n c c2 : Nat} {a ao : Option Addr} {xs vs : List Value} {H' : Option Addr → Nat → List Atom} [h : UTy P t (.slice e)] [hi : ITy P e z 1 bb] (hzs : z.cells.size = 1)
    (hx : Env.ev E x = some (.slice a n c)) (hy : Env.ev E y = some (.slice ao vs.length c2)) (hr : ∀ a' c', Rpl (A.grow e 1 a c n xs) (A.grow e 1 a' c' (n + vs.length) (xs ++ vs)) H (H' a' c'))
    (hR : ∀ w, Mm w0 H w → Rd w (.slice ao vs.length c2) vs) (h1 : ∀ u ∈ vs, u.oneCell' = true) (hnm : n + vs.length ≤ 1000000) (hb : bb ≤ 1000) (hd : Nat.blt d N = true)
    (ha0 : n = 0 ∨ ∃ b, a = some ⟨b, 0, none⟩) (hn : ∀ a' c', (n + vs.length = 0 ∨ ∃ b, a' = some ⟨b, 0, none⟩) → HN N ds next ((d, .slice a' (n + vs.length) c') :: E) w0 (H' a' c')) :
    H1 P r N ds next ⟨some d, .call ⟨.builtin .append, #[x, y], #[t, t]⟩, ty, pos, af, g⟩ Q E w0 H := by
  cases ao with
  | some ad =>
    refine H1.app hzs (by decide) hx hy hr (by simp) (fun w hM => ?_) h1 hnm hb hd hn
    intro j u hu
    obtain ⟨a', c', h2, h3, h4⟩ := hR w hM
    cases h2
    rcases h4 with rfl | ⟨b, off, h5, h6, h7⟩
    · simp at hu
    · cases h5; rw [add_lit]; exact h7 j u hu
  | none =>
    intro w hM
    obtain ⟨a', c', h2, h3, h4⟩ := hR w hM
    cases h2
    have e0 : vs = [] := by
      rcases h4 with h4 | ⟨b, off, h5, -⟩
      · exact h4
      · cases h5
    subst e0
    obtain ⟨i, hi1, hi2, hi3, hi4⟩ := hi.parts
    have hsame : H = H' a c := Rpl.same (x := A.grow e 1 a c n xs) (by have := hr a c; simpa using this)
    have hown := hM.own (hr a c).mem
    refine W1.run (v := .slice a n c) (w' := w) (fun ac ha => ?_) rfl hd (by have := hn a c ha0 w (hsame ▸ hM); rwa [List.length_nil, Nat.add_zero] at this)
    have hrun := run_append_none (P := P) 0 t ty e i 1 h.is hi1 (.slice a n c) n c2 xs hown
    simp only [List.length_nil] at hy
    simp only [execOp, resolve, invoke, Go.builtin, Sem.run_bind, Sem.run_pure, Result.andThen, List.map_toArray, List.map_cons, List.map_nil, ha.ev hx, ha.ev hy, hrun]
theorem Rd.itake {w : World} {a : Option Addr} {c k : Nat} {l : List Int} (h : Rd w (.slice a l.length c) (ints l)) (hk : k ≤ l.length) : Rd w (.slice a k c) (ints (l.take k)) := by
  obtain ⟨a', c', h1, h2, h3⟩ := h
  rw [ints_len] at h1 h2
  cases h1
  have e1 : (ints (l.take k)).length = k := by rw [ints_len, List.length_take]; omega
  refine ⟨a, c, by rw [e1], by omega, ?_⟩
  rcases h3 with h3 | ⟨b, off, h3, h4, h5⟩
  · left
    have : l = [] := by have := congrArg List.length h3; rw [ints_len] at this; exact List.eq_nil_of_length_eq_zero this
    subst this; simp [ints]
  · refine .inr ⟨b, off, h3, h4, fun i u hu => h5 i u ?_⟩
    have : ints (l.take k) = (ints l).take k := by simp [ints, List.map_take]
    rw [this] at hu
    rw [List.getElem?_take] at hu
    by_cases hik : i < k
    · rwa [if_pos hik] at hu
    · rw [if_neg hik] at hu; cases hu
attribute [local irreducible] WC WL WX POp Then Again Fn NX W1 WA WO QL RP RA Yld LoopAt HC HL HX HN H1 HA HO HQ A.blk A.grow A.rd A.obj AgainH CutH
theorem few_fn (v : Value) (l : List Int) (hl : l.length ≤ 1000000) (w : World) (hR : Rd w v (ints l)) :
    Fn Try.prog 12 #[v] w fun u w' => ∃ z : Option Addr × Nat, True ∧ u = .slice z.1 (l.take 10).length z.2 ∧ Mm w [A.grow 3 1 z.1 z.2 (l.take 10).length (ints (l.take 10))] w' := by
  obtain ⟨a, c, rfl, hc⟩ := hR.isInts
  refine enterH (l := [_]) rfl Try.ntmps12 rfl ?_
  have hk : min l.length 10 ≤ l.length := Nat.min_le_left _ _
  have hm : (min (l.length : Int) 10) = ((min l.length 10 : Nat) : Int) := by omega
  have he : (l.take 10) = l.take (min l.length 10) := by
    by_cases h : l.length ≤ 10
    · rw [Nat.min_eq_left h, List.take_of_length_le h, List.take_length]
    · rw [Nat.min_eq_right (by omega)]
  rw [he]
  generalize min l.length 10 = k at *
  have hR' := hR.itake hk
  have hlen : (ints (l.take k)).length = k := by rw [ints_len, List.length_take]; omega
  repeat' (first | apply HL.fold | apply HA.fold | apply HL.nil | apply HX.n_then | apply HC.seq | apply HC.region | refine HL.pa ?_ | refine HL.ga rfl ?_ | refine HL.na rfl ?_ | refine HL.nu rfl rfl ?_ | apply HC.block | apply HC.skip | apply HC.exit | apply HC.ret | apply HX.e_block | refine HX.e_other rfl ?_ | apply HX.e_then | apply HX.e_again | apply HX.n_block | apply HX.r_then | apply HX.r_block | apply HX.r_again | refine HC.cond_yes rfl ?_ | refine HC.cond_no rfl ?_ | refine HL.one (H1.ldb rfl memA rfl rfl ?_) | refine HC.cond rfl (fun hc => ?_) (fun hc => ?_) | refine HC.cond_b rfl (fun hc => ?_) (fun hc => ?_))
  refine HL.one (H1.lit0 rfl (fun b => ?_))
  repeat' (first | apply HL.fold | apply HA.fold | apply HL.nil | apply HX.n_then | apply HC.seq | apply HC.region | refine HL.pa ?_ | refine HL.ga rfl ?_ | refine HL.na rfl ?_ | refine HL.nu rfl rfl ?_ | apply HC.block | apply HC.skip | apply HC.exit | apply HC.ret | apply HX.e_block | refine HX.e_other rfl ?_ | apply HX.e_then | apply HX.e_again | apply HX.n_block | apply HX.r_then | apply HX.r_block | apply HX.r_again | refine HC.cond_yes rfl ?_ | refine HC.cond_no rfl ?_ | refine HL.one (H1.ldb rfl memA rfl rfl ?_) | refine HC.cond rfl (fun hc => ?_) (fun hc => ?_) | refine HC.cond_b rfl (fun hc => ?_) (fun hc => ?_))
  rw [hm]
  refine HL.pa ?_ (POp.cut_hi hR rfl rfl (by omega) (by omega))
  rw [Int.toNat_natCast]
  refine HL.one (H1.appR (vs := ints (l.take k)) rfl rfl (by rw [hlen]; rfl) (fun _ _ => by first | ((repeat (first | with_reducible exact Rpl.here | with_reducible apply Rpl.there)); done) | (repeat (first | exact Rpl.here | apply Rpl.there))) (fun w hM => by rw [hlen]; exact hM.rd0 hR') ?_ (by rw [hlen]; omega) (by decide) rfl (.inl rfl) (fun a2 c2 _ => ?_))
  · intro u hu
    obtain ⟨x, -, rfl⟩ := List.mem_map.1 hu
    rfl
  rw [hlen, Nat.zero_add, List.nil_append]
  repeat' (first | apply HL.fold | apply HA.fold | apply HL.nil | apply HX.n_then | apply HC.seq | apply HC.region | refine HL.pa ?_ | refine HL.ga rfl ?_ | refine HL.na rfl ?_ | refine HL.nu rfl rfl ?_ | apply HC.block | apply HC.skip | apply HC.exit | apply HC.ret | apply HX.e_block | refine HX.e_other rfl ?_ | apply HX.e_then | apply HX.e_again | apply HX.n_block | apply HX.r_then | apply HX.r_block | apply HX.r_again | refine HC.cond_yes rfl ?_ | refine HC.cond_no rfl ?_ | refine HL.one (H1.ldb rfl memA rfl rfl ?_) | refine HC.cond rfl (fun hc => ?_) (fun hc => ?_) | refine HC.cond_b rfl (fun hc => ?_) (fun hc => ?_))
  refine HX.ret1 rfl rfl fun w' hM => ⟨(a2, c2), trivial, ?_, ?_⟩
  · rw [List.length_take, Nat.min_eq_left hk]
  · rw [List.length_take, Nat.min_eq_left hk]; exact hM
end Go.Sx

