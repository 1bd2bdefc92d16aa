/-
  The layer with atoms: append, structs.
-/
import Derived.Test.YtacamanakmeebaaDoorHx2
import Derived.Laws.Tables
namespace Go.Sx
open Go Go.RowKit
theorem run_append_own2 {P : Program} {w : World} (t ty e : TypeId) (i : TypeInfo) (z : Value) (size bytes : Nat) (ht : P.underlying t = some (.slice e)) (hi : P.info? e = some i) (hz : i.zero = some z)
    (hsize : i.size = size) (hby : i.bytes = bytes) (hzs : z.cells.size = size) (hsz : 0 < size)
    (v : Value) (n : Nat) (xs : List Value) (hown : w.ownsRow 0 e size v n xs)
    (a : Addr) (m c : Nat) (news : List Value) (hl : news.length = m * size) (hnews : ∀ j u, news[j]? = some u → w.cell? (a.add j) = some u) (h1 : ∀ u ∈ news, u.oneCell' = true)
    (h63 : n + m ≤ maxLen) (hbytes : (n + m) * bytes ≤ 140737488355328) :
    ∃ a' c' w', (Builtin.append_ #[t, t] ty #[v, .slice (some a) m c]).run P w = .ok (.slice a' (n + m) c') w' ∧ w'.ownsRow 0 e size (.slice a' (n + m) c') (n + m) (xs ++ news) ∧ w.grownBy w' v.ownBlock ∧
      (∀ b, (Value.slice a' (n + m) c').ownBlock = some b → v.ownBlock = some b ∨ w.heap.size ≤ b) ∧ (n + m = 0 ∨ ∃ b, a' = some ⟨b, 0, none⟩) := by
  obtain ⟨v', w', hr, h2, h3, -⟩ := run_append_own (P := P) w 0 t ty e i z size bytes ht hi hz hsize hby hzs hsz v n xs hown a m c news hl hnews h1 h63 hbytes (Nat.zero_le _)
  have hnew : ∀ b, v'.ownBlock = some b → v.ownBlock = some b ∨ w.heap.size ≤ b := by
    intro b hb
    rcases hown.2 with ⟨rfl, rfl⟩ | ⟨g, cap, cur, rfl, hbg, hg, hnc, hcm, hcs, htake⟩
    · have hx : xs = [] := List.eq_nil_of_length_eq_zero (by simpa using hown.1)
      subst hx
      obtain ⟨v'', w'', hr', h2', -, -⟩ := run_append_own (P := P) w w.heap.size t ty e i z size bytes ht hi hz hsize hby hzs hsz _ 0 [] (World.ownsRow_nil w w.heap.size e size) a m c news hl hnews h1 h63 hbytes (Nat.le_refl _)
      rw [hr] at hr'
      cases hr'
      exact .inr (h2'.lt b hb).1
    · by_cases hroom : n + m ≤ cap
      · have hfit : n * i.size + news.length ≤ cur.size := by rw [hl, hcs, hsize, ← Nat.add_mul]; exact Nat.mul_le_mul_right _ hroom
        have hr' := run_append_room (P := P) w t ty e i ht hi g n cap cur hg a m c news (by rw [hl, hsize]) hnews h1 hroom hfit
        rw [hr] at hr'
        cases hr'
        exact .inl hb
      · have holds : ∀ j u, xs[j]? = some u → w.cell? ((⟨g, 0, none⟩ : Addr).add j) = some u := hown.cells (g := g) rfl
        have hsmall : n + m ≤ 9223372036854775807 := by simp only [maxLen] at h63; omega
        have hr' := run_append_grow (P := P) w t ty e i z ht hi hz ⟨g, 0, none⟩ n cap xs (by rw [hown.1, hsize]) holds a m c news (by rw [hl, hsize]) hnews (by omega) (by omega) (growslice_fits (by omega) (by rw [hby]; exact hbytes))
        rw [hr] at hr'
        cases hr'
        right
        simp only [Value.ownBlock, Option.some.injEq] at hb
        subst hb
        simp
  rcases h2.2 with ⟨rfl, h0⟩ | ⟨g, cap, cur, rfl, hbg, hg, hnc, hcm, hcs, htake⟩
  · refine ⟨none, 0, w', ?_, ?_, h3, ?_, .inl h0⟩ <;> rw [h0]
    · exact hr
    · rwa [h0] at h2
    · exact hnew
  · exact ⟨_, cap, w', hr, h2, h3, hnew, .inr ⟨g, rfl⟩⟩
section
variable {P : Program} {r : Option Nat} {N : Nat} {ds : List Deferred} {ol rest : List Oper} {Q : Post} {E : Env} {w0 : World} {H : List Atom} {next : Act → World → Prop} {g : Option (Nat × Bool)} {fuel : Nat} {listed : Array Bool}
variable {d : Nat} {t ty : TypeId} {pos : String} {af : Array Edge} {x y : Operand}
theorem H1.app {e : TypeId} {z : Value} {sz bb n m c c2 : Nat} {a : Option Addr} {xs news : List Value} {ad : Addr} {H' : Option Addr → Nat → List Atom} [h : UTy P t (.slice e)] [hi : ITy P e z sz bb] (hzs : z.cells.size = sz) (hsz : 0 < sz)
    (hx : Env.ev E x = some (.slice a n c)) (hy : Env.ev E y = some (.slice (some ad) m c2)) (hr : ∀ a' c', Rpl (A.grow e sz a c n xs) (A.grow e sz a' c' (n + m) (xs ++ news)) H (H' a' c'))
    (hl : news.length = m * sz) (hnews : ∀ w, Mm w0 H w → ∀ j u, news[j]? = some u → w.cell? (ad.add j) = some u) (h1 : ∀ u ∈ news, u.oneCell' = true) (hnm : n + m ≤ 1000000) (hb : bb ≤ 1000) (hd : Nat.blt d N = true)
    (hn : ∀ a' c', (n + m = 0 ∨ ∃ b, a' = some ⟨b, 0, none⟩) → HN N ds next ((d, .slice a' (n + m) c') :: E) w0 (H' a' c')) :
    H1 P r N ds next ⟨some d, .call ⟨.builtin .append, #[x, y], #[t, t]⟩, ty, pos, af, g⟩ Q E w0 H := fun w hM => by
  obtain ⟨i, hi1, hi2, hi3, hi4⟩ := hi.parts
  obtain ⟨a', c', w', hrun, h2, h3, h4, h5⟩ := run_append_own2 (P := P) t ty e i z sz bb h.is hi1 hi2 hi3 hi4 hzs hsz (.slice a n c) n xs (hM.own (hr none 0).mem) ad m c2 news hl (hnews w hM) h1 (by simp only [maxLen]; omega)
    (Nat.le_trans (Nat.mul_le_mul hnm hb) (by decide))
  refine W1.run (v := .slice a' (n + m) c') (w' := w') (fun a ha => ?_) rfl hd (hn a' c' h5 w' (hM.turn (hr a' c') h3.os h3.tape h3.output h3.size (fun k hk hk' => h3.block k hk fun e => hk' (by simp [A.grow, ← e])) h2 ?_ fun b hb => ?_))
  · simp only [execOp, resolve, invoke, Go.builtin, Sem.run_bind, Sem.run_pure, Result.andThen, List.map_toArray, List.map_cons, List.map_nil, ha.ev hx, ha.ev hy, hrun]
  · show (Option.toList _).Nodup
    cases (Value.slice a' (n + m) c').ownBlock <;> simp
  · have hb' : (Value.slice a' (n + m) c').ownBlock = some b := by simpa [A.grow] using hb
    rcases h4 b hb' with h4 | h4
    · left; simp only [A.grow, h4]; simp
    · exact .inr ⟨h4, (h2.lt b hb').2⟩
theorem HA.ga [hq : QPanic Q] {op : Op} {v : Value} {j : Nat} {want b : Bool} (i : Nat) (ho : ol[i]? = some ⟨some d, op, ty, pos, af, some (j, want)⟩) (hj : guardE ol E j = some b)
    (h : HA P N ds ol fuel (listed.setIfInBounds i true) Q ((d, v) :: E) w0 H)
    (hb : b = want := by
      first | with_reducible rfl | assumption | (simp only [Bool.not_true, Bool.not_false]; done) | (simp only [decide_eq_true_eq, decide_eq_false_iff_not, Bool.not_true, Bool.not_false, not_true_eq_false, not_false_eq_true, reduceCtorEq]; first | done | omega))
    (hp : POp P N ds E op ty v := by
      first
        | (apply POp.move; rfl)
        | (apply POp.assign; rfl)
        | (apply POp.extract; rfl; rfl)
        | (apply POp.len_slice; rfl)
        | (apply POp.len_string; rfl)
        | (apply POp.lss; rfl; rfl)
        | (apply POp.leq; rfl; rfl)
        | (apply POp.gtr; rfl; rfl)
        | (apply POp.geq; rfl; rfl)
        | (apply POp.eql; rfl; rfl)
        | (apply POp.neq; rfl; rfl)
        | (apply POp.not_d; rfl)
        | (apply POp.not_b; rfl)
        | (apply POp.add; rfl; rfl; omega; omega)
        | (apply POp.sub; rfl; rfl; omega; omega)
        | (apply POp.xor; rfl; rfl; (first | with_reducible exact cst _ | with_reducible exact lit _ | exact rfl); (first | with_reducible exact cst _ | with_reducible exact lit _ | exact rfl); (first | omega | assumption | decide | (refine Nat.lt_of_le_of_lt (Nat.shiftRight_le _ _) ?_; omega) | (refine Nat.lt_of_le_of_lt Nat.and_le_right ?_; omega) | (refine Nat.lt_of_le_of_lt Nat.and_le_left ?_; omega) | (refine Nat.xor_lt_two_pow (n := 63) ?_ ?_ <;> omega)); (first | omega | assumption | decide | (refine Nat.lt_of_le_of_lt (Nat.shiftRight_le _ _) ?_; omega) | (refine Nat.lt_of_le_of_lt Nat.and_le_right ?_; omega) | (refine Nat.lt_of_le_of_lt Nat.and_le_left ?_; omega) | (refine Nat.xor_lt_two_pow (n := 63) ?_ ?_ <;> omega)))
        | (apply POp.xor8; rfl; rfl; (first | with_reducible exact cst _ | with_reducible exact lit _ | exact rfl); (first | with_reducible exact cst _ | with_reducible exact lit _ | exact rfl); (first | omega | assumption); (first | omega | assumption))
        | (apply POp.and; rfl; rfl; (first | with_reducible exact cst _ | with_reducible exact lit _ | exact rfl); (first | with_reducible exact cst _ | with_reducible exact lit _ | exact rfl); (first | omega | assumption | decide | (refine Nat.lt_of_le_of_lt (Nat.shiftRight_le _ _) ?_; omega) | (refine Nat.lt_of_le_of_lt Nat.and_le_right ?_; omega) | (refine Nat.lt_of_le_of_lt Nat.and_le_left ?_; omega) | (refine Nat.xor_lt_two_pow (n := 63) ?_ ?_ <;> omega)); (first | omega | assumption | decide | (refine Nat.lt_of_le_of_lt (Nat.shiftRight_le _ _) ?_; omega) | (refine Nat.lt_of_le_of_lt Nat.and_le_right ?_; omega) | (refine Nat.lt_of_le_of_lt Nat.and_le_left ?_; omega) | (refine Nat.xor_lt_two_pow (n := 63) ?_ ?_ <;> omega)))
        | (apply POp.or; rfl; rfl; (first | with_reducible exact cst _ | with_reducible exact lit _ | exact rfl); (first | with_reducible exact cst _ | with_reducible exact lit _ | exact rfl); (first | omega | assumption | decide | (refine Nat.lt_of_le_of_lt (Nat.shiftRight_le _ _) ?_; omega) | (refine Nat.lt_of_le_of_lt Nat.and_le_right ?_; omega) | (refine Nat.lt_of_le_of_lt Nat.and_le_left ?_; omega) | (refine Nat.xor_lt_two_pow (n := 63) ?_ ?_ <;> omega)); (first | omega | assumption | decide | (refine Nat.lt_of_le_of_lt (Nat.shiftRight_le _ _) ?_; omega) | (refine Nat.lt_of_le_of_lt Nat.and_le_right ?_; omega) | (refine Nat.lt_of_le_of_lt Nat.and_le_left ?_; omega) | (refine Nat.xor_lt_two_pow (n := 63) ?_ ?_ <;> omega)))
        | (apply POp.shr; rfl; rfl; (first | with_reducible exact cst _ | with_reducible exact lit _ | exact rfl); (first | with_reducible exact cst _ | with_reducible exact lit _ | exact rfl); omega)
        | (apply POp.shl; rfl; rfl; (first | with_reducible exact cst _ | with_reducible exact lit _ | exact rfl); (first | with_reducible exact cst _ | with_reducible exact lit _ | exact rfl); omega; (first | omega | assumption | decide | (refine Nat.lt_of_le_of_lt (Nat.shiftRight_le _ _) ?_; omega) | (refine Nat.lt_of_le_of_lt Nat.and_le_right ?_; omega) | (refine Nat.lt_of_le_of_lt Nat.and_le_left ?_; omega) | (refine Nat.xor_lt_two_pow (n := 63) ?_ ?_ <;> omega)))
        | (apply POp.quo; rfl; rfl; omega; omega; omega)
        | (apply POp.rem; rfl; rfl; omega; omega)
        | (apply POp.min_int; rfl; rfl)
        | (apply POp.conv_i64; rfl; omega; omega)
        | (apply POp.index_slice; rfl; rfl; omega; omega; (first | (simp only [Nat.zero_add, Nat.add_zero, Nat.mul_one, Int.toNat_natCast, Int.reduceToNat, Nat.reduceMul, Nat.reduceAdd]; done) | (simp only [Nat.zero_add, Nat.add_zero, Nat.mul_one, Int.toNat_natCast, Int.reduceToNat, Nat.reduceMul, Nat.reduceAdd]; rfl) | rfl))
        | (apply POp.index_array; rfl; rfl; omega; omega; (first | (simp only [Nat.zero_add, Nat.add_zero, Nat.mul_one, Int.toNat_natCast, Int.reduceToNat, Nat.reduceMul, Nat.reduceAdd]; done) | (simp only [Nat.zero_add, Nat.add_zero, Nat.mul_one, Int.toNat_natCast, Int.reduceToNat, Nat.reduceMul, Nat.reduceAdd]; rfl) | rfl))
        | (apply POp.makeFunc; rfl; rfl)
        | (apply POp.index_string; rfl; rfl; (first | with_reducible exact cst _ | with_reducible exact lit _ | exact rfl); omega)
        | (apply POp.sub_lh; rfl; rfl; rfl; omega; omega; omega)
        | (apply POp.sub_h; rfl; rfl; omega; omega)
        | (apply POp.sub_l; rfl; rfl; omega; omega)
        | (apply POp.seql; rfl; rfl)
        | (apply POp.sneq; rfl; rfl)
        | (apply POp.conv_u8; rfl; omega; omega)
        | (apply POp.mul; rfl; rfl; omega; omega)
        | (refine POp.pick_t rfl ?_ rfl; (first | with_reducible rfl | assumption | (simp only [Bool.not_true, Bool.not_false]; done) | (simp only [decide_eq_true_eq, decide_eq_false_iff_not, Bool.not_true, Bool.not_false, not_true_eq_false, not_false_eq_true, reduceCtorEq]; first | done | omega)))
        | (refine POp.pick_f rfl ?_ rfl; (first | with_reducible rfl | assumption | (simp only [Bool.not_true, Bool.not_false]; done) | (simp only [decide_eq_true_eq, decide_eq_false_iff_not, Bool.not_true, Bool.not_false, not_true_eq_false, not_false_eq_true, reduceCtorEq]; first | done | omega)))
        | (apply POp.neg; rfl; omega; omega)
        | (apply POp.cat; rfl; rfl; omega)
        | (apply POp.beql; rfl; rfl)
        | (apply POp.bneq; rfl; rfl)
        | (apply POp.field; rfl; rfl)
        | (refine POp.fieldAddr rfl rfl)
        | (apply POp.cut_h; rfl; rfl; omega; omega))
    (hs : (Region.noSelect ol.toArray && Region.free .any ol.toArray listed i && (Region.ready .any ol.toArray listed).contains i) = true := by kernel_rfl)
    (hi : callsB op = false := by exact rfl)
    (hd : Nat.blt d N = true := by exact rfl) : HA P N ds ol (fuel + 1) listed Q E w0 H := fun w hM => WA.take_g i ho hs hi hj hb hp hd (h w hM)
theorem HA.na [hq : QPanic Q] {op : Op} {d : Option Nat} {j : Nat} {want b : Bool} (i : Nat) (ho : ol[i]? = some ⟨d, op, ty, pos, af, some (j, want)⟩) (hj : guardE ol E j = some b)
    (h : HA P N ds ol fuel (listed.setIfInBounds i true) Q (putE d undef E) w0 H)
    (hb : b = !want := by
      first | with_reducible rfl | assumption | (simp only [Bool.not_true, Bool.not_false]; done) | (simp only [decide_eq_true_eq, decide_eq_false_iff_not, Bool.not_true, Bool.not_false, not_true_eq_false, not_false_eq_true, reduceCtorEq]; first | done | omega))
    (hs : (Region.noSelect ol.toArray && Region.free .any ol.toArray listed i && (Region.ready .any ol.toArray listed).contains i) = true := by kernel_rfl)
    (hi : callsB op = false := by exact rfl)
    (hd : dOk d N = true := by exact rfl) : HA P N ds ol (fuel + 1) listed Q E w0 H := fun w hM => WA.drop i ho hs hi hj hb hd (h w hM)
theorem HO.one_a {op : Op} {d : Option Nat} {i j : Nat} {want b : Bool} (hj : guardE ol E j = some b)
    (h : H1 P none N ds (wpAnyIn (FW none) 0 P .any ol.toArray Q fuel (listed.setIfInBounds i true)) ⟨d, op, ty, pos, af, some (j, want)⟩ Q E w0 H)
    (hb : b = want := by
      first | with_reducible rfl | assumption | (simp only [Bool.not_true, Bool.not_false]; done) | (simp only [decide_eq_true_eq, decide_eq_false_iff_not, Bool.not_true, Bool.not_false, not_true_eq_false, not_false_eq_true, reduceCtorEq]; first | done | omega)) : HO P N ds ol fuel listed i ⟨d, op, ty, pos, af, some (j, want)⟩ Q E w0 H := HO.one_g hj hb h
/-- append, of one element in a fresh block. -/
theorem H1.app1 {e : TypeId} {z u : Value} {bb n c b : Nat} {a : Option Addr} {xs : List Value} {H' : Option Addr → Nat → List Atom} [h : UTy P t (.slice e)] [hi : ITy P e z 1 bb]
    (hx : Env.ev E x = some (.slice a n c)) (hy : Env.ev E y = some (.slice (some ⟨b, 0, none⟩) 1 1)) (hr : ∀ a' c', Rpl (A.grow e 1 a c n xs) (A.grow e 1 a' c' (n + 1) (xs ++ [u])) H (H' a' c'))
    (hm : A.blk b [u] e ∈ H) (hzs : z.cells.size = 1) (h1 : u.oneCell' = true) (hnm : n + 1 ≤ 1000000) (hb : Nat.ble bb 1000 = true) (hd : Nat.blt d N = true)
    (hn : ∀ a' c', HN N ds next ((d, .slice (some ⟨a', 0, none⟩) (n + 1) c') :: E) w0 (H' (some ⟨a', 0, none⟩) c')) :
    H1 P r N ds next ⟨some d, .call ⟨.builtin .append, #[x, y], #[t, t]⟩, ty, pos, af, g⟩ Q E w0 H :=
  H1.app (z := z) (bb := bb) hzs (by decide) hx hy hr rfl (fun w hM j v hj => by
    cases j with
    | zero =>
      simp only [List.getElem?_cons_zero, Option.some.injEq] at hj; subst hj
      rw [add_lit]; exact (hM.blk hm).cell rfl
    | succ j => simp at hj) (by simpa using h1) hnm (Nat.le_of_ble_eq_true hb) hd fun a' c' h => by
      rcases h with h | ⟨b, rfl⟩
      · omega
      · exact hn b c'
theorem H1.lit0 {e : TypeId} {z : Value} {sz bb : Nat} [h : UTy P t (.slice e)] [hi : ITy P e z sz bb] (hd : Nat.blt d N = true)
    (hh : ∀ b, HN N ds next ((d, .slice (some ⟨b, 0, none⟩) 0 0) :: E) w0 (A.grow e sz (some ⟨b, 0, none⟩) 0 0 [] :: H)) :
    H1 P r N ds next ⟨some d, .buildSlice t 0 #[], ty, pos, af, g⟩ Q E w0 H := fun w hM =>
  W1.run (v := .slice (some ⟨w.heap.size, 0, none⟩) 0 0) (w' := w.alloc (.cells #[] e)) (fun a ha => by
    simp only [execOp, Instr.buildSlice, Sem.run_bind, run_underlying h.is, run_sizeOf (h := hi), Result.andThen, Nat.zero_mul]
    have hr : Array.range 0 = #[] := rfl
    simp [Instr.fill, newRow, hr]) rfl hd (hh _ _ (by
      have h1 := hM.more (Ext.alloc w (.cells #[] e))
      refine h1.cons ?_ (by simp [A.grow, Value.ownBlock]) fun b hb => ?_
      · exact ⟨by simp, .inr ⟨_, 0, #[], rfl, Nat.zero_le _, heap_alloc_new w _, Nat.le_refl _, Nat.zero_le _, by simp, by simp⟩⟩
      · have hb' : b = w.heap.size := by simpa [A.grow, Value.ownBlock] using hb
        subst hb'
        refine ⟨fun hm => ?_, hM.ext.size, by simp⟩
        have := (hM.rng _ hm).2
        omega))
/-- Where a slice of the call's own lies, once it holds something. -/
theorem HL.openg {e : TypeId} {sz c n : Nat} {a : Option Addr} {xs : List Value} {l : List Oper} (hm : A.grow e sz a c n xs ∈ H) (hn : n ≠ 0) (h : ∀ b, a = some ⟨b, 0, none⟩ → HL P r N ds ol l Q E w0 H) : HL P r N ds ol l Q E w0 H := fun w hM => by
  rcases (hM.own hm).2 with ⟨-, h0⟩ | ⟨g, cap, cur, hv, -⟩
  · exact absurd h0 hn
  · cases hv; exact h g rfl w hM
theorem HC.openg {e : TypeId} {sz c n : Nat} {a : Option Addr} {xs : List Value} {co : Code} (hm : A.grow e sz a c n xs ∈ H) (hn : n ≠ 0) (h : ∀ b, a = some ⟨b, 0, none⟩ → HC P r N ds co Q E w0 H) : HC P r N ds co Q E w0 H := fun w hM => by
  rcases (hM.own hm).2 with ⟨-, h0⟩ | ⟨g, cap, cur, hv, -⟩
  · exact absurd h0 hn
  · cases hv; exact h g rfl w hM
theorem HL.lenOf {e : TypeId} {sz c n : Nat} {a : Option Addr} {xs : List Value} {l : List Oper} (hm : A.grow e sz a c n xs ∈ H) (h : xs.length = n * sz → HL P r N ds ol l Q E w0 H) : HL P r N ds ol l Q E w0 H := fun w hM => h (hM.own hm).1 w hM
theorem HC.lenOf {e : TypeId} {sz c n : Nat} {a : Option Addr} {xs : List Value} {co : Code} (hm : A.grow e sz a c n xs ∈ H) (h : xs.length = n * sz → HC P r N ds co Q E w0 H) : HC P r N ds co Q E w0 H := fun w hM => h (hM.own hm).1 w hM
theorem H1.stg {b i c n sz : Nat} {xs : List Value} {e : TypeId} {v : Value} {z : Value} {bb : Nat} {H' : List Atom} [hi : ITy P t z 1 bb] (hx : Env.ev E x = some (.pointer (some ⟨b, i, none⟩))) (hy : Env.ev E y = some v)
    (ha : ∀ vs, v ≠ .agg vs) (ht : ∀ vs, v ≠ .tuple vs) (hr : Rpl (A.grow e sz (some ⟨b, 0, none⟩) c n xs) (A.grow e sz (some ⟨b, 0, none⟩) c n (xs.set i v)) H H') (hlt : i < xs.length)
    (h : HN N ds next E w0 H') : H1 P r N ds next ⟨none, .store t x y, ty, pos, af, g⟩ Q E w0 H := fun w hM => by
  have hown := hM.own hr.mem
  rcases hown.2 with ⟨hv, -⟩ | ⟨g', cap, cur, hv, hbg, hg, hnc, hcm, hcs, htake⟩
  · cases hv
  · cases hv
    have hb : Blk w b cur.toList e := by unfold Blk; simpa using hg
    have hl := hown.1
    have hlen : i < cur.toList.length := by
      have : xs.length ≤ cur.toList.length := by rw [← htake]; simp; omega
      omega
    refine W1.store' hx hy ha ht hb hlen fun w1 u1 k1 => h w1 (hM.turn hr u1.os u1.tape u1.output (Nat.le_of_eq u1.size.symm) (fun k _ hk => u1.block k (by simpa [A.grow, Value.ownBlock] using hk)) ?_ (by simp [A.grow, Value.ownBlock]) (fun b' hb' => .inl (by simpa [A.grow, Value.ownBlock] using hb')))
    refine ⟨by rw [List.length_set]; exact hl, .inr ⟨b, c, (cur.toList.set i v).toArray, rfl, hbg, k1, hnc, hcm, by simp; exact hcs, ?_⟩⟩
    rw [← htake]
    simp [List.take_set]
/- structs and arrays by value -/
def placesZ (P : Program) (t : TypeId) : Option (List (Nat × Nat) × List Value) :=
  match P.info? t, P.underlying t with
  | some it, some (.array n e) => match it.zero, P.info? e with
    | some z, some ie => some ((List.range n).map fun i => (i * ie.size, ie.size), z.cells.toList)
    | _, _ => none
  | some it, some (.struct fields) => match it.zero, fields.toList.mapM (fun f => (P.info? f.type).map fun i => (f.offset, i.size)) with
    | some z, some places => some (places, z.cells.toList)
    | _, _ => none
  | _, _ => none
class BTy (P : Program) (t : TypeId) (pl : outParam (List (Nat × Nat))) (z : outParam (List Value)) : Prop where
  is : placesZ P t = some (pl, z)
theorem litC_mono {p q : Nat → Option (Nat × Nat)} (h : ∀ i x, p i = some x → q i = some x) : ∀ (l : List (Nat × Value)) (cs out : List Value), litC p cs l = some out → litC q cs l = some out
  | [], _, _, hl => hl
  | (i, v) :: l, cs, out, hl => by
    simp only [litC] at hl ⊢
    cases hp : p i with
    | none => rw [hp] at hl; cases hl
    | some x =>
      obtain ⟨off, sz⟩ := x
      rw [hp] at hl
      rw [h i _ hp]
      simp only at hl ⊢
      cases hb : (Nat.beq v.cells.size sz && Nat.ble (off + sz) cs.length) with
      | false => rw [hb] at hl; cases hl
      | true =>
        rw [hb] at hl
        exact litC_mono h l _ _ hl
theorem built_of {pl : List (Nat × Nat)} {zs cs : List Value} {pv : List (Nat × Value)} [hb : BTy P t pl zs] (hc : litC (fun i => pl[i]?) zs pv = some cs) : P.built t pv = some cs.toArray := by
  have h1 := hb.is
  unfold placesZ at h1
  unfold Program.built
  cases hi : P.info? t with
  | none => rw [hi] at h1; cases h1
  | some it =>
    cases hu : P.underlying t with
    | none => rw [hi, hu] at h1; cases h1
    | some du =>
      rw [hi, hu] at h1
      cases du <;> try (cases h1; done)
      case array n e =>
        simp only at h1 ⊢
        cases hz : it.zero with
        | none => rw [hz] at h1; cases h1
        | some z =>
          cases hie : P.info? e with
          | none => rw [hz, hie] at h1; cases h1
          | some ie =>
            rw [hz, hie] at h1
            simp only [Option.some.injEq, Prod.mk.injEq] at h1
            obtain ⟨rfl, rfl⟩ := h1
            simp only
            have := litC_fill (fun i => some (i * ie.size, ie.size)) pv z.cells.toList cs (litC_mono (fun i x hx => by
              rw [List.getElem?_map] at hx
              cases hr : (List.range n)[i]? with
              | none => rw [hr] at hx; cases hx
              | some j =>
                rw [hr] at hx
                have : i = j := by
                  rw [List.getElem?_range] at hr
                  · simpa using hr
                  · have := (List.getElem?_eq_some_iff.1 hr).1; simpa using this
                subst this
                simpa using hx) _ _ _ hc)
            simpa using this
      case struct fields =>
        simp only at h1 ⊢
        cases hz : it.zero with
        | none => rw [hz] at h1; cases h1
        | some z =>
          cases hp : fields.toList.mapM (fun f => (P.info? f.type).map fun i => (f.offset, i.size)) with
          | none => rw [hz, hp] at h1; cases h1
          | some places =>
            rw [hz, hp] at h1
            simp only [Option.some.injEq, Prod.mk.injEq] at h1
            obtain ⟨rfl, rfl⟩ := h1
            simp only
            have := litC_fill _ _ _ _ hc
            simpa using this
theorem POp.build {pl : List (Nat × Nat)} {zs cs : List Value} {parts : List (Nat × Operand)} {pv : List (Nat × Value)} [hb : BTy P t pl zs] (hx : Env.evp E parts = some pv) (hc : litC (fun i => pl[i]?) zs pv = some cs) :
    POp P N ds E (.build t parts.toArray) ty (.agg cs.toArray) := fun a ha d pos af g w => by
  have hp : Array.map (fun (p : Nat × Operand) => (p.1, a.eval p.2)) parts.toArray = pv.toArray := by simp [ha.evp hx]
  simp only [execOp, hp, Sem.run_bind, run_build (P := P) w t pv.toArray cs.toArray (by simpa using built_of (P := P) (t := t) hc), Result.andThen, Sem.run_pure]
theorem HL.build {pl : List (Nat × Nat)} {zs cs : List Value} {parts : List (Nat × Operand)} {pv : List (Nat × Value)} [hb : BTy P t pl zs] (hx : Env.evp E parts = some pv) (hc : litC (fun i => pl[i]?) zs pv = some cs) (hd : Nat.blt d N = true)
    (h : HL P r N ds ol rest Q ((d, .agg cs.toArray) :: E) w0 H) : HL P r N ds ol (⟨some d, .build t parts.toArray, ty, pos, af, none⟩ :: rest) Q E w0 H := HL.p (POp.build hx hc) rfl hd h
end
end Go.Sx

