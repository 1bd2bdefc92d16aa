/- bent of the law: a copy of transfers of which one is changed. -/
import Derived.Test.YtcnjfccbfdoacaaRL
import Derived.Test.YtcnjfccbfdoacaaHw
import Derived.Test.YtcnjfccbfdoacaaR8
namespace Go.Sx
open Go Go.Proofs
theorem tcells_set : ∀ {m : List Tr} {zs : List (Option Addr × Nat)} {q k : Nat} {v : Value} {t' : Tr}, zs.length = m.length → q < m.length → k < 5 → (∀ z, (tcell (tr m q) (hval (tr m q) z)).set k v = tcell t' (hval t' z)) → (tcells m zs).set (q * 5 + k) v = tcells (m.set q t') zs
  | [], _, _, _, _, _, _, hq, _, _ => by cases hq
  | t :: m, [], _, _, _, _, h, _, _, _ => by simp at h
  | t :: m, z :: zs, 0, k, v, t', h, hq, hk, hs => by
    have e1 : tcells (t :: m) (z :: zs) = tcell t (hval t z) ++ tcells m zs := by simp [tcells]
    have e2 : tcells ((t :: m).set 0 t') (z :: zs) = tcell t' (hval t' z) ++ tcells m zs := by simp [tcells]
    have h5 : (tcell t (hval t z)).length = 5 := rfl
    rw [e1, e2, Nat.zero_mul, Nat.zero_add, List.set_append_left _ _ (by rw [h5]; exact hk)]
    rw [← hs z]; rfl
  | t :: m, z :: zs, q + 1, k, v, t', h, hq, hk, hs => by
    have e1 : tcells (t :: m) (z :: zs) = tcell t (hval t z) ++ tcells m zs := by simp [tcells]
    have e2 : tcells ((t :: m).set (q + 1) t') (z :: zs) = tcell t (hval t z) ++ tcells (m.set q t') zs := by simp [tcells]
    have h5 : (tcell t (hval t z)).length = 5 := rfl
    rw [e1, e2, List.set_append_right _ _ (by rw [h5]; omega), h5, show (q + 1) * 5 + k - 5 = q * 5 + k from by omega]
    rw [tcells_set (by simpa using h) (by simpa using hq) hk (by simpa [tr] using hs)]
theorem tcells_same : ∀ {m : List Tr} {zs : List (Option Addr × Nat)} {q : Nat} {t' : Tr}, zs.length = m.length → q < m.length → (∀ z, tcell (tr m q) (hval (tr m q) z) = tcell t' (hval t' z)) → tcells m zs = tcells (m.set q t') zs
  | [], _, _, _, _, hq, _ => by cases hq
  | t :: m, [], _, _, h, _, _ => by simp at h
  | t :: m, z :: zs, 0, t', h, hq, hs => by
    have e1 : tcells (t :: m) (z :: zs) = tcell t (hval t z) ++ tcells m zs := by simp [tcells]
    have e2 : tcells ((t :: m).set 0 t') (z :: zs) = tcell t' (hval t' z) ++ tcells m zs := by simp [tcells]
    rw [e1, e2, ← hs z]; rfl
  | t :: m, z :: zs, q + 1, t', h, hq, hs => by
    have e1 : tcells (t :: m) (z :: zs) = tcell t (hval t z) ++ tcells m zs := by simp [tcells]
    have e2 : tcells ((t :: m).set (q + 1) t') (z :: zs) = tcell t (hval t z) ++ tcells (m.set q t') zs := by simp [tcells]
    rw [e1, e2, tcells_same (by simpa using h) (by simpa using hq) (by simpa [tr] using hs)]
theorem srcAts_rpl : ∀ {m : List Tr} {zs : List (Option Addr × Nat)} {q : Nat} {t' : Tr}, zs.length = m.length → q < m.length → Rpl (srcA (tr m q, zs.getD q (none, 0))) (srcA (t', zs.getD q (none, 0))) (srcAts m zs) (srcAts (m.set q t') zs)
  | [], _, _, _, _, hq => by cases hq
  | t :: m, [], _, _, h, _ => by simp at h
  | t :: m, z :: zs, 0, t', h, hq => by
    have e1 : srcAts (t :: m) (z :: zs) = srcA (t, z) :: srcAts m zs := by simp [srcAts]
    have e2 : srcAts ((t :: m).set 0 t') (z :: zs) = srcA (t', z) :: srcAts m zs := by simp [srcAts]
    rw [e1, e2]; exact Rpl.here
  | t :: m, z :: zs, q + 1, t', h, hq => by
    have e1 : srcAts (t :: m) (z :: zs) = srcA (t, z) :: srcAts m zs := by simp [srcAts]
    have e2 : srcAts ((t :: m).set (q + 1) t') (z :: zs) = srcA (t, z) :: srcAts (m.set q t') zs := by simp [srcAts]
    rw [e1, e2]
    refine Rpl.there ?_
    have := srcAts_rpl (t' := t') (zs := zs) (m := m) (q := q) (by simpa using h) (by simpa using hq)
    simpa [tr] using this
theorem srcAts_same {m : List Tr} {zs : List (Option Addr × Nat)} {q : Nat} {t' : Tr} (h : zs.length = m.length) (hq : q < m.length) (hs : t'.src = (tr m q).src) : srcAts (m.set q t') zs = srcAts m zs := by
  have h1 := srcAts_rpl (t' := t') h hq
  have e : srcA (t', zs.getD q (none, 0)) = srcA (tr m q, zs.getD q (none, 0)) := by unfold srcA; dsimp only; rw [hs]
  rw [e] at h1
  exact (Rpl.same h1).symm
theorem RdT.take {w : World} {a : Option Addr} {c n : Nat} {l : List Tr} (h : RdT w (.slice a l.length c) l) (hn : n ≤ l.length) : RdT w (.slice a n c) (l.take n) := by
  obtain ⟨a', c', f, h1, h2, h3, h4⟩ := h
  cases h1
  have hl : (l.take n).length = n := by rw [List.length_take]; omega
  have ht : ∀ i, i < n → tr (l.take n) i = tr l i := fun i hi => by
    unfold tr
    rw [List.getD_eq_getElem?_getD, List.getD_eq_getElem?_getD, List.getElem?_take, if_pos hi]
  refine ⟨a, c, f, by rw [hl], by rw [hl]; omega, ?_, fun i hi => ?_⟩
  · rcases h3 with h3 | ⟨b, off, h3, h5, h6⟩
    · left; rw [h3]; simp
    · right
      refine ⟨b, off, h3, h5, fun i j u hi hu => ?_⟩
      rw [hl] at hi
      rw [ht i hi] at hu
      exact h6 i j u (by omega) hu
  · rw [hl] at hi
    rw [ht i hi]
    exact h4 i (by omega)
theorem Mm.packI {w0 w : World} {a : Option Addr} {c : Nat} {m : List Tr} {zs : List (Option Addr × Nat)} (h : Mm w0 (A.grow 52 5 a c m.length (tcells m zs) :: srcAts m zs) w) : Mm w0 [A.ts a c m zs] w := h.pack1
theorem Hs.dropI {a : Atom} {H H' : List Atom} (h : Hs H H') : Hs (a :: H) H' := by
  obtain ⟨K, p⟩ := h
  exact ⟨a :: K, (p.cons a).trans List.perm_middle.symm⟩
theorem Hs.end3 {x g y : Atom} {S : List Atom} : Hs (x :: g :: y :: S) (S ++ [g]) := Hs.dropI ⟨[y], by
  rw [List.append_assoc]
  exact List.perm_append_comm (l₁ := [g, y]) (l₂ := S)⟩
structure BentOK (l : List Tr) (z : List Tr × List (Option Addr × Nat) × Option Addr × Nat × Nat) : Prop where
  zl : z.2.1.length = z.1.length
  ml : z.1.length = l.length
  n : z.2.2.2.2 ≤ z.1.length
  src : ∀ t ∈ z.1, t.src.length ≤ 1000000
  st : ∀ t ∈ z.1, i64B t.stop
theorem wrap_i64B (x : Int) : i64B (IntKind.i64.wrap x) := by
  unfold i64B
  simp only [IntKind.wrap, IntKind.signed, IntKind.bits]
  simp
  split <;> omega
theorem tr_set {l : List Tr} {q : Nat} {t : Tr} (h : q < l.length) : tr (l.set q t) q = t := by simp [tr, h]
theorem set_mem {l : List Tr} {q : Nat} {t' t : Tr} (h : t ∈ l.set q t') : t ∈ l ∨ t = t' := List.mem_or_eq_of_mem_set h
theorem BentOK.set {l m : List Tr} {zs : List (Option Addr × Nat)} {aO : Option Addr} {cO n q : Nat} {t' : Tr} (h : BentOK l (m, zs, aO, cO, n)) (hs : t'.src.length ≤ 1000000) (ht : i64B t'.stop) : BentOK l (m.set q t', zs, aO, cO, n) := by
  obtain ⟨h1, h2, h3, h4, h5⟩ := h
  dsimp only at h1 h2 h3 h4 h5
  refine ⟨by simpa using h1, by simpa using h2, by simpa using h3, fun t hm => ?_, fun t hm => ?_⟩
  · rcases set_mem hm with hm | rfl
    · exact h4 t hm
    · exact hs
  · rcases set_mem hm with hm | rfl
    · exact h5 t hm
    · exact ht
theorem HN.openg {N : Nat} {ds : List Deferred} {K : Act → World → Prop} {E : Env} {w0 : World} {H : List Atom} {e : TypeId} {sz c n : Nat} {a : Option Addr} {xs : List Value} (hm : A.grow e sz a c n xs ∈ H) (hn : n ≠ 0) (h : ∀ b, a = some ⟨b, 0, none⟩ → HN N ds K E w0 H) : HN N ds K E w0 H := fun w hM => by
  rcases (hM.own hm).2 with ⟨-, h0⟩ | ⟨g, cap, cur, hv, -⟩
  · exact absurd h0 hn
  · cases hv; exact h g rfl w hM
theorem HC.capOf' {P : Program} {r : Option Nat} {N : Nat} {ds : List Deferred} {Q : Post} {E : Env} {w0 : World} {H : List Atom} {e : TypeId} {sz c n : Nat} {a : Option Addr} {xs : List Value} {co : Code} (hm : A.grow e sz a c n xs ∈ H) (h : n ≤ c → HC P r N ds co Q E w0 H) : HC P r N ds co Q E w0 H := fun w hM => by
  refine h ?_ w hM
  rcases (hM.own hm).2 with ⟨-, h0⟩ | ⟨g, cap, cur, hv, -, -, hnc, -⟩
  · omega
  · cases hv; exact hnc
attribute [local irreducible] WC WL WX POp Then Again Fn NX W1 WA WO QL RP RA Yld LoopAt HC HL HX HN H1 HA HO HQ HB HP A.blk A.grow A.rd A.obj A.mp AgainH CutH
attribute [local irreducible] A.all A.ts tcells srcAts
set_option maxHeartbeats 4000000 in
theorem bent_fn (v : Value) (l : List Tr) (h0 h1 h2 : Int) (g0 : i64B h0) (g1 : i64B h1) (g2 : i64B h2) (hl : l.length ≤ 100) (hts : ∀ t ∈ l, t.src.length ≤ 1000000) (hst : ∀ t ∈ l, i64B t.stop) (w : World) (hT : RdT w v l) :
    Fn Try.prog 16 #[v, .agg #[.int .i64 h0, .int .i64 h1, .int .i64 h2]] w fun u w' => ∃ z : List Tr × List (Option Addr × Nat) × Option Addr × Nat × Nat, BentOK l z ∧ u = .slice z.2.2.1 z.2.2.2.2 z.2.2.2.1 ∧ Mm w [A.ts z.2.2.1 z.2.2.2.1 z.1 z.2.1] w' := by
  obtain ⟨at_, ct, rfl⟩ := hT.shape
  refine enterH (l := [_, _]) rfl Try.ntmps16 rfl ?_
  repeat' (first | refine HL.pa ?_ (POp.nilCheck rfl) | apply HL.fold | apply HA.fold | apply HL.nil | apply HX.n_then | apply HC.seq | apply HC.region | refine HL.pa ?_ | refine HL.ga rfl ?_ | refine HL.na rfl ?_ | refine HL.nu rfl rfl ?_ | apply HC.block | apply HC.skip | apply HC.exit | apply HC.ret | apply HX.e_block | refine HX.e_other rfl ?_ | apply HX.e_then | apply HX.e_again | apply HX.n_block | apply HX.r_then | apply HX.r_block | apply HX.r_again | refine HC.cond_yes rfl ?_ | refine HC.cond_no rfl ?_ | refine HL.one (H1.ldb rfl memA rfl rfl ?_) | refine HC.cond rfl (fun hc => ?_) (fun hc => ?_) | refine HC.cond_b rfl (fun hc => ?_) (fun hc => ?_))
  refine HL.one (H1.boxAgg (cs := [.int .i64 h0, .int .i64 h1, .int .i64 h2]) rfl rfl (fun b3 => ?_))
  repeat' (first | refine HL.pa ?_ (POp.nilCheck rfl) | apply HL.fold | apply HA.fold | apply HL.nil | apply HX.n_then | apply HC.seq | apply HC.region | refine HL.pa ?_ | refine HL.ga rfl ?_ | refine HL.na rfl ?_ | refine HL.nu rfl rfl ?_ | apply HC.block | apply HC.skip | apply HC.exit | apply HC.ret | apply HX.e_block | refine HX.e_other rfl ?_ | apply HX.e_then | apply HX.e_again | apply HX.n_block | apply HX.r_then | apply HX.r_block | apply HX.r_again | refine HC.cond_yes rfl ?_ | refine HC.cond_no rfl ?_ | refine HL.one (H1.ldb rfl memA rfl rfl ?_) | refine HC.cond rfl (fun hc => ?_) (fun hc => ?_) | refine HC.cond_b rfl (fun hc => ?_) (fun hc => ?_))
  refine HC.grow0 52 5 ?_
  refine HC.loop (α := Nat × List (Option Addr × Nat) × Option Addr × Nat) (fun z => [(0, .slice at_ l.length ct), (3, .pointer (some ⟨b3, 0, none⟩)), (5, .slice z.2.2.1 (l.take z.1).length z.2.2.2), (6, .int .i64 (z.1 : Int))])
    (fun z => A.blk b3 [.int .i64 h0, .int .i64 h1, .int .i64 h2] 23 :: A.grow 52 5 z.2.2.1 z.2.2.2 (l.take z.1).length (tcells (l.take z.1) z.2.1) :: srcAts (l.take z.1) z.2.1)
    (fun z => z.1 ≤ l.length ∧ z.2.1.length = (l.take z.1).length) (fun z => l.length - z.1) (0, [], none, 0) ⟨Nat.zero_le _, rfl⟩ esA (by dsimp only [List.take_zero]; rw [show tcells [] [] = [] by unfold tcells; rfl, show srcAts [] [] = [] by unfold srcAts; rfl]; exact Hs.cons (Pick.there Pick.here) (Hs.cons Pick.here (Hs.nil _))) ?_
  rintro ⟨i, zs, aO, cO⟩ ⟨hi, hz⟩
  dsimp only at hi hz ⊢
  have hTl : (l.take i).length = i := by rw [List.length_take]; omega
  by_cases hlt : i < l.length
  · have htk := tr_take hlt
    obtain ⟨bt, offt, h, rfl, hcl, hsrc⟩ := hT.el hlt
    obtain ⟨ah, ch, rfl, -⟩ := hsrc.isInts
    have hsb := hts _ (tr_mem hlt)
    generalize l.take i = T at *
    repeat' (first | refine HL.pa ?_ (POp.nilCheck rfl) | apply HL.fold | apply HA.fold | apply HL.nil | apply HX.n_then | apply HC.seq | apply HC.region | refine HL.pa ?_ | refine HL.ga rfl ?_ | refine HL.na rfl ?_ | refine HL.nu rfl rfl ?_ | apply HC.block | apply HC.skip | apply HC.exit | apply HC.ret | apply HX.e_block | refine HX.e_other rfl ?_ | apply HX.e_then | apply HX.e_again | apply HX.n_block | apply HX.r_then | apply HX.r_block | apply HX.r_again | refine HC.cond_yes rfl ?_ | refine HC.cond_no rfl ?_ | refine HL.one (H1.ldb rfl memA rfl rfl ?_) | refine HC.cond rfl (fun hc => ?_) (fun hc => ?_) | refine HC.cond_b rfl (fun hc => ?_) (fun hc => ?_))
    refine HL.one (H1.ldAggw (vs := [.int .i64 (tr l i).frag, .int .i64 (tr l i).to, .slice ah (tr l i).src.length ch, .int .i64 (tr l i).start, .int .i64 (tr l i).stop]) rfl rfl (fun w hM j v hj => cell_ext hM.ext (hcl j v hj)) rfl ?_)
    repeat' (first | refine HL.pa ?_ (POp.nilCheck rfl) | apply HL.fold | apply HA.fold | apply HL.nil | apply HX.n_then | apply HC.seq | apply HC.region | refine HL.pa ?_ | refine HL.ga rfl ?_ | refine HL.na rfl ?_ | refine HL.nu rfl rfl ?_ | apply HC.block | apply HC.skip | apply HC.exit | apply HC.ret | apply HX.e_block | refine HX.e_other rfl ?_ | apply HX.e_then | apply HX.e_again | apply HX.n_block | apply HX.r_then | apply HX.r_block | apply HX.r_again | refine HC.cond_yes rfl ?_ | refine HC.cond_no rfl ?_ | refine HL.one (H1.ldb rfl memA rfl rfl ?_) | refine HC.cond rfl (fun hc => ?_) (fun hc => ?_) | refine HC.cond_b rfl (fun hc => ?_) (fun hc => ?_))
    refine HL.one (H1.alloc (cs := tcell trz (.slice none 0 0)) rfl rfl (fun b7 => ?_))
    repeat' (first | refine HL.pa ?_ (POp.nilCheck rfl) | apply HL.fold | apply HA.fold | apply HL.nil | apply HX.n_then | apply HC.seq | apply HC.region | refine HL.pa ?_ | refine HL.ga rfl ?_ | refine HL.na rfl ?_ | refine HL.nu rfl rfl ?_ | apply HC.block | apply HC.skip | apply HC.exit | apply HC.ret | apply HX.e_block | refine HX.e_other rfl ?_ | apply HX.e_then | apply HX.e_again | apply HX.n_block | apply HX.r_then | apply HX.r_block | apply HX.r_again | refine HC.cond_yes rfl ?_ | refine HC.cond_no rfl ?_ | refine HL.one (H1.ldb rfl memA rfl rfl ?_) | refine HC.cond rfl (fun hc => ?_) (fun hc => ?_) | refine HC.cond_b rfl (fun hc => ?_) (fun hc => ?_))
    refine HL.one (H1.stAgg (cs := tcell trz (.slice none 0 0)) (vs := [.int .i64 (tr l i).frag, .int .i64 (tr l i).to, .slice ah (tr l i).src.length ch, .int .i64 (tr l i).start, .int .i64 (tr l i).stop]) rfl rfl rfl (by intro v hv; simp only [List.mem_cons, List.not_mem_nil, or_false] at hv; rcases hv with rfl | rfl | rfl | rfl | rfl <;> rfl) rplA rfl ?_)
    repeat' (first | refine HL.pa ?_ (POp.nilCheck rfl) | apply HL.fold | apply HA.fold | apply HL.nil | apply HX.n_then | apply HC.seq | apply HC.region | refine HL.pa ?_ | refine HL.ga rfl ?_ | refine HL.na rfl ?_ | refine HL.nu rfl rfl ?_ | apply HC.block | apply HC.skip | apply HC.exit | apply HC.ret | apply HX.e_block | refine HX.e_other rfl ?_ | apply HX.e_then | apply HX.e_again | apply HX.n_block | apply HX.r_then | apply HX.r_block | apply HX.r_again | refine HC.cond_yes rfl ?_ | refine HC.cond_no rfl ?_ | refine HL.one (H1.ldb rfl memA rfl rfl ?_) | refine HC.cond rfl (fun hc => ?_) (fun hc => ?_) | refine HC.cond_b rfl (fun hc => ?_) (fun hc => ?_))
    refine HL.one (H1.lit0 rfl (fun bl => ?_))
    repeat' (first | refine HL.pa ?_ (POp.nilCheck rfl) | apply HL.fold | apply HA.fold | apply HL.nil | apply HX.n_then | apply HC.seq | apply HC.region | refine HL.pa ?_ | refine HL.ga rfl ?_ | refine HL.na rfl ?_ | refine HL.nu rfl rfl ?_ | apply HC.block | apply HC.skip | apply HC.exit | apply HC.ret | apply HX.e_block | refine HX.e_other rfl ?_ | apply HX.e_then | apply HX.e_again | apply HX.n_block | apply HX.r_then | apply HX.r_block | apply HX.r_again | refine HC.cond_yes rfl ?_ | refine HC.cond_no rfl ?_ | refine HL.one (H1.ldb rfl memA rfl rfl ?_) | refine HC.cond rfl (fun hc => ?_) (fun hc => ?_) | refine HC.cond_b rfl (fun hc => ?_) (fun hc => ?_))
    refine HL.one (H1.appR (n := 0) (vs := ints (tr l i).src) rfl rfl (by rw [ints_len]; rfl) (fun _ _ => by first | ((repeat (first | with_reducible exact Rpl.here | with_reducible apply Rpl.there)); done) | (repeat (first | exact Rpl.here | apply Rpl.there))) (fun w' hM => by rw [ints_len]; exact hM.rd0 hsrc) (ints_one _) (by rw [ints_len]; omega) (by decide) rfl (.inl rfl) (fun a8 c8 _ => ?_))
    rw [ints_len]
    simp only [Nat.zero_add, List.nil_append]
    repeat' (first | refine HL.pa ?_ (POp.nilCheck rfl) | apply HL.fold | apply HA.fold | apply HL.nil | apply HX.n_then | apply HC.seq | apply HC.region | refine HL.pa ?_ | refine HL.ga rfl ?_ | refine HL.na rfl ?_ | refine HL.nu rfl rfl ?_ | apply HC.block | apply HC.skip | apply HC.exit | apply HC.ret | apply HX.e_block | refine HX.e_other rfl ?_ | apply HX.e_then | apply HX.e_again | apply HX.n_block | apply HX.r_then | apply HX.r_block | apply HX.r_again | refine HC.cond_yes rfl ?_ | refine HC.cond_no rfl ?_ | refine HL.one (H1.ldb rfl memA rfl rfl ?_) | refine HC.cond rfl (fun hc => ?_) (fun hc => ?_) | refine HC.cond_b rfl (fun hc => ?_) (fun hc => ?_))
    refine HL.one (H1.st rfl rfl (by intro _ h; cases h) (by intro _ h; cases h) rplA (by show 2 < 5; decide) ?_)
    repeat' (first | refine HL.pa ?_ (POp.nilCheck rfl) | apply HL.fold | apply HA.fold | apply HL.nil | apply HX.n_then | apply HC.seq | apply HC.region | refine HL.pa ?_ | refine HL.ga rfl ?_ | refine HL.na rfl ?_ | refine HL.nu rfl rfl ?_ | apply HC.block | apply HC.skip | apply HC.exit | apply HC.ret | apply HX.e_block | refine HX.e_other rfl ?_ | apply HX.e_then | apply HX.e_again | apply HX.n_block | apply HX.r_then | apply HX.r_block | apply HX.r_again | refine HC.cond_yes rfl ?_ | refine HC.cond_no rfl ?_ | refine HL.one (H1.ldb rfl memA rfl rfl ?_) | refine HC.cond rfl (fun hc => ?_) (fun hc => ?_) | refine HC.cond_b rfl (fun hc => ?_) (fun hc => ?_))
    refine HL.one (H1.ldAgg (vs := [.int .i64 (tr l i).frag, .int .i64 (tr l i).to, .slice a8 (tr l i).src.length c8, .int .i64 (tr l i).start, .int .i64 (tr l i).stop]) rfl memA rfl (fun i v hv => by rw [show 0 + i = i from Nat.zero_add i]; exact hv) rfl ?_)
    repeat' (first | refine HL.pa ?_ (POp.nilCheck rfl) | apply HL.fold | apply HA.fold | apply HL.nil | apply HX.n_then | apply HC.seq | apply HC.region | refine HL.pa ?_ | refine HL.ga rfl ?_ | refine HL.na rfl ?_ | refine HL.nu rfl rfl ?_ | apply HC.block | apply HC.skip | apply HC.exit | apply HC.ret | apply HX.e_block | refine HX.e_other rfl ?_ | apply HX.e_then | apply HX.e_again | apply HX.n_block | apply HX.r_then | apply HX.r_block | apply HX.r_again | refine HC.cond_yes rfl ?_ | refine HC.cond_no rfl ?_ | refine HL.one (H1.ldb rfl memA rfl rfl ?_) | refine HC.cond rfl (fun hc => ?_) (fun hc => ?_) | refine HC.cond_b rfl (fun hc => ?_) (fun hc => ?_))
    refine HL.one (H1.lit (cs := [.int .i64 (tr l i).frag, .int .i64 (tr l i).to, .slice a8 (tr l i).src.length c8, .int .i64 (tr l i).start, .int .i64 (tr l i).stop]) rfl rfl rfl rfl rfl rfl (fun b5 => ?_))
    repeat' (first | refine HL.pa ?_ (POp.nilCheck rfl) | apply HL.fold | apply HA.fold | apply HL.nil | apply HX.n_then | apply HC.seq | apply HC.region | refine HL.pa ?_ | refine HL.ga rfl ?_ | refine HL.na rfl ?_ | refine HL.nu rfl rfl ?_ | apply HC.block | apply HC.skip | apply HC.exit | apply HC.ret | apply HX.e_block | refine HX.e_other rfl ?_ | apply HX.e_then | apply HX.e_again | apply HX.n_block | apply HX.r_then | apply HX.r_block | apply HX.r_again | refine HC.cond_yes rfl ?_ | refine HC.cond_no rfl ?_ | refine HL.one (H1.ldb rfl memA rfl rfl ?_) | refine HC.cond rfl (fun hc => ?_) (fun hc => ?_) | refine HC.cond_b rfl (fun hc => ?_) (fun hc => ?_))
    refine HL.one (H1.app (e := 52) (sz := 5) (m := 1) (news := [.int .i64 (tr l i).frag, .int .i64 (tr l i).to, .slice a8 (tr l i).src.length c8, .int .i64 (tr l i).start, .int .i64 (tr l i).stop]) rfl (by decide) rfl rfl (fun _ _ => by first | ((repeat (first | with_reducible exact Rpl.here | with_reducible apply Rpl.there)); done) | (repeat (first | exact Rpl.here | apply Rpl.there))) rfl (fun w hM k u hk => by rw [add_lit, Nat.zero_add]; exact (hM.blk memA).cell hk) (by intro v hv; simp only [List.mem_cons, List.not_mem_nil, or_false] at hv; rcases hv with rfl | rfl | rfl | rfl | rfl <;> rfl) (by omega) (by decide) rfl (fun a6 c6 ha6 => ?_))
    repeat' (first | refine HL.pa ?_ (POp.nilCheck rfl) | apply HL.fold | apply HA.fold | apply HL.nil | apply HX.n_then | apply HC.seq | apply HC.region | refine HL.pa ?_ | refine HL.ga rfl ?_ | refine HL.na rfl ?_ | refine HL.nu rfl rfl ?_ | apply HC.block | apply HC.skip | apply HC.exit | apply HC.ret | apply HX.e_block | refine HX.e_other rfl ?_ | apply HX.e_then | apply HX.e_again | apply HX.n_block | apply HX.r_then | apply HX.r_block | apply HX.r_again | refine HC.cond_yes rfl ?_ | refine HC.cond_no rfl ?_ | refine HL.one (H1.ldb rfl memA rfl rfl ?_) | refine HC.cond rfl (fun hc => ?_) (fun hc => ?_) | refine HC.cond_b rfl (fun hc => ?_) (fun hc => ?_))
    have e1 : tcell (tr l i) (hval (tr l i) (a8, c8)) = [.int .i64 (tr l i).frag, .int .i64 (tr l i).to, .slice a8 (tr l i).src.length c8, .int .i64 (tr l i).start, .int .i64 (tr l i).stop] := by simp [tcell, hval]
    have e2 : srcA (tr l i, (a8, c8)) = A.grow 3 1 a8 c8 (tr l i).src.length (ints (tr l i).src) := by simp [srcA]
    refine HX.again (i + 1, zs ++ [(a8, c8)], a6, c6) ⟨by show i + 1 ≤ _; omega, ?_⟩ (by show l.length - (i + 1) < l.length - i; omega) (by dsimp only; rw [htk, List.length_append]; repeat (first | exact trivial | refine ⟨rfl, ?_⟩)) ?_
    · dsimp only
      rw [htk, List.length_append, List.length_append, hz]; rfl
    · dsimp only
      rw [htk, List.length_append, tcells_snoc hz, srcAts_snoc hz, e1, e2]
      repeat (first | exact Hs.nil _ | (refine Hs.cons pickA ?_))
      exact Hs.end3
  have hie : i = l.length := by omega
  rw [hie, List.take_length] at hz ⊢
  clear hie hTl hlt hi
  by_cases hl0 : l.length = 0
  · repeat' (first | refine HL.pa ?_ (POp.nilCheck rfl) | apply HL.fold | apply HA.fold | apply HL.nil | apply HX.n_then | apply HC.seq | apply HC.region | refine HL.pa ?_ | refine HL.ga rfl ?_ | refine HL.na rfl ?_ | refine HL.nu rfl rfl ?_ | apply HC.block | apply HC.skip | apply HC.exit | apply HC.ret | apply HX.e_block | refine HX.e_other rfl ?_ | apply HX.e_then | apply HX.e_again | apply HX.n_block | apply HX.r_then | apply HX.r_block | apply HX.r_again | refine HC.cond_yes rfl ?_ | refine HC.cond_no rfl ?_ | refine HL.one (H1.ldb rfl memA rfl rfl ?_) | refine HC.cond rfl (fun hc => ?_) (fun hc => ?_) | refine HC.cond_b rfl (fun hc => ?_) (fun hc => ?_))
    exact HX.ret1 rfl rfl fun w' hM => ⟨(l, zs, aO, cO, l.length), ⟨hz, rfl, Nat.le_refl _, hts, hst⟩, rfl, hM.tail.packI⟩
  refine HC.openg (e := 52) (a := aO) (n := l.length) memA (by omega) ?_
  rintro bO rfl
  obtain ⟨q, hq1, hq2⟩ : ∃ q : Nat, pickI h0 (l.length : Int) = (q : Int) ∧ q < l.length := ⟨(pickI h0 (l.length : Int)).toNat, by have := pickI_lt h0 (show (0 : Int) < (l.length : Int) by omega); omega, by have := pickI_lt h0 (show (0 : Int) < (l.length : Int) by omega); omega⟩
  repeat' (first | refine HL.pa ?_ (POp.nilCheck rfl) | apply HL.fold | apply HA.fold | apply HL.nil | apply HX.n_then | apply HC.seq | apply HC.region | refine HL.pa ?_ | refine HL.ga rfl ?_ | refine HL.na rfl ?_ | refine HL.nu rfl rfl ?_ | apply HC.block | apply HC.skip | apply HC.exit | apply HC.ret | apply HX.e_block | refine HX.e_other rfl ?_ | apply HX.e_then | apply HX.e_again | apply HX.n_block | apply HX.r_then | apply HX.r_block | apply HX.r_again | refine HC.cond_yes rfl ?_ | refine HC.cond_no rfl ?_ | refine HL.one (H1.ldb rfl memA rfl rfl ?_) | refine HC.cond rfl (fun hc => ?_) (fun hc => ?_) | refine HC.cond_b rfl (fun hc => ?_) (fun hc => ?_))
  refine HL.one (H1.call0 (u := .int .i64 (q : Int)) (vs := [.int .i64 h0, .int .i64 (l.length : Int)]) rfl rfl (fun w' _ => by rw [← hq1]; exact pick_fn h0 (l.length : Int) g0.1 g0.2 (by omega) w') ?_)
  repeat' (first | refine HL.pa ?_ (POp.nilCheck rfl) | apply HL.fold | apply HA.fold | apply HL.nil | apply HX.n_then | apply HC.seq | apply HC.region | refine HL.pa ?_ | refine HL.ga rfl ?_ | refine HL.na rfl ?_ | refine HL.nu rfl rfl ?_ | apply HC.block | apply HC.skip | apply HC.exit | apply HC.ret | apply HX.e_block | refine HX.e_other rfl ?_ | apply HX.e_then | apply HX.e_again | apply HX.n_block | apply HX.r_then | apply HX.r_block | apply HX.r_again | refine HC.cond_yes rfl ?_ | refine HC.cond_no rfl ?_ | refine HL.one (H1.ldb rfl memA rfl rfl ?_) | refine HC.cond rfl (fun hc => ?_) (fun hc => ?_) | refine HC.cond_b rfl (fun hc => ?_) (fun hc => ?_))
  refine HL.one (H1.call0 (u := .int .i64 (pickI h1 7)) (vs := [.int .i64 h1, .int .i64 7]) rfl rfl (fun w' _ => pick_fn h1 7 g1.1 g1.2 (by decide) w') ?_)
  have hB0 : BentOK l (l, zs, some ⟨bO, 0, none⟩, cO, l.length) := ⟨hz, rfl, Nat.le_refl _, hts, hst⟩
  repeat' (first | refine HL.pa ?_ (POp.nilCheck rfl) | apply HL.fold | apply HA.fold | apply HL.nil | apply HX.n_then | apply HC.seq | apply HC.region | refine HL.pa ?_ | refine HL.ga rfl ?_ | refine HL.na rfl ?_ | refine HL.nu rfl rfl ?_ | apply HC.skip | apply HC.exit | apply HC.ret | apply HX.e_block | refine HX.e_other rfl ?_ | apply HX.e_then | apply HX.e_again | apply HX.n_block | apply HX.r_then | apply HX.r_block | apply HX.r_again | refine HC.cond_yes rfl ?_ | refine HC.cond_no rfl ?_ | refine HL.one (H1.ldb rfl memA rfl rfl ?_) | refine HC.cond rfl (fun hc => ?_) (fun hc => ?_) | refine HC.cond_b rfl (fun hc => ?_) (fun hc => ?_))
  refine HC.capOf' (e := 52) (sz := 5) (a := some ⟨bO, 0, none⟩) (c := cO) (n := l.length) (xs := tcells l zs) memA (fun hcap => ?_)
  refine HC.cut (α := List Tr × Nat) (fun z => [(5, .slice (some ⟨bO, 0, none⟩) z.2 cO)]) (fun z => A.grow 52 5 (some ⟨bO, 0, none⟩) cO l.length (tcells z.1 zs) :: srcAts z.1 zs) (fun z => BentOK l (z.1, zs, some ⟨bO, 0, none⟩, cO, z.2)) ?_ ?_
  rotate_left
  · rintro ⟨m, n⟩ hB
    have hml := hB.ml
    dsimp only at hml ⊢
    rw [← hml]
    repeat' (first | refine HL.pa ?_ (POp.nilCheck rfl) | apply HL.fold | apply HA.fold | apply HL.nil | apply HX.n_then | apply HC.seq | apply HC.region | refine HL.pa ?_ | refine HL.ga rfl ?_ | refine HL.na rfl ?_ | refine HL.nu rfl rfl ?_ | apply HC.block | apply HC.skip | apply HC.exit | apply HC.ret | apply HX.e_block | refine HX.e_other rfl ?_ | apply HX.e_then | apply HX.e_again | apply HX.n_block | apply HX.r_then | apply HX.r_block | apply HX.r_again | refine HC.cond_yes rfl ?_ | refine HC.cond_no rfl ?_ | refine HL.one (H1.ldb rfl memA rfl rfl ?_) | refine HC.cond rfl (fun hc => ?_) (fun hc => ?_) | refine HC.cond_b rfl (fun hc => ?_) (fun hc => ?_))
    exact HX.ret1 rfl rfl fun w' hM => ⟨(m, zs, some ⟨bO, 0, none⟩, cO, n), hB, rfl, hM.packI⟩
  have hsq := hts _ (tr_mem hq2)
  have hstq := hst _ (tr_mem hq2)
  generalize pickI h1 7 = kk
  by_cases c0 : kk = 0
  · subst c0
    repeat' (first | refine HL.pa ?_ (POp.nilCheck rfl) | apply HL.fold | apply HA.fold | apply HL.nil | apply HX.n_then | apply HC.seq | apply HC.region | refine HL.pa ?_ | refine HL.ga rfl ?_ | refine HL.na rfl ?_ | refine HL.nu rfl rfl ?_ | apply HC.block | apply HC.skip | apply HC.exit | apply HC.ret | apply HX.e_block | refine HX.e_other rfl ?_ | apply HX.e_then | apply HX.e_again | apply HX.n_block | apply HX.r_then | apply HX.r_block | apply HX.r_again | refine HC.cond_yes rfl ?_ | refine HC.cond_no rfl ?_ | refine HL.one (H1.ldb rfl memA rfl rfl ?_) | refine HC.cond rfl (fun hc => ?_) (fun hc => ?_) | refine HC.cond_b rfl (fun hc => ?_) (fun hc => ?_))
    refine HL.one (H1.ldg rfl memA (tcells_get hz hq2 (j := 3) rfl) rfl ?_)
    repeat' (first | refine HL.pa ?_ (POp.nilCheck rfl) | apply HL.fold | apply HA.fold | apply HL.nil | apply HX.n_then | apply HC.seq | apply HC.region | refine HL.pa ?_ | refine HL.ga rfl ?_ | refine HL.na rfl ?_ | refine HL.nu rfl rfl ?_ | apply HC.block | apply HC.skip | apply HC.exit | apply HC.ret | apply HX.e_block | refine HX.e_other rfl ?_ | apply HX.e_then | apply HX.e_again | apply HX.n_block | apply HX.r_then | apply HX.r_block | apply HX.r_again | refine HC.cond_yes rfl ?_ | refine HC.cond_no rfl ?_ | refine HL.one (H1.ldb rfl memA rfl rfl ?_) | refine HC.cond rfl (fun hc => ?_) (fun hc => ?_) | refine HC.cond_b rfl (fun hc => ?_) (fun hc => ?_))
    refine HL.pa (v := .int .i64 (IntKind.i64.wrap ((tr l q).start + 1))) ?_ (POp.add' rfl rfl)
    repeat' (first | refine HL.pa ?_ (POp.nilCheck rfl) | apply HL.fold | apply HA.fold | apply HL.nil | apply HX.n_then | apply HC.seq | apply HC.region | refine HL.pa ?_ | refine HL.ga rfl ?_ | refine HL.na rfl ?_ | refine HL.nu rfl rfl ?_ | apply HC.block | apply HC.skip | apply HC.exit | apply HC.ret | apply HX.e_block | refine HX.e_other rfl ?_ | apply HX.e_then | apply HX.e_again | apply HX.n_block | apply HX.r_then | apply HX.r_block | apply HX.r_again | refine HC.cond_yes rfl ?_ | refine HC.cond_no rfl ?_ | refine HL.one (H1.ldb rfl memA rfl rfl ?_) | refine HC.cond rfl (fun hc => ?_) (fun hc => ?_) | refine HC.cond_b rfl (fun hc => ?_) (fun hc => ?_))
    refine HL.one (H1.stg rfl rfl (by intro _ h; cases h) (by intro _ h; cases h) rplA (by rw [tcells_len hz]; omega) ?_)
    obtain ⟨t1, ht1⟩ : ∃ t : Tr, t = ⟨(tr l q).frag, (tr l q).to, (tr l q).src, IntKind.i64.wrap ((tr l q).start + 1), (tr l q).stop⟩ := ⟨_, rfl⟩
    rw [tcells_set (t' := t1) hz hq2 (by decide) (fun _ => by rw [ht1]; rfl)]
    have hz1 : zs.length = (l.set q t1).length := by rw [List.length_set]; exact hz
    have hq3 : q < (l.set q t1).length := by rw [List.length_set]; exact hq2
    have hts1 : tr (l.set q t1) q = t1 := tr_set hq2
    repeat' (first | refine HL.pa ?_ (POp.nilCheck rfl) | apply HL.fold | apply HA.fold | apply HL.nil | apply HX.n_then | apply HC.seq | apply HC.region | refine HL.pa ?_ | refine HL.ga rfl ?_ | refine HL.na rfl ?_ | refine HL.nu rfl rfl ?_ | apply HC.block | apply HC.skip | apply HC.exit | apply HC.ret | apply HX.e_block | refine HX.e_other rfl ?_ | apply HX.e_then | apply HX.e_again | apply HX.n_block | apply HX.r_then | apply HX.r_block | apply HX.r_again | refine HC.cond_yes rfl ?_ | refine HC.cond_no rfl ?_ | refine HL.one (H1.ldb rfl memA rfl rfl ?_) | refine HC.cond rfl (fun hc => ?_) (fun hc => ?_) | refine HC.cond_b rfl (fun hc => ?_) (fun hc => ?_))
    refine HL.one (H1.ldg rfl memA (tcells_get hz1 hq3 (j := 4) (u := .int .i64 (tr l q).stop) (by rw [hts1, ht1]; rfl)) rfl ?_)
    repeat' (first | refine HL.pa ?_ (POp.nilCheck rfl) | apply HL.fold | apply HA.fold | apply HL.nil | apply HX.n_then | apply HC.seq | apply HC.region | refine HL.pa ?_ | refine HL.ga rfl ?_ | refine HL.na rfl ?_ | refine HL.nu rfl rfl ?_ | apply HC.block | apply HC.skip | apply HC.exit | apply HC.ret | apply HX.e_block | refine HX.e_other rfl ?_ | apply HX.e_then | apply HX.e_again | apply HX.n_block | apply HX.r_then | apply HX.r_block | apply HX.r_again | refine HC.cond_yes rfl ?_ | refine HC.cond_no rfl ?_ | refine HL.one (H1.ldb rfl memA rfl rfl ?_) | refine HC.cond rfl (fun hc => ?_) (fun hc => ?_) | refine HC.cond_b rfl (fun hc => ?_) (fun hc => ?_))
    refine HL.pa (v := .int .i64 (IntKind.i64.wrap ((tr l q).stop + 1))) ?_ (POp.add' rfl rfl)
    repeat' (first | refine HL.pa ?_ (POp.nilCheck rfl) | apply HL.fold | apply HA.fold | apply HL.nil | apply HX.n_then | apply HC.seq | apply HC.region | refine HL.pa ?_ | refine HL.ga rfl ?_ | refine HL.na rfl ?_ | refine HL.nu rfl rfl ?_ | apply HC.block | apply HC.skip | apply HC.exit | apply HC.ret | apply HX.e_block | refine HX.e_other rfl ?_ | apply HX.e_then | apply HX.e_again | apply HX.n_block | apply HX.r_then | apply HX.r_block | apply HX.r_again | refine HC.cond_yes rfl ?_ | refine HC.cond_no rfl ?_ | refine HL.one (H1.ldb rfl memA rfl rfl ?_) | refine HC.cond rfl (fun hc => ?_) (fun hc => ?_) | refine HC.cond_b rfl (fun hc => ?_) (fun hc => ?_))
    refine HL.one (H1.stg rfl rfl (by intro _ h; cases h) (by intro _ h; cases h) rplA (by rw [tcells_len hz1]; omega) ?_)
    obtain ⟨t2, ht2⟩ : ∃ t : Tr, t = ⟨(tr l q).frag, (tr l q).to, (tr l q).src, IntKind.i64.wrap ((tr l q).start + 1), IntKind.i64.wrap ((tr l q).stop + 1)⟩ := ⟨_, rfl⟩
    rw [tcells_set (t' := t2) hz1 hq3 (by decide) (fun _ => by rw [hts1, ht1, ht2]; rfl), List.set_set]
    repeat' (first | refine HL.pa ?_ (POp.nilCheck rfl) | apply HL.fold | apply HA.fold | apply HL.nil | apply HX.n_then | apply HC.seq | apply HC.region | refine HL.pa ?_ | refine HL.ga rfl ?_ | refine HL.na rfl ?_ | refine HL.nu rfl rfl ?_ | apply HC.block | apply HC.skip | apply HC.exit | apply HC.ret | apply HX.e_block | refine HX.e_other rfl ?_ | apply HX.e_then | apply HX.e_again | apply HX.n_block | apply HX.r_then | apply HX.r_block | apply HX.r_again | refine HC.cond_yes rfl ?_ | refine HC.cond_no rfl ?_ | refine HL.one (H1.ldb rfl memA rfl rfl ?_) | refine HC.cond rfl (fun hc => ?_) (fun hc => ?_) | refine HC.cond_b rfl (fun hc => ?_) (fun hc => ?_))
    exact HX.cut (l.set q t2, l.length) (hB0.set (by rw [ht2]; exact hsq) (by rw [ht2]; exact wrap_i64B _)) esA (by dsimp only; rw [srcAts_same hz hq2 (by rw [ht2])]; exact Hs.dropI (Hs.refl _))
  by_cases c1 : kk = 1
  · subst c1
    repeat' (first | refine HL.pa ?_ (POp.nilCheck rfl) | apply HL.fold | apply HA.fold | apply HL.nil | apply HX.n_then | apply HC.seq | apply HC.region | refine HL.pa ?_ | refine HL.ga rfl ?_ | refine HL.na rfl ?_ | refine HL.nu rfl rfl ?_ | apply HC.block | apply HC.skip | apply HC.exit | apply HC.ret | apply HX.e_block | refine HX.e_other rfl ?_ | apply HX.e_then | apply HX.e_again | apply HX.n_block | apply HX.r_then | apply HX.r_block | apply HX.r_again | refine HC.cond_yes rfl ?_ | refine HC.cond_no rfl ?_ | refine HL.one (H1.ldb rfl memA rfl rfl ?_) | refine HC.cond rfl (fun hc => ?_) (fun hc => ?_) | refine HC.cond_b rfl (fun hc => ?_) (fun hc => ?_))
    refine HL.one (H1.ldg rfl memA (tcells_get hz hq2 (j := 3) rfl) rfl ?_)
    repeat' (first | refine HL.pa ?_ (POp.nilCheck rfl) | apply HL.fold | apply HA.fold | apply HL.nil | apply HX.n_then | apply HC.seq | apply HC.region | refine HL.pa ?_ | refine HL.ga rfl ?_ | refine HL.na rfl ?_ | refine HL.nu rfl rfl ?_ | apply HC.block | apply HC.skip | apply HC.exit | apply HC.ret | apply HX.e_block | refine HX.e_other rfl ?_ | apply HX.e_then | apply HX.e_again | apply HX.n_block | apply HX.r_then | apply HX.r_block | apply HX.r_again | refine HC.cond_yes rfl ?_ | refine HC.cond_no rfl ?_ | refine HL.one (H1.ldb rfl memA rfl rfl ?_) | refine HC.cond rfl (fun hc => ?_) (fun hc => ?_) | refine HC.cond_b rfl (fun hc => ?_) (fun hc => ?_))
    refine HL.pa (v := .int .i64 (IntKind.i64.wrap ((tr l q).start - 1))) ?_ (POp.sub' rfl rfl)
    repeat' (first | refine HL.pa ?_ (POp.nilCheck rfl) | apply HL.fold | apply HA.fold | apply HL.nil | apply HX.n_then | apply HC.seq | apply HC.region | refine HL.pa ?_ | refine HL.ga rfl ?_ | refine HL.na rfl ?_ | refine HL.nu rfl rfl ?_ | apply HC.block | apply HC.skip | apply HC.exit | apply HC.ret | apply HX.e_block | refine HX.e_other rfl ?_ | apply HX.e_then | apply HX.e_again | apply HX.n_block | apply HX.r_then | apply HX.r_block | apply HX.r_again | refine HC.cond_yes rfl ?_ | refine HC.cond_no rfl ?_ | refine HL.one (H1.ldb rfl memA rfl rfl ?_) | refine HC.cond rfl (fun hc => ?_) (fun hc => ?_) | refine HC.cond_b rfl (fun hc => ?_) (fun hc => ?_))
    refine HL.one (H1.stg rfl rfl (by intro _ h; cases h) (by intro _ h; cases h) rplA (by rw [tcells_len hz]; omega) ?_)
    obtain ⟨t1, ht1⟩ : ∃ t : Tr, t = ⟨(tr l q).frag, (tr l q).to, (tr l q).src, IntKind.i64.wrap ((tr l q).start - 1), (tr l q).stop⟩ := ⟨_, rfl⟩
    rw [tcells_set (t' := t1) hz hq2 (by decide) (fun _ => by rw [ht1]; rfl)]
    have hz1 : zs.length = (l.set q t1).length := by rw [List.length_set]; exact hz
    have hq3 : q < (l.set q t1).length := by rw [List.length_set]; exact hq2
    have hts1 : tr (l.set q t1) q = t1 := tr_set hq2
    repeat' (first | refine HL.pa ?_ (POp.nilCheck rfl) | apply HL.fold | apply HA.fold | apply HL.nil | apply HX.n_then | apply HC.seq | apply HC.region | refine HL.pa ?_ | refine HL.ga rfl ?_ | refine HL.na rfl ?_ | refine HL.nu rfl rfl ?_ | apply HC.block | apply HC.skip | apply HC.exit | apply HC.ret | apply HX.e_block | refine HX.e_other rfl ?_ | apply HX.e_then | apply HX.e_again | apply HX.n_block | apply HX.r_then | apply HX.r_block | apply HX.r_again | refine HC.cond_yes rfl ?_ | refine HC.cond_no rfl ?_ | refine HL.one (H1.ldb rfl memA rfl rfl ?_) | refine HC.cond rfl (fun hc => ?_) (fun hc => ?_) | refine HC.cond_b rfl (fun hc => ?_) (fun hc => ?_))
    refine HL.one (H1.ldg rfl memA (tcells_get hz1 hq3 (j := 4) (u := .int .i64 (tr l q).stop) (by rw [hts1, ht1]; rfl)) rfl ?_)
    repeat' (first | refine HL.pa ?_ (POp.nilCheck rfl) | apply HL.fold | apply HA.fold | apply HL.nil | apply HX.n_then | apply HC.seq | apply HC.region | refine HL.pa ?_ | refine HL.ga rfl ?_ | refine HL.na rfl ?_ | refine HL.nu rfl rfl ?_ | apply HC.block | apply HC.skip | apply HC.exit | apply HC.ret | apply HX.e_block | refine HX.e_other rfl ?_ | apply HX.e_then | apply HX.e_again | apply HX.n_block | apply HX.r_then | apply HX.r_block | apply HX.r_again | refine HC.cond_yes rfl ?_ | refine HC.cond_no rfl ?_ | refine HL.one (H1.ldb rfl memA rfl rfl ?_) | refine HC.cond rfl (fun hc => ?_) (fun hc => ?_) | refine HC.cond_b rfl (fun hc => ?_) (fun hc => ?_))
    refine HL.pa (v := .int .i64 (IntKind.i64.wrap ((tr l q).stop - 1))) ?_ (POp.sub' rfl rfl)
    repeat' (first | refine HL.pa ?_ (POp.nilCheck rfl) | apply HL.fold | apply HA.fold | apply HL.nil | apply HX.n_then | apply HC.seq | apply HC.region | refine HL.pa ?_ | refine HL.ga rfl ?_ | refine HL.na rfl ?_ | refine HL.nu rfl rfl ?_ | apply HC.block | apply HC.skip | apply HC.exit | apply HC.ret | apply HX.e_block | refine HX.e_other rfl ?_ | apply HX.e_then | apply HX.e_again | apply HX.n_block | apply HX.r_then | apply HX.r_block | apply HX.r_again | refine HC.cond_yes rfl ?_ | refine HC.cond_no rfl ?_ | refine HL.one (H1.ldb rfl memA rfl rfl ?_) | refine HC.cond rfl (fun hc => ?_) (fun hc => ?_) | refine HC.cond_b rfl (fun hc => ?_) (fun hc => ?_))
    refine HL.one (H1.stg rfl rfl (by intro _ h; cases h) (by intro _ h; cases h) rplA (by rw [tcells_len hz1]; omega) ?_)
    obtain ⟨t2, ht2⟩ : ∃ t : Tr, t = ⟨(tr l q).frag, (tr l q).to, (tr l q).src, IntKind.i64.wrap ((tr l q).start - 1), IntKind.i64.wrap ((tr l q).stop - 1)⟩ := ⟨_, rfl⟩
    rw [tcells_set (t' := t2) hz1 hq3 (by decide) (fun _ => by rw [hts1, ht1, ht2]; rfl), List.set_set]
    repeat' (first | refine HL.pa ?_ (POp.nilCheck rfl) | apply HL.fold | apply HA.fold | apply HL.nil | apply HX.n_then | apply HC.seq | apply HC.region | refine HL.pa ?_ | refine HL.ga rfl ?_ | refine HL.na rfl ?_ | refine HL.nu rfl rfl ?_ | apply HC.block | apply HC.skip | apply HC.exit | apply HC.ret | apply HX.e_block | refine HX.e_other rfl ?_ | apply HX.e_then | apply HX.e_again | apply HX.n_block | apply HX.r_then | apply HX.r_block | apply HX.r_again | refine HC.cond_yes rfl ?_ | refine HC.cond_no rfl ?_ | refine HL.one (H1.ldb rfl memA rfl rfl ?_) | refine HC.cond rfl (fun hc => ?_) (fun hc => ?_) | refine HC.cond_b rfl (fun hc => ?_) (fun hc => ?_))
    exact HX.cut (l.set q t2, l.length) (hB0.set (by rw [ht2]; exact hsq) (by rw [ht2]; exact wrap_i64B _)) esA (by dsimp only; rw [srcAts_same hz hq2 (by rw [ht2])]; exact Hs.dropI (Hs.refl _))
  by_cases c2 : kk = 2
  · subst c2
    repeat' (first | refine HL.pa ?_ (POp.nilCheck rfl) | apply HL.fold | apply HA.fold | apply HL.nil | apply HX.n_then | apply HC.seq | apply HC.region | refine HL.pa ?_ | refine HL.ga rfl ?_ | refine HL.na rfl ?_ | refine HL.nu rfl rfl ?_ | apply HC.block | apply HC.skip | apply HC.exit | apply HC.ret | apply HX.e_block | refine HX.e_other rfl ?_ | apply HX.e_then | apply HX.e_again | apply HX.n_block | apply HX.r_then | apply HX.r_block | apply HX.r_again | refine HC.cond_yes rfl ?_ | refine HC.cond_no rfl ?_ | refine HL.one (H1.ldb rfl memA rfl rfl ?_) | refine HC.cond rfl (fun hc => ?_) (fun hc => ?_) | refine HC.cond_b rfl (fun hc => ?_) (fun hc => ?_))
    refine HL.one (H1.call0 (u := .int .i64 (pickI h2 10)) (vs := [.int .i64 h2, .int .i64 10]) rfl rfl (fun w' _ => pick_fn h2 10 g2.1 g2.2 (by decide) w') ?_)
    repeat' (first | refine HL.pa ?_ (POp.nilCheck rfl) | apply HL.fold | apply HA.fold | apply HL.nil | apply HX.n_then | apply HC.seq | apply HC.region | refine HL.pa ?_ | refine HL.ga rfl ?_ | refine HL.na rfl ?_ | refine HL.nu rfl rfl ?_ | apply HC.block | apply HC.skip | apply HC.exit | apply HC.ret | apply HX.e_block | refine HX.e_other rfl ?_ | apply HX.e_then | apply HX.e_again | apply HX.n_block | apply HX.r_then | apply HX.r_block | apply HX.r_again | refine HC.cond_yes rfl ?_ | refine HC.cond_no rfl ?_ | refine HL.one (H1.ldb rfl memA rfl rfl ?_) | refine HC.cond rfl (fun hc => ?_) (fun hc => ?_) | refine HC.cond_b rfl (fun hc => ?_) (fun hc => ?_))
    refine HL.one (H1.stg rfl rfl (by intro _ h; cases h) (by intro _ h; cases h) rplA (by rw [tcells_len hz]; omega) ?_)
    obtain ⟨t1, ht1⟩ : ∃ t : Tr, t = ⟨(tr l q).frag, pickI h2 10, (tr l q).src, (tr l q).start, (tr l q).stop⟩ := ⟨_, rfl⟩
    rw [tcells_set (k := 1) (t' := t1) hz hq2 (by decide) (fun _ => by rw [ht1]; rfl)]
    repeat' (first | refine HL.pa ?_ (POp.nilCheck rfl) | apply HL.fold | apply HA.fold | apply HL.nil | apply HX.n_then | apply HC.seq | apply HC.region | refine HL.pa ?_ | refine HL.ga rfl ?_ | refine HL.na rfl ?_ | refine HL.nu rfl rfl ?_ | apply HC.block | apply HC.skip | apply HC.exit | apply HC.ret | apply HX.e_block | refine HX.e_other rfl ?_ | apply HX.e_then | apply HX.e_again | apply HX.n_block | apply HX.r_then | apply HX.r_block | apply HX.r_again | refine HC.cond_yes rfl ?_ | refine HC.cond_no rfl ?_ | refine HL.one (H1.ldb rfl memA rfl rfl ?_) | refine HC.cond rfl (fun hc => ?_) (fun hc => ?_) | refine HC.cond_b rfl (fun hc => ?_) (fun hc => ?_))
    exact HX.cut (l.set q t1, l.length) (hB0.set (by rw [ht1]; exact hsq) (by rw [ht1]; exact hstq)) esA (by dsimp only; rw [srcAts_same hz hq2 (by rw [ht1])]; exact Hs.dropI (Hs.refl _))
  by_cases c3 : kk = 3
  · subst c3
    repeat' (first | refine HL.pa ?_ (POp.nilCheck rfl) | apply HL.fold | apply HA.fold | apply HL.nil | apply HX.n_then | apply HC.seq | apply HC.region | refine HL.pa ?_ | refine HL.ga rfl ?_ | refine HL.na rfl ?_ | refine HL.nu rfl rfl ?_ | apply HC.block | apply HC.skip | apply HC.exit | apply HC.ret | apply HX.e_block | refine HX.e_other rfl ?_ | apply HX.e_then | apply HX.e_again | apply HX.n_block | apply HX.r_then | apply HX.r_block | apply HX.r_again | refine HC.cond_yes rfl ?_ | refine HC.cond_no rfl ?_ | refine HL.one (H1.ldb rfl memA rfl rfl ?_) | refine HC.cond rfl (fun hc => ?_) (fun hc => ?_) | refine HC.cond_b rfl (fun hc => ?_) (fun hc => ?_))
    refine HL.one (H1.call0 (u := .int .i64 (pickI h2 10)) (vs := [.int .i64 h2, .int .i64 10]) rfl rfl (fun w' _ => pick_fn h2 10 g2.1 g2.2 (by decide) w') ?_)
    repeat' (first | refine HL.pa ?_ (POp.nilCheck rfl) | apply HL.fold | apply HA.fold | apply HL.nil | apply HX.n_then | apply HC.seq | apply HC.region | refine HL.pa ?_ | refine HL.ga rfl ?_ | refine HL.na rfl ?_ | refine HL.nu rfl rfl ?_ | apply HC.block | apply HC.skip | apply HC.exit | apply HC.ret | apply HX.e_block | refine HX.e_other rfl ?_ | apply HX.e_then | apply HX.e_again | apply HX.n_block | apply HX.r_then | apply HX.r_block | apply HX.r_again | refine HC.cond_yes rfl ?_ | refine HC.cond_no rfl ?_ | refine HL.one (H1.ldb rfl memA rfl rfl ?_) | refine HC.cond rfl (fun hc => ?_) (fun hc => ?_) | refine HC.cond_b rfl (fun hc => ?_) (fun hc => ?_))
    refine HL.one (H1.stg rfl rfl (by intro _ h; cases h) (by intro _ h; cases h) rplA (by rw [tcells_len hz]; omega) ?_)
    obtain ⟨t1, ht1⟩ : ∃ t : Tr, t = ⟨pickI h2 10, (tr l q).to, (tr l q).src, (tr l q).start, (tr l q).stop⟩ := ⟨_, rfl⟩
    rw [tcells_set (k := 0) (t' := t1) hz hq2 (by decide) (fun _ => by rw [ht1]; rfl)]
    repeat' (first | refine HL.pa ?_ (POp.nilCheck rfl) | apply HL.fold | apply HA.fold | apply HL.nil | apply HX.n_then | apply HC.seq | apply HC.region | refine HL.pa ?_ | refine HL.ga rfl ?_ | refine HL.na rfl ?_ | refine HL.nu rfl rfl ?_ | apply HC.block | apply HC.skip | apply HC.exit | apply HC.ret | apply HX.e_block | refine HX.e_other rfl ?_ | apply HX.e_then | apply HX.e_again | apply HX.n_block | apply HX.r_then | apply HX.r_block | apply HX.r_again | refine HC.cond_yes rfl ?_ | refine HC.cond_no rfl ?_ | refine HL.one (H1.ldb rfl memA rfl rfl ?_) | refine HC.cond rfl (fun hc => ?_) (fun hc => ?_) | refine HC.cond_b rfl (fun hc => ?_) (fun hc => ?_))
    exact HX.cut (l.set q t1, l.length) (hB0.set (by rw [ht1]; exact hsq) (by rw [ht1]; exact hstq)) esA (by dsimp only; rw [srcAts_same hz hq2 (by rw [ht1])]; exact Hs.dropI (Hs.refl _))
  by_cases c4 : kk = 4
  · subst c4
    have hsb := hts _ (tr_mem hq2)
    repeat' (first | refine HL.pa ?_ (POp.nilCheck rfl) | apply HL.fold | apply HA.fold | apply HL.nil | apply HX.n_then | apply HC.seq | apply HC.region | refine HL.pa ?_ | refine HL.ga rfl ?_ | refine HL.na rfl ?_ | refine HL.nu rfl rfl ?_ | apply HC.block | apply HC.skip | apply HC.exit | apply HC.ret | apply HX.e_block | refine HX.e_other rfl ?_ | apply HX.e_then | apply HX.e_again | apply HX.n_block | apply HX.r_then | apply HX.r_block | apply HX.r_again | refine HC.cond_yes rfl ?_ | refine HC.cond_no rfl ?_ | refine HL.one (H1.ldb rfl memA rfl rfl ?_) | refine HC.cond rfl (fun hc => ?_) (fun hc => ?_) | refine HC.cond_b rfl (fun hc => ?_) (fun hc => ?_))
    refine HL.one (H1.ldg rfl memA (tcells_get hz hq2 (j := 2) rfl) rfl ?_)
    have hmS := srcAts_mem hz hq2
    have hrS := fun t' => srcAts_rpl (t' := t') hz hq2
    have hgS := tcells_get hz hq2 (j := 2) rfl
    have hsamS := fun t' => tcells_same (t' := t') hz hq2
    generalize zs.getD q (none, 0) = zq at *
    obtain ⟨az, cz⟩ := zq
    unfold hval
    dsimp only
    by_cases hs0 : (tr l q).src.length = 0
    · repeat' (first | refine HL.pa ?_ (POp.nilCheck rfl) | apply HL.fold | apply HA.fold | apply HL.nil | apply HX.n_then | apply HC.seq | apply HC.region | refine HL.pa ?_ | refine HL.ga rfl ?_ | refine HL.na rfl ?_ | refine HL.nu rfl rfl ?_ | apply HC.block | apply HC.skip | apply HC.exit | apply HC.ret | apply HX.e_block | refine HX.e_other rfl ?_ | apply HX.e_then | apply HX.e_again | apply HX.n_block | apply HX.r_then | apply HX.r_block | apply HX.r_again | refine HC.cond_yes rfl ?_ | refine HC.cond_no rfl ?_ | refine HL.one (H1.ldb rfl memA rfl rfl ?_) | refine HC.cond rfl (fun hc => ?_) (fun hc => ?_) | refine HC.cond_b rfl (fun hc => ?_) (fun hc => ?_))
      exact HX.cut (l, l.length) hB0 esA (Hs.dropI (Hs.refl _))
    refine HN.openg (e := 3) (sz := 1) (a := az) (c := cz) (n := (tr l q).src.length) (xs := ints (tr l q).src) (List.Mem.tail _ (List.Mem.tail _ hmS)) hs0 ?_
    rintro bz rfl
    have hp0 := pickI_lt h2 (show (0 : Int) < ((tr l q).src.length : Int) by omega)
    obtain ⟨p, hp1, hp2⟩ : ∃ p : Nat, pickI h2 ((tr l q).src.length : Int) = (p : Int) ∧ p < (tr l q).src.length := ⟨(pickI h2 ((tr l q).src.length : Int)).toNat, by omega, by omega⟩
    have hk9 := tdiv_abs (n := 9) (by decide) g2.1 g2.2
    obtain ⟨t4, ht4⟩ : ∃ t : Tr, t = ⟨(tr l q).frag, (tr l q).to, (tr l q).src.set p (pickI (h2.tdiv 9) 10), (tr l q).start, (tr l q).stop⟩ := ⟨_, rfl⟩
    have hr4 := hrS t4
    have hsm4 := hsamS t4 (fun z => by simp [tcell, hval, ht4])
    have e4 : srcA (t4, (some ⟨bz, 0, none⟩, cz)) = A.grow 3 1 (some ⟨bz, 0, none⟩) cz (tr l q).src.length ((ints (tr l q).src).set p (.int .i64 (pickI (h2.tdiv 9) 10))) := by
      unfold srcA; rw [ht4]; dsimp only; rw [List.length_set, ← ints_set]
    rw [e4] at hr4
    have hs4 : t4.src.length ≤ 1000000 := by rw [ht4]; dsimp only; rw [List.length_set]; exact hsq
    have hst4 : i64B t4.stop := by rw [ht4]; exact hstq
    repeat' (first | refine HL.pa ?_ (POp.nilCheck rfl) | apply HL.fold | apply HA.fold | apply HL.nil | apply HX.n_then | apply HC.seq | apply HC.region | refine HL.pa ?_ | refine HL.ga rfl ?_ | refine HL.na rfl ?_ | refine HL.nu rfl rfl ?_ | apply HC.block | apply HC.skip | apply HC.exit | apply HC.ret | apply HX.e_block | refine HX.e_other rfl ?_ | apply HX.e_then | apply HX.e_again | apply HX.n_block | apply HX.r_then | apply HX.r_block | apply HX.r_again | refine HC.cond_yes rfl ?_ | refine HC.cond_no rfl ?_ | refine HL.one (H1.ldb rfl memA rfl rfl ?_) | refine HC.cond rfl (fun hc => ?_) (fun hc => ?_) | refine HC.cond_b rfl (fun hc => ?_) (fun hc => ?_))
    refine HC.anyC ([(⟨bO, q * 5 + 2, none⟩, .slice (some ⟨bz, 0, none⟩) (tr l q).src.length cz), (⟨b3, 2, none⟩, .int .i64 h2)]) rfl ?_
    refine HB.pa 0 rfl ?_
    refine HB.pa 1 rfl ?_ (POp.nilCheck rfl)
    refine HB.pa 2 rfl ?_
    refine HB.ld 3 rfl rfl memD ?_
    refine HB.pa 4 rfl ?_
    refine HB.ld 5 rfl rfl memD ?_
    refine HB.pa 6 rfl ?_
    refine HB.pa 7 rfl ?_ (POp.nilCheck rfl)
    refine HB.pa 8 rfl ?_
    refine HB.ld 9 rfl rfl memD ?_
    refine HB.pa 10 rfl ?_
    refine HB.pa 12 rfl ?_
    refine HB.ld 13 rfl rfl memD ?_
    refine HB.pa (v := .int .i64 (h2.tdiv 9)) 14 rfl ?_ (POp.quoT rfl rfl g2.1 g2.2 (by decide))
    refine HB.all (by refine Keep.grow (List.Mem.tail _ (List.Mem.head _)) hgS (Keep.blk (List.Mem.head _) rfl Keep.nil)) [11] (by kernel_rfl) rfl ⟨⟨_, rfl, ?_⟩, trivial⟩
    refine HP.one ?_
    refine H1.call0 (u := .int .i64 (p : Int)) (vs := [.int .i64 h2, .int .i64 ((tr l q).src.length : Int)]) rfl rfl (fun w' _ => by rw [← hp1]; exact pick_fn h2 ((tr l q).src.length : Int) g2.1 g2.2 (by omega) w') ?_
    apply HB.fold
    refine HB.all (by refine Keep.grow (List.Mem.tail _ (List.Mem.head _)) hgS (Keep.blk (List.Mem.head _) rfl Keep.nil)) [15] (by kernel_rfl) rfl ⟨⟨_, rfl, ?_⟩, trivial⟩
    refine HP.one ?_
    refine H1.call0 (u := .int .i64 (pickI (h2.tdiv 9) 10)) (vs := [.int .i64 (h2.tdiv 9), .int .i64 10]) rfl rfl (fun w' _ => pick_fn (h2.tdiv 9) 10 hk9.1 hk9.2 (by decide) w') ?_
    apply HB.fold
    refine HB.pa 16 rfl ?_
    refine HB.all (by refine Keep.grow (List.Mem.tail _ (List.Mem.head _)) hgS (Keep.blk (List.Mem.head _) rfl Keep.nil)) [17] (by kernel_rfl) rfl ⟨⟨_, rfl, ?_⟩, trivial⟩
    refine HP.one ?_
    refine H1.stg (xs := ints (tr l q).src) rfl rfl (by intro _ h; cases h) (by intro _ h; cases h) (Rpl.there (Rpl.there hr4)) (by rw [ints_len]; exact hp2) ?_
    apply HB.fold
    refine HB.done (by refine Keep.grow (List.Mem.tail _ (List.Mem.head _)) hgS (Keep.blk (List.Mem.head _) rfl Keep.nil)) (by kernel_rfl) ?_
    repeat' (first | refine HL.pa ?_ (POp.nilCheck rfl) | apply HL.fold | apply HA.fold | apply HL.nil | apply HX.n_then | apply HC.seq | apply HC.region | refine HL.pa ?_ | refine HL.ga rfl ?_ | refine HL.na rfl ?_ | refine HL.nu rfl rfl ?_ | apply HC.block | apply HC.skip | apply HC.exit | apply HC.ret | apply HX.e_block | refine HX.e_other rfl ?_ | apply HX.e_then | apply HX.e_again | apply HX.n_block | apply HX.r_then | apply HX.r_block | apply HX.r_again | refine HC.cond_yes rfl ?_ | refine HC.cond_no rfl ?_ | refine HL.one (H1.ldb rfl memA rfl rfl ?_) | refine HC.cond rfl (fun hc => ?_) (fun hc => ?_) | refine HC.cond_b rfl (fun hc => ?_) (fun hc => ?_))
    exact HX.cut (l.set q t4, l.length) (hB0.set hs4 hst4) esA (by dsimp only; rw [← hsm4]; exact Hs.dropI (Hs.refl _))
  by_cases c5 : kk = 5
  · subst c5
    have hgS := tcells_get hz hq2 (j := 3) rfl
    obtain ⟨t5, ht5⟩ : ∃ t : Tr, t = ⟨(tr l q).frag, (tr l q).to, (tr l q).src, (tr l q).start, IntKind.i64.wrap ((tr l q).start + pickI h2 3)⟩ := ⟨_, rfl⟩
    repeat' (first | refine HL.pa ?_ (POp.nilCheck rfl) | apply HL.fold | apply HA.fold | apply HL.nil | apply HX.n_then | apply HC.seq | apply HC.region | refine HL.pa ?_ | refine HL.ga rfl ?_ | refine HL.na rfl ?_ | refine HL.nu rfl rfl ?_ | apply HC.block | apply HC.skip | apply HC.exit | apply HC.ret | apply HX.e_block | refine HX.e_other rfl ?_ | apply HX.e_then | apply HX.e_again | apply HX.n_block | apply HX.r_then | apply HX.r_block | apply HX.r_again | refine HC.cond_yes rfl ?_ | refine HC.cond_no rfl ?_ | refine HL.one (H1.ldb rfl memA rfl rfl ?_) | refine HC.cond rfl (fun hc => ?_) (fun hc => ?_) | refine HC.cond_b rfl (fun hc => ?_) (fun hc => ?_))
    refine HC.anyC ([(⟨bO, q * 5 + 3, none⟩, .int .i64 (tr l q).start), (⟨b3, 2, none⟩, .int .i64 h2)]) rfl ?_
    refine HB.pa 0 rfl ?_
    refine HB.pa 1 rfl ?_
    refine HB.pa 2 rfl ?_ (POp.nilCheck rfl)
    refine HB.pa 3 rfl ?_
    refine HB.ld 4 rfl rfl memD ?_
    refine HB.pa 5 rfl ?_
    refine HB.ld 6 rfl rfl memD ?_
    refine HB.all (by first | refine Keep.grow (List.Mem.tail _ (List.Mem.head _)) hgS (Keep.blk (List.Mem.head _) rfl Keep.nil) | refine Keep.grow (List.Mem.tail _ (List.Mem.head _)) (by rw [List.getElem?_set_ne (by omega)]; exact hgS) (Keep.blk (List.Mem.head _) rfl Keep.nil)) [7] (by kernel_rfl) rfl ⟨⟨_, rfl, ?_⟩, trivial⟩
    refine HP.one ?_
    refine H1.call0 (u := .int .i64 (pickI h2 3)) (vs := [.int .i64 h2, .int .i64 3]) rfl rfl (fun w' _ => pick_fn h2 3 g2.1 g2.2 (by decide) w') ?_
    apply HB.fold
    refine HB.pa (v := .int .i64 (IntKind.i64.wrap ((tr l q).start + pickI h2 3))) 8 rfl ?_ (POp.add' rfl rfl)
    refine HB.pa 9 rfl ?_ (POp.nilCheck rfl)
    refine HB.pa 10 rfl ?_
    refine HB.all (by first | refine Keep.grow (List.Mem.tail _ (List.Mem.head _)) hgS (Keep.blk (List.Mem.head _) rfl Keep.nil) | refine Keep.grow (List.Mem.tail _ (List.Mem.head _)) (by rw [List.getElem?_set_ne (by omega)]; exact hgS) (Keep.blk (List.Mem.head _) rfl Keep.nil)) [11] (by kernel_rfl) rfl ⟨⟨_, rfl, ?_⟩, trivial⟩
    refine HP.one ?_
    refine H1.stg rfl rfl (by intro _ h; cases h) (by intro _ h; cases h) rplA (by rw [tcells_len hz]; omega) ?_
    apply HB.fold
    refine HB.done (by first | refine Keep.grow (List.Mem.tail _ (List.Mem.head _)) hgS (Keep.blk (List.Mem.head _) rfl Keep.nil) | refine Keep.grow (List.Mem.tail _ (List.Mem.head _)) (by rw [List.getElem?_set_ne (by omega)]; exact hgS) (Keep.blk (List.Mem.head _) rfl Keep.nil)) (by kernel_rfl) ?_
    rw [tcells_set (k := 4) (t' := t5) hz hq2 (by decide) (fun _ => by rw [ht5]; rfl)]
    repeat' (first | refine HL.pa ?_ (POp.nilCheck rfl) | apply HL.fold | apply HA.fold | apply HL.nil | apply HX.n_then | apply HC.seq | apply HC.region | refine HL.pa ?_ | refine HL.ga rfl ?_ | refine HL.na rfl ?_ | refine HL.nu rfl rfl ?_ | apply HC.block | apply HC.skip | apply HC.exit | apply HC.ret | apply HX.e_block | refine HX.e_other rfl ?_ | apply HX.e_then | apply HX.e_again | apply HX.n_block | apply HX.r_then | apply HX.r_block | apply HX.r_again | refine HC.cond_yes rfl ?_ | refine HC.cond_no rfl ?_ | refine HL.one (H1.ldb rfl memA rfl rfl ?_) | refine HC.cond rfl (fun hc => ?_) (fun hc => ?_) | refine HC.cond_b rfl (fun hc => ?_) (fun hc => ?_))
    exact HX.cut (l.set q t5, l.length) (hB0.set (by rw [ht5]; exact hsq) (by rw [ht5]; exact wrap_i64B _)) esA (by dsimp only; rw [srcAts_same hz hq2 (by rw [ht5])]; exact Hs.dropI (Hs.refl _))
  · have hp : (0 : Int) ≤ (l.length : Int) - 1 := by omega
    repeat' (first | refine HL.pa ?_ (POp.nilCheck rfl) | apply HL.fold | apply HA.fold | apply HL.nil | apply HX.n_then | apply HC.seq | apply HC.region | refine HL.pa ?_ | refine HL.ga rfl ?_ | refine HL.na rfl ?_ | refine HL.nu rfl rfl ?_ | apply HC.block | apply HC.skip | apply HC.exit | apply HC.ret | apply HX.e_block | refine HX.e_other rfl ?_ | apply HX.e_then | apply HX.e_again | apply HX.n_block | apply HX.r_then | apply HX.r_block | apply HX.r_again | refine HC.cond_yes rfl ?_ | refine HC.cond_no rfl ?_ | refine HL.one (H1.ldb rfl memA rfl rfl ?_) | refine HC.cond rfl (fun hc => ?_) (fun hc => ?_) | refine HC.cond_b rfl (fun hc => ?_) (fun hc => ?_))
    exact HX.cut (l, ((l.length : Int) - 1).toNat) ⟨hz, rfl, by dsimp only; omega, hts, hst⟩ esA (Hs.dropI (Hs.refl _))
end Go.Sx

