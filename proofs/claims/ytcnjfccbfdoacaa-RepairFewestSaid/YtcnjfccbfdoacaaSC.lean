/- other of the law: transfers that may repair a situation. -/
import Derived.Test.YtcnjfccbfdoacaaSB
namespace Go.Sx
open Go Go.Proofs
def cutL (l : List Int) (i : Nat) : List Int := l.take i ++ l.drop (i + 1)
theorem cutL_len {l : List Int} {i : Nat} (h : i < l.length) : (cutL l i).length = l.length - 1 := by unfold cutL; rw [List.length_append, List.length_take, List.length_drop]; omega
theorem ints_cut (l : List Int) (i : Nat) : (ints l).take i ++ (ints l).drop (i + 1) = ints (cutL l i) := by simp [ints, cutL, List.map_take, List.map_drop]
section
variable {P : Program} {r : Option Nat} {N : Nat} {ds : List Deferred} {Q : Post} {E : Env} {w0 : World} {H : List Atom} {next : Act → World → Prop} {g : Option (Nat × Bool)}
variable {d : Nat} {t ty : TypeId} {pos : String} {af : Array Edge} {x y : Operand}
theorem H1.cutI {e : TypeId} {z : Value} {bb c c2 i : Nat} {a : Option Addr} {l : List Int} {H' : Option Addr → Nat → List Atom} [h : UTy P t (.slice e)] [hi : ITy P e z 1 bb]
    (hx : Env.ev E x = some (.slice a i i)) (hy : Env.ev E y = some (.slice (cutA a c (i + 1)) (l.length - (i + 1)) c2)) (hin : i < l.length) (hn : l.length ≤ 1000000) (hb : bb ≤ 1000) (hd : Nat.blt d N = true)
    (hr : ∀ a' c', Rpl (A.rd (.slice a l.length c) (ints l)) (A.rd (.slice a' (cutL l i).length c') (ints (cutL l i))) H (H' a' c'))
    (hk : ∀ a' c', HN N ds next ((d, .slice a' (cutL l i).length c') :: E) w0 (H' a' c')) :
    H1 P r N ds next ⟨some d, .call ⟨.builtin .append, #[x, y], #[t, t]⟩, ty, pos, af, g⟩ Q E w0 H := by
  refine H1.cutout (z := z) (bb := bb) (xs := ints l) hx hy (ints_len l) hin hn hb hd (H' := H') (fun a' c' => ?_) (fun a' c' => ?_)
  · rw [ints_cut, ← cutL_len hin]; exact hr a' c'
  · rw [← cutL_len hin]; exact hk a' c'
theorem HC.rdCap {co : Code} {a : Option Addr} {n c : Nat} {xs : List Value} (hm : A.rd (.slice a n c) xs ∈ H) (h : n ≤ c → HC P r N ds co Q E w0 H) : HC P r N ds co Q E w0 H := fun w hM => by
  obtain ⟨a', c', h1, h2, -⟩ := hM.rd hm
  cases h1
  exact h h2 w hM
theorem HC.rdAt {co : Code} {a : Option Addr} {n c : Nat} {xs : List Value} (hm : A.rd (.slice a n c) xs ∈ H) (hne : xs ≠ []) (h : ∀ b off, a = some ⟨b, off, none⟩ → HC P r N ds co Q E w0 H) : HC P r N ds co Q E w0 H := fun w hM => by
  obtain ⟨b, off, c', h1, -⟩ := (hM.rd hm).at hne
  injection h1 with h1 h2 h3
  exact h b off h1 w hM
end
theorem Hs.end1 {x g : Atom} {S : List Atom} : Hs (x :: g :: S) (S ++ [g]) :=
  ⟨[x], (List.perm_append_comm (l₁ := [x]) (l₂ := g :: S)).trans (List.Perm.append_right _ (List.perm_append_comm (l₁ := [g]) (l₂ := S)))⟩
theorem Hs.drop {a : Atom} {H H' : List Atom} (h : Hs H H') : Hs (a :: H) H' := by
  obtain ⟨K, p⟩ := h
  exact ⟨a :: K, (p.cons a).trans List.perm_middle.symm⟩
theorem Hs.end0 {g : Atom} {S : List Atom} : Hs (g :: S) (S ++ [g]) := ⟨[], by rw [List.append_nil]; exact List.perm_append_comm (l₁ := [g]) (l₂ := S)⟩
structure OS where
  day : Nat
  at_ : Nat
  m : List Tr
  zs : List (Option Addr × Nat)
  aO : Option Addr
  cO : Nat
  left : List Int
  al : Option Addr
  cl : Nat
  to : List Int
  aT : Option Addr
  cT : Nat
structure OI (L Y : Nat) (z : OS) : Prop where
  zl : z.zs.length = z.m.length
  tl : z.to.length = z.left.length
  n : z.m.length + z.left.length = L
  src : ∀ t ∈ z.m, t.src.length ≤ 9
  at_ : z.at_ ≤ Y
theorem Mm.packT {w0 w : World} {a : Option Addr} {c : Nat} {m : List Tr} {zs : List (Option Addr × Nat)} (h : Mm w0 (A.grow 52 5 a c m.length (tcells m zs) :: srcAts m zs) w) : Mm w0 [A.ts a c m zs] w := h.pack1
attribute [local irreducible] WC WL WX POp Then Again Fn NX W1 WA WO QL RP RA Yld LoopAt HC HL HX HN H1 HA HO HQ HB HP A.blk A.grow A.rd A.obj A.mp AgainH CutH
attribute [local irreducible] A.all A.ts cutL cutA
set_option maxHeartbeats 4000000 in
theorem other_fn (c : CaseP) (zh zl zt : Option Addr × Nat) (v : Value) (y : List Int) (hyl : y.length ≤ 1000000) (hyb : ∀ x ∈ y, i64B x) (hh9 : c.holders.length ≤ 9) (hl9 : c.lost.length ≤ 9) (htl : c.to.length = c.lost.length) (hk : 1 ≤ c.k ∧ c.k ≤ 9)
    (w : World) (hH : Rd w (.slice zh.1 c.holders.length zh.2) (ints c.holders)) (hL : Rd w (.slice zl.1 c.lost.length zl.2) (ints c.lost)) (hT : Rd w (.slice zt.1 c.to.length zt.2) (ints c.to)) (hV : Rd w v (ints y)) :
    Fn Try.prog 24 #[.agg (caseV c zh zl zt).toArray, v] w fun u w' => ∃ z : List Tr × List (Option Addr × Nat) × Option Addr × Nat, (z.2.1.length = z.1.length ∧ z.1.length ≤ 9 ∧ ∀ t ∈ z.1, t.src.length ≤ 9) ∧ u = .slice z.2.2.1 z.1.length z.2.2.2 ∧ Mm w [A.ts z.2.2.1 z.2.2.2 z.1 z.2.1] w' := by
  obtain ⟨aV, cV, rfl, -⟩ := hV.isInts
  refine enterH (l := [_, _]) rfl Try.ntmps24 rfl ?_
  repeat' (first | apply HL.fold | apply HA.fold | apply HL.nil | apply HX.n_then | apply HC.seq | apply HC.region | refine HL.pa ?_ | refine HL.ga rfl ?_ | refine HL.na rfl ?_ | refine HL.nu rfl rfl ?_ | apply HC.block | apply HC.skip | apply HC.exit | apply HC.ret | apply HX.e_block | refine HX.e_other rfl ?_ | apply HX.e_then | apply HX.e_again | apply HX.n_block | apply HX.r_then | apply HX.r_block | apply HX.r_again | refine HC.cond_yes rfl ?_ | refine HC.cond_no rfl ?_ | refine HL.one (H1.ldb rfl (by repeat (first | with_reducible exact mem_hd | with_reducible apply mem_tl)) rfl rfl ?_) | refine HC.cond rfl (fun hc => ?_) (fun hc => ?_) | refine HC.cond_b rfl (fun hc => ?_) (fun hc => ?_))
  refine HL.one (H1.boxAgg (cs := caseV c zh zl zt) rfl rfl (fun b2 => ?_))
  repeat' (first | apply HL.fold | apply HA.fold | apply HL.nil | apply HX.n_then | apply HC.seq | apply HC.region | refine HL.pa ?_ | refine HL.ga rfl ?_ | refine HL.na rfl ?_ | refine HL.nu rfl rfl ?_ | apply HC.block | apply HC.skip | apply HC.exit | apply HC.ret | apply HX.e_block | refine HX.e_other rfl ?_ | apply HX.e_then | apply HX.e_again | apply HX.n_block | apply HX.r_then | apply HX.r_block | apply HX.r_again | refine HC.cond_yes rfl ?_ | refine HC.cond_no rfl ?_ | refine HL.one (H1.ldb rfl (by repeat (first | with_reducible exact mem_hd | with_reducible apply mem_tl)) rfl rfl ?_) | refine HC.cond rfl (fun hc => ?_) (fun hc => ?_) | refine HC.cond_b rfl (fun hc => ?_) (fun hc => ?_))
  refine HL.one (H1.lit0 rfl (fun bl => ?_))
  repeat' (first | apply HL.fold | apply HA.fold | apply HL.nil | apply HX.n_then | apply HC.seq | apply HC.region | refine HL.pa ?_ | refine HL.ga rfl ?_ | refine HL.na rfl ?_ | refine HL.nu rfl rfl ?_ | apply HC.block | apply HC.skip | apply HC.exit | apply HC.ret | apply HX.e_block | refine HX.e_other rfl ?_ | apply HX.e_then | apply HX.e_again | apply HX.n_block | apply HX.r_then | apply HX.r_block | apply HX.r_again | refine HC.cond_yes rfl ?_ | refine HC.cond_no rfl ?_ | refine HL.one (H1.ldb rfl (by repeat (first | with_reducible exact mem_hd | with_reducible apply mem_tl)) rfl rfl ?_) | refine HC.cond rfl (fun hc => ?_) (fun hc => ?_) | refine HC.cond_b rfl (fun hc => ?_) (fun hc => ?_))
  refine HL.one (H1.appR (n := 0) (vs := ints c.lost) rfl rfl (by rw [ints_len]; rfl) (fun _ _ => by repeat (first | exact Rpl.here | apply Rpl.there)) (fun w' hM => by rw [ints_len]; exact hM.rd0 hL) (ints_one _) (by rw [ints_len]; omega) (by decide) rfl (.inl rfl) (fun a3 c3 _ => ?_))
  rw [ints_len]
  repeat' (first | apply HL.fold | apply HA.fold | apply HL.nil | apply HX.n_then | apply HC.seq | apply HC.region | refine HL.pa ?_ | refine HL.ga rfl ?_ | refine HL.na rfl ?_ | refine HL.nu rfl rfl ?_ | apply HC.block | apply HC.skip | apply HC.exit | apply HC.ret | apply HX.e_block | refine HX.e_other rfl ?_ | apply HX.e_then | apply HX.e_again | apply HX.n_block | apply HX.r_then | apply HX.r_block | apply HX.r_again | refine HC.cond_yes rfl ?_ | refine HC.cond_no rfl ?_ | refine HL.one (H1.ldb rfl (by repeat (first | with_reducible exact mem_hd | with_reducible apply mem_tl)) rfl rfl ?_) | refine HC.cond rfl (fun hc => ?_) (fun hc => ?_) | refine HC.cond_b rfl (fun hc => ?_) (fun hc => ?_))
  refine HL.one (H1.lit0 rfl (fun bt => ?_))
  repeat' (first | apply HL.fold | apply HA.fold | apply HL.nil | apply HX.n_then | apply HC.seq | apply HC.region | refine HL.pa ?_ | refine HL.ga rfl ?_ | refine HL.na rfl ?_ | refine HL.nu rfl rfl ?_ | apply HC.block | apply HC.skip | apply HC.exit | apply HC.ret | apply HX.e_block | refine HX.e_other rfl ?_ | apply HX.e_then | apply HX.e_again | apply HX.n_block | apply HX.r_then | apply HX.r_block | apply HX.r_again | refine HC.cond_yes rfl ?_ | refine HC.cond_no rfl ?_ | refine HL.one (H1.ldb rfl (by repeat (first | with_reducible exact mem_hd | with_reducible apply mem_tl)) rfl rfl ?_) | refine HC.cond rfl (fun hc => ?_) (fun hc => ?_) | refine HC.cond_b rfl (fun hc => ?_) (fun hc => ?_))
  refine HL.one (H1.appR (n := 0) (vs := ints c.to) rfl rfl (by rw [ints_len]; rfl) (fun _ _ => by repeat (first | exact Rpl.here | apply Rpl.there)) (fun w' hM => by rw [ints_len]; exact hM.rd0 hT) (ints_one _) (by rw [ints_len]; omega) (by decide) rfl (.inl rfl) (fun a4 c4 _ => ?_))
  rw [ints_len]
  simp only [Nat.zero_add, List.nil_append]
  repeat' (first | apply HL.fold | apply HA.fold | apply HL.nil | apply HX.n_then | apply HC.seq | apply HC.region | refine HL.pa ?_ | refine HL.ga rfl ?_ | refine HL.na rfl ?_ | refine HL.nu rfl rfl ?_ | apply HC.skip | apply HC.exit | apply HC.ret | apply HX.e_block | refine HX.e_other rfl ?_ | apply HX.e_then | apply HX.e_again | apply HX.n_block | apply HX.r_then | apply HX.r_block | apply HX.r_again | refine HC.cond_yes rfl ?_ | refine HC.cond_no rfl ?_ | refine HL.one (H1.ldb rfl (by repeat (first | with_reducible exact mem_hd | with_reducible apply mem_tl)) rfl rfl ?_) | refine HC.cond rfl (fun hc => ?_) (fun hc => ?_) | refine HC.cond_b rfl (fun hc => ?_) (fun hc => ?_))
  refine HC.toRd (a := a4) (n := c.to.length) (c := c4) (xs := ints c.to) (by repeat (first | exact Rpl.here | apply Rpl.there)) ?_
  refine HC.toRd (a := a3) (n := c.lost.length) (c := c3) (xs := ints c.lost) (by repeat (first | exact Rpl.here | apply Rpl.there)) ?_
  refine HC.grow0 52 5 ?_
  refine HC.block ?_
  refine HC.loop (α := OS) (fun z => [(1, .slice aV y.length cV), (2, .pointer (some ⟨b2, 0, none⟩)), (5, .slice z.aO z.m.length z.cO), (6, .slice z.al z.left.length z.cl), (7, .slice z.aT z.to.length z.cT), (8, .int .i64 (z.at_ : Int)), (9, .int .i64 (z.day : Int))])
    (fun z => A.blk b2 (caseV c zh zl zt) 28 :: A.rd (.slice z.al z.left.length z.cl) (ints z.left) :: A.rd (.slice z.aT z.to.length z.cT) (ints z.to) :: A.grow 52 5 z.aO z.cO z.m.length (tcells z.m z.zs) :: srcAts z.m z.zs)
    (fun z => OI c.lost.length y.length z ∧ z.day ≤ 12) (fun z => 12 - z.day) ⟨0, 0, [], [], none, 0, c.lost, a3, c3, c.to, a4, c4⟩ ⟨⟨rfl, htl, Nat.zero_add _, (fun t ht => absurd ht (List.not_mem_nil)), Nat.zero_le _⟩, Nat.zero_le _⟩ (by repeat (first | exact trivial | refine ⟨rfl, ?_⟩)) (Hs.cons (Pick.there (Pick.there (Pick.there Pick.here))) (Hs.cons (Pick.there (Pick.there Pick.here)) (Hs.cons (Pick.there Pick.here) (Hs.refl _)))) ?_
  rintro ⟨day, at_, m, zs, aO, cO, left, al, cl, to, aT, cT⟩ ⟨⟨h1, h2, h3, h4, h5⟩, hd⟩
  dsimp only at h1 h2 h3 h4 h5 hd ⊢
  have hal : (afterS c.holders c.lost m (day : Int)).length = c.holders.length := by simp [afterS]
  by_cases hlt : 0 < left.length
  rotate_left
  · repeat' (first | apply HL.fold | apply HA.fold | apply HL.nil | apply HX.n_then | apply HC.seq | apply HC.region | refine HL.pa ?_ | refine HL.ga rfl ?_ | refine HL.na rfl ?_ | refine HL.nu rfl rfl ?_ | apply HC.block | apply HC.skip | apply HC.exit | apply HC.ret | apply HX.e_block | refine HX.e_other rfl ?_ | apply HX.e_then | apply HX.e_again | apply HX.n_block | apply HX.r_then | apply HX.r_block | apply HX.r_again | refine HC.cond_yes rfl ?_ | refine HC.cond_no rfl ?_ | refine HL.one (H1.ldb rfl (by repeat (first | with_reducible exact mem_hd | with_reducible apply mem_tl)) rfl rfl ?_) | refine HC.cond rfl (fun hc => ?_) (fun hc => ?_) | refine HC.cond_b rfl (fun hc => ?_) (fun hc => ?_))
    exact HX.ret1 rfl rfl fun w' hM => ⟨(m, zs, aO, cO), ⟨h1, by dsimp only; omega, h4⟩, rfl, hM.tail.tail.tail.packT⟩
  by_cases hd12 : day < 12
  rotate_left
  · repeat' (first | apply HL.fold | apply HA.fold | apply HL.nil | apply HX.n_then | apply HC.seq | apply HC.region | refine HL.pa ?_ | refine HL.ga rfl ?_ | refine HL.na rfl ?_ | refine HL.nu rfl rfl ?_ | apply HC.block | apply HC.skip | apply HC.exit | apply HC.ret | apply HX.e_block | refine HX.e_other rfl ?_ | apply HX.e_then | apply HX.e_again | apply HX.n_block | apply HX.r_then | apply HX.r_block | apply HX.r_again | refine HC.cond_yes rfl ?_ | refine HC.cond_no rfl ?_ | refine HL.one (H1.ldb rfl (by repeat (first | with_reducible exact mem_hd | with_reducible apply mem_tl)) rfl rfl ?_) | refine HC.cond rfl (fun hc => ?_) (fun hc => ?_) | refine HC.cond_b rfl (fun hc => ?_) (fun hc => ?_))
    exact HX.ret1 rfl rfl fun w' hM => ⟨(m, zs, aO, cO), ⟨h1, by dsimp only; omega, h4⟩, rfl, hM.tail.tail.tail.packT⟩
  simp only [caseV]
  repeat' (first | apply HL.fold | apply HA.fold | apply HL.nil | apply HX.n_then | apply HC.seq | apply HC.region | refine HL.pa ?_ | refine HL.ga rfl ?_ | refine HL.na rfl ?_ | refine HL.nu rfl rfl ?_ | apply HC.block | apply HC.skip | apply HC.exit | apply HC.ret | apply HX.e_block | refine HX.e_other rfl ?_ | apply HX.e_then | apply HX.e_again | apply HX.n_block | apply HX.r_then | apply HX.r_block | apply HX.r_again | refine HC.cond_yes rfl ?_ | refine HC.cond_no rfl ?_ | refine HL.one (H1.ldb rfl (by repeat (first | with_reducible exact mem_hd | with_reducible apply mem_tl)) rfl rfl ?_) | refine HC.cond rfl (fun hc => ?_) (fun hc => ?_) | refine HC.cond_b rfl (fun hc => ?_) (fun hc => ?_))
  refine HL.one (H1.callz1 (An := fun z : Option Addr × Nat => A.grow 3 1 z.1 z.2 c.holders.length (ints (afterS c.holders c.lost m (day : Int)))) (vs := [.slice zh.1 c.holders.length zh.2, .slice zl.1 c.lost.length zl.2, .slice aO m.length cO, .int .i64 (day : Int)]) rfl rfl (fun w' hM => by
    have := rafter_fn (.slice zh.1 c.holders.length zh.2) (.slice zl.1 c.lost.length zl.2) (.slice aO m.length cO) c.holders c.lost m (day : Int) (by omega) (by omega) (by omega) w' (hM.rd0 hH) (hM.rd0 hL) (hM.tl h1 (by first | ((repeat (first | with_reducible exact mem_hd | with_reducible apply mem_tl)); done) | (repeat (first | exact List.Mem.head _ | apply List.Mem.tail))) (fun x hx => by repeat (first | exact hx | apply List.Mem.tail)))
    rw [hal] at this
    exact this) ?_)
  rintro ⟨aA, cA⟩ -
  dsimp only
  generalize afterS c.holders c.lost m (day : Int) = av at *
  repeat' (first | apply HL.fold | apply HA.fold | apply HL.nil | apply HX.n_then | apply HC.seq | apply HC.region | refine HL.pa ?_ | refine HL.ga rfl ?_ | refine HL.na rfl ?_ | refine HL.nu rfl rfl ?_ | apply HC.skip | apply HC.exit | apply HC.ret | apply HX.e_block | refine HX.e_other rfl ?_ | apply HX.e_then | apply HX.e_again | apply HX.n_block | apply HX.r_then | apply HX.r_block | apply HX.r_again | refine HC.cond_yes rfl ?_ | refine HC.cond_no rfl ?_ | refine HL.one (H1.ldb rfl (by repeat (first | with_reducible exact mem_hd | with_reducible apply mem_tl)) rfl rfl ?_) | refine HC.cond rfl (fun hc => ?_) (fun hc => ?_) | refine HC.cond_b rfl (fun hc => ?_) (fun hc => ?_))
  refine HC.grow0 3 1 ?_
  refine HC.block ?_
  refine HC.loop (α := Nat × List Int × Option Addr × Nat) (fun z => [(1, .slice aV y.length cV), (2, .pointer (some ⟨b2, 0, none⟩)), (5, .slice aO m.length cO), (6, .slice al left.length cl), (7, .slice aT to.length cT), (8, .int .i64 (at_ : Int)), (9, .int .i64 (day : Int)), (10, .slice z.2.2.1 z.2.1.length z.2.2.2), (11, .slice aA c.holders.length cA), (12, .int .i64 (z.1 : Int))])
    (fun z => A.grow 3 1 z.2.2.1 z.2.2.2 z.2.1.length (ints z.2.1) :: A.grow 3 1 aA cA c.holders.length (ints av) :: A.blk b2 [.slice zh.1 c.holders.length zh.2, .slice zl.1 c.lost.length zl.2, .slice zt.1 c.to.length zt.2, .int .i64 c.width, .int .i64 c.k, .int .i64 c.deadline] 28 :: A.rd (.slice al left.length cl) (ints left) :: A.rd (.slice aT to.length cT) (ints to) :: A.grow 52 5 aO cO m.length (tcells m zs) :: srcAts m zs)
    (fun z => z.1 ≤ 9 ∧ z.2.1.length ≤ 9 * z.1 ∧ ∀ x ∈ z.2.1, 0 ≤ x ∧ x ≤ 8) (fun z => 9 - z.1) (0, [], none, 0) ⟨Nat.zero_le _, Nat.zero_le _, fun x hx => absurd hx List.not_mem_nil⟩ (by repeat (first | exact trivial | refine ⟨rfl, ?_⟩)) (Hs.refl _) ?_
  rintro ⟨i, has, ah, ch⟩ ⟨hi, hhl, hhb⟩
  dsimp only at hi hhl hhb ⊢
  by_cases hi9 : i < 9
  · repeat' (first | apply HL.fold | apply HA.fold | apply HL.nil | apply HX.n_then | apply HC.seq | apply HC.region | refine HL.pa ?_ | refine HL.ga rfl ?_ | refine HL.na rfl ?_ | refine HL.nu rfl rfl ?_ | apply HC.block | apply HC.skip | apply HC.exit | apply HC.ret | apply HX.e_block | refine HX.e_other rfl ?_ | apply HX.e_then | apply HX.e_again | apply HX.n_block | apply HX.r_then | apply HX.r_block | apply HX.r_again | refine HC.cond_yes rfl ?_ | refine HC.cond_no rfl ?_ | refine HL.one (H1.ldb rfl (by repeat (first | with_reducible exact mem_hd | with_reducible apply mem_tl)) rfl rfl ?_) | refine HC.cond rfl (fun hc => ?_) (fun hc => ?_) | refine HC.cond_b rfl (fun hc => ?_) (fun hc => ?_))
    refine HC.loop (α := Nat × List Int × Option Addr × Nat) (fun z => [(1, .slice aV y.length cV), (2, .pointer (some ⟨b2, 0, none⟩)), (5, .slice aO m.length cO), (6, .slice al left.length cl), (7, .slice aT to.length cT), (8, .int .i64 (at_ : Int)), (9, .int .i64 (day : Int)), (10, .slice z.2.2.1 z.2.1.length z.2.2.2), (11, .slice aA c.holders.length cA), (12, .int .i64 (i : Int)), (13, .int .i64 (z.1 : Int))])
      (fun z => A.grow 3 1 z.2.2.1 z.2.2.2 z.2.1.length (ints z.2.1) :: A.grow 3 1 aA cA c.holders.length (ints av) :: A.blk b2 [.slice zh.1 c.holders.length zh.2, .slice zl.1 c.lost.length zl.2, .slice zt.1 c.to.length zt.2, .int .i64 c.width, .int .i64 c.k, .int .i64 c.deadline] 28 :: A.rd (.slice al left.length cl) (ints left) :: A.rd (.slice aT to.length cT) (ints to) :: A.grow 52 5 aO cO m.length (tcells m zs) :: srcAts m zs)
      (fun z => z.1 ≤ c.holders.length ∧ z.2.1.length ≤ 9 * i + z.1 ∧ ∀ x ∈ z.2.1, 0 ≤ x ∧ x ≤ 8) (fun z => c.holders.length - z.1) (0, has, ah, ch) ⟨Nat.zero_le _, hhl, hhb⟩ (by repeat (first | exact trivial | refine ⟨rfl, ?_⟩)) (Hs.refl _) ?_
    clear hhl hhb has ah ch
    rintro ⟨f, has, ah, ch⟩ ⟨hf, hhl, hhb⟩
    dsimp only at hf hhl hhb ⊢
    by_cases hfl : f < c.holders.length
    rotate_left
    · repeat' (first | apply HL.fold | apply HA.fold | apply HL.nil | apply HX.n_then | apply HC.seq | apply HC.region | refine HL.pa ?_ | refine HL.ga rfl ?_ | refine HL.na rfl ?_ | refine HL.nu rfl rfl ?_ | apply HC.block | apply HC.skip | apply HC.exit | apply HC.ret | apply HX.e_block | refine HX.e_other rfl ?_ | apply HX.e_then | apply HX.e_again | apply HX.n_block | apply HX.r_then | apply HX.r_block | apply HX.r_again | refine HC.cond_yes rfl ?_ | refine HC.cond_no rfl ?_ | refine HL.one (H1.ldb rfl (by repeat (first | with_reducible exact mem_hd | with_reducible apply mem_tl)) rfl rfl ?_) | refine HC.cond rfl (fun hc => ?_) (fun hc => ?_) | refine HC.cond_b rfl (fun hc => ?_) (fun hc => ?_))
      exact HX.again (i + 1, has, ah, ch) ⟨by show i + 1 ≤ 9; omega, by show has.length ≤ 9 * (i + 1); omega, hhb⟩ (by show 9 - (i + 1) < 9 - i; omega) (by repeat (first | exact trivial | refine ⟨rfl, ?_⟩)) (Hs.refl _)
    refine HC.openg (e := 3) (a := aA) (xs := ints av) (by first | ((repeat (first | with_reducible exact mem_hd | with_reducible apply mem_tl)); done) | (repeat (first | exact List.Mem.head _ | apply List.Mem.tail))) (by omega) ?_
    rintro bA rfl
    have hga := ints_get (show f < av.length by omega)
    by_cases hfi : at' av f = (i : Int)
    · repeat' (first | apply HL.fold | apply HA.fold | apply HL.nil | apply HX.n_then | apply HC.seq | apply HC.region | refine HL.pa ?_ | refine HL.ga rfl ?_ | refine HL.na rfl ?_ | refine HL.nu rfl rfl ?_ | apply HC.block | apply HC.skip | apply HC.exit | apply HC.ret | apply HX.e_block | refine HX.e_other rfl ?_ | apply HX.e_then | apply HX.e_again | apply HX.n_block | apply HX.r_then | apply HX.r_block | apply HX.r_again | refine HC.cond_yes rfl ?_ | refine HC.cond_no rfl ?_ | refine HL.one (H1.ldb rfl (by repeat (first | with_reducible exact mem_hd | with_reducible apply mem_tl)) rfl rfl ?_) | refine HC.cond rfl (fun hc => ?_) (fun hc => ?_) | refine HC.cond_b rfl (fun hc => ?_) (fun hc => ?_))
      refine HL.one (H1.ldg rfl (by first | ((repeat (first | with_reducible exact mem_hd | with_reducible apply mem_tl)); done) | (repeat (first | exact List.Mem.head _ | apply List.Mem.tail))) hga rfl ?_)
      repeat' (first | apply HL.fold | apply HA.fold | apply HL.nil | apply HX.n_then | apply HC.seq | apply HC.region | refine HL.pa ?_ | refine HL.ga rfl ?_ | refine HL.na rfl ?_ | refine HL.nu rfl rfl ?_ | apply HC.block | apply HC.skip | apply HC.exit | apply HC.ret | apply HX.e_block | refine HX.e_other rfl ?_ | apply HX.e_then | apply HX.e_again | apply HX.n_block | apply HX.r_then | apply HX.r_block | apply HX.r_again | refine HC.cond_yes rfl ?_ | refine HC.cond_no rfl ?_ | refine HL.one (H1.ldb rfl (by repeat (first | with_reducible exact mem_hd | with_reducible apply mem_tl)) rfl rfl ?_) | refine HC.cond rfl (fun hc => ?_) (fun hc => ?_) | refine HC.cond_b rfl (fun hc => ?_) (fun hc => ?_))
      refine HL.one (H1.lit (cs := [.int .i64 (i : Int)]) rfl rfl rfl rfl rfl rfl (fun b3 => ?_))
      repeat' (first | apply HL.fold | apply HA.fold | apply HL.nil | apply HX.n_then | apply HC.seq | apply HC.region | refine HL.pa ?_ | refine HL.ga rfl ?_ | refine HL.na rfl ?_ | refine HL.nu rfl rfl ?_ | apply HC.block | apply HC.skip | apply HC.exit | apply HC.ret | apply HX.e_block | refine HX.e_other rfl ?_ | apply HX.e_then | apply HX.e_again | apply HX.n_block | apply HX.r_then | apply HX.r_block | apply HX.r_again | refine HC.cond_yes rfl ?_ | refine HC.cond_no rfl ?_ | refine HL.one (H1.ldb rfl (by repeat (first | with_reducible exact mem_hd | with_reducible apply mem_tl)) rfl rfl ?_) | refine HC.cond rfl (fun hc => ?_) (fun hc => ?_) | refine HC.cond_b rfl (fun hc => ?_) (fun hc => ?_))
      refine HL.one (H1.app1 (u := .int .i64 (i : Int)) rfl rfl (fun _ _ => by repeat (first | exact Rpl.here | apply Rpl.there)) (by repeat (first | exact mem_hd | apply mem_tl)) rfl rfl (by omega) rfl rfl (fun a6 c6 => ?_))
      repeat' (first | apply HL.fold | apply HA.fold | apply HL.nil | apply HX.n_then | apply HC.seq | apply HC.region | refine HL.pa ?_ | refine HL.ga rfl ?_ | refine HL.na rfl ?_ | refine HL.nu rfl rfl ?_ | apply HC.block | apply HC.skip | apply HC.exit | apply HC.ret | apply HX.e_block | refine HX.e_other rfl ?_ | apply HX.e_then | apply HX.e_again | apply HX.n_block | apply HX.r_then | apply HX.r_block | apply HX.r_again | refine HC.cond_yes rfl ?_ | refine HC.cond_no rfl ?_ | refine HL.one (H1.ldb rfl (by repeat (first | with_reducible exact mem_hd | with_reducible apply mem_tl)) rfl rfl ?_) | refine HC.cond rfl (fun hc => ?_) (fun hc => ?_) | refine HC.cond_b rfl (fun hc => ?_) (fun hc => ?_))
      refine HX.again (f + 1, has ++ [(i : Int)], some ⟨a6, 0, none⟩, c6) ⟨by show f + 1 ≤ _; omega, by show (has ++ [(i : Int)]).length ≤ 9 * i + (f + 1); rw [List.length_append]; simp; omega, fun x hx => ?_⟩ (by show c.holders.length - (f + 1) < c.holders.length - f; omega) (by dsimp only; rw [List.length_append]; repeat (first | exact trivial | refine ⟨rfl, ?_⟩)) (by dsimp only; rw [List.length_append, ints_app]; exact Hs.cons (Pick.there Pick.here) (Hs.cons (Pick.there Pick.here) (Hs.cons (Pick.there Pick.here) Hs.skip)))
      rcases List.mem_append.1 hx with hx | hx
      · exact hhb x hx
      · rw [List.mem_singleton] at hx
        omega
    · repeat' (first | apply HL.fold | apply HA.fold | apply HL.nil | apply HX.n_then | apply HC.seq | apply HC.region | refine HL.pa ?_ | refine HL.ga rfl ?_ | refine HL.na rfl ?_ | refine HL.nu rfl rfl ?_ | apply HC.block | apply HC.skip | apply HC.exit | apply HC.ret | apply HX.e_block | refine HX.e_other rfl ?_ | apply HX.e_then | apply HX.e_again | apply HX.n_block | apply HX.r_then | apply HX.r_block | apply HX.r_again | refine HC.cond_yes rfl ?_ | refine HC.cond_no rfl ?_ | refine HL.one (H1.ldb rfl (by repeat (first | with_reducible exact mem_hd | with_reducible apply mem_tl)) rfl rfl ?_) | refine HC.cond rfl (fun hc => ?_) (fun hc => ?_) | refine HC.cond_b rfl (fun hc => ?_) (fun hc => ?_))
      refine HL.one (H1.ldg rfl (by first | ((repeat (first | with_reducible exact mem_hd | with_reducible apply mem_tl)); done) | (repeat (first | exact List.Mem.head _ | apply List.Mem.tail))) hga rfl ?_)
      repeat' (first | apply HL.fold | apply HA.fold | apply HL.nil | apply HX.n_then | apply HC.seq | apply HC.region | refine HL.pa ?_ | refine HL.ga rfl ?_ | refine HL.na rfl ?_ | refine HL.nu rfl rfl ?_ | apply HC.block | apply HC.skip | apply HC.exit | apply HC.ret | apply HX.e_block | refine HX.e_other rfl ?_ | apply HX.e_then | apply HX.e_again | apply HX.n_block | apply HX.r_then | apply HX.r_block | apply HX.r_again | refine HC.cond_yes rfl ?_ | refine HC.cond_no rfl ?_ | refine HL.one (H1.ldb rfl (by repeat (first | with_reducible exact mem_hd | with_reducible apply mem_tl)) rfl rfl ?_) | refine HC.cond rfl (fun hc => ?_) (fun hc => ?_) | refine HC.cond_b rfl (fun hc => ?_) (fun hc => ?_))
      exact HX.again (f + 1, has, ah, ch) ⟨by show f + 1 ≤ _; omega, by show has.length ≤ 9 * i + (f + 1); omega, hhb⟩ (by show c.holders.length - (f + 1) < c.holders.length - f; omega) (by repeat (first | exact trivial | refine ⟨rfl, ?_⟩)) (Hs.refl _)
  · by_cases hhk : (has.length : Int) < c.k
    · repeat' (first | apply HL.fold | apply HA.fold | apply HL.nil | apply HX.n_then | apply HC.seq | apply HC.region | refine HL.pa ?_ | refine HL.ga rfl ?_ | refine HL.na rfl ?_ | refine HL.nu rfl rfl ?_ | apply HC.block | apply HC.skip | apply HC.exit | apply HC.ret | apply HX.e_block | refine HX.e_other rfl ?_ | apply HX.e_then | apply HX.e_again | apply HX.n_block | apply HX.r_then | apply HX.r_block | apply HX.r_again | refine HC.cond_yes rfl ?_ | refine HC.cond_no rfl ?_ | refine HL.one (H1.ldb rfl (by repeat (first | with_reducible exact mem_hd | with_reducible apply mem_tl)) rfl rfl ?_) | refine HC.cond rfl (fun hc => ?_) (fun hc => ?_) | refine HC.cond_b rfl (fun hc => ?_) (fun hc => ?_))
      exact HX.ret1 rfl rfl fun w' hM => ⟨(m, zs, aO, cO), ⟨h1, by dsimp only; omega, h4⟩, rfl, hM.tail.tail.tail.tail.tail.packT⟩
    have hh0 : 0 < has.length := by omega
    repeat' (first | apply HL.fold | apply HA.fold | apply HL.nil | apply HX.n_then | apply HC.seq | apply HC.region | refine HL.pa ?_ | refine HL.ga rfl ?_ | refine HL.na rfl ?_ | refine HL.nu rfl rfl ?_ | apply HC.block | apply HC.skip | apply HC.exit | apply HC.ret | apply HX.e_block | refine HX.e_other rfl ?_ | apply HX.e_then | apply HX.e_again | apply HX.n_block | apply HX.r_then | apply HX.r_block | apply HX.r_again | refine HC.cond_yes rfl ?_ | refine HC.cond_no rfl ?_ | refine HL.one (H1.ldb rfl (by repeat (first | with_reducible exact mem_hd | with_reducible apply mem_tl)) rfl rfl ?_) | refine HC.cond rfl (fun hc => ?_) (fun hc => ?_) | refine HC.cond_b rfl (fun hc => ?_) (fun hc => ?_))
    refine HL.one (H1.make (l := 9) (c := 9) rfl rfl rfl rfl rfl (by decide) (by decide) (by decide) rfl (fun bs => ?_))
    repeat' (first | apply HL.fold | apply HA.fold | apply HL.nil | apply HX.n_then | apply HC.seq | apply HC.region | refine HL.pa ?_ | refine HL.ga rfl ?_ | refine HL.na rfl ?_ | refine HL.nu rfl rfl ?_ | apply HC.skip | apply HC.exit | apply HC.ret | apply HX.e_block | refine HX.e_other rfl ?_ | apply HX.e_then | apply HX.e_again | apply HX.n_block | apply HX.r_then | apply HX.r_block | apply HX.r_again | refine HC.cond_yes rfl ?_ | refine HC.cond_no rfl ?_ | refine HL.one (H1.ldb rfl (by repeat (first | with_reducible exact mem_hd | with_reducible apply mem_tl)) rfl rfl ?_) | refine HC.cond rfl (fun hc => ?_) (fun hc => ?_) | refine HC.cond_b rfl (fun hc => ?_) (fun hc => ?_))
    refine HC.cut (α := OS) (fun z => [(1, .slice aV y.length cV), (2, .pointer (some ⟨b2, 0, none⟩)), (5, .slice z.aO z.m.length z.cO), (6, .slice z.al z.left.length z.cl), (7, .slice z.aT z.to.length z.cT), (8, .int .i64 (z.at_ : Int)), (9, .int .i64 (day : Int))]) (fun z => A.blk b2 [.slice zh.1 c.holders.length zh.2, .slice zl.1 c.lost.length zl.2, .slice zt.1 c.to.length zt.2, .int .i64 c.width, .int .i64 c.k, .int .i64 c.deadline] 28 :: A.rd (.slice z.al z.left.length z.cl) (ints z.left) :: A.rd (.slice z.aT z.to.length z.cT) (ints z.to) :: A.grow 52 5 z.aO z.cO z.m.length (tcells z.m z.zs) :: srcAts z.m z.zs) (fun z => OI c.lost.length y.length z) ?_ ?_
    rotate_left
    · rintro ⟨day', at_, m, zs, aO, cO, left, al, cl, to, aT, cT⟩ ⟨h1, h2, h3, h4, h5⟩
      dsimp only at h1 h2 h3 h4 h5 ⊢
      repeat' (first | apply HL.fold | apply HA.fold | apply HL.nil | apply HX.n_then | apply HC.seq | apply HC.region | refine HL.pa ?_ | refine HL.ga rfl ?_ | refine HL.na rfl ?_ | refine HL.nu rfl rfl ?_ | apply HC.block | apply HC.skip | apply HC.exit | apply HC.ret | apply HX.e_block | refine HX.e_other rfl ?_ | apply HX.e_then | apply HX.e_again | apply HX.n_block | apply HX.r_then | apply HX.r_block | apply HX.r_again | refine HC.cond_yes rfl ?_ | refine HC.cond_no rfl ?_ | refine HL.one (H1.ldb rfl (by repeat (first | with_reducible exact mem_hd | with_reducible apply mem_tl)) rfl rfl ?_) | refine HC.cond rfl (fun hc => ?_) (fun hc => ?_) | refine HC.cond_b rfl (fun hc => ?_) (fun hc => ?_))
      exact HX.again ⟨day + 1, at_, m, zs, aO, cO, left, al, cl, to, aT, cT⟩ ⟨⟨h1, h2, h3, h4, h5⟩, by show day + 1 ≤ 12; omega⟩ (by show 12 - (day + 1) < 12 - day; omega) (by repeat (first | exact trivial | refine ⟨rfl, ?_⟩)) (Hs.refl _)
    refine HC.block ?_
    refine HC.loop (α := OS × List Int) (fun z => [(1, .slice aV y.length cV), (2, .pointer (some ⟨b2, 0, none⟩)), (5, .slice z.1.aO z.1.m.length z.1.cO), (6, .slice z.1.al z.1.left.length z.1.cl), (7, .slice z.1.aT z.1.to.length z.1.cT), (8, .int .i64 (z.1.at_ : Int)), (9, .int .i64 (day : Int)), (10, .slice ah has.length ch), (14, .slice (some ⟨bs, 0, none⟩) 9 9), (15, .int .i64 (z.1.left.length : Int))])
      (fun z => A.blk bs (ints z.2) 3 :: A.grow 3 1 ah ch has.length (ints has) :: A.blk b2 [.slice zh.1 c.holders.length zh.2, .slice zl.1 c.lost.length zl.2, .slice zt.1 c.to.length zt.2, .int .i64 c.width, .int .i64 c.k, .int .i64 c.deadline] 28 :: A.rd (.slice z.1.al z.1.left.length z.1.cl) (ints z.1.left) :: A.rd (.slice z.1.aT z.1.to.length z.1.cT) (ints z.1.to) :: A.grow 52 5 z.1.aO z.1.cO z.1.m.length (tcells z.1.m z.1.zs) :: srcAts z.1.m z.1.zs)
      (fun z => OI c.lost.length y.length z.1 ∧ z.2.length = 9 ∧ ∀ x ∈ z.2, 0 ≤ x ∧ x ≤ 9 - (z.1.left.length : Int)) (fun z => z.1.left.length) (⟨day, at_, m, zs, aO, cO, left, al, cl, to, aT, cT⟩, List.replicate 9 0) ⟨⟨h1, h2, h3, h4, h5⟩, rfl, fun x hx => ?_⟩ (by repeat (first | exact trivial | refine ⟨rfl, ?_⟩)) ?_ ?_
    · rw [List.eq_of_mem_replicate hx]; dsimp only; omega
    · exact Hs.cons Pick.here (Hs.cons Pick.here (Hs.cons (Pick.there Pick.here) (Hs.cons (Pick.there Pick.here) (Hs.cons (Pick.there Pick.here) Hs.skip))))
    clear hlt h1 h2 h3 h4 h5 at_ m zs aO cO left al cl to aT cT
    rintro ⟨⟨day', at_, m, zs, aO, cO, left, al, cl, to, aT, cT⟩, sent⟩ ⟨⟨h1, h2, h3, h4, h5⟩, hs1, hs2⟩
    dsimp only at h1 h2 h3 h4 h5 hs1 hs2 ⊢
    by_cases hlt : 0 < left.length
    rotate_left
    · repeat' (first | apply HL.fold | apply HA.fold | apply HL.nil | apply HX.n_then | apply HC.seq | apply HC.region | refine HL.pa ?_ | refine HL.ga rfl ?_ | refine HL.na rfl ?_ | refine HL.nu rfl rfl ?_ | apply HC.block | apply HC.skip | apply HC.exit | apply HC.ret | apply HX.e_block | refine HX.e_other rfl ?_ | apply HX.e_then | apply HX.e_again | apply HX.n_block | apply HX.r_then | apply HX.r_block | apply HX.r_again | refine HC.cond_yes rfl ?_ | refine HC.cond_no rfl ?_ | refine HL.one (H1.ldb rfl (by repeat (first | with_reducible exact mem_hd | with_reducible apply mem_tl)) rfl rfl ?_) | refine HC.cond rfl (fun hc => ?_) (fun hc => ?_) | refine HC.cond_b rfl (fun hc => ?_) (fun hc => ?_))
      exact HX.cut ⟨day, at_, m, zs, aO, cO, left, al, cl, to, aT, cT⟩ ⟨h1, h2, h3, h4, h5⟩ (by repeat (first | exact trivial | refine ⟨rfl, ?_⟩)) (Hs.drop (Hs.drop (Hs.refl _)))
    repeat' (first | apply HL.fold | apply HA.fold | apply HL.nil | apply HX.n_then | apply HC.seq | apply HC.region | refine HL.pa ?_ | refine HL.ga rfl ?_ | refine HL.na rfl ?_ | refine HL.nu rfl rfl ?_ | apply HC.block | apply HC.skip | apply HC.exit | apply HC.ret | apply HX.e_block | refine HX.e_other rfl ?_ | apply HX.e_then | apply HX.e_again | apply HX.n_block | apply HX.r_then | apply HX.r_block | apply HX.r_again | refine HC.cond_yes rfl ?_ | refine HC.cond_no rfl ?_ | refine HL.one (H1.ldb rfl (by repeat (first | with_reducible exact mem_hd | with_reducible apply mem_tl)) rfl rfl ?_))
    refine HC.cut (α := Int × Nat) (fun z => [(1, .slice aV y.length cV), (2, .pointer (some ⟨b2, 0, none⟩)), (5, .slice aO m.length cO), (6, .slice al left.length cl), (7, .slice aT to.length cT), (9, .int .i64 (day : Int)), (10, .slice ah has.length ch), (14, .slice (some ⟨bs, 0, none⟩) 9 9), (15, .int .i64 (left.length : Int)), (16, .int .i64 z.1), (8, .int .i64 (z.2 : Int))]) (fun _ => A.blk bs (ints sent) 3 :: A.grow 3 1 ah ch has.length (ints has) :: A.blk b2 [.slice zh.1 c.holders.length zh.2, .slice zl.1 c.lost.length zl.2, .slice zt.1 c.to.length zt.2, .int .i64 c.width, .int .i64 c.k, .int .i64 c.deadline] 28 :: A.rd (.slice al left.length cl) (ints left) :: A.rd (.slice aT to.length cT) (ints to) :: A.grow 52 5 aO cO m.length (tcells m zs) :: srcAts m zs) (fun z => i64B z.1 ∧ z.2 ≤ y.length) ?_ ?_
    · by_cases hay : at_ < y.length
      · obtain ⟨bV, offV, rfl, -⟩ := hV.iat (by intro e; rw [e] at hay; simp at hay)
        repeat' (first | apply HL.fold | apply HA.fold | apply HL.nil | apply HX.n_then | apply HC.seq | apply HC.region | refine HL.pa ?_ | refine HL.ga rfl ?_ | refine HL.na rfl ?_ | refine HL.nu rfl rfl ?_ | apply HC.block | apply HC.skip | apply HC.exit | apply HC.ret | apply HX.e_block | refine HX.e_other rfl ?_ | apply HX.e_then | apply HX.e_again | apply HX.n_block | apply HX.r_then | apply HX.r_block | apply HX.r_again | refine HC.cond_yes rfl ?_ | refine HC.cond_no rfl ?_ | refine HL.one (H1.ldb rfl (by repeat (first | with_reducible exact mem_hd | with_reducible apply mem_tl)) rfl rfl ?_) | refine HC.cond rfl (fun hc => ?_) (fun hc => ?_) | refine HC.cond_b rfl (fun hc => ?_) (fun hc => ?_))
        refine HL.one (H1.ldw rfl (fun w hM => (hM.rd0 hV).cell (ints_get hay)) rfl ?_)
        repeat' (first | apply HL.fold | apply HA.fold | apply HL.nil | apply HX.n_then | apply HC.seq | apply HC.region | refine HL.pa ?_ | refine HL.ga rfl ?_ | refine HL.na rfl ?_ | refine HL.nu rfl rfl ?_ | apply HC.block | apply HC.skip | apply HC.exit | apply HC.ret | apply HX.e_block | refine HX.e_other rfl ?_ | apply HX.e_then | apply HX.e_again | apply HX.n_block | apply HX.r_then | apply HX.r_block | apply HX.r_again | refine HC.cond_yes rfl ?_ | refine HC.cond_no rfl ?_ | refine HL.one (H1.ldb rfl (by repeat (first | with_reducible exact mem_hd | with_reducible apply mem_tl)) rfl rfl ?_) | refine HC.cond rfl (fun hc => ?_) (fun hc => ?_) | refine HC.cond_b rfl (fun hc => ?_) (fun hc => ?_))
        exact HX.cut (at' y at_, at_ + 1) ⟨hyb _ (at_mem hay), hay⟩ (by repeat (first | exact trivial | refine ⟨rfl, ?_⟩)) (Hs.refl _)
      · repeat' (first | apply HL.fold | apply HA.fold | apply HL.nil | apply HX.n_then | apply HC.seq | apply HC.region | refine HL.pa ?_ | refine HL.ga rfl ?_ | refine HL.na rfl ?_ | refine HL.nu rfl rfl ?_ | apply HC.block | apply HC.skip | apply HC.exit | apply HC.ret | apply HX.e_block | refine HX.e_other rfl ?_ | apply HX.e_then | apply HX.e_again | apply HX.n_block | apply HX.r_then | apply HX.r_block | apply HX.r_again | refine HC.cond_yes rfl ?_ | refine HC.cond_no rfl ?_ | refine HL.one (H1.ldb rfl (by repeat (first | with_reducible exact mem_hd | with_reducible apply mem_tl)) rfl rfl ?_) | refine HC.cond rfl (fun hc => ?_) (fun hc => ?_) | refine HC.cond_b rfl (fun hc => ?_) (fun hc => ?_))
        exact HX.cut (0, at_) ⟨⟨by show -9223372036854775808 ≤ (0 : Int); decide, by show (0 : Int) ≤ 9223372036854775807; decide⟩, h5⟩ (by repeat (first | exact trivial | refine ⟨rfl, ?_⟩)) (Hs.refl _)
    clear h5 at_
    rintro ⟨k, at_⟩ ⟨hkb, h5⟩
    dsimp only at hkb h5 ⊢
    repeat' (first | apply HL.fold | apply HA.fold | apply HL.nil | apply HX.n_then | apply HC.seq | apply HC.region | refine HL.pa ?_ | refine HL.ga rfl ?_ | refine HL.na rfl ?_ | refine HL.nu rfl rfl ?_ | apply HC.block | apply HC.skip | apply HC.exit | apply HC.ret | apply HX.e_block | refine HX.e_other rfl ?_ | apply HX.e_then | apply HX.e_again | apply HX.n_block | apply HX.r_then | apply HX.r_block | apply HX.r_again | refine HC.cond_yes rfl ?_ | refine HC.cond_no rfl ?_ | refine HL.one (H1.ldb rfl (by repeat (first | with_reducible exact mem_hd | with_reducible apply mem_tl)) rfl rfl ?_) | refine HC.cond rfl (fun hc => ?_) (fun hc => ?_) | refine HC.cond_b rfl (fun hc => ?_) (fun hc => ?_))
    refine HL.one (H1.call0 (u := .int .i64 (pickI k 6)) (vs := [.int .i64 k, .int .i64 6]) rfl rfl (fun w' _ => pick_fn k 6 hkb.1 hkb.2 (by decide) w') ?_)
    by_cases hp6 : pickI k 6 = 0
    · repeat' (first | apply HL.fold | apply HA.fold | apply HL.nil | apply HX.n_then | apply HC.seq | apply HC.region | refine HL.pa ?_ | refine HL.ga rfl ?_ | refine HL.na rfl ?_ | refine HL.nu rfl rfl ?_ | apply HC.block | apply HC.skip | apply HC.exit | apply HC.ret | apply HX.e_block | refine HX.e_other rfl ?_ | apply HX.e_then | apply HX.e_again | apply HX.n_block | apply HX.r_then | apply HX.r_block | apply HX.r_again | refine HC.cond_yes rfl ?_ | refine HC.cond_no rfl ?_ | refine HL.one (H1.ldb rfl (by repeat (first | with_reducible exact mem_hd | with_reducible apply mem_tl)) rfl rfl ?_) | refine HC.cond rfl (fun hc => ?_) (fun hc => ?_) | refine HC.cond_b rfl (fun hc => ?_) (fun hc => ?_))
      exact HX.cut ⟨day, at_, m, zs, aO, cO, left, al, cl, to, aT, cT⟩ ⟨h1, h2, h3, h4, h5⟩ (by repeat (first | exact trivial | refine ⟨rfl, ?_⟩)) (Hs.drop (Hs.drop (Hs.refl _)))
    repeat' (first | apply HL.fold | apply HA.fold | apply HL.nil | apply HX.n_then | apply HC.seq | apply HC.region | refine HL.pa ?_ | refine HL.ga rfl ?_ | refine HL.na rfl ?_ | refine HL.nu rfl rfl ?_ | apply HC.block | apply HC.skip | apply HC.exit | apply HC.ret | apply HX.e_block | refine HX.e_other rfl ?_ | apply HX.e_then | apply HX.e_again | apply HX.n_block | apply HX.r_then | apply HX.r_block | apply HX.r_again | refine HC.cond_yes rfl ?_ | refine HC.cond_no rfl ?_ | refine HL.one (H1.ldb rfl (by repeat (first | with_reducible exact mem_hd | with_reducible apply mem_tl)) rfl rfl ?_))
    obtain ⟨fr, hfr⟩ : ∃ fr : Nat, pickI (k.tdiv 6) (has.length : Int) = (fr : Int) := ⟨(pickI (k.tdiv 6) (has.length : Int)).toNat, by have := pickI_lt (k.tdiv 6) (show (0 : Int) < (has.length : Int) by omega); omega⟩
    have hfr2 : fr < has.length := by have := pickI_lt (k.tdiv 6) (show (0 : Int) < (has.length : Int) by omega); omega
    have hk6 := tdiv_abs (n := 6) (by decide) hkb.1 hkb.2
    refine HC.cut (α := List Int × List Int × (Option Addr × Nat) × Bool) (fun z => [(1, .slice aV y.length cV), (2, .pointer (some ⟨b2, 0, none⟩)), (5, .slice aO m.length cO), (6, .slice al left.length cl), (7, .slice aT to.length cT), (8, .int .i64 (at_ : Int)), (9, .int .i64 (day : Int)), (10, .slice ah has.length ch), (14, .slice (some ⟨bs, 0, none⟩) 9 9), (15, .int .i64 (left.length : Int)), (16, .int .i64 k), (17, .slice z.2.2.1.1 z.1.length z.2.2.1.2), (18, .bool z.2.2.2)])
      (fun z => A.grow 3 1 z.2.2.1.1 z.2.2.1.2 z.1.length (ints z.1) :: A.blk bs (ints z.2.1) 3 :: A.grow 3 1 ah ch has.length (ints has) :: A.blk b2 [.slice zh.1 c.holders.length zh.2, .slice zl.1 c.lost.length zl.2, .slice zt.1 c.to.length zt.2, .int .i64 c.width, .int .i64 c.k, .int .i64 c.deadline] 28 :: A.rd (.slice al left.length cl) (ints left) :: A.rd (.slice aT to.length cT) (ints to) :: A.grow 52 5 aO cO m.length (tcells m zs) :: srcAts m zs) (fun z => z.1.length ≤ 9 ∧ z.2.1.length = 9 ∧ ∀ x ∈ z.2.1, 0 ≤ x ∧ x ≤ 9 - (left.length : Int) + 1) ?_ ?_
    · skip
      refine HC.any rfl ?_
      refine HA.pa 0 rfl ?_
      refine HA.pa 1 rfl ?_
      refine HA.pa 3 rfl ?_
      refine HA.pa (v := .int .i64 (k.tdiv 6)) 4 rfl ?_ (POp.quoT rfl rfl hkb.1 hkb.2 (by decide))
      refine HA.pa 5 rfl ?_
      refine HA.pa 6 rfl ?_
      refine HA.all [2, 7] (by kernel_rfl) rfl ⟨⟨_, rfl, ?_⟩, ⟨_, rfl, ?_⟩, trivial⟩
      · refine HO.one ?_
        refine H1.ldAgg (vs := [.slice zh.1 c.holders.length zh.2, .slice zl.1 c.lost.length zl.2, .slice zt.1 c.to.length zt.2, .int .i64 c.width, .int .i64 c.k, .int .i64 c.deadline]) rfl (by first | ((repeat (first | with_reducible exact mem_hd | with_reducible apply mem_tl)); done) | (repeat (first | exact List.Mem.head _ | apply List.Mem.tail))) rfl (fun i v hv => by rw [Nat.zero_add]; exact hv) rfl ?_
        apply HA.fold
        refine HA.all [7] (by kernel_rfl) rfl ⟨⟨_, rfl, ?_⟩, trivial⟩
        refine HO.one ?_
        refine H1.call0 (u := .int .i64 (fr : Int)) (vs := [.int .i64 (k.tdiv 6), .int .i64 (has.length : Int)]) rfl rfl (fun w' _ => by rw [← hfr]; exact pick_fn (k.tdiv 6) (has.length : Int) hk6.1 hk6.2 (by omega) w') ?_
        apply HA.fold
        refine HA.all [8] (by kernel_rfl) rfl ⟨⟨_, rfl, ?_⟩, trivial⟩
        refine HO.one ?_
        refine H1.callm (vs := [.slice ah has.length ch, .slice (some ⟨bs, 0, none⟩) 9 9, .agg (caseV c zh zl zt).toArray, .int .i64 (fr : Int)]) (H' := fun z : List Int × List Int × (Option Addr × Nat) × Bool => A.grow 3 1 z.2.2.1.1 z.2.2.1.2 z.1.length (ints z.1) :: A.blk bs (ints z.2.1) 3 :: A.grow 3 1 ah ch has.length (ints has) :: A.blk b2 [.slice zh.1 c.holders.length zh.2, .slice zl.1 c.lost.length zl.2, .slice zt.1 c.to.length zt.2, .int .i64 c.width, .int .i64 c.k, .int .i64 c.deadline] 28 :: A.rd (.slice al left.length cl) (ints left) :: A.rd (.slice aT to.length cT) (ints to) :: A.grow 52 5 aO cO m.length (tcells m zs) :: srcAts m zs) rfl rfl (fun w' hM => sources_fn (B := 9 - (left.length : Int)) c zh zl zt (.slice ah has.length ch) has fr hM hs1 hs2 (by omega) (fun w'' hM' => hM'.gr (by first | ((repeat (first | with_reducible exact mem_hd | with_reducible apply mem_tl)); done) | (repeat (first | exact List.Mem.head _ | apply List.Mem.tail)))) hhb (by omega) hh0 hfr2 hk) ?_
        rintro ⟨ls, s', ⟨aL, cL⟩, fits⟩ ⟨hz1, hz2, hz3⟩
        dsimp only at hz1 hz2 hz3 ⊢
        apply HA.fold
        refine HA.pa 9 rfl ?_
        refine HA.pa 10 rfl ?_
        refine HA.pa 11 rfl ?_
        refine HA.pa 12 rfl ?_
        refine HA.pa 13 rfl ?_
        refine HA.done (by kernel_rfl) ?_
        exact HX.cut (ls, s', (aL, cL), fits) ⟨hz1, hz2, hz3⟩ (by repeat (first | exact trivial | refine ⟨rfl, ?_⟩)) (Hs.refl _)
      · refine HO.one ?_
        refine H1.call0 (u := .int .i64 (fr : Int)) (vs := [.int .i64 (k.tdiv 6), .int .i64 (has.length : Int)]) rfl rfl (fun w' _ => by rw [← hfr]; exact pick_fn (k.tdiv 6) (has.length : Int) hk6.1 hk6.2 (by omega) w') ?_
        apply HA.fold
        refine HA.all [2] (by kernel_rfl) rfl ⟨⟨_, rfl, ?_⟩, trivial⟩
        refine HO.one ?_
        refine H1.ldAgg (vs := [.slice zh.1 c.holders.length zh.2, .slice zl.1 c.lost.length zl.2, .slice zt.1 c.to.length zt.2, .int .i64 c.width, .int .i64 c.k, .int .i64 c.deadline]) rfl (by first | ((repeat (first | with_reducible exact mem_hd | with_reducible apply mem_tl)); done) | (repeat (first | exact List.Mem.head _ | apply List.Mem.tail))) rfl (fun i v hv => by rw [Nat.zero_add]; exact hv) rfl ?_
        apply HA.fold
        refine HA.all [8] (by kernel_rfl) rfl ⟨⟨_, rfl, ?_⟩, trivial⟩
        refine HO.one ?_
        refine H1.callm (vs := [.slice ah has.length ch, .slice (some ⟨bs, 0, none⟩) 9 9, .agg (caseV c zh zl zt).toArray, .int .i64 (fr : Int)]) (H' := fun z : List Int × List Int × (Option Addr × Nat) × Bool => A.grow 3 1 z.2.2.1.1 z.2.2.1.2 z.1.length (ints z.1) :: A.blk bs (ints z.2.1) 3 :: A.grow 3 1 ah ch has.length (ints has) :: A.blk b2 [.slice zh.1 c.holders.length zh.2, .slice zl.1 c.lost.length zl.2, .slice zt.1 c.to.length zt.2, .int .i64 c.width, .int .i64 c.k, .int .i64 c.deadline] 28 :: A.rd (.slice al left.length cl) (ints left) :: A.rd (.slice aT to.length cT) (ints to) :: A.grow 52 5 aO cO m.length (tcells m zs) :: srcAts m zs) rfl rfl (fun w' hM => sources_fn (B := 9 - (left.length : Int)) c zh zl zt (.slice ah has.length ch) has fr hM hs1 hs2 (by omega) (fun w'' hM' => hM'.gr (by first | ((repeat (first | with_reducible exact mem_hd | with_reducible apply mem_tl)); done) | (repeat (first | exact List.Mem.head _ | apply List.Mem.tail)))) hhb (by omega) hh0 hfr2 hk) ?_
        rintro ⟨ls, s', ⟨aL, cL⟩, fits⟩ ⟨hz1, hz2, hz3⟩
        dsimp only at hz1 hz2 hz3 ⊢
        apply HA.fold
        refine HA.pa 9 rfl ?_
        refine HA.pa 10 rfl ?_
        refine HA.pa 11 rfl ?_
        refine HA.pa 12 rfl ?_
        refine HA.pa 13 rfl ?_
        refine HA.done (by kernel_rfl) ?_
        exact HX.cut (ls, s', (aL, cL), fits) ⟨hz1, hz2, hz3⟩ (by repeat (first | exact trivial | refine ⟨rfl, ?_⟩)) (Hs.refl _)
    rintro ⟨ls, s', ⟨aL, cL⟩, fits⟩ ⟨hz1, hz2, hz3⟩
    dsimp only at hz1 hz2 hz3 ⊢
    clear hfr hfr2
    cases fits with
    | false =>
      repeat' (first | apply HL.fold | apply HA.fold | apply HL.nil | apply HX.n_then | apply HC.seq | apply HC.region | refine HL.pa ?_ | refine HL.ga rfl ?_ | refine HL.na rfl ?_ | refine HL.nu rfl rfl ?_ | apply HC.block | apply HC.skip | apply HC.exit | apply HC.ret | apply HX.e_block | refine HX.e_other rfl ?_ | apply HX.e_then | apply HX.e_again | apply HX.n_block | apply HX.r_then | apply HX.r_block | apply HX.r_again | refine HC.cond_yes rfl ?_ | refine HC.cond_no rfl ?_ | refine HL.one (H1.ldb rfl (by repeat (first | with_reducible exact mem_hd | with_reducible apply mem_tl)) rfl rfl ?_) | refine HC.cond rfl (fun hc => ?_) (fun hc => ?_) | refine HC.cond_b rfl (fun hc => ?_) (fun hc => ?_))
      exact HX.cut ⟨day, at_, m, zs, aO, cO, left, al, cl, to, aT, cT⟩ ⟨h1, h2, h3, h4, h5⟩ (by repeat (first | exact trivial | refine ⟨rfl, ?_⟩)) (Hs.drop (Hs.drop (Hs.drop (Hs.refl _))))
    | true =>
      have hp0 : ∀ (n d : Int), 0 < n → ∃ x : Nat, pickI (k.tdiv d) n = (x : Int) ∧ (x : Int) < n := fun n d hn => ⟨(pickI (k.tdiv d) n).toNat, by have := pickI_lt (k.tdiv d) hn; omega, by have := pickI_lt (k.tdiv d) hn; omega⟩
      obtain ⟨i, hi1, hi2⟩ := hp0 (left.length : Int) 60 (by omega)
      obtain ⟨j, hj1, hj2⟩ := hp0 (to.length : Int) 600 (by omega)
      have hk60 := tdiv_abs (n := 60) (by decide) hkb.1 hkb.2
      have hk600 := tdiv_abs (n := 600) (by decide) hkb.1 hkb.2
      have hil : i < left.length := by omega
      have hjl : j < to.length := by omega
      refine HC.rdCap (a := al) (n := left.length) (c := cl) (xs := ints left) (by first | ((repeat (first | with_reducible exact mem_hd | with_reducible apply mem_tl)); done) | (repeat (first | exact List.Mem.head _ | apply List.Mem.tail))) fun hcl => ?_
      refine HC.rdCap (a := aT) (n := to.length) (c := cT) (xs := ints to) (by first | ((repeat (first | with_reducible exact mem_hd | with_reducible apply mem_tl)); done) | (repeat (first | exact List.Mem.head _ | apply List.Mem.tail))) fun hcT => ?_
      refine HC.rdAt (a := al) (n := left.length) (c := cl) (xs := ints left) (by first | ((repeat (first | with_reducible exact mem_hd | with_reducible apply mem_tl)); done) | (repeat (first | exact List.Mem.head _ | apply List.Mem.tail))) (by intro e; have h := ints_len left; rw [e, List.length_nil] at h; omega) fun bL oL e => ?_
      subst e
      refine HC.rdAt (a := aT) (n := to.length) (c := cT) (xs := ints to) (by first | ((repeat (first | with_reducible exact mem_hd | with_reducible apply mem_tl)); done) | (repeat (first | exact List.Mem.head _ | apply List.Mem.tail))) (by intro e; have h := ints_len to; rw [e, List.length_nil] at h; omega) fun bT oT e => ?_
      subst e
      repeat' (first | apply HL.fold | apply HA.fold | apply HL.nil | apply HX.n_then | apply HC.seq | apply HC.region | refine HL.pa ?_ | refine HL.ga rfl ?_ | refine HL.na rfl ?_ | refine HL.nu rfl rfl ?_ | apply HC.block | apply HC.skip | apply HC.exit | apply HC.ret | apply HX.e_block | refine HX.e_other rfl ?_ | apply HX.e_then | apply HX.e_again | apply HX.n_block | apply HX.r_then | apply HX.r_block | apply HX.r_again | refine HC.cond_yes rfl ?_ | refine HC.cond_no rfl ?_ | refine HL.one (H1.ldb rfl (by repeat (first | with_reducible exact mem_hd | with_reducible apply mem_tl)) rfl rfl ?_))
      refine HL.pa (v := .int .i64 (k.tdiv 60)) ?_ (POp.quoT rfl rfl hkb.1 hkb.2 (by decide))
      repeat' (first | apply HL.fold | apply HA.fold | apply HL.nil | apply HX.n_then | apply HC.seq | apply HC.region | refine HL.pa ?_ | refine HL.ga rfl ?_ | refine HL.na rfl ?_ | refine HL.nu rfl rfl ?_ | apply HC.block | apply HC.skip | apply HC.exit | apply HC.ret | apply HX.e_block | refine HX.e_other rfl ?_ | apply HX.e_then | apply HX.e_again | apply HX.n_block | apply HX.r_then | apply HX.r_block | apply HX.r_again | refine HC.cond_yes rfl ?_ | refine HC.cond_no rfl ?_ | refine HL.one (H1.ldb rfl (by repeat (first | with_reducible exact mem_hd | with_reducible apply mem_tl)) rfl rfl ?_))
      refine HL.one (H1.call0 (u := .int .i64 (i : Int)) (vs := [.int .i64 (k.tdiv 60), .int .i64 (left.length : Int)]) rfl rfl (fun w' _ => by rw [← hi1]; exact pick_fn (k.tdiv 60) (left.length : Int) hk60.1 hk60.2 (by omega) w') ?_)
      repeat' (first | apply HL.fold | apply HA.fold | apply HL.nil | apply HX.n_then | apply HC.seq | apply HC.region | refine HL.pa ?_ | refine HL.ga rfl ?_ | refine HL.na rfl ?_ | refine HL.nu rfl rfl ?_ | apply HC.block | apply HC.skip | apply HC.exit | apply HC.ret | apply HX.e_block | refine HX.e_other rfl ?_ | apply HX.e_then | apply HX.e_again | apply HX.n_block | apply HX.r_then | apply HX.r_block | apply HX.r_again | refine HC.cond_yes rfl ?_ | refine HC.cond_no rfl ?_ | refine HL.one (H1.ldb rfl (by repeat (first | with_reducible exact mem_hd | with_reducible apply mem_tl)) rfl rfl ?_))
      refine HL.pa (v := .int .i64 (k.tdiv 600)) ?_ (POp.quoT rfl rfl hkb.1 hkb.2 (by decide))
      repeat' (first | apply HL.fold | apply HA.fold | apply HL.nil | apply HX.n_then | apply HC.seq | apply HC.region | refine HL.pa ?_ | refine HL.ga rfl ?_ | refine HL.na rfl ?_ | refine HL.nu rfl rfl ?_ | apply HC.block | apply HC.skip | apply HC.exit | apply HC.ret | apply HX.e_block | refine HX.e_other rfl ?_ | apply HX.e_then | apply HX.e_again | apply HX.n_block | apply HX.r_then | apply HX.r_block | apply HX.r_again | refine HC.cond_yes rfl ?_ | refine HC.cond_no rfl ?_ | refine HL.one (H1.ldb rfl (by repeat (first | with_reducible exact mem_hd | with_reducible apply mem_tl)) rfl rfl ?_))
      refine HL.one (H1.call0 (u := .int .i64 (j : Int)) (vs := [.int .i64 (k.tdiv 600), .int .i64 (to.length : Int)]) rfl rfl (fun w' _ => by rw [← hj1]; exact pick_fn (k.tdiv 600) (to.length : Int) hk600.1 hk600.2 (by omega) w') ?_)
      repeat' (first | apply HL.fold | apply HA.fold | apply HL.nil | apply HX.n_then | apply HC.seq | apply HC.region | refine HL.pa ?_ | refine HL.ga rfl ?_ | refine HL.na rfl ?_ | refine HL.nu rfl rfl ?_ | apply HC.block | apply HC.skip | apply HC.exit | apply HC.ret | apply HX.e_block | refine HX.e_other rfl ?_ | apply HX.e_then | apply HX.e_again | apply HX.n_block | apply HX.r_then | apply HX.r_block | apply HX.r_again | refine HC.cond_yes rfl ?_ | refine HC.cond_no rfl ?_ | refine HL.one (H1.ldb rfl (by repeat (first | with_reducible exact mem_hd | with_reducible apply mem_tl)) rfl rfl ?_))
      have hgl := ints_get hil
      have hgt := ints_get hjl
      have e1 : tcell ⟨at' left i, at' to j, ls, (day : Int), (day : Int) + 1⟩ (hval ⟨at' left i, at' to j, ls, (day : Int), (day : Int) + 1⟩ (aL, cL)) = [.int .i64 (at' left i), .int .i64 (at' to j), .slice aL ls.length cL, .int .i64 (day : Int), .int .i64 ((day : Int) + 1)] := by simp [tcell, hval]
      have e2 : srcA (⟨at' left i, at' to j, ls, (day : Int), (day : Int) + 1⟩, (aL, cL)) = A.grow 3 1 aL cL ls.length (ints ls) := by simp [srcA]
      refine HC.cut (α := Option Addr × Nat) (fun z => [(1, .slice aV y.length cV), (2, .pointer (some ⟨b2, 0, none⟩)), (5, .slice z.1 (m.length + 1) z.2), (6, .slice (some ⟨bL, oL, none⟩) left.length cl), (7, .slice (some ⟨bT, oT, none⟩) to.length cT), (8, .int .i64 (at_ : Int)), (9, .int .i64 (day : Int)), (10, .slice ah has.length ch), (14, .slice (some ⟨bs, 0, none⟩) 9 9), (15, .int .i64 (left.length : Int)), (19, .int .i64 (i : Int)), (20, .int .i64 (j : Int))]) (fun z => A.grow 52 5 z.1 z.2 (m.length + 1) (tcells m zs ++ [.int .i64 (at' left i), .int .i64 (at' to j), .slice aL ls.length cL, .int .i64 (day : Int), .int .i64 ((day : Int) + 1)]) :: A.blk bs (ints s') 3 :: A.grow 3 1 ah ch has.length (ints has) :: A.blk b2 [.slice zh.1 c.holders.length zh.2, .slice zl.1 c.lost.length zl.2, .slice zt.1 c.to.length zt.2, .int .i64 c.width, .int .i64 c.k, .int .i64 c.deadline] 28 :: A.rd (.slice (some ⟨bL, oL, none⟩) left.length cl) (ints left) :: A.rd (.slice (some ⟨bT, oT, none⟩) to.length cT) (ints to) :: A.grow 3 1 aL cL ls.length (ints ls) :: srcAts m zs) (fun _ => True) ?_ ?_
      · skip
        refine HC.anyC ([(⟨bL, oL + i, none⟩, zv (at' left i)), (⟨bT, oT + j, none⟩, zv (at' to j))]) rfl ?_
        refine HB.pa 0 rfl ?_
        refine HB.pa 1 rfl ?_
        refine HB.pa 2 rfl ?_
        refine HB.pa 3 rfl ?_
        refine HB.ld 4 rfl rfl (by repeat (first | exact List.Mem.head _ | apply List.Mem.tail)) ?_
        refine HB.pa 5 rfl ?_
        refine HB.pa 6 rfl ?_
        refine HB.pa 7 rfl ?_
        refine HB.ld 8 rfl rfl (by repeat (first | exact List.Mem.head _ | apply List.Mem.tail)) ?_
        refine HB.pa 9 rfl ?_
        refine HB.pa 10 rfl ?_
        refine HB.pa 11 rfl ?_
        refine HB.pa 12 rfl ?_
        refine HB.pa (v := .agg #[.int .i64 (at' left i), .int .i64 (at' to j), .slice aL ls.length cL, .int .i64 (day : Int), .int .i64 ((day : Int) + 1)]) 13 rfl ?_ (POp.build (cs := [.int .i64 (at' left i), .int .i64 (at' to j), .slice aL ls.length cL, .int .i64 (day : Int), .int .i64 ((day : Int) + 1)]) rfl rfl)
        refine HB.all (by refine Keep.cons (fun w hM => (hM.rd (v := .slice (some ⟨bL, oL, none⟩) left.length cl) (vs := ints left) (by first | ((repeat (first | with_reducible exact mem_hd | with_reducible apply mem_tl)); done) | (repeat (first | exact List.Mem.head _ | apply List.Mem.tail)))).cell hgl) (Keep.cons (fun w hM => (hM.rd (v := .slice (some ⟨bT, oT, none⟩) to.length cT) (vs := ints to) (by first | ((repeat (first | with_reducible exact mem_hd | with_reducible apply mem_tl)); done) | (repeat (first | exact List.Mem.head _ | apply List.Mem.tail)))).cell hgt) Keep.nil)) [14] (by kernel_rfl) rfl ⟨⟨_, rfl, ?_⟩, trivial⟩
        refine HP.one ?_
        refine H1.lit (cs := [.int .i64 (at' left i), .int .i64 (at' to j), .slice aL ls.length cL, .int .i64 (day : Int), .int .i64 ((day : Int) + 1)]) rfl rfl rfl rfl rfl rfl (fun b5 => ?_)
        apply HB.fold
        refine HB.all (by refine Keep.cons (fun w hM => (hM.rd (v := .slice (some ⟨bL, oL, none⟩) left.length cl) (vs := ints left) (by first | ((repeat (first | with_reducible exact mem_hd | with_reducible apply mem_tl)); done) | (repeat (first | exact List.Mem.head _ | apply List.Mem.tail)))).cell hgl) (Keep.cons (fun w hM => (hM.rd (v := .slice (some ⟨bT, oT, none⟩) to.length cT) (vs := ints to) (by first | ((repeat (first | with_reducible exact mem_hd | with_reducible apply mem_tl)); done) | (repeat (first | exact List.Mem.head _ | apply List.Mem.tail)))).cell hgt) Keep.nil)) [15] (by kernel_rfl) rfl ⟨⟨_, rfl, ?_⟩, trivial⟩
        refine HP.one ?_
        refine H1.app (e := 52) (sz := 5) (m := 1) (news := [.int .i64 (at' left i), .int .i64 (at' to j), .slice aL ls.length cL, .int .i64 (day : Int), .int .i64 ((day : Int) + 1)]) rfl (by decide) rfl rfl (fun _ _ => by repeat (first | exact Rpl.here | apply Rpl.there)) rfl (fun w hM k u hk => by rw [add_lit, Nat.zero_add]; exact (hM.blk (by first | ((repeat (first | with_reducible exact mem_hd | with_reducible apply mem_tl)); done) | (repeat (first | exact List.Mem.head _ | apply List.Mem.tail)))).cell hk) (by intro v hv; simp only [List.mem_cons, List.not_mem_nil, or_false] at hv; rcases hv with rfl | rfl | rfl | rfl | rfl <;> rfl) (by omega) (by decide) rfl (fun a6 c6 ha6 => ?_)
        apply HB.fold
        refine HB.pa 16 rfl ?_
        refine HB.done (by refine Keep.cons (fun w hM => (hM.rd (v := .slice (some ⟨bL, oL, none⟩) left.length cl) (vs := ints left) (by first | ((repeat (first | with_reducible exact mem_hd | with_reducible apply mem_tl)); done) | (repeat (first | exact List.Mem.head _ | apply List.Mem.tail)))).cell hgl) (Keep.cons (fun w hM => (hM.rd (v := .slice (some ⟨bT, oT, none⟩) to.length cT) (vs := ints to) (by first | ((repeat (first | with_reducible exact mem_hd | with_reducible apply mem_tl)); done) | (repeat (first | exact List.Mem.head _ | apply List.Mem.tail)))).cell hgt) Keep.nil)) (by kernel_rfl) ?_
        exact HX.cut (a6, c6) trivial (by repeat (first | exact trivial | refine ⟨rfl, ?_⟩)) (Hs.cons (Pick.there (Pick.there (Pick.there (Pick.there (Pick.there (Pick.there (Pick.there (Pick.here)))))))) (Hs.cons (Pick.there (Pick.there (Pick.here))) (Hs.cons (Pick.there (Pick.there (Pick.here))) (Hs.cons (Pick.there (Pick.there (Pick.here))) (Hs.cons (Pick.there (Pick.there (Pick.here))) (Hs.cons (Pick.there (Pick.there (Pick.here))) (Hs.drop (Hs.refl _))))))))
      rintro ⟨aN, cN⟩ -
      dsimp only
      repeat' (first | apply HL.fold | apply HA.fold | apply HL.nil | apply HX.n_then | apply HC.seq | apply HC.region | refine HL.pa ?_ | refine HL.ga rfl ?_ | refine HL.na rfl ?_ | refine HL.nu rfl rfl ?_ | apply HC.block | apply HC.skip | apply HC.exit | apply HC.ret | apply HX.e_block | refine HX.e_other rfl ?_ | apply HX.e_then | apply HX.e_again | apply HX.n_block | apply HX.r_then | apply HX.r_block | apply HX.r_again | refine HC.cond_yes rfl ?_ | refine HC.cond_no rfl ?_ | refine HL.one (H1.ldb rfl (by repeat (first | with_reducible exact mem_hd | with_reducible apply mem_tl)) rfl rfl ?_))
      refine HC.cut (α := Option Addr × Nat) (fun z => [(1, .slice aV y.length cV), (2, .pointer (some ⟨b2, 0, none⟩)), (5, .slice aN (m.length + 1) cN), (6, .slice z.1 (cutL left i).length z.2), (7, .slice (some ⟨bT, oT, none⟩) to.length cT), (8, .int .i64 (at_ : Int)), (9, .int .i64 (day : Int)), (10, .slice ah has.length ch), (14, .slice (some ⟨bs, 0, none⟩) 9 9), (15, .int .i64 (left.length : Int)), (19, .int .i64 (i : Int)), (20, .int .i64 (j : Int))]) (fun z => A.grow 52 5 aN cN (m.length + 1) (tcells m zs ++ [.int .i64 (at' left i), .int .i64 (at' to j), .slice aL ls.length cL, .int .i64 (day : Int), .int .i64 ((day : Int) + 1)]) :: A.blk bs (ints s') 3 :: A.grow 3 1 ah ch has.length (ints has) :: A.blk b2 [.slice zh.1 c.holders.length zh.2, .slice zl.1 c.lost.length zl.2, .slice zt.1 c.to.length zt.2, .int .i64 c.width, .int .i64 c.k, .int .i64 c.deadline] 28 :: A.rd (.slice z.1 (cutL left i).length z.2) (ints (cutL left i)) :: A.rd (.slice (some ⟨bT, oT, none⟩) to.length cT) (ints to) :: A.grow 3 1 aL cL ls.length (ints ls) :: srcAts m zs) (fun _ => True) ?_ ?_
      · skip
        refine HC.any rfl ?_
        refine HA.pa 0 rfl ?_
        refine HA.pa 1 rfl ?_
        refine HA.pa 2 rfl ?_
        refine HA.pa (v := .slice (some ⟨bL, oL, none⟩) i i) 3 rfl ?_ (POp.cut3 (l := left.length) (c := cl) rfl rfl rfl (by omega))
        refine HA.pa 4 rfl ?_
        refine HA.pa 5 rfl ?_
        refine HA.pa (v := .int .i64 ((i + 1 : Nat) : Int)) 6 rfl ?_ (by rw [show ((i + 1 : Nat) : Int) = (i : Int) + 1 from by push_cast; rfl]; exact POp.add rfl rfl (by omega) (by omega))
        refine HA.pa (v := .slice (cutA (some ⟨bL, oL, none⟩) cl (i + 1)) (left.length - (i + 1)) (cl - (i + 1))) 7 rfl ?_ (POp.cut_lo (l := left.length) (c := cl) rfl rfl (by omega))
        refine HA.all [8] (by kernel_rfl) rfl ⟨⟨_, rfl, ?_⟩, trivial⟩
        refine HO.one ?_
        refine H1.cutI (a := some ⟨bL, oL, none⟩) (c := cl) (l := left) (H' := fun a' c' => A.grow 52 5 aN cN (m.length + 1) (tcells m zs ++ [.int .i64 (at' left i), .int .i64 (at' to j), .slice aL ls.length cL, .int .i64 (day : Int), .int .i64 ((day : Int) + 1)]) :: A.blk bs (ints s') 3 :: A.grow 3 1 ah ch has.length (ints has) :: A.blk b2 [.slice zh.1 c.holders.length zh.2, .slice zl.1 c.lost.length zl.2, .slice zt.1 c.to.length zt.2, .int .i64 c.width, .int .i64 c.k, .int .i64 c.deadline] 28 :: A.rd (.slice a' (cutL left i).length c') (ints (cutL left i)) :: A.rd (.slice (some ⟨bT, oT, none⟩) to.length cT) (ints to) :: A.grow 3 1 aL cL ls.length (ints ls) :: srcAts m zs) rfl rfl hil (by omega) (by decide) rfl (fun a' c' => by repeat (first | exact Rpl.here | apply Rpl.there)) (fun a' c' => ?_)
        apply HA.fold
        refine HA.pa 9 rfl ?_
        refine HA.done (by kernel_rfl) ?_
        exact HX.cut (a', c') trivial (by repeat (first | exact trivial | refine ⟨rfl, ?_⟩)) (Hs.refl _)
      rintro ⟨aL', cL'⟩ -
      dsimp only
      have hcl1 := cutL_len hil
      have hcl2 := cutL_len hjl
      generalize hLL : cutL left i = left' at *
      repeat' (first | apply HL.fold | apply HA.fold | apply HL.nil | apply HX.n_then | apply HC.seq | apply HC.region | refine HL.pa ?_ | refine HL.ga rfl ?_ | refine HL.na rfl ?_ | refine HL.nu rfl rfl ?_ | apply HC.block | apply HC.skip | apply HC.exit | apply HC.ret | apply HX.e_block | refine HX.e_other rfl ?_ | apply HX.e_then | apply HX.e_again | apply HX.n_block | apply HX.r_then | apply HX.r_block | apply HX.r_again | refine HC.cond_yes rfl ?_ | refine HC.cond_no rfl ?_ | refine HL.one (H1.ldb rfl (by repeat (first | with_reducible exact mem_hd | with_reducible apply mem_tl)) rfl rfl ?_))
      refine HC.cut (α := Option Addr × Nat) (fun z => [(1, .slice aV y.length cV), (2, .pointer (some ⟨b2, 0, none⟩)), (5, .slice aN (m.length + 1) cN), (6, .slice aL' left'.length cL'), (7, .slice z.1 (cutL to j).length z.2), (8, .int .i64 (at_ : Int)), (9, .int .i64 (day : Int)), (10, .slice ah has.length ch), (14, .slice (some ⟨bs, 0, none⟩) 9 9), (15, .int .i64 (left.length : Int)), (19, .int .i64 (i : Int)), (20, .int .i64 (j : Int))]) (fun z => A.grow 52 5 aN cN (m.length + 1) (tcells m zs ++ [.int .i64 (at' left i), .int .i64 (at' to j), .slice aL ls.length cL, .int .i64 (day : Int), .int .i64 ((day : Int) + 1)]) :: A.blk bs (ints s') 3 :: A.grow 3 1 ah ch has.length (ints has) :: A.blk b2 [.slice zh.1 c.holders.length zh.2, .slice zl.1 c.lost.length zl.2, .slice zt.1 c.to.length zt.2, .int .i64 c.width, .int .i64 c.k, .int .i64 c.deadline] 28 :: A.rd (.slice aL' left'.length cL') (ints left') :: A.rd (.slice z.1 (cutL to j).length z.2) (ints (cutL to j)) :: A.grow 3 1 aL cL ls.length (ints ls) :: srcAts m zs) (fun _ => True) ?_ ?_
      · skip
        refine HC.any rfl ?_
        refine HA.pa 0 rfl ?_
        refine HA.pa 1 rfl ?_
        refine HA.pa 2 rfl ?_
        refine HA.pa (v := .slice (some ⟨bT, oT, none⟩) j j) 3 rfl ?_ (POp.cut3 (l := to.length) (c := cT) rfl rfl rfl (by omega))
        refine HA.pa 4 rfl ?_
        refine HA.pa 5 rfl ?_
        refine HA.pa (v := .int .i64 ((j + 1 : Nat) : Int)) 6 rfl ?_ (by rw [show ((j + 1 : Nat) : Int) = (j : Int) + 1 from by push_cast; rfl]; exact POp.add rfl rfl (by omega) (by omega))
        refine HA.pa (v := .slice (cutA (some ⟨bT, oT, none⟩) cT (j + 1)) (to.length - (j + 1)) (cT - (j + 1))) 7 rfl ?_ (POp.cut_lo (l := to.length) (c := cT) rfl rfl (by omega))
        refine HA.all [8] (by kernel_rfl) rfl ⟨⟨_, rfl, ?_⟩, trivial⟩
        refine HO.one ?_
        refine H1.cutI (a := some ⟨bT, oT, none⟩) (c := cT) (l := to) (H' := fun a' c' => A.grow 52 5 aN cN (m.length + 1) (tcells m zs ++ [.int .i64 (at' left i), .int .i64 (at' to j), .slice aL ls.length cL, .int .i64 (day : Int), .int .i64 ((day : Int) + 1)]) :: A.blk bs (ints s') 3 :: A.grow 3 1 ah ch has.length (ints has) :: A.blk b2 [.slice zh.1 c.holders.length zh.2, .slice zl.1 c.lost.length zl.2, .slice zt.1 c.to.length zt.2, .int .i64 c.width, .int .i64 c.k, .int .i64 c.deadline] 28 :: A.rd (.slice aL' left'.length cL') (ints left') :: A.rd (.slice a' (cutL to j).length c') (ints (cutL to j)) :: A.grow 3 1 aL cL ls.length (ints ls) :: srcAts m zs) rfl rfl hjl (by omega) (by decide) rfl (fun a' c' => by repeat (first | exact Rpl.here | apply Rpl.there)) (fun a' c' => ?_)
        apply HA.fold
        refine HA.pa 9 rfl ?_
        refine HA.done (by kernel_rfl) ?_
        exact HX.cut (a', c') trivial (by repeat (first | exact trivial | refine ⟨rfl, ?_⟩)) (Hs.refl _)
      rintro ⟨aT', cT'⟩ -
      dsimp only
      generalize hTT : cutL to j = to' at *
      repeat' (first | apply HL.fold | apply HA.fold | apply HL.nil | apply HX.n_then | apply HC.seq | apply HC.region | refine HL.pa ?_ | refine HL.ga rfl ?_ | refine HL.na rfl ?_ | refine HL.nu rfl rfl ?_ | apply HC.block | apply HC.skip | apply HC.exit | apply HC.ret | apply HX.e_block | refine HX.e_other rfl ?_ | apply HX.e_then | apply HX.e_again | apply HX.n_block | apply HX.r_then | apply HX.r_block | apply HX.r_again | refine HC.cond_yes rfl ?_ | refine HC.cond_no rfl ?_ | refine HL.one (H1.ldb rfl (by repeat (first | with_reducible exact mem_hd | with_reducible apply mem_tl)) rfl rfl ?_))
      refine HX.again (⟨day, at_, m ++ [⟨at' left i, at' to j, ls, (day : Int), (day : Int) + 1⟩], zs ++ [(aL, cL)], aN, cN, left', aL', cL', to', aT', cT'⟩, s') ⟨⟨?_, ?_, ?_, ?_, h5⟩, hz2, fun x hx => ?_⟩ (by show left'.length < left.length; omega) ?_ ?_
      · simp [h1]
      · show to'.length = left'.length; omega
      · show (m ++ [_]).length + left'.length = _; rw [List.length_append]; simp; omega
      · intro t ht
        rcases List.mem_append.1 ht with ht | ht
        · exact h4 t ht
        · rw [List.mem_singleton] at ht; subst ht; exact hz1
      · have := hz3 x hx; dsimp only; omega
      · dsimp only
        rw [List.length_append, show ((left'.length : Nat) : Int) = (left.length : Int) - 1 from by omega]
        repeat (first | exact trivial | refine ⟨rfl, ?_⟩)
      · dsimp only
        rw [List.length_append, tcells_snoc h1, srcAts_snoc h1, e1, e2]
        repeat (first | exact Hs.nil _ | (refine Hs.cons (by repeat (first | exact Pick.here | apply Pick.there)) ?_))
        exact Hs.end0
end Go.Sx

