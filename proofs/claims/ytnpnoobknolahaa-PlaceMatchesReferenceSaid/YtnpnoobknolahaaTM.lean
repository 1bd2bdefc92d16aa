/- Chapter 18: the reference's choose. -/
import Derived.Test.YtnpnoobknolahaaTL
import Derived.Test.YtnpnoobknolahaaHl
namespace Go.Sx
open Go Go.Proofs Go.RowKit
theorem combs_count : ∀ (l : List Nat) (n : Nat), (combs l n).length ≤ 2 ^ l.length
  | l, 0 => by rw [combs_zero]; exact Nat.one_le_two_pow
  | [], n + 1 => Nat.zero_le _
  | x :: l, n + 1 => by
    have h1 := combs_count l n
    have h2 := combs_count l (n + 1)
    rw [combs, List.length_append, List.length_map, List.length_cons, Nat.pow_succ]
    omega
theorem combs_9 {l : List Nat} (n : Nat) (h : l.length ≤ 9) : (combs l n).length ≤ 512 := Nat.le_trans (combs_count l n) (Nat.pow_le_pow_right (by decide) h)
/-- The rows of a list of lists, as values and as atoms. -/
def rowV (TT : List (List Nat)) (zs : List (Option Addr × Nat)) : List Value := List.zipWith (fun T z => .slice z.1 T.length z.2) TT zs
def rowK (TT : List (List Nat)) (zs : List (Option Addr × Nat)) : List Atom := List.zipWith (fun T z => A.grow 3 1 z.1 z.2 T.length (ints (natI T))) TT zs
theorem rowV_app {TT : List (List Nat)} {zs : List (Option Addr × Nat)} (h : zs.length = TT.length) (T : List Nat) (z : Option Addr × Nat) : rowV (TT ++ [T]) (zs ++ [z]) = rowV TT zs ++ [.slice z.1 T.length z.2] := by
  unfold rowV
  rw [List.zipWith_append h.symm]; rfl
theorem rowK_app {TT : List (List Nat)} {zs : List (Option Addr × Nat)} (h : zs.length = TT.length) (T : List Nat) (z : Option Addr × Nat) : rowK (TT ++ [T]) (zs ++ [z]) = rowK TT zs ++ [A.grow 3 1 z.1 z.2 T.length (ints (natI T))] := by
  unfold rowK
  rw [List.zipWith_append h.symm]; rfl
theorem rows_get {TT : List (List Nat)} {zs : List (Option Addr × Nat)} (h : zs.length = TT.length) {i : Nat} (hi : i < TT.length) : ∃ z : Option Addr × Nat, (rowV TT zs)[i]? = some (.slice z.1 TT[i].length z.2) ∧ A.grow 3 1 z.1 z.2 TT[i].length (ints (natI TT[i])) ∈ rowK TT zs := by
  refine ⟨zs[i]'(by omega), ?_, ?_⟩
  · unfold rowV
    rw [List.getElem?_eq_getElem (by rw [List.length_zipWith]; omega), List.getElem_zipWith]
  · unfold rowK
    exact List.mem_iff_getElem.2 ⟨i, by rw [List.length_zipWith]; omega, by rw [List.getElem_zipWith]⟩
theorem Mm.rowRd {w0 w : World} {H : List Atom} {TT : List (List Nat)} {zs : List (Option Addr × Nat)} (hM : Mm w0 H w) (hm : A.all (rowK TT zs) ∈ H) {z : Option Addr × Nat} {T : List Nat} (hz : A.grow 3 1 z.1 z.2 T.length (ints (natI T)) ∈ rowK TT zs) : Rd w (.slice z.1 T.length z.2) (ints (natI T)) := by
  have h1 : w.ownsRow 0 3 1 (.slice z.1 T.length z.2) T.length (ints (natI T)) := hM.all (A.all (rowK TT zs)) hm _ hz
  exact Rd.of_owns h1
section
variable {P : Program} {r : Option Nat} {N : Nat} {ds : List Deferred} {Q : Post} {E : Env} {w0 : World} {H H2 : List Atom}
theorem HC.growAt {co : Code} {e : TypeId} {sz c n : Nat} {a : Option Addr} {xs : List Value} (hm : A.grow e sz a c n xs ∈ H) (h0 : 0 < n) (h : ∀ b, a = some ⟨b, 0, none⟩ → HC P r N ds co Q E w0 H) : HC P r N ds co Q E w0 H := fun w hM => by
  have hown := hM.own hm
  rcases hown.2 with ⟨hv, h3⟩ | ⟨g, cap, cur, hv, hbg, hg, rest⟩
  · omega
  · cases hv; exact h g rfl w hM
theorem HC.all0 {co : Code} (h : HC P r N ds co Q E w0 (A.all [] :: H)) : HC P r N ds co Q E w0 H := fun w hM => h w hM.allNil
theorem HN.conv {next : Act → World → Prop} (hh : ∀ w, Mm w0 H w → Mm w0 H2 w) (h : HN N ds next E w0 H2) : HN N ds next E w0 H := fun w hM => h w (hh w hM)
theorem H1.conv {next : Act → World → Prop} {o : Oper} (hh : ∀ w, Mm w0 H w → Mm w0 H2 w) (h : H1 P r N ds next o Q E w0 H2) : H1 P r N ds next o Q E w0 H := fun w hM => h w (hh w hM)
end
attribute [local irreducible] WC WL WX POp Then Again Fn NX W1 WA WO QL RP RA Yld LoopAt HC HL HX HN H1 HA HO HQ HB HP A.blk A.grow A.rd A.obj A.mp AgainH CutH
attribute [local irreducible] A.mq A.mit A.dfrs A.loop mapsA A.land A.pure chk best A.all
set_option maxHeartbeats 2000000 in
theorem choose_fn : ∀ (n : Nat) (v : Value) (l : List Nat) (w : World), n ≤ 1000 → l.length ≤ 9 → Rd w v (ints (natI l)) →
    Fn Try.prog 40 #[v, zv (n : Int)] w fun u w' => ∃ z : (Option Addr × Nat) × List (Option Addr × Nat), z.2.length = (combs l n).length ∧ u = .slice z.1.1 (combs l n).length z.1.2 ∧ Mm w [A.grow 25 1 z.1.1 z.1.2 (combs l n).length (rowV (combs l n) z.2), A.all (rowK (combs l n) z.2)] w' := by
  intro n
  induction n with
  | zero =>
    intro v l w _ hl hR
    refine enterH (l := [_, _]) rfl Try.ntmps40 rfl ?_
    repeat' (first | apply HL.fold | apply HA.fold | apply HL.nil | apply HX.n_then | apply HC.seq | apply HC.region | refine HL.pa ?_ | refine HL.ga rfl ?_ | refine HL.na rfl ?_ | refine HL.nu rfl rfl ?_ | apply HC.block | apply HC.skip | apply HC.exit | apply HC.ret | apply HX.e_block | refine HX.e_other rfl ?_ | apply HX.e_then | apply HX.e_again | apply HX.n_block | apply HX.r_then | apply HX.r_block | apply HX.r_again | refine HC.cond_yes rfl ?_ | refine HC.cond_no rfl ?_ | refine HL.one (H1.ldb rfl memA rfl rfl ?_) | refine HC.cond rfl (fun hc => ?_) (fun hc => ?_) | refine HC.cond_b rfl (fun hc => ?_) (fun hc => ?_))
    refine HL.one (H1.lit (cs := [.slice none 0 0]) rfl rfl rfl rfl rfl rfl (fun b3 => ?_))
    repeat' (first | apply HL.fold | apply HA.fold | apply HL.nil | apply HX.n_then | apply HC.seq | apply HC.region | refine HL.pa ?_ | refine HL.ga rfl ?_ | refine HL.na rfl ?_ | refine HL.nu rfl rfl ?_ | apply HC.block | apply HC.skip | apply HC.exit | apply HC.ret | apply HX.e_block | refine HX.e_other rfl ?_ | apply HX.e_then | apply HX.e_again | apply HX.n_block | apply HX.r_then | apply HX.r_block | apply HX.r_again | refine HC.cond_yes rfl ?_ | refine HC.cond_no rfl ?_ | refine HL.one (H1.ldb rfl memA rfl rfl ?_) | refine HC.cond rfl (fun hc => ?_) (fun hc => ?_) | refine HC.cond_b rfl (fun hc => ?_) (fun hc => ?_))
    refine HX.ret1 rfl rfl fun w' hM => ⟨((some ⟨b3, 0, none⟩, 1), [(none, 0)]), ?_⟩
    rw [combs_zero]
    refine ⟨rfl, rfl, ?_⟩
    have h1 := (hM.blkGrow (b := b3) (cs := [.slice none 0 0]) Rpl.here (by simp))
    have h2 := (h1.grow0 3 1).perm (List.Perm.swap _ _ _)
    refine Mm.perm (H := [A.all (rowK [[]] [(none, 0)]), A.grow 25 1 (some ⟨b3, 0, none⟩) 1 1 [.slice none 0 0]]) ?_ (List.Perm.swap _ _ _)
    refine Mm.pack (K := rowK [[]] [(none, 0)]) ?_
    exact h1.grow0 3 1
  | succ n ih =>
    intro v l w hn hl hR
    obtain ⟨a, c, rfl, hc⟩ := hR.isInts
    rw [natI_len] at *
    have hne : ¬ (((n + 1 : Nat) : Int) = 0) := by omega
    refine enterH (l := [_, _]) rfl Try.ntmps40 rfl ?_
    repeat' (first | apply HL.fold | apply HA.fold | apply HL.nil | apply HX.n_then | apply HC.seq | apply HC.region | refine HL.pa ?_ | refine HL.ga rfl ?_ | refine HL.na rfl ?_ | refine HL.nu rfl rfl ?_ | apply HC.skip | apply HC.exit | apply HC.ret | apply HX.e_block | refine HX.e_other rfl ?_ | apply HX.e_then | apply HX.e_again | apply HX.n_block | apply HX.r_then | apply HX.r_block | apply HX.r_again | refine HC.cond_yes rfl ?_ | refine HC.cond_no rfl ?_ | refine HL.one (H1.ldb rfl memA rfl rfl ?_) | refine HC.cond rfl (fun hc => ?_) (fun hc => ?_) | refine HC.cond_b rfl (fun hc => ?_) (fun hc => ?_))
    refine HC.grow0 25 1 ?_
    refine HC.all0 ?_
    repeat' (first | apply HL.fold | apply HA.fold | apply HL.nil | apply HX.n_then | apply HC.seq | apply HC.region | refine HL.pa ?_ | refine HL.ga rfl ?_ | refine HL.na rfl ?_ | refine HL.nu rfl rfl ?_ | apply HC.block | apply HC.skip | apply HC.exit | apply HC.ret | apply HX.e_block | refine HX.e_other rfl ?_ | apply HX.e_then | apply HX.e_again | apply HX.n_block | apply HX.r_then | apply HX.r_block | apply HX.r_again | refine HC.cond_yes rfl ?_ | refine HC.cond_no rfl ?_ | refine HL.one (H1.ldb rfl memA rfl rfl ?_) | refine HC.cond rfl (fun hc => ?_) (fun hc => ?_) | refine HC.cond_b rfl (fun hc => ?_) (fun hc => ?_))
    refine HC.loop (α := Nat × List (List Nat) × (Option Addr × Nat) × List (Option Addr × Nat)) (fun z => [(0, .slice a l.length c), (1, zv ((n + 1 : Nat) : Int)), (5, .slice z.2.2.1.1 z.2.1.length z.2.2.1.2), (6, zv (z.1 : Int))])
      (fun z => [A.grow 25 1 z.2.2.1.1 z.2.2.1.2 z.2.1.length (rowV z.2.1 z.2.2.2), A.all (rowK z.2.1 z.2.2.2)]) (fun z => z.1 ≤ l.length ∧ z.2.1 ++ combs (l.drop z.1) (n + 1) = combs l (n + 1) ∧ z.2.2.2.length = z.2.1.length) (fun z => l.length - z.1) (0, [], (none, 0), []) ⟨Nat.zero_le _, rfl, rfl⟩ esA (by repeat (first | exact Hs.nil _ | (refine Hs.cons pickA ?_))) ?_
    rintro ⟨i, TT, ⟨ar, cr⟩, zs⟩ ⟨hi, hTT, hz⟩
    dsimp only at hi hTT hz ⊢
    by_cases hlt : i + (n + 1) ≤ l.length
    rotate_left
    · have h0 : combs (l.drop i) (n + 1) = [] := combs_short (by rw [List.length_drop]; omega)
      rw [h0, List.append_nil] at hTT
      subst hTT
      have hlt' : ¬ (i : Int) + ((n + 1 : Nat) : Int) ≤ (l.length : Int) := by omega
      repeat' (first | apply HL.fold | apply HA.fold | apply HL.nil | apply HX.n_then | apply HC.seq | apply HC.region | refine HL.pa ?_ | refine HL.ga rfl ?_ | refine HL.na rfl ?_ | refine HL.nu rfl rfl ?_ | apply HC.block | apply HC.skip | apply HC.exit | apply HC.ret | apply HX.e_block | refine HX.e_other rfl ?_ | apply HX.e_then | apply HX.e_again | apply HX.n_block | apply HX.r_then | apply HX.r_block | apply HX.r_again | refine HC.cond_yes rfl ?_ | refine HC.cond_no rfl ?_ | refine HL.one (H1.ldb rfl memA rfl rfl ?_) | refine HC.cond rfl (fun hc => ?_) (fun hc => ?_) | refine HC.cond_b rfl (fun hc => ?_) (fun hc => ?_))
      exact HX.ret1 rfl rfl fun w' hM => ⟨((ar, cr), zs), hz, rfl, hM⟩
    have hlt' : (i : Int) + ((n + 1 : Nat) : Int) ≤ (l.length : Int) := by omega
    have hi2 : i < l.length := by omega
    obtain ⟨bl, ol, c', e1, -, -, hcl⟩ := hR.at (by
      intro e
      have := congrArg List.length e
      rw [ints_len, natI_len] at this
      rw [this] at hi2; exact absurd hi2 (Nat.not_lt_zero _))
    rw [ints_len, natI_len] at e1
    cases e1
    have hxi := hcl i (zv (l[i] : Int)) (natI_get hi2)
    repeat' (first | apply HL.fold | apply HA.fold | apply HL.nil | apply HX.n_then | apply HC.seq | apply HC.region | refine HL.pa ?_ | refine HL.ga rfl ?_ | refine HL.na rfl ?_ | refine HL.nu rfl rfl ?_ | apply HC.block | apply HC.skip | apply HC.exit | apply HC.ret | apply HX.e_block | refine HX.e_other rfl ?_ | apply HX.e_then | apply HX.e_again | apply HX.n_block | apply HX.r_then | apply HX.r_block | apply HX.r_again | refine HC.cond_yes rfl ?_ | refine HC.cond_no rfl ?_ | refine HL.one (H1.ldb rfl memA rfl rfl ?_) | refine HC.cond rfl (fun hc => ?_) (fun hc => ?_) | refine HC.cond_b rfl (fun hc => ?_) (fun hc => ?_))
    refine HL.pa ?_ (POp.cut_from (m := i + 1) rfl rfl (by omega) (by omega))
    repeat' (first | apply HL.fold | apply HA.fold | apply HL.nil | apply HX.n_then | apply HC.seq | apply HC.region | refine HL.pa ?_ | refine HL.ga rfl ?_ | refine HL.na rfl ?_ | refine HL.nu rfl rfl ?_ | apply HC.block | apply HC.skip | apply HC.exit | apply HC.ret | apply HX.e_block | refine HX.e_other rfl ?_ | apply HX.e_then | apply HX.e_again | apply HX.n_block | apply HX.r_then | apply HX.r_block | apply HX.r_again | refine HC.cond_yes rfl ?_ | refine HC.cond_no rfl ?_ | refine HL.one (H1.ldb rfl memA rfl rfl ?_) | refine HC.cond rfl (fun hc => ?_) (fun hc => ?_) | refine HC.cond_b rfl (fun hc => ?_) (fun hc => ?_))
    rw [show ((n + 1 : Nat) : Int) - 1 = (n : Int) by omega]
    refine HL.one (H1.callz (α := (Option Addr × Nat) × List (Option Addr × Nat)) (I := fun z => z.2.length = (combs (l.drop (i + 1)) n).length) (V := fun z => .slice z.1.1 (combs (l.drop (i + 1)) n).length z.1.2) (Hn := fun z => [A.grow 25 1 z.1.1 z.1.2 (combs (l.drop (i + 1)) n).length (rowV (combs (l.drop (i + 1)) n) z.2), A.all (rowK (combs (l.drop (i + 1)) n) z.2)])
      (vs := [.slice (fromA (some ⟨bl, ol, none⟩) c (i + 1)) (l.length - (i + 1)) (c - (i + 1)), zv (n : Int)]) rfl rfl (fun w' hM => ih _ (l.drop (i + 1)) w' (by omega) (by rw [List.length_drop]; omega) (by
        rw [natI_drop]
        exact (hM.rd0 hR).from (by rw [ints_len, natI_len]; omega))) ?_)
    rintro ⟨⟨aR, cR⟩, zr⟩ hzr
    dsimp only [List.cons_append, List.nil_append] at hzr ⊢
    have hR512 : (combs (l.drop (i + 1)) n).length ≤ 512 := combs_9 n (by rw [List.length_drop]; omega)
    have hTT2 : (TT ++ (combs (l.drop (i + 1)) n).map (l[i] :: ·)) ++ combs (l.drop (i + 1)) (n + 1) = combs l (n + 1) := by
      rw [← hTT, combs_drop hi2 n, List.append_assoc]
    have hTTl : (TT ++ (combs (l.drop (i + 1)) n).map (l[i] :: ·)).length ≤ 512 := by
      have h1 := combs_9 (n + 1) hl
      rw [← hTT2, List.length_append] at h1
      omega
    have hRT : ∀ T ∈ combs (l.drop (i + 1)) n, T.length ≤ 9 := fun T hT => by
      have := (mem_combs.1 hT).1.length_le
      rw [List.length_drop] at this
      omega
    generalize combs (l.drop (i + 1)) n = R at *
    repeat' (first | apply HL.fold | apply HA.fold | apply HL.nil | apply HX.n_then | apply HC.seq | apply HC.region | refine HL.pa ?_ | refine HL.ga rfl ?_ | refine HL.na rfl ?_ | refine HL.nu rfl rfl ?_ | apply HC.block | apply HC.skip | apply HC.exit | apply HC.ret | apply HX.e_block | refine HX.e_other rfl ?_ | apply HX.e_then | apply HX.e_again | apply HX.n_block | apply HX.r_then | apply HX.r_block | apply HX.r_again | refine HC.cond_yes rfl ?_ | refine HC.cond_no rfl ?_ | refine HL.one (H1.ldb rfl memA rfl rfl ?_) | refine HC.cond rfl (fun hc => ?_) (fun hc => ?_) | refine HC.cond_b rfl (fun hc => ?_) (fun hc => ?_))
    refine HC.loop (α := Nat × List (List Nat) × (Option Addr × Nat) × List (Option Addr × Nat)) (fun z => [(0, .slice (some ⟨bl, ol, none⟩) l.length c), (1, zv ((n + 1 : Nat) : Int)), (5, .slice z.2.2.1.1 z.2.1.length z.2.2.1.2), (6, zv (i : Int)), (7, .slice aR R.length cR), (8, zv (z.1 : Int))])
      (fun z => [A.grow 25 1 z.2.2.1.1 z.2.2.1.2 z.2.1.length (rowV z.2.1 z.2.2.2), A.all (rowK z.2.1 z.2.2.2), A.grow 25 1 aR cR R.length (rowV R zr), A.all (rowK R zr)]) (fun z => z.1 ≤ R.length ∧ z.2.1 = TT ++ (R.take z.1).map (l[i] :: ·) ∧ z.2.2.2.length = z.2.1.length) (fun z => R.length - z.1) (0, TT, (ar, cr), zs) ⟨Nat.zero_le _, by simp, hz⟩ esA (by repeat (first | exact Hs.nil _ | (refine Hs.cons pickA ?_))) ?_
    rintro ⟨k, TU, ⟨aU, cU⟩, zu⟩ ⟨hk, hTU, hzu⟩
    dsimp only at hk hTU hzu ⊢
    by_cases hkR : k < R.length
    rotate_left
    · obtain rfl : k = R.length := by omega
      rw [List.take_length] at hTU
      repeat' (first | apply HL.fold | apply HA.fold | apply HL.nil | apply HX.n_then | apply HC.seq | apply HC.region | refine HL.pa ?_ | refine HL.ga rfl ?_ | refine HL.na rfl ?_ | refine HL.nu rfl rfl ?_ | apply HC.block | apply HC.skip | apply HC.exit | apply HC.ret | apply HX.e_block | refine HX.e_other rfl ?_ | apply HX.e_then | apply HX.e_again | apply HX.n_block | apply HX.r_then | apply HX.r_block | apply HX.r_again | refine HC.cond_yes rfl ?_ | refine HC.cond_no rfl ?_ | refine HL.one (H1.ldb rfl memA rfl rfl ?_) | refine HC.cond rfl (fun hc => ?_) (fun hc => ?_) | refine HC.cond_b rfl (fun hc => ?_) (fun hc => ?_))
      exact HX.again (i + 1, TU, (aU, cU), zu) ⟨by show i + 1 ≤ l.length; omega, by rw [hTU]; exact hTT2, hzu⟩ (by show l.length - (i + 1) < l.length - i; omega) esA (by repeat (first | exact Hs.nil _ | (refine Hs.cons pickA ?_)))
    refine HC.growAt (a := aR) (c := cR) (n := R.length) memA (by omega) fun bR eR => ?_
    subst eR
    obtain ⟨⟨az, cz⟩, hzv, hzk⟩ := rows_get hzr hkR
    have hT9 := hRT _ (List.getElem_mem hkR)
    have hTl : TU.length ≤ 512 := by
      rw [hTU, List.length_append, List.length_map, List.length_take]
      rw [List.length_append, List.length_map] at hTTl
      omega
    have hstep : TU ++ [l[i] :: R[k]] = TT ++ (R.take (k + 1)).map (l[i] :: ·) := by
      rw [hTU, List.take_succ_eq_append_getElem hkR, List.map_append, List.append_assoc]; rfl
    generalize hRk : R[k] = T at *
    dsimp only at hzv hzk
    repeat' (first | apply HL.fold | apply HA.fold | apply HL.nil | apply HX.n_then | apply HC.seq | apply HC.region | refine HL.pa ?_ | refine HL.ga rfl ?_ | refine HL.na rfl ?_ | refine HL.nu rfl rfl ?_ | apply HC.block | apply HC.skip | apply HC.exit | apply HC.ret | apply HX.e_block | refine HX.e_other rfl ?_ | apply HX.e_then | apply HX.e_again | apply HX.n_block | apply HX.r_then | apply HX.r_block | apply HX.r_again | refine HC.cond_yes rfl ?_ | refine HC.cond_no rfl ?_ | refine HL.one (H1.ldb rfl memA rfl rfl ?_) | refine HC.cond rfl (fun hc => ?_) (fun hc => ?_) | refine HC.cond_b rfl (fun hc => ?_) (fun hc => ?_))
    refine HC.anyC ([(⟨bl, ol + i, none⟩, zv (l[i] : Int)), (⟨bR, k, none⟩, .slice az T.length cz)]) rfl ?_
    refine HB.pa 0 rfl ?_
    refine HB.pa 1 rfl ?_
    refine HB.pa 2 rfl ?_
    refine HB.pa 3 rfl ?_
    refine HB.ld 4 rfl rfl memD ?_
    refine HB.pa 6 rfl ?_
    refine HB.pa 7 rfl ?_
    refine HB.pa 8 rfl ?_
    refine HB.ld 9 rfl rfl memD ?_
    refine HB.all (by exact Keep.base hxi (Keep.grow memA hzv Keep.nil)) [5] (by kernel_rfl) rfl ⟨⟨_, rfl, ?_⟩, trivial⟩
    refine HP.one ?_
    refine H1.lit (cs := [zv (l[i] : Int)]) rfl rfl rfl rfl rfl rfl (fun b5 => ?_)
    apply HB.fold
    refine HB.all (by exact Keep.base hxi (Keep.grow memA hzv Keep.nil)) [10] (by kernel_rfl) rfl ⟨⟨_, rfl, ?_⟩, trivial⟩
    refine HP.one ?_
    refine H1.conv (H2 := [A.grow 3 1 (some ⟨b5, 0, none⟩) 1 1 [zv (l[i] : Int)], A.grow 25 1 aU cU TU.length (rowV TU zu), A.all (rowK TU zu), A.grow 25 1 (some ⟨bR, 0, none⟩) cR R.length (rowV R zr), A.all (rowK R zr)]) (fun w hM => hM.blkGrow (cs := [zv (l[i] : Int)]) Rpl.here (by simp)) ?_
    refine H1.appR (n := 1) (vs := ints (natI T)) rfl rfl (by rw [ints_len, natI_len]; rfl) (fun _ _ => by first | ((repeat (first | with_reducible exact Rpl.here | with_reducible apply Rpl.there)); done) | (repeat (first | exact Rpl.here | apply Rpl.there))) (fun w hM => by rw [ints_len, natI_len]; exact hM.rowRd (TT := R) (zs := zr) (z := (az, cz)) memA hzk) (ints_one _) (by rw [ints_len, natI_len]; omega) (by decide) rfl (.inr ⟨_, rfl⟩) (fun a2 c2 ha2 => ?_)
    rw [show 1 + (ints (natI T)).length = (l[i] :: T).length by rw [ints_len, natI_len, List.length_cons]; omega, show [zv (l[i] : Int)] ++ ints (natI T) = ints (natI (l[i] :: T)) from rfl]
    apply HB.fold
    refine HB.all (by exact Keep.base hxi (Keep.grow memA hzv Keep.nil)) [11] (by kernel_rfl) rfl ⟨⟨_, rfl, ?_⟩, trivial⟩
    refine HP.one ?_
    refine H1.lit (cs := [.slice a2 (l[i] :: T).length c2]) rfl rfl rfl rfl rfl rfl (fun b11 => ?_)
    apply HB.fold
    refine HB.all (by exact Keep.base hxi (Keep.grow memA hzv Keep.nil)) [12] (by kernel_rfl) rfl ⟨⟨_, rfl, ?_⟩, trivial⟩
    refine HP.one ?_
    refine H1.app1 (u := .slice a2 (l[i] :: T).length c2) rfl rfl (fun _ _ => by first | ((repeat (first | with_reducible exact Rpl.here | with_reducible apply Rpl.there)); done) | (repeat (first | exact Rpl.here | apply Rpl.there))) (by repeat (first | exact mem_hd | apply mem_tl)) rfl rfl (by omega) rfl rfl (fun a4 c4 => ?_)
    apply HB.fold
    refine HB.pa 13 rfl ?_
    refine HB.done (by exact Keep.base hxi (Keep.grow memA hzv Keep.nil)) (by kernel_rfl) ?_
    repeat' (first | apply HL.fold | apply HA.fold | apply HL.nil | apply HX.n_then | apply HC.seq | apply HC.region | refine HL.pa ?_ | refine HL.ga rfl ?_ | refine HL.na rfl ?_ | refine HL.nu rfl rfl ?_ | apply HC.block | apply HC.skip | apply HC.exit | apply HC.ret | apply HX.e_block | refine HX.e_other rfl ?_ | apply HX.e_then | apply HX.e_again | apply HX.n_block | apply HX.r_then | apply HX.r_block | apply HX.r_again | refine HC.cond_yes rfl ?_ | refine HC.cond_no rfl ?_ | refine HL.one (H1.ldb rfl memA rfl rfl ?_) | refine HC.cond rfl (fun hc => ?_) (fun hc => ?_) | refine HC.cond_b rfl (fun hc => ?_) (fun hc => ?_))
    refine HX.conv (H2 := [A.all (rowK (TU ++ [l[i] :: T]) (zu ++ [(a2, c2)])), A.grow 25 1 (some ⟨a4, 0, none⟩) c4 (TU.length + 1) (rowV TU zu ++ [.slice a2 (l[i] :: T).length c2]), A.grow 25 1 (some ⟨bR, 0, none⟩) cR R.length (rowV R zr), A.all (rowK R zr)]) (fun w hM => ?_) ?_
    · rw [rowK_app hzu]
      exact Mm.allAdd (hM.sub (by repeat (first | exact Hs.nil _ | (refine Hs.cons pickA ?_))))
    refine HX.again (k + 1, TU ++ [l[i] :: T], (some ⟨a4, 0, none⟩, c4), zu ++ [(a2, c2)]) ⟨by show k + 1 ≤ R.length; omega, hstep, by show (zu ++ [(a2, c2)]).length = (TU ++ [l[i] :: T]).length; rw [List.length_append, List.length_append, hzu]; rfl⟩ (by show R.length - (k + 1) < R.length - k; omega) (by dsimp only; rw [List.length_append]; repeat (first | exact trivial | refine ⟨rfl, ?_⟩)) ?_
    dsimp only
    rw [rowV_app hzu, List.length_append]
    repeat (first | exact Hs.nil _ | (refine Hs.cons pickA ?_))
end Go.Sx

