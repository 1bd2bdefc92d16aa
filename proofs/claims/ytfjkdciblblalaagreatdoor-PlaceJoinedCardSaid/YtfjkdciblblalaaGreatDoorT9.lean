/- Chapter 18: Check. -/
import Derived.Test.YtfjkdciblblalaaGreatDoorT8
namespace Go.Sx
open Go Go.Proofs Go.RowKit
/-- A proposition, among the atoms. -/
def A.pure (p : Prop) : Atom := ⟨[], fun _ => p, fun _ _ _ _ h => h⟩
theorem Mm.pureI {w0 w : World} {H : List Atom} {p : Prop} (h : Mm w0 H w) (hp : p) : Mm w0 (A.pure p :: H) w := h.cons hp (by simp [A.pure]) (by simp [A.pure])
theorem Mm.pureE {w0 w : World} {H : List Atom} {p : Prop} (h : Mm w0 H w) (hm : A.pure p ∈ H) : p := h.all _ hm
theorem srt_pw0 (l : List Int) : (srt l).Pairwise (· ≤ ·) := by
  unfold srt
  have := List.pairwise_mergeSort (le := fun x y : Int => decide (x ≤ y)) (by intro a b c h1 h2; simp only [decide_eq_true_eq] at *; omega) (by intro a b; simp only [Bool.or_eq_true, decide_eq_true_eq]; omega) l
  exact this.imp fun {_ _} h => by simpa using h
theorem srt_perm0 (l : List Int) : (srt l).Perm l := by unfold srt; exact List.mergeSort_perm l _
theorem srt_len0 (l : List Int) : (srt l).length = l.length := (srt_perm0 l).length_eq
theorem srt_lt {l : List Int} (h : l.Nodup) : (srt l).Pairwise (· < ·) := by
  have h1 := srt_pw0 l
  have h2 : (srt l).Nodup := (srt_perm0 l).nodup_iff.2 h
  exact (h1.and h2).imp fun {a b} ⟨h3, h4⟩ => by omega
theorem hold_lt {l : List Int} (h : l.Nodup) (h0 : ∀ x ∈ l, 0 ≤ x) : (hold l).Pairwise (· < ·) := by
  unfold hold
  rw [List.pairwise_map]
  refine (srt_lt h).imp_of_mem fun {a b} ha hb hab => ?_
  have := h0 a ((srt_perm0 l).mem_iff.1 ha)
  omega
theorem hold_natI {l : List Int} (h0 : ∀ x ∈ l, 0 ≤ x) : natI (hold l) = srt l := by
  unfold natI hold
  rw [List.map_map]
  conv => rhs; rw [← List.map_id (srt l)]
  refine List.map_congr_left fun x hx => ?_
  have := h0 x ((srt_perm0 l).mem_iff.1 hx)
  show ((x.toNat : Nat) : Int) = x
  omega
theorem hold_len (l : List Int) : (hold l).length = l.length := by unfold hold; rw [List.length_map, srt_len0]
theorem hold_mem {l : List Int} {i : Nat} (h0 : ∀ x ∈ l, 0 ≤ x) : i ∈ hold l ↔ (i : Int) ∈ l := by
  unfold hold
  rw [List.mem_map]
  constructor
  · rintro ⟨x, hx, rfl⟩
    have h1 := (srt_perm0 l).mem_iff.1 hx
    have := h0 x h1
    rwa [Int.toNat_of_nonneg this]
  · intro h
    exact ⟨i, (srt_perm0 l).mem_iff.2 h, by simp⟩
theorem goodP.mem0 {S : List St} {d : Di} {H : List Int} {k : Int} (h : goodP S d H k) : ∀ x ∈ H, 0 ≤ x := fun x hx => (h.2.2.1 x hx).1
theorem goodP.lt {S : List St} {d : Di} {H : List Int} {k : Int} (h : goodP S d H k) : ∀ i ∈ hold H, i < S.length := fun i hi => by
  have := h.2.2.1 _ ((hold_mem h.mem0).1 hi)
  omega
theorem goodP.asc {S : List St} {d : Di} {H : List Int} {k : Int} (h : goodP S d H k) : (hold H).Pairwise (· < ·) := hold_lt h.2.2.2 h.mem0
theorem goodP.len {S : List St} {d : Di} {H : List Int} {k : Int} (h : goodP S d H k) : H.length ≤ S.length := by
  rw [← hold_len]
  have h1 : hold H = (List.range S.length).filter fun i => decide (i ∈ hold H) := asc_ext h.asc ((List.pairwise_lt_range).filter _) fun x => by
    rw [List.mem_filter, List.mem_range, decide_eq_true_eq]
    exact ⟨fun hx => ⟨h.lt x hx, hx⟩, fun hx => hx.2⟩
  rw [h1]
  have := List.length_filter_le (fun i => decide (i ∈ hold H)) (List.range S.length)
  rwa [List.length_range] at this
/-- As long after Compact as ahead: no two are equal. -/
theorem compact_nodup {l : List Int} : (Lib.compact (srt l)).length = (srt l).length ↔ l.Nodup := by
  have hp := srt_pw0 l
  rw [← (srt_perm0 l).nodup_iff]
  generalize srt l = m at hp
  have hle : (Lib.compact m).length = ((List.range m.length).filter (Lib.keeps m.toArray)).length := by simp [Lib.compact, Lib.compactUpTo]
  constructor
  · intro h
    rw [hle, ← List.length_range (n := m.length)] at h
    rw [List.length_range] at h
    have hall : ∀ j, j < m.length → Lib.keeps m.toArray j = true := fun j hj => by
      have h2 := List.length_filter_eq_length_iff (p := Lib.keeps m.toArray) (l := List.range m.length)
      rw [List.length_range] at h2
      exact h2.1 h j (List.mem_range.2 hj)
    have hlt : ∀ j (hj : j + 1 < m.length), m[j] < m[j + 1] := fun j hj => by
      have h3 := hall (j + 1) hj
      unfold Lib.keeps at h3
      rw [decide_eq_true_eq] at h3
      have h4 := List.pairwise_iff_getElem.1 hp j (j + 1) (by omega) hj (by omega)
      rcases h3 with h3 | h3
      · omega
      · have : m[j] ≠ m[j + 1] := by
          intro e; apply h3
          have h5 : j < m.length := by omega
          simp [hj, h5, e]
        omega
    have hst : ∀ d j (hj : j + d + 1 < m.length), m[j] < m[j + d + 1] := by
      intro d
      induction d with
      | zero => intro j hj; exact hlt j hj
      | succ d ih =>
        intro j hj
        exact Int.lt_trans (ih j (by omega)) (hlt (j + d + 1) hj)
    refine List.pairwise_iff_getElem.2 fun i j hi hj hij => ?_
    obtain ⟨d, rfl⟩ : ∃ d, j = i + d + 1 := ⟨j - i - 1, by omega⟩
    exact Int.ne_of_lt (hst d i hj)
  · intro h
    rw [Lib.compact_all]
    intro j hj
    unfold Lib.keeps
    rw [decide_eq_true_eq]
    by_cases h0 : j = 0
    · exact .inl h0
    · right
      have h1 := List.pairwise_iff_getElem.1 h (j - 1) j (by omega) hj (by omega)
      have h2 : j - 1 < m.length := by omega
      simp only [List.getElem!_toArray, List.getElem!_eq_getElem?_getD, List.getElem?_eq_getElem hj, List.getElem?_eq_getElem h2, Option.getD_some]
      exact fun e => h1 e.symm
theorem rpl_same {x : Atom} {H H' : List Atom} (h : Rpl x x H H') : H = H' := by
  generalize hy : x = y at h
  induction h with
  | here => rfl
  | there _ ih => rw [ih]
theorem sort_fn {w0 w : World} {H H' : List Atom} {a : Option Addr} {c : Nat} {l : List Int} (hM : Mm w0 H w) (hr : Rpl (A.grow 3 1 a c l.length (ints l)) (A.grow 3 1 a c l.length (ints (srt l))) H H') (ha : l.length = 0 ∨ ∃ b, a = some ⟨b, 0, none⟩) (hl : l.length ≤ 1000000) :
    Fn Tryz.prog 41 #[.slice a l.length c] w fun v w' => v = .tuple #[] ∧ Mm w0 H' w' := by
  by_cases h0 : l = []
  · subst h0
    refine Calls.mono (Tryz.slices_Sort_int_none a c w) ?_
    rintro e w' ⟨rfl, rfl⟩
    have hs : srt [] = [] := by simp [srt]
    rw [hs] at hr
    exact ⟨_, rfl, rfl, rpl_same hr ▸ hM⟩
  · rcases ha with ha | ⟨b, rfl⟩
    · exact absurd (List.eq_nil_of_length_eq_zero ha) h0
    · exact sort_own hM hr hl
theorem compact_fn {w0 w : World} {H : List Atom} {b c : Nat} {l : List Int} (hM : Mm w0 (A.grow 3 1 (some ⟨b, 0, none⟩) c l.length (ints l) :: H) w) (hl : l.length ≤ 1000000) :
    Fn Tryz.prog 43 #[.slice (some ⟨b, 0, none⟩) l.length c] w fun v w' => v = .slice (some ⟨b, 0, none⟩) (Lib.compact l).length c ∧ Mm w0 H w' := by
  have hown := hM.own (.head _)
  rcases hown.2 with ⟨hv, -⟩ | ⟨g, cap, cur, hv, -, hg, hnc, hcm, hcs, htake⟩
  · cases hv
  cases hv
  have hcell : ∀ j, j < l.length → w.cell? ⟨b, j, none⟩ = some (zv (at' l j)) := fun j hj => ownsRow_cell hown (ints_get hj)
  refine Calls.mono (Tryz.slices_Compact_int b 0 c l w (fun j hj => ?_) (by omega) hnc) ?_
  · have hj' : j < l.length := by simpa using hj
    rw [Nat.zero_add, hcell j hj']
    refine ⟨?_, by simp [World.frozen?, hg]⟩
    simp [at', hj', zv, getElem!_pos]
  · rintro e w' ⟨rfl, q, rfl⟩
    refine ⟨_, rfl, rfl, ?_⟩
    have := hM.turn (a' := A.obj b fun _ => True) (w' := Go.Sort.putRow (Value.int .i64) (Go.Sort.ahead w q) b 0 (Lib.compact l ++ List.replicate (l.length - (Lib.compact l).length) 0).toArray) Rpl.here rfl rfl rfl (by simp [Go.Sort.putRow, Go.Sort.mapBlock, Go.Sort.ahead]) (fun k hk hkb => ?_) ?_ (by simp [A.obj]) (fun b' hb' => .inl (by simpa [A.grow, A.obj, Value.ownBlock] using hb'))
    · exact this.tail
    · have hkb' : ¬ b = k := fun e => hkb (by subst e; simp [A.grow, Value.ownBlock])
      show (w.heap.modify b _)[k]? = _
      rw [Array.getElem?_modify, if_neg hkb']
    · have hlt := (Array.getElem?_eq_some_iff.1 hg).1
      have hs : b < (Go.Sort.putRow (Value.int .i64) (Go.Sort.ahead w q) b 0 (Lib.compact l ++ List.replicate (l.length - (Lib.compact l).length) 0).toArray).heap.size := by simp [Go.Sort.putRow, Go.Sort.mapBlock, Go.Sort.ahead]; exact hlt
      exact ⟨_, Array.getElem?_eq_getElem hs, trivial⟩
attribute [local irreducible] WC WL WX POp Then Again Fn NX W1 WA WO QL RP RA Yld LoopAt HC HL HX HN H1 HA HO HQ HB HP A.blk A.grow A.rd A.obj A.mp AgainH CutH
attribute [local irreducible] A.mq A.mit A.dfrs A.loop mapsA A.land A.pure
theorem check1_fn (x : Int) (a : Addr) (ad : Option Addr) (n c : Nat) (w : World) (hc : w.cell? a = some (.slice ad n c)) (hn : n ≤ 1000000) : Fn Tryz.prog 38 #[zv x, .pointer (some a)] w fun v w' => v = .bool (decide (¬ (0 ≤ x ∧ x ≤ (n : Int) - 1))) ∧ Ext w w' := by
  refine enterH (l := [_, _]) rfl Tryz.ntmps38 rfl ?_
  repeat' (first | apply HL.fold | apply HA.fold | apply HL.nil | apply HX.n_then | apply HC.seq | apply HC.region | refine HL.pa ?_ | refine HL.ga rfl ?_ | refine HL.na rfl ?_ | refine HL.nu rfl rfl ?_ | apply HC.block | apply HC.skip | apply HC.exit | apply HC.ret | apply HX.e_block | refine HX.e_other rfl ?_ | apply HX.e_then | apply HX.e_again | apply HX.n_block | apply HX.r_then | apply HX.r_block | apply HX.r_again | refine HC.cond_yes rfl ?_ | refine HC.cond_no rfl ?_ | refine HL.one (H1.ldb rfl memA rfl rfl ?_) | refine HC.cond rfl (fun hc => ?_) (fun hc => ?_) | refine HC.cond_b rfl (fun hc => ?_) (fun hc => ?_))
  refine HL.one (H1.ld0 rfl hc rfl ?_)
  repeat' (first | apply HL.fold | apply HA.fold | apply HL.nil | apply HX.n_then | apply HC.seq | apply HC.region | refine HL.pa ?_ | refine HL.ga rfl ?_ | refine HL.na rfl ?_ | refine HL.nu rfl rfl ?_ | apply HC.block | apply HC.skip | apply HC.exit | apply HC.ret | apply HX.e_block | refine HX.e_other rfl ?_ | apply HX.e_then | apply HX.e_again | apply HX.n_block | apply HX.r_then | apply HX.r_block | apply HX.r_again | refine HC.cond_yes rfl ?_ | refine HC.cond_no rfl ?_ | refine HL.one (H1.ldb rfl memA rfl rfl ?_) | refine HC.cond rfl (fun hc => ?_) (fun hc => ?_) | refine HC.cond_b rfl (fun hc => ?_) (fun hc => ?_))
  refine HL.one (H1.call0 (vs := [zv x, zv 0, zv ((n : Int) - 1)]) rfl rfl (fun w' _ => pwithin_fn _ _ _ w') ?_)
  repeat' (first | apply HL.fold | apply HA.fold | apply HL.nil | apply HX.n_then | apply HC.seq | apply HC.region | refine HL.pa ?_ | refine HL.ga rfl ?_ | refine HL.na rfl ?_ | refine HL.nu rfl rfl ?_ | apply HC.block | apply HC.skip | apply HC.exit | apply HC.ret | apply HX.e_block | refine HX.e_other rfl ?_ | apply HX.e_then | apply HX.e_again | apply HX.n_block | apply HX.r_then | apply HX.r_block | apply HX.r_again | refine HC.cond_yes rfl ?_ | refine HC.cond_no rfl ?_ | refine HL.one (H1.ldb rfl memA rfl rfl ?_) | refine HC.cond rfl (fun hc => ?_) (fun hc => ?_) | refine HC.cond_b rfl (fun hc => ?_) (fun hc => ?_))
  exact HX.ret1 rfl rfl fun w' hM => ⟨rfl, hM.ext⟩
theorem any_out (S : List St) (H : List Int) : ((srt H).any fun x => decide (¬ (0 ≤ x ∧ x ≤ (S.length : Int) - 1))) = false ↔ ∀ x ∈ H, 0 ≤ x ∧ x < S.length := by
  rw [List.any_eq_false]
  constructor
  · intro h x hx
    have := h x ((srt_perm0 H).mem_iff.2 hx)
    rw [decide_eq_true_eq, Decidable.not_not] at this
    omega
  · intro h x hx
    have := h x ((srt_perm0 H).mem_iff.1 hx)
    rw [decide_eq_true_eq, Decidable.not_not]
    omega
set_option maxHeartbeats 2000000 in
theorem check_fn (v : Value) (S : List St) (d : Di) (u : Value) (H : List Int) (k : Int) (hS : S.length ≤ 100000) (hH : H.length ≤ 100000) (w : World) (hT : RdS w v S) (hR : Rd w u (ints H)) :
    Fn Tryz.prog 14 #[v, .agg d.cells.toArray, u, zv k] w fun x w' => ∃ z : Option Addr × Nat, True ∧ x = .tuple #[.slice z.1 (chk S d H k).1.length z.2, .bool (chk S d H k).2] ∧ Mm w [A.grow 3 1 z.1 z.2 (chk S d H k).1.length (ints (natI (chk S d H k).1))] w' := by
  obtain ⟨a, c, rfl, hc⟩ := hT.shape
  obtain ⟨aH, cH, rfl, hcH⟩ := hR.isInts
  refine enterN (l := [_, _, _, _]) (Mm.refl w) rfl Tryz.ntmps14 rfl ?_
  refine HC.dfrs0 ?_
  repeat' (first | apply HL.fold | apply HA.fold | apply HL.nil | apply HX.n_then | apply HC.seq | apply HC.region | refine HL.pa ?_ | refine HL.ga rfl ?_ | refine HL.na rfl ?_ | refine HL.nu rfl rfl ?_ | apply HC.block | apply HC.skip | apply HC.exit | apply HC.ret | apply HX.e_block | refine HX.e_other rfl ?_ | apply HX.e_then | apply HX.e_again | apply HX.n_block | apply HX.r_then | apply HX.r_block | apply HX.r_again | refine HC.cond_yes rfl ?_ | refine HC.cond_no rfl ?_ | refine HL.one (H1.ldb rfl memA rfl rfl ?_) | refine HC.cond rfl (fun hc => ?_) (fun hc => ?_) | refine HC.cond_b rfl (fun hc => ?_) (fun hc => ?_))
  refine HL.one (H1.box rfl rfl rfl (fun b4 => ?_))
  repeat' (first | apply HL.fold | apply HA.fold | apply HL.nil | apply HX.n_then | apply HC.seq | apply HC.region | refine HL.pa ?_ | refine HL.ga rfl ?_ | refine HL.na rfl ?_ | refine HL.nu rfl rfl ?_ | apply HC.block | apply HC.skip | apply HC.exit | apply HC.ret | apply HX.e_block | refine HX.e_other rfl ?_ | apply HX.e_then | apply HX.e_again | apply HX.n_block | apply HX.r_then | apply HX.r_block | apply HX.r_again | refine HC.cond_yes rfl ?_ | refine HC.cond_no rfl ?_ | refine HL.one (H1.ldb rfl memA rfl rfl ?_) | refine HC.cond rfl (fun hc => ?_) (fun hc => ?_) | refine HC.cond_b rfl (fun hc => ?_) (fun hc => ?_))
  refine HL.one (H1.boxAgg (cs := d.cells) rfl rfl (fun b5 => ?_))
  repeat' (first | apply HL.fold | apply HA.fold | apply HL.nil | apply HX.n_then | apply HC.seq | apply HC.region | refine HL.pa ?_ | refine HL.ga rfl ?_ | refine HL.na rfl ?_ | refine HL.nu rfl rfl ?_ | apply HC.block | apply HC.skip | apply HC.exit | apply HC.ret | apply HX.e_block | refine HX.e_other rfl ?_ | apply HX.e_then | apply HX.e_again | apply HX.n_block | apply HX.r_then | apply HX.r_block | apply HX.r_again | refine HC.cond_yes rfl ?_ | refine HC.cond_no rfl ?_ | refine HL.one (H1.ldb rfl memA rfl rfl ?_) | refine HC.cond rfl (fun hc => ?_) (fun hc => ?_) | refine HC.cond_b rfl (fun hc => ?_) (fun hc => ?_))
  refine HL.one (H1.alloc (cs := [.slice none 0 0]) rfl rfl (fun b8 => ?_))
  repeat' (first | apply HL.fold | apply HA.fold | apply HL.nil | apply HX.n_then | apply HC.seq | apply HC.region | refine HL.pa ?_ | refine HL.ga rfl ?_ | refine HL.na rfl ?_ | refine HL.nu rfl rfl ?_ | apply HC.block | apply HC.skip | apply HC.exit | apply HC.ret | apply HX.e_block | refine HX.e_other rfl ?_ | apply HX.e_then | apply HX.e_again | apply HX.n_block | apply HX.r_then | apply HX.r_block | apply HX.r_again | refine HC.cond_yes rfl ?_ | refine HC.cond_no rfl ?_ | refine HL.one (H1.ldb rfl memA rfl rfl ?_) | refine HC.cond rfl (fun hc => ?_) (fun hc => ?_) | refine HC.cond_b rfl (fun hc => ?_) (fun hc => ?_))
  refine HL.one (H1.alloc (cs := [.bool false]) rfl rfl (fun b9 => ?_))
  repeat' (first | apply HL.fold | apply HA.fold | apply HL.nil | apply HX.n_then | apply HC.seq | apply HC.region | refine HL.pa ?_ | refine HL.ga rfl ?_ | refine HL.na rfl ?_ | refine HL.nu rfl rfl ?_ | apply HC.block | apply HC.skip | apply HC.exit | apply HC.ret | apply HX.e_block | refine HX.e_other rfl ?_ | apply HX.e_then | apply HX.e_again | apply HX.n_block | apply HX.r_then | apply HX.r_block | apply HX.r_again | refine HC.cond_yes rfl ?_ | refine HC.cond_no rfl ?_ | refine HL.one (H1.ldb rfl memA rfl rfl ?_) | refine HC.cond rfl (fun hc => ?_) (fun hc => ?_) | refine HC.cond_b rfl (fun hc => ?_) (fun hc => ?_))
  refine HL.one (H1.callz1 (vs := [.slice aH H.length cH]) rfl rfl (fun w' hM => clone_fn _ H (by omega) w' (hM.rd0 hR)) ?_)
  rintro ⟨ac, cc⟩ hac
  dsimp only at hac ⊢
  repeat' (first | apply HL.fold | apply HA.fold | apply HL.nil | apply HX.n_then | apply HC.seq | apply HC.region | refine HL.pa ?_ | refine HL.ga rfl ?_ | refine HL.na rfl ?_ | refine HL.nu rfl rfl ?_ | apply HC.block | apply HC.skip | apply HC.exit | apply HC.ret | apply HX.e_block | refine HX.e_other rfl ?_ | apply HX.e_then | apply HX.e_again | apply HX.n_block | apply HX.r_then | apply HX.r_block | apply HX.r_again | refine HC.cond_yes rfl ?_ | refine HC.cond_no rfl ?_ | refine HL.one (H1.ldb rfl memA rfl rfl ?_) | refine HC.cond rfl (fun hc => ?_) (fun hc => ?_) | refine HC.cond_b rfl (fun hc => ?_) (fun hc => ?_))
  refine HL.one (H1.callm (α := Unit) (V := fun _ => .tuple #[]) (I := fun _ => True) (vs := [.slice ac H.length cc]) (H' := fun _ => [A.grow 3 1 ac cc H.length (ints (srt H)), A.blk b9 [.bool false] 4, A.blk b8 [.slice none 0 0] 23, A.blk b5 d.cells 48, A.blk b4 [.slice a S.length c] 46, A.dfrs []]) rfl rfl (fun w' hM => ?_) ?_)
  · refine (sort_fn hM Rpl.here hac (by omega)).mono fun v w'' ⟨h1, h2⟩ => ⟨(), trivial, h1, h2⟩
  rintro - -
  repeat' (first | apply HL.fold | apply HA.fold | apply HL.nil | apply HX.n_then | apply HC.seq | apply HC.region | refine HL.pa ?_ | refine HL.ga rfl ?_ | refine HL.na rfl ?_ | refine HL.nu rfl rfl ?_ | apply HC.block | apply HC.skip | apply HC.exit | apply HC.ret | apply HX.e_block | refine HX.e_other rfl ?_ | apply HX.e_then | apply HX.e_again | apply HX.n_block | apply HX.r_then | apply HX.r_block | apply HX.r_again | refine HC.cond_yes rfl ?_ | refine HC.cond_no rfl ?_ | refine HL.one (H1.ldb rfl memA rfl rfl ?_) | refine HC.cond rfl (fun hc => ?_) (fun hc => ?_) | refine HC.cond_b rfl (fun hc => ?_) (fun hc => ?_))
  refine HL.one (H1.ldAgg (vs := d.cells) rfl memA rfl (fun i v hv => by rw [Nat.zero_add]; exact hv) rfl ?_)
  repeat' (first | apply HL.fold | apply HA.fold | apply HL.nil | apply HX.n_then | apply HC.seq | apply HC.region | refine HL.pa ?_ | refine HL.ga rfl ?_ | refine HL.na rfl ?_ | refine HL.nu rfl rfl ?_ | apply HC.block | apply HC.skip | apply HC.exit | apply HC.ret | apply HX.e_block | refine HX.e_other rfl ?_ | apply HX.e_then | apply HX.e_again | apply HX.n_block | apply HX.r_then | apply HX.r_block | apply HX.r_again | refine HC.cond_yes rfl ?_ | refine HC.cond_no rfl ?_ | refine HL.one (H1.ldb rfl memA rfl rfl ?_) | refine HC.cond rfl (fun hc => ?_) (fun hc => ?_) | refine HC.cond_b rfl (fun hc => ?_) (fun hc => ?_))
  refine HL.one (H1.callx (vs := [.slice a S.length c, .agg d.cells.toArray]) rfl rfl (fun w' hM => pvalid_fn _ S d (by omega) w' (hT.ext hM.ext)) ?_)
  cases hv : pvalid S d with
  | false =>
    have hbad : ¬ goodP S d H k := fun h => by have := h.1; rw [hv] at this; cases this
    repeat' (first | apply HL.fold | apply HA.fold | apply HL.nil | apply HX.n_then | apply HC.seq | apply HC.region | refine HL.pa ?_ | refine HL.ga rfl ?_ | refine HL.na rfl ?_ | refine HL.nu rfl rfl ?_ | apply HC.block | apply HC.skip | apply HC.exit | apply HC.ret | apply HX.e_block | refine HX.e_other rfl ?_ | apply HX.e_then | apply HX.e_again | apply HX.n_block | apply HX.r_then | apply HX.r_block | apply HX.r_again | refine HC.cond_yes rfl ?_ | refine HC.cond_no rfl ?_ | refine HL.one (H1.ldb rfl memA rfl rfl ?_) | refine HC.cond rfl (fun hc => ?_) (fun hc => ?_) | refine HC.cond_b rfl (fun hc => ?_) (fun hc => ?_))
    refine HL.one (H1.st rfl rfl (by intro _ h; cases h) (by intro _ h; cases h) rplA (by decide) ?_)
    repeat' (first | apply HL.fold | apply HA.fold | apply HL.nil | apply HX.n_then | apply HC.seq | apply HC.region | refine HL.pa ?_ | refine HL.ga rfl ?_ | refine HL.na rfl ?_ | refine HL.nu rfl rfl ?_ | apply HC.block | apply HC.skip | apply HC.exit | apply HC.ret | apply HX.e_block | refine HX.e_other rfl ?_ | apply HX.e_then | apply HX.e_again | apply HX.n_block | apply HX.r_then | apply HX.r_block | apply HX.r_again | refine HC.cond_yes rfl ?_ | refine HC.cond_no rfl ?_ | refine HL.one (H1.ldb rfl memA rfl rfl ?_) | refine HC.cond rfl (fun hc => ?_) (fun hc => ?_) | refine HC.cond_b rfl (fun hc => ?_) (fun hc => ?_))
    refine HL.one (H1.st rfl rfl (by intro _ h; cases h) (by intro _ h; cases h) rplA (by decide) ?_)
    repeat' (first | apply HL.fold | apply HA.fold | apply HL.nil | apply HX.n_then | apply HC.seq | apply HC.region | refine HL.pa ?_ | refine HL.ga rfl ?_ | refine HL.na rfl ?_ | refine HL.nu rfl rfl ?_ | apply HC.block | apply HC.skip | apply HC.exit | apply HC.ret | apply HX.e_block | refine HX.e_other rfl ?_ | apply HX.e_then | apply HX.e_again | apply HX.n_block | apply HX.r_then | apply HX.r_block | apply HX.r_again | refine HC.cond_yes rfl ?_ | refine HC.cond_no rfl ?_ | refine HL.one (H1.ldb rfl memA rfl rfl ?_) | refine HC.cond rfl (fun hc => ?_) (fun hc => ?_) | refine HC.cond_b rfl (fun hc => ?_) (fun hc => ?_))
    exact HX.retMsC2 (Ds := []) rfl rfl rfl (by repeat (first | exact Pick.here | apply Pick.there)) memA memA fun w' hM => ⟨(none, 0), trivial, by rw [chk_bad hbad]; rfl, by rw [chk_bad hbad]; exact (hM.sub (Hs.nil _)).grow0 _ _⟩
  | true =>
  repeat' (first | apply HL.fold | apply HA.fold | apply HL.nil | apply HX.n_then | apply HC.seq | apply HC.region | refine HL.pa ?_ | refine HL.ga rfl ?_ | refine HL.na rfl ?_ | refine HL.nu rfl rfl ?_ | apply HC.block | apply HC.skip | apply HC.exit | apply HC.ret | apply HX.e_block | refine HX.e_other rfl ?_ | apply HX.e_then | apply HX.e_again | apply HX.n_block | apply HX.r_then | apply HX.r_block | apply HX.r_again | refine HC.cond_yes rfl ?_ | refine HC.cond_no rfl ?_ | refine HL.one (H1.ldb rfl memA rfl rfl ?_) | refine HC.cond rfl (fun hc => ?_) (fun hc => ?_) | refine HC.cond_b rfl (fun hc => ?_) (fun hc => ?_))
  refine HL.one (H1.call0 (vs := [zv k, zv 1, zv (H.length : Int)]) rfl rfl (fun w' _ => pwithin_fn _ _ _ w') ?_)
  by_cases hk : 1 ≤ k ∧ k ≤ (H.length : Int)
  rotate_left
  · have hbad : ¬ goodP S d H k := fun h => hk h.2.1
    repeat' (first | apply HL.fold | apply HA.fold | apply HL.nil | apply HX.n_then | apply HC.seq | apply HC.region | refine HL.pa ?_ | refine HL.ga rfl ?_ | refine HL.na rfl ?_ | refine HL.nu rfl rfl ?_ | apply HC.block | apply HC.skip | apply HC.exit | apply HC.ret | apply HX.e_block | refine HX.e_other rfl ?_ | apply HX.e_then | apply HX.e_again | apply HX.n_block | apply HX.r_then | apply HX.r_block | apply HX.r_again | refine HC.cond_yes rfl ?_ | refine HC.cond_no rfl ?_ | refine HL.one (H1.ldb rfl memA rfl rfl ?_) | refine HC.cond rfl (fun hc => ?_) (fun hc => ?_) | refine HC.cond_b rfl (fun hc => ?_) (fun hc => ?_))
    refine HL.one (H1.st rfl rfl (by intro _ h; cases h) (by intro _ h; cases h) rplA (by decide) ?_)
    repeat' (first | apply HL.fold | apply HA.fold | apply HL.nil | apply HX.n_then | apply HC.seq | apply HC.region | refine HL.pa ?_ | refine HL.ga rfl ?_ | refine HL.na rfl ?_ | refine HL.nu rfl rfl ?_ | apply HC.block | apply HC.skip | apply HC.exit | apply HC.ret | apply HX.e_block | refine HX.e_other rfl ?_ | apply HX.e_then | apply HX.e_again | apply HX.n_block | apply HX.r_then | apply HX.r_block | apply HX.r_again | refine HC.cond_yes rfl ?_ | refine HC.cond_no rfl ?_ | refine HL.one (H1.ldb rfl memA rfl rfl ?_) | refine HC.cond rfl (fun hc => ?_) (fun hc => ?_) | refine HC.cond_b rfl (fun hc => ?_) (fun hc => ?_))
    refine HL.one (H1.st rfl rfl (by intro _ h; cases h) (by intro _ h; cases h) rplA (by decide) ?_)
    repeat' (first | apply HL.fold | apply HA.fold | apply HL.nil | apply HX.n_then | apply HC.seq | apply HC.region | refine HL.pa ?_ | refine HL.ga rfl ?_ | refine HL.na rfl ?_ | refine HL.nu rfl rfl ?_ | apply HC.block | apply HC.skip | apply HC.exit | apply HC.ret | apply HX.e_block | refine HX.e_other rfl ?_ | apply HX.e_then | apply HX.e_again | apply HX.n_block | apply HX.r_then | apply HX.r_block | apply HX.r_again | refine HC.cond_yes rfl ?_ | refine HC.cond_no rfl ?_ | refine HL.one (H1.ldb rfl memA rfl rfl ?_) | refine HC.cond rfl (fun hc => ?_) (fun hc => ?_) | refine HC.cond_b rfl (fun hc => ?_) (fun hc => ?_))
    exact HX.retMsC2 (Ds := []) rfl rfl rfl (by repeat (first | exact Pick.here | apply Pick.there)) memA memA fun w' hM => ⟨(none, 0), trivial, by rw [chk_bad hbad]; rfl, by rw [chk_bad hbad]; exact (hM.sub (Hs.nil _)).grow0 _ _⟩
  repeat' (first | apply HL.fold | apply HA.fold | apply HL.nil | apply HX.n_then | apply HC.seq | apply HC.region | refine HL.pa ?_ | refine HL.ga rfl ?_ | refine HL.na rfl ?_ | refine HL.nu rfl rfl ?_ | apply HC.block | apply HC.skip | apply HC.exit | apply HC.ret | apply HX.e_block | refine HX.e_other rfl ?_ | apply HX.e_then | apply HX.e_again | apply HX.n_block | apply HX.r_then | apply HX.r_block | apply HX.r_again | refine HC.cond_yes rfl ?_ | refine HC.cond_no rfl ?_ | refine HL.one (H1.ldb rfl memA rfl rfl ?_) | refine HC.cond rfl (fun hc => ?_) (fun hc => ?_) | refine HC.cond_b rfl (fun hc => ?_) (fun hc => ?_))
  refine HL.one (H1.callx (vs := [.slice ac H.length cc, .func (.func 38) #[] #[.pointer (some ⟨b4, 0, none⟩)]]) rfl rfl (fun w' hM => by
    have h1 := hM.gr (a := ac) (c := cc) (n := H.length) (xs := ints (srt H)) memA
    rw [← srt_len0] at h1 ⊢
    exact containsFunc_fn [.pointer (some ⟨b4, 0, none⟩)] (fun x => decide (¬ (0 ≤ x ∧ x ≤ (S.length : Int) - 1))) _ (srt H) (by rw [srt_len0]; omega) w' h1 fun x _ w2 hx => check1_fn x _ a S.length c w2 (cell_ext hx ((hM.blk (b := b4) memA).cell rfl)) (by omega)) ?_)
  cases ho : (srt H).any fun x => decide (¬ (0 ≤ x ∧ x ≤ (S.length : Int) - 1)) with
  | true =>
    have hbad : ¬ goodP S d H k := fun h => by
      have := (any_out S H).2 h.2.2.1
      rw [ho] at this; cases this
    repeat' (first | apply HL.fold | apply HA.fold | apply HL.nil | apply HX.n_then | apply HC.seq | apply HC.region | refine HL.pa ?_ | refine HL.ga rfl ?_ | refine HL.na rfl ?_ | refine HL.nu rfl rfl ?_ | apply HC.block | apply HC.skip | apply HC.exit | apply HC.ret | apply HX.e_block | refine HX.e_other rfl ?_ | apply HX.e_then | apply HX.e_again | apply HX.n_block | apply HX.r_then | apply HX.r_block | apply HX.r_again | refine HC.cond_yes rfl ?_ | refine HC.cond_no rfl ?_ | refine HL.one (H1.ldb rfl memA rfl rfl ?_) | refine HC.cond rfl (fun hc => ?_) (fun hc => ?_) | refine HC.cond_b rfl (fun hc => ?_) (fun hc => ?_))
    refine HL.one (H1.st rfl rfl (by intro _ h; cases h) (by intro _ h; cases h) rplA (by decide) ?_)
    repeat' (first | apply HL.fold | apply HA.fold | apply HL.nil | apply HX.n_then | apply HC.seq | apply HC.region | refine HL.pa ?_ | refine HL.ga rfl ?_ | refine HL.na rfl ?_ | refine HL.nu rfl rfl ?_ | apply HC.block | apply HC.skip | apply HC.exit | apply HC.ret | apply HX.e_block | refine HX.e_other rfl ?_ | apply HX.e_then | apply HX.e_again | apply HX.n_block | apply HX.r_then | apply HX.r_block | apply HX.r_again | refine HC.cond_yes rfl ?_ | refine HC.cond_no rfl ?_ | refine HL.one (H1.ldb rfl memA rfl rfl ?_) | refine HC.cond rfl (fun hc => ?_) (fun hc => ?_) | refine HC.cond_b rfl (fun hc => ?_) (fun hc => ?_))
    refine HL.one (H1.st rfl rfl (by intro _ h; cases h) (by intro _ h; cases h) rplA (by decide) ?_)
    repeat' (first | apply HL.fold | apply HA.fold | apply HL.nil | apply HX.n_then | apply HC.seq | apply HC.region | refine HL.pa ?_ | refine HL.ga rfl ?_ | refine HL.na rfl ?_ | refine HL.nu rfl rfl ?_ | apply HC.block | apply HC.skip | apply HC.exit | apply HC.ret | apply HX.e_block | refine HX.e_other rfl ?_ | apply HX.e_then | apply HX.e_again | apply HX.n_block | apply HX.r_then | apply HX.r_block | apply HX.r_again | refine HC.cond_yes rfl ?_ | refine HC.cond_no rfl ?_ | refine HL.one (H1.ldb rfl memA rfl rfl ?_) | refine HC.cond rfl (fun hc => ?_) (fun hc => ?_) | refine HC.cond_b rfl (fun hc => ?_) (fun hc => ?_))
    exact HX.retMsC2 (Ds := []) rfl rfl rfl (by repeat (first | exact Pick.here | apply Pick.there)) memA memA fun w' hM => ⟨(none, 0), trivial, by rw [chk_bad hbad]; rfl, by rw [chk_bad hbad]; exact (hM.sub (Hs.nil _)).grow0 _ _⟩
  | false =>
  have hout := (any_out S H).1 ho
  repeat' (first | apply HL.fold | apply HA.fold | apply HL.nil | apply HX.n_then | apply HC.seq | apply HC.region | refine HL.pa ?_ | refine HL.ga rfl ?_ | refine HL.na rfl ?_ | refine HL.nu rfl rfl ?_ | apply HC.block | apply HC.skip | apply HC.exit | apply HC.ret | apply HX.e_block | refine HX.e_other rfl ?_ | apply HX.e_then | apply HX.e_again | apply HX.n_block | apply HX.r_then | apply HX.r_block | apply HX.r_again | refine HC.cond_yes rfl ?_ | refine HC.cond_no rfl ?_ | refine HL.one (H1.ldb rfl memA rfl rfl ?_) | refine HC.cond rfl (fun hc => ?_) (fun hc => ?_) | refine HC.cond_b rfl (fun hc => ?_) (fun hc => ?_))
  refine HL.one (H1.callz1 (vs := [.slice ac H.length cc]) rfl rfl (fun w' hM => by
    have h1 := hM.gr (a := ac) (c := cc) (n := H.length) (xs := ints (srt H)) memA
    have := clone_fn (.slice ac H.length cc) (srt H) (by rw [srt_len0]; omega) w' h1
    rw [srt_len0] at this
    exact this) ?_)
  rintro ⟨a2, c2⟩ ha2
  dsimp only at ha2 ⊢
  obtain ⟨b2, rfl⟩ : ∃ b2, a2 = some ⟨b2, 0, none⟩ := by
    rcases ha2 with h | h
    · omega
    · exact h
  repeat' (first | apply HL.fold | apply HA.fold | apply HL.nil | apply HX.n_then | apply HC.seq | apply HC.region | refine HL.pa ?_ | refine HL.ga rfl ?_ | refine HL.na rfl ?_ | refine HL.nu rfl rfl ?_ | apply HC.block | apply HC.skip | apply HC.exit | apply HC.ret | apply HX.e_block | refine HX.e_other rfl ?_ | apply HX.e_then | apply HX.e_again | apply HX.n_block | apply HX.r_then | apply HX.r_block | apply HX.r_again | refine HC.cond_yes rfl ?_ | refine HC.cond_no rfl ?_ | refine HL.one (H1.ldb rfl memA rfl rfl ?_) | refine HC.cond rfl (fun hc => ?_) (fun hc => ?_) | refine HC.cond_b rfl (fun hc => ?_) (fun hc => ?_))
  refine HL.one (H1.callm (α := Unit) (V := fun _ => .slice (some ⟨b2, 0, none⟩) (Lib.compact (srt H)).length c2) (I := fun _ => True) (vs := [.slice (some ⟨b2, 0, none⟩) H.length c2]) (H' := fun _ => [A.grow 3 1 ac cc H.length (ints (srt H)), A.blk b9 [.bool false] 4, A.blk b8 [.slice none 0 0] 23, A.blk b5 d.cells 48, A.blk b4 [.slice a S.length c] 46, A.dfrs []]) rfl rfl (fun w' hM => ?_) ?_)
  · rw [← srt_len0] at hM ⊢
    have := compact_fn hM (by rw [srt_len0]; omega)
    refine this.mono fun v w'' ⟨h1, h2⟩ => ⟨(), trivial, h1, h2⟩
  rintro - -
  by_cases hcp : (Lib.compact (srt H)).length = H.length
  rotate_left
  · have hbad : ¬ goodP S d H k := fun h => hcp (by rw [compact_nodup.2 h.2.2.2, srt_len0])
    have hcp' : ¬ ((Lib.compact (srt H)).length : Int) = (H.length : Int) := by omega
    repeat' (first | apply HL.fold | apply HA.fold | apply HL.nil | apply HX.n_then | apply HC.seq | apply HC.region | refine HL.pa ?_ | refine HL.ga rfl ?_ | refine HL.na rfl ?_ | refine HL.nu rfl rfl ?_ | apply HC.block | apply HC.skip | apply HC.exit | apply HC.ret | apply HX.e_block | refine HX.e_other rfl ?_ | apply HX.e_then | apply HX.e_again | apply HX.n_block | apply HX.r_then | apply HX.r_block | apply HX.r_again | refine HC.cond_yes rfl ?_ | refine HC.cond_no rfl ?_ | refine HL.one (H1.ldb rfl memA rfl rfl ?_) | refine HC.cond rfl (fun hc => ?_) (fun hc => ?_) | refine HC.cond_b rfl (fun hc => ?_) (fun hc => ?_))
    refine HL.one (H1.st rfl rfl (by intro _ h; cases h) (by intro _ h; cases h) rplA (by decide) ?_)
    repeat' (first | apply HL.fold | apply HA.fold | apply HL.nil | apply HX.n_then | apply HC.seq | apply HC.region | refine HL.pa ?_ | refine HL.ga rfl ?_ | refine HL.na rfl ?_ | refine HL.nu rfl rfl ?_ | apply HC.block | apply HC.skip | apply HC.exit | apply HC.ret | apply HX.e_block | refine HX.e_other rfl ?_ | apply HX.e_then | apply HX.e_again | apply HX.n_block | apply HX.r_then | apply HX.r_block | apply HX.r_again | refine HC.cond_yes rfl ?_ | refine HC.cond_no rfl ?_ | refine HL.one (H1.ldb rfl memA rfl rfl ?_) | refine HC.cond rfl (fun hc => ?_) (fun hc => ?_) | refine HC.cond_b rfl (fun hc => ?_) (fun hc => ?_))
    refine HL.one (H1.st rfl rfl (by intro _ h; cases h) (by intro _ h; cases h) rplA (by decide) ?_)
    repeat' (first | apply HL.fold | apply HA.fold | apply HL.nil | apply HX.n_then | apply HC.seq | apply HC.region | refine HL.pa ?_ | refine HL.ga rfl ?_ | refine HL.na rfl ?_ | refine HL.nu rfl rfl ?_ | apply HC.block | apply HC.skip | apply HC.exit | apply HC.ret | apply HX.e_block | refine HX.e_other rfl ?_ | apply HX.e_then | apply HX.e_again | apply HX.n_block | apply HX.r_then | apply HX.r_block | apply HX.r_again | refine HC.cond_yes rfl ?_ | refine HC.cond_no rfl ?_ | refine HL.one (H1.ldb rfl memA rfl rfl ?_) | refine HC.cond rfl (fun hc => ?_) (fun hc => ?_) | refine HC.cond_b rfl (fun hc => ?_) (fun hc => ?_))
    exact HX.retMsC2 (Ds := []) rfl rfl rfl (by repeat (first | exact Pick.here | apply Pick.there)) memA memA fun w' hM => ⟨(none, 0), trivial, by rw [chk_bad hbad]; rfl, by rw [chk_bad hbad]; exact (hM.sub (Hs.nil _)).grow0 _ _⟩
  have hgood : goodP S d H k := ⟨hv, hk, hout, compact_nodup.1 (by rw [hcp, srt_len0])⟩
  have hpv := pvalid_ok hv
  have hcp' : ((Lib.compact (srt H)).length : Int) = (H.length : Int) := by omega
  have hHS := hgood.len
  have hS9 := hpv.n9
  rw [hcp]
  repeat' (first | apply HL.fold | apply HA.fold | apply HL.nil | apply HX.n_then | apply HC.seq | apply HC.region | refine HL.pa ?_ | refine HL.ga rfl ?_ | refine HL.na rfl ?_ | refine HL.nu rfl rfl ?_ | apply HC.block | apply HC.skip | apply HC.exit | apply HC.ret | apply HX.e_block | refine HX.e_other rfl ?_ | apply HX.e_then | apply HX.e_again | apply HX.n_block | apply HX.r_then | apply HX.r_block | apply HX.r_again | refine HC.cond_yes rfl ?_ | refine HC.cond_no rfl ?_ | refine HL.one (H1.ldb rfl memA rfl rfl ?_) | refine HC.cond rfl (fun hc => ?_) (fun hc => ?_) | refine HC.cond_b rfl (fun hc => ?_) (fun hc => ?_))
  refine HL.one (H1.callz1 (An := fun z : Nat × (Nat → Nat) => A.land z.1 z.2 S) (vs := [.slice a S.length c]) rfl rfl (fun w' hM => newLand_fn _ S hS9 w' (hT.ext hM.ext)) ?_)
  rintro ⟨bx, m⟩ -
  dsimp only
  repeat' (first | apply HL.fold | apply HA.fold | apply HL.nil | apply HX.n_then | apply HC.seq | apply HC.region | refine HL.pa ?_ | refine HL.ga rfl ?_ | refine HL.na rfl ?_ | refine HL.nu rfl rfl ?_ | apply HC.block | apply HC.skip | apply HC.exit | apply HC.ret | apply HX.e_block | refine HX.e_other rfl ?_ | apply HX.e_then | apply HX.e_again | apply HX.n_block | apply HX.r_then | apply HX.r_block | apply HX.r_again | refine HC.cond_yes rfl ?_ | refine HC.cond_no rfl ?_ | refine HL.one (H1.ldb rfl memA rfl rfl ?_) | refine HC.cond rfl (fun hc => ?_) (fun hc => ?_) | refine HC.cond_b rfl (fun hc => ?_) (fun hc => ?_))
  refine HL.one (H1.alloc (cs := [.pointer none]) rfl rfl (fun b12 => ?_))
  repeat' (first | apply HL.fold | apply HA.fold | apply HL.nil | apply HX.n_then | apply HC.seq | apply HC.region | refine HL.pa ?_ | refine HL.ga rfl ?_ | refine HL.na rfl ?_ | refine HL.nu rfl rfl ?_ | apply HC.block | apply HC.skip | apply HC.exit | apply HC.ret | apply HX.e_block | refine HX.e_other rfl ?_ | apply HX.e_then | apply HX.e_again | apply HX.n_block | apply HX.r_then | apply HX.r_block | apply HX.r_again | refine HC.cond_yes rfl ?_ | refine HC.cond_no rfl ?_ | refine HL.one (H1.ldb rfl memA rfl rfl ?_) | refine HC.cond rfl (fun hc => ?_) (fun hc => ?_) | refine HC.cond_b rfl (fun hc => ?_) (fun hc => ?_))
  refine HL.one (H1.st rfl rfl (by intro _ h; cases h) (by intro _ h; cases h) rplA (by decide) ?_)
  repeat' (first | apply HL.fold | apply HA.fold | apply HL.nil | apply HX.n_then | apply HC.seq | apply HC.region | refine HL.pa ?_ | refine HL.ga rfl ?_ | refine HL.na rfl ?_ | refine HL.nu rfl rfl ?_ | apply HC.block | apply HC.skip | apply HC.exit | apply HC.ret | apply HX.e_block | refine HX.e_other rfl ?_ | apply HX.e_then | apply HX.e_again | apply HX.n_block | apply HX.r_then | apply HX.r_block | apply HX.r_again | refine HC.cond_yes rfl ?_ | refine HC.cond_no rfl ?_ | refine HL.one (H1.ldb rfl memA rfl rfl ?_) | refine HC.cond rfl (fun hc => ?_) (fun hc => ?_) | refine HC.cond_b rfl (fun hc => ?_) (fun hc => ?_))
  obtain ⟨n, hn⟩ : ∃ n : Nat, n = H.length - k.toNat + 1 := ⟨_, rfl⟩
  rw [show (H.length : Int) - k + 1 = ((n : Nat) : Int) from by omega]
  refine HL.one (H1.callz (vs := [.slice ac H.length cc, zv (n : Int)]) rfl rfl (fun w' _ => sets_fn _ _ rfl w') ?_)
  rintro ⟨bn, bl⟩ -
  dsimp only [List.cons_append, List.nil_append]
  repeat' (first | apply HL.fold | apply HA.fold | apply HL.nil | apply HX.n_then | apply HC.seq | apply HC.region | refine HL.pa ?_ | refine HL.ga rfl ?_ | refine HL.na rfl ?_ | refine HL.nu rfl rfl ?_ | apply HC.block | apply HC.skip | apply HC.exit | apply HC.ret | apply HX.e_block | refine HX.e_other rfl ?_ | apply HX.e_then | apply HX.e_again | apply HX.n_block | apply HX.r_then | apply HX.r_block | apply HX.r_again | refine HC.cond_yes rfl ?_ | refine HC.cond_no rfl ?_ | refine HL.one (H1.ldb rfl memA rfl rfl ?_) | refine HC.cond rfl (fun hc => ?_) (fun hc => ?_) | refine HC.cond_b rfl (fun hc => ?_) (fun hc => ?_))
  rw [← hold_natI hgood.mem0, ← hold_len H]
  have h9 : ∀ x ∈ hold H, x < 9 := fun x hx => Nat.lt_of_lt_of_le (hgood.lt x hx) hS9
  have hpI : ∀ i T, (combs (hold H) n)[i]? = some T → hitB (gS S) T d.left d.m = false → (∀ j, j < i → ∀ T, (combs (hold H) n)[j]? = some T → hitB (gS S) T d.left d.m = false) → ∀ j, j < i + 1 → ∀ T, (combs (hold H) n)[j]? = some T → hitB (gS S) T d.left d.m = false := fun i T h1 h2 h3 j hj T' h4 => by
    by_cases e : j = i
    · subst e; rw [h1] at h4; cases h4; exact h2
    · exact h3 j (by omega) T' h4
  have hfound : ∀ i T, (combs (hold H) n)[i]? = some T → hitB (gS S) T d.left d.m = true → (∀ j, j < i → ∀ T, (combs (hold H) n)[j]? = some T → hitB (gS S) T d.left d.m = false) → lostP S d (hold H) n = some T := fun i T h1 h2 h3 => by
    unfold lostP
    obtain ⟨hi, rfl⟩ := List.getElem?_eq_some_iff.1 h1
    rw [List.find?_eq_some_iff_getElem]
    exact ⟨h2, i, hi, rfl, fun j hj => by rw [h3 j hj _ (List.getElem?_eq_getElem (by omega))]; rfl⟩
  have hnone : (∀ j, j < (combs (hold H) n).length → ∀ T, (combs (hold H) n)[j]? = some T → hitB (gS S) T d.left d.m = false) → lostP S d (hold H) n = none := fun h => by
    unfold lostP
    rw [List.find?_eq_none]
    intro T hT
    obtain ⟨j, hj, rfl⟩ := List.getElem_of_mem hT
    rw [h j hj _ (List.getElem?_eq_getElem hj)]; decide
  have hdm : d.liars = (d.m : Int) := by have := hpv.l0; unfold Di.m; omega
  have hm4 : d.m ≤ 1000 := by have := hpv.l4; omega
  refine HC.rangeFuncS (α := Unit) (β := (Option Addr × Nat) × List Nat) (lb := [.pointer (some ⟨bn, 0, none⟩), .pointer (some ⟨bl, 0, none⟩)]) (fun _ => [A.pure (lostP S d (hold H) n = none), A.blk bn [zv (n : Int)] 3, A.blk bl [.slice ac (hold H).length cc] 23, A.blk b12 [.pointer (some ⟨bx, 0, none⟩)] 84, A.land bx m S, A.grow 3 1 ac cc (hold H).length (ints (natI (hold H))), A.blk b9 [.bool false] 4, A.blk b8 [.slice none 0 0] 23, A.blk b5 d.cells 48, A.blk b4 [.slice a S.length c] 46, A.dfrs []]) (fun _ => True)
    (fun z => [A.pure (lostP S d (hold H) n = some z.2), A.grow 3 1 z.1.1 z.1.2 z.2.length (ints (natI z.2)), A.blk bn [zv (n : Int)] 3, A.blk bl [.slice ac (hold H).length cc] 23, A.blk b12 [.pointer (some ⟨bx, 0, none⟩)] 84, A.land bx m S, A.grow 3 1 ac cc (hold H).length (ints (natI (hold H))), A.blk b9 [.bool false] 4, A.blk b8 [.slice z.1.1 z.2.length z.1.2] 23, A.blk b5 d.cells 48, A.blk b4 [.slice a S.length c] 46, A.dfrs []]) (fun _ => True) (fun _ => .ret) rfl ?_ ?_ ?_
  · intro D lq L hL w1 hM1
    refine (sets1_fn (γ := (Option Addr × Nat) × List Nat) w n (hold H) bn bl (.slice ac (hold H).length cc) lq (fun i => [A.pure (∀ j, j < i → ∀ T, (combs (hold H) n)[j]? = some T → hitB (gS S) T d.left d.m = false), L .ready none, A.blk bn [zv (n : Int)] 3, A.blk bl [.slice ac (hold H).length cc] 23, A.blk b12 [.pointer (some ⟨bx, 0, none⟩)] 84, A.land bx m S, A.grow 3 1 ac cc (hold H).length (ints (natI (hold H))), A.blk b9 [.bool false] 4, A.blk b8 [.slice none 0 0] 23, A.blk b5 d.cells 48, A.blk b4 [.slice a S.length c] 46])
      (fun z => [A.pure (lostP S d (hold H) n = some z.2), L .done (some .ret), A.grow 3 1 z.1.1 z.1.2 z.2.length (ints (natI z.2)), A.blk bn [zv (n : Int)] 3, A.blk bl [.slice ac (hold H).length cc] 23, A.blk b12 [.pointer (some ⟨bx, 0, none⟩)] 84, A.land bx m S, A.grow 3 1 ac cc (hold H).length (ints (natI (hold H))), A.blk b9 [.bool false] 4, A.blk b8 [.slice z.1.1 z.2.length z.1.2] 23, A.blk b5 d.cells 48, A.blk b4 [.slice a S.length c] 46]) [A.dfr D, A.dfrs []] w1 (by omega) (by rw [hold_len]; omega) h9
      (fun i w2 hM2 => ⟨(hM2.blk (b := bn) memA).cell rfl, (hM2.blk (b := bl) memA).cell rfl, hM2.gr memA⟩) (fun z w2 hM2 => ⟨(hM2.blk (b := bn) memA).cell rfl, (hM2.blk (b := bl) memA).cell rfl, hM2.gr memA⟩) ?_ ?_).mono ?_
    · intro i T hTi K w2 hM2
      have hP := hM2.pureE (.head _)
      obtain ⟨hTs, hTn⟩ := mem_combs.1 (List.mem_of_getElem? hTi)
      have hTasc : T.Pairwise (· < ·) := hgood.asc.sublist hTs
      have hTS : ∀ j ∈ T, j < S.length := fun j hj => hgood.lt j (hTs.subset hj)
      have hT9 : maskOf T < 512 := mask_lt (n := 9) fun j hj => Nat.lt_of_lt_of_le (hTS j hj) hS9
      have hblT := bl_mask hTasc fun j hj => Nat.lt_of_lt_of_le (hTS j hj) hS9
      refine Yld.ofH (H := A.pure (∀ j, j < i → ∀ T, (combs (hold H) n)[j]? = some T → hitB (gS S) T d.left d.m = false) :: L .ready none :: A.blk bn [zv (n : Int)] 3 :: A.blk bl [.slice ac (hold H).length cc] 23 :: A.blk b12 [.pointer (some ⟨bx, 0, none⟩)] 84 :: A.land bx m S :: A.grow 3 1 ac cc (hold H).length (ints (natI (hold H))) :: A.blk b9 [.bool false] 4 :: A.blk b8 [.slice none 0 0] 23 :: A.blk b5 d.cells 48 :: A.blk b4 [.slice a S.length c] 46 :: K) hL (.tail _ (.head _)) rfl rfl ?_ w2 hM2
      repeat' (first | apply HL.fold | apply HA.fold | apply HL.nil | apply HX.n_then | apply HC.seq | apply HC.region | refine HL.pa ?_ | refine HL.ga rfl ?_ | refine HL.na rfl ?_ | refine HL.nu rfl rfl ?_ | apply HC.block | apply HC.skip | apply HC.exit | apply HC.ret | apply HX.e_block | refine HX.e_other rfl ?_ | apply HX.e_then | apply HX.e_again | apply HX.n_block | apply HX.r_then | apply HX.r_block | apply HX.r_again | refine HC.cond_yes rfl ?_ | refine HC.cond_no rfl ?_ | refine HL.one (H1.ldb rfl memA rfl rfl ?_) | refine HC.cond rfl (fun hc => ?_) (fun hc => ?_) | refine HC.cond_b rfl (fun hc => ?_) (fun hc => ?_))
      refine HX.ra hL (Rpl.there Rpl.here) ?_
      repeat' (first | apply HL.fold | apply HA.fold | apply HL.nil | apply HX.n_then | apply HC.seq | apply HC.region | refine HL.pa ?_ | refine HL.ga rfl ?_ | refine HL.na rfl ?_ | refine HL.nu rfl rfl ?_ | apply HC.block | apply HC.skip | apply HC.exit | apply HC.ret | apply HX.e_block | refine HX.e_other rfl ?_ | apply HX.e_then | apply HX.e_again | apply HX.n_block | apply HX.r_then | apply HX.r_block | apply HX.r_again | refine HC.cond_yes rfl ?_ | refine HC.cond_no rfl ?_ | refine HL.one (H1.ldb rfl memA rfl rfl ?_) | refine HC.cond rfl (fun hc => ?_) (fun hc => ?_) | refine HC.cond_b rfl (fun hc => ?_) (fun hc => ?_))
      refine HC.anyCR ([(⟨b12, 0, none⟩, .pointer (some ⟨bx, 0, none⟩)), (⟨b5, 4, none⟩, zv d.liars)]) rfl ?_
      refine HB.ld 0 rfl rfl memD ?_
      refine HB.pa 1 rfl ?_
      refine HB.pa 4 rfl ?_
      refine HB.ld 5 rfl rfl memD ?_
      refine HB.all (by repeat (first | exact Keep.nil | refine Keep.blk (by (repeat (first | exact List.Mem.head _ | apply List.Mem.tail)); done) rfl ?_ | refine Keep.grow (by (repeat (first | exact List.Mem.head _ | apply List.Mem.tail)); done) (by assumption) ?_ | refine Keep.base (by assumption) ?_)) [2] (by kernel_rfl) rfl ⟨⟨_, rfl, ?_⟩, trivial⟩
      refine HP.one ?_
      refine H1.ldAgg (vs := d.cells) rfl memA rfl (fun i v hv => by rw [Nat.zero_add]; exact hv) rfl ?_
      apply HB.fold
      refine HB.all (by repeat (first | exact Keep.nil | refine Keep.blk (by (repeat (first | exact List.Mem.head _ | apply List.Mem.tail)); done) rfl ?_ | refine Keep.grow (by (repeat (first | exact List.Mem.head _ | apply List.Mem.tail)); done) (by assumption) ?_ | refine Keep.base (by assumption) ?_)) [3] (by kernel_rfl) rfl ⟨⟨_, rfl, ?_⟩, trivial⟩
      refine HP.one ?_
      refine H1.callx (vs := [.agg d.cells.toArray]) rfl rfl (fun w' _ => bounds_fn d w') ?_
      apply HB.fold
      refine HB.all (by repeat (first | exact Keep.nil | refine Keep.blk (by (repeat (first | exact List.Mem.head _ | apply List.Mem.tail)); done) rfl ?_ | refine Keep.grow (by (repeat (first | exact List.Mem.head _ | apply List.Mem.tail)); done) (by assumption) ?_ | refine Keep.base (by assumption) ?_)) [6] (by kernel_rfl) rfl ⟨⟨_, rfl, ?_⟩, trivial⟩
      refine HP.one ?_
      refine H1.callx (vs := [.pointer (some ⟨bx, 0, none⟩), uv (maskOf T), .agg (sc d.b).toArray, zv d.liars]) rfl rfl (fun w' hM => by
        have := isExposed_fn S hS9 bx (lsum d.b) d.b T d.m w' (Nat.le_refl _) (fun q _ => hpv.bound q) hTasc hTS hm4 (hM.land memA)
        rw [← hdm] at this
        exact this) ?_
      apply HB.fold
      refine HB.done (by repeat (first | exact Keep.nil | refine Keep.blk (by (repeat (first | exact List.Mem.head _ | apply List.Mem.tail)); done) rfl ?_ | refine Keep.grow (by (repeat (first | exact List.Mem.head _ | apply List.Mem.tail)); done) (by assumption) ?_ | refine Keep.base (by assumption) ?_)) (by kernel_rfl) ?_
      skip
      cases hb : hitB (gS S) T (lf d.b) d.m with
      | true =>
        repeat' (first | apply HL.fold | apply HA.fold | apply HL.nil | apply HX.n_then | apply HC.seq | apply HC.region | refine HL.pa ?_ | refine HL.ga rfl ?_ | refine HL.na rfl ?_ | refine HL.nu rfl rfl ?_ | apply HC.block | apply HC.skip | apply HC.exit | apply HC.ret | apply HX.e_block | refine HX.e_other rfl ?_ | apply HX.e_then | apply HX.e_again | apply HX.n_block | apply HX.r_then | apply HX.r_block | apply HX.r_again | refine HC.cond_yes rfl ?_ | refine HC.cond_no rfl ?_ | refine HL.one (H1.ldb rfl memA rfl rfl ?_) | refine HC.cond rfl (fun hc => ?_) (fun hc => ?_) | refine HC.cond_b rfl (fun hc => ?_) (fun hc => ?_))
        refine HL.one (H1.callz1 (vs := [uv (maskOf T)]) rfl rfl (fun w' _ => list_fn (maskOf T) hT9 w') ?_)
        rw [hblT]
        rintro ⟨aL, cL⟩ -
        dsimp only
        repeat' (first | apply HL.fold | apply HA.fold | apply HL.nil | apply HX.n_then | apply HC.seq | apply HC.region | refine HL.pa ?_ | refine HL.ga rfl ?_ | refine HL.na rfl ?_ | refine HL.nu rfl rfl ?_ | apply HC.block | apply HC.skip | apply HC.exit | apply HC.ret | apply HX.e_block | refine HX.e_other rfl ?_ | apply HX.e_then | apply HX.e_again | apply HX.n_block | apply HX.r_then | apply HX.r_block | apply HX.r_again | refine HC.cond_yes rfl ?_ | refine HC.cond_no rfl ?_ | refine HL.one (H1.ldb rfl memA rfl rfl ?_) | refine HC.cond rfl (fun hc => ?_) (fun hc => ?_) | refine HC.cond_b rfl (fun hc => ?_) (fun hc => ?_))
        refine HL.one (H1.st rfl rfl (by intro _ h; cases h) (by intro _ h; cases h) rplA (by decide) ?_)
        repeat' (first | apply HL.fold | apply HA.fold | apply HL.nil | apply HX.n_then | apply HC.seq | apply HC.region | refine HL.pa ?_ | refine HL.ga rfl ?_ | refine HL.na rfl ?_ | refine HL.nu rfl rfl ?_ | apply HC.block | apply HC.skip | apply HC.exit | apply HC.ret | apply HX.e_block | refine HX.e_other rfl ?_ | apply HX.e_then | apply HX.e_again | apply HX.n_block | apply HX.r_then | apply HX.r_block | apply HX.r_again | refine HC.cond_yes rfl ?_ | refine HC.cond_no rfl ?_ | refine HL.one (H1.ldb rfl memA rfl rfl ?_) | refine HC.cond rfl (fun hc => ?_) (fun hc => ?_) | refine HC.cond_b rfl (fun hc => ?_) (fun hc => ?_))
        refine HL.one (H1.st rfl rfl (by intro _ h; cases h) (by intro _ h; cases h) rplA (by decide) ?_)
        repeat' (first | apply HL.fold | apply HA.fold | apply HL.nil | apply HX.n_then | apply HC.seq | apply HC.region | refine HL.pa ?_ | refine HL.ga rfl ?_ | refine HL.na rfl ?_ | refine HL.nu rfl rfl ?_ | apply HC.block | apply HC.skip | apply HC.exit | apply HC.ret | apply HX.e_block | refine HX.e_other rfl ?_ | apply HX.e_then | apply HX.e_again | apply HX.n_block | apply HX.r_then | apply HX.r_block | apply HX.r_again | refine HC.cond_yes rfl ?_ | refine HC.cond_no rfl ?_ | refine HL.one (H1.ldb rfl memA rfl rfl ?_) | refine HC.cond rfl (fun hc => ?_) (fun hc => ?_) | refine HC.cond_b rfl (fun hc => ?_) (fun hc => ?_))
        refine HX.rp_r hL (Rpl.there (Rpl.there Rpl.here)) fun w' hM' => .inr ⟨rfl, ((aL, cL), T), ?_⟩
        exact (hM'.sub (Hs.cons (Pick.there (Pick.there Pick.here)) (Hs.cons Pick.here (Hs.skipN (K := [_]))))).pureI (hfound i T hTi hb hP)
      | false =>
        repeat' (first | apply HL.fold | apply HA.fold | apply HL.nil | apply HX.n_then | apply HC.seq | apply HC.region | refine HL.pa ?_ | refine HL.ga rfl ?_ | refine HL.na rfl ?_ | refine HL.nu rfl rfl ?_ | apply HC.block | apply HC.skip | apply HC.exit | apply HC.ret | apply HX.e_block | refine HX.e_other rfl ?_ | apply HX.e_then | apply HX.e_again | apply HX.n_block | apply HX.r_then | apply HX.r_block | apply HX.r_again | refine HC.cond_yes rfl ?_ | refine HC.cond_no rfl ?_ | refine HL.one (H1.ldb rfl memA rfl rfl ?_) | refine HC.cond rfl (fun hc => ?_) (fun hc => ?_) | refine HC.cond_b rfl (fun hc => ?_) (fun hc => ?_))
        refine HX.rp_n hL (Rpl.there Rpl.here) fun w' hM' => .inl ⟨rfl, ?_⟩
        exact hM'.tail.pureI (hpI i T hTi hb hP)
    · exact (hM1.sub (by repeat (first | exact Hs.nil _ | (refine Hs.cons pickA ?_)))).pureI fun j hj => absurd hj (Nat.not_lt_zero _)
    · rintro u w' (h1 | ⟨z, h1⟩)
      · exact .inl ⟨(), trivial, (h1.pureI (hnone (h1.pureE (.head _)))).sub (by repeat (first | exact Hs.nil _ | (refine Hs.cons pickA ?_)))⟩
      · exact .inr ⟨z, trivial, h1.sub (by repeat (first | exact Hs.nil _ | (refine Hs.cons pickA ?_)))⟩
  · intro D _ _
    refine HX.conv (H2 := [A.dfrs [D], A.pure (lostP S d (hold H) n = none), A.blk bn [zv (n : Int)] 3, A.blk bl [.slice ac (hold H).length cc] 23, A.blk b12 [.pointer (some ⟨bx, 0, none⟩)] 84, A.land bx m S, A.grow 3 1 ac cc (hold H).length (ints (natI (hold H))), A.blk b9 [.bool false] 4, A.blk b8 [.slice none 0 0] 23, A.blk b5 d.cells 48, A.blk b4 [.slice a S.length c] 46]) (fun w' hM => Mm.dfrs1 (hM.sub (by repeat (first | exact Hs.nil _ | (refine Hs.cons pickA ?_))))) ?_
    repeat' (first | apply HL.fold | apply HA.fold | apply HL.nil | apply HX.n_then | apply HC.seq | apply HC.region | refine HL.pa ?_ | refine HL.ga rfl ?_ | refine HL.na rfl ?_ | refine HL.nu rfl rfl ?_ | apply HC.block | apply HC.skip | apply HC.exit | apply HC.ret | apply HX.e_block | refine HX.e_other rfl ?_ | apply HX.e_then | apply HX.e_again | apply HX.n_block | apply HX.r_then | apply HX.r_block | apply HX.r_again | refine HC.cond_yes rfl ?_ | refine HC.cond_no rfl ?_ | refine HL.one (H1.ldb rfl memA rfl rfl ?_) | refine HC.cond rfl (fun hc => ?_) (fun hc => ?_) | refine HC.cond_b rfl (fun hc => ?_) (fun hc => ?_))
    refine HL.one (H1.st rfl rfl (by intro _ h; cases h) (by intro _ h; cases h) rplA (by decide) ?_)
    repeat' (first | apply HL.fold | apply HA.fold | apply HL.nil | apply HX.n_then | apply HC.seq | apply HC.region | refine HL.pa ?_ | refine HL.ga rfl ?_ | refine HL.na rfl ?_ | refine HL.nu rfl rfl ?_ | apply HC.block | apply HC.skip | apply HC.exit | apply HC.ret | apply HX.e_block | refine HX.e_other rfl ?_ | apply HX.e_then | apply HX.e_again | apply HX.n_block | apply HX.r_then | apply HX.r_block | apply HX.r_again | refine HC.cond_yes rfl ?_ | refine HC.cond_no rfl ?_ | refine HL.one (H1.ldb rfl memA rfl rfl ?_) | refine HC.cond rfl (fun hc => ?_) (fun hc => ?_) | refine HC.cond_b rfl (fun hc => ?_) (fun hc => ?_))
    refine HL.one (H1.st rfl rfl (by intro _ h; cases h) (by intro _ h; cases h) rplA (by decide) ?_)
    repeat' (first | apply HL.fold | apply HA.fold | apply HL.nil | apply HX.n_then | apply HC.seq | apply HC.region | refine HL.pa ?_ | refine HL.ga rfl ?_ | refine HL.na rfl ?_ | refine HL.nu rfl rfl ?_ | apply HC.block | apply HC.skip | apply HC.exit | apply HC.ret | apply HX.e_block | refine HX.e_other rfl ?_ | apply HX.e_then | apply HX.e_again | apply HX.n_block | apply HX.r_then | apply HX.r_block | apply HX.r_again | refine HC.cond_yes rfl ?_ | refine HC.cond_no rfl ?_ | refine HL.one (H1.ldb rfl memA rfl rfl ?_) | refine HC.cond rfl (fun hc => ?_) (fun hc => ?_) | refine HC.cond_b rfl (fun hc => ?_) (fun hc => ?_))
    refine HX.retMsC2 (Ds := [D]) rfl rfl rfl Pick.here memA memA fun w' hM => ⟨(none, 0), trivial, ?_, ?_⟩
    · rw [chk_none hgood (by rw [← hn]; exact hM.pureE (.head _))]; rfl
    · rw [chk_none hgood (by rw [← hn]; exact hM.pureE (.head _))]; exact (hM.sub (Hs.nil _)).grow0 _ _
  · intro D z _
    refine HC.conv (H2 := [A.dfrs [D], A.pure (lostP S d (hold H) n = some z.2), A.grow 3 1 z.1.1 z.1.2 z.2.length (ints (natI z.2)), A.blk bn [zv (n : Int)] 3, A.blk bl [.slice ac (hold H).length cc] 23, A.blk b12 [.pointer (some ⟨bx, 0, none⟩)] 84, A.land bx m S, A.grow 3 1 ac cc (hold H).length (ints (natI (hold H))), A.blk b9 [.bool false] 4, A.blk b8 [.slice z.1.1 z.2.length z.1.2] 23, A.blk b5 d.cells 48, A.blk b4 [.slice a S.length c] 46]) (fun w' hM => Mm.dfrs1 (hM.sub (by repeat (first | exact Hs.nil _ | (refine Hs.cons pickA ?_))))) ?_
    repeat' (first | apply HL.fold | apply HA.fold | apply HL.nil | apply HX.n_then | apply HC.seq | apply HC.region | refine HL.pa ?_ | refine HL.ga rfl ?_ | refine HL.na rfl ?_ | refine HL.nu rfl rfl ?_ | apply HC.block | apply HC.skip | apply HC.exit | apply HC.ret | apply HX.e_block | refine HX.e_other rfl ?_ | apply HX.e_then | apply HX.e_again | apply HX.n_block | apply HX.r_then | apply HX.r_block | apply HX.r_again | refine HC.cond_yes rfl ?_ | refine HC.cond_no rfl ?_ | refine HL.one (H1.ldb rfl memA rfl rfl ?_) | refine HC.cond rfl (fun hc => ?_) (fun hc => ?_) | refine HC.cond_b rfl (fun hc => ?_) (fun hc => ?_))
    refine HX.retMsC2 (Ds := [D]) rfl rfl rfl Pick.here memA memA fun w' hM => ⟨z.1, trivial, ?_, ?_⟩
    · rw [chk_some hgood (by rw [← hn]; exact hM.pureE (.head _))]
    · rw [chk_some hgood (by rw [← hn]; exact hM.pureE (.head _))]; exact hM.sub (by repeat (first | exact Hs.nil _ | (refine Hs.cons pickA ?_)))
end Go.Sx

