/- Chapter 24: the nodes that integers determine: the walk. -/
import Derived.Test.YtehehfcmanccjaaGreatDoorQE10
import Derived.Test.YtehehfcmanccjaaGreatDoorRows
import Derived.ProofKit
import Derived.OpenShut
import Derived.LaidMore
import Derived.Lay
import Derived.SevenTiedAt
import Derived.Stop.Joined
import Derived.Deep.Onto
import Derived.Laws.IdiomArrays
import Derived.Carry
import Derived.Test.YtehehfcmanccjaaGreatDoorTie
import Derived.Lib.LaidTab
import Derived.Stop.LaidErr
namespace Go.Sx
open Go Go.Proofs Go.RowKit
theorem hwOC {G G2 : Prop} (x : G2) (hwq : Hold G2 → G := by
    intro hQq
    repeat' (first | refine HL.pa ?_ (POp.nilCheck rfl) | apply HL.fold | apply HA.fold | apply HL.nil | apply HX.n_then | apply HC.seq | apply HC.region | refine HL.pa ?_ | refine HL.ga rfl ?_ | refine HL.na rfl ?_ | refine HL.nu rfl rfl ?_ | apply HC.block | apply HC.skip | apply HC.exit | apply HC.ret | apply HX.e_block | refine HX.e_other rfl ?_ | apply HX.e_then | apply HX.e_again | apply HX.n_block | apply HX.r_then | apply HX.r_block | apply HX.r_again | refine HC.cond_yes rfl ?_ | refine HC.cond_no rfl ?_ | refine HL.one (H1.ldb rfl memA rfl rfl ?_) | refine HC.cond rfl (fun hc => ?_) (fun hc => ?_) | refine HC.cond_b rfl (fun hc => ?_) (fun hc => ?_))
    exact hQq.get) : G := hwq ⟨x⟩
def madeD (rows : List (List Int)) : Nat → List ByteArray
  | 0 => []
  | i + 1 => madeD rows i ++ [sumS (rnsB [yI (rows.getD i []) 2, (i : Int)])]
theorem madeD_len (rows : List (List Int)) : ∀ i, (madeD rows i).length = i
  | 0 => rfl
  | i + 1 => by show (_ ++ [_]).length = _; rw [List.length_append, madeD_len rows i]; rfl
theorem madeD_size (rows : List (List Int)) : ∀ i, ∀ d ∈ madeD rows i, d.size = 32
  | 0, _, h => by cases h
  | i + 1, d, h => by
    rcases List.mem_append.1 h with h | h
    · exact madeD_size rows i d h
    · rw [List.mem_singleton] at h; subst h; exact sumS_size _
theorem four {y : List Int} (h : y.length = 4) : ∃ y0 y1 y2 y3, y = [y0, y1, y2, y3] := by
  match y, h with
  | [a, b, c, d], _ => exact ⟨a, b, c, d, rfl⟩
def madeN (rows : List (List Int)) : Nat := min rows.length 20
theorem lastId_le {l : List Nd} (h : MadeP l) (hl : l.length ≤ 20) : 0 ≤ lastId l ∧ lastId l ≤ 60 := by have := h.last; omega
theorem zGet {z : List NdZ} {N : List Nd} (h : ndsZ z = N) {i : Nat} (hi : i < N.length) : (ndsV z)[i * 4]? = some (zv (ndAt N i).id) ∧ (ndsV z)[i * 4 + 2]? = some (zv (ndAt N i).pack) := by
  subst h
  rw [ndsZ_len] at hi
  have e : z[i]? = some (z.getD i default) := by simp [hi]
  have e2 : ndAt (ndsZ z) i = (z.getD i default).1 := by unfold ndAt ndsZ; simp [hi]
  rw [e2]
  exact ⟨ndsV_get e (j := 0) (by decide), ndsV_get e (j := 2) (by decide)⟩
theorem HL.conv24 {P : Program} {r : Option Nat} {N : Nat} {ds : List Deferred} {ol l : List Oper} {Q : Post} {E : Env} {w0 : World} {H H2 : List Atom} (hh : ∀ w, Mm w0 H w → Mm w0 H2 w) (h : HL P r N ds ol l Q E w0 H2) : HL P r N ds ol l Q E w0 H := fun w hM => h w (hh w hM)
attribute [local irreducible] WC WL WX POp Then Again Fn NX W1 WA WO QL RP RA Yld LoopAt HC HL HX HN H1 HA HO HQ HB HP A.blk A.grow A.rd A.obj A.mp AgainH CutH
attribute [local irreducible] A.mq A.mit A.all sumS HU HV
set_option maxHeartbeats 8000000 in
theorem made24_fn (v : Value) (rows : List (List Int)) (hrow : ∀ y ∈ rows, y.length = 4 ∧ ∀ z ∈ y, i64W z) (w : World) (hR : RdA 4 w v rows) :
    Fn Tryz.prog 11 #[v] w fun u w' => (∃ v g U, u = .tuple #[v, g] ∧ RdN w' v (madeL rows (madeN rows)) U ∧ Rd w' g (strs (madeD rows (madeN rows)))) ∧ Ext w w' := by
  obtain ⟨a0, c0, rfl, -⟩ := hR.shape
  refine enterH (l := [_]) rfl Tryz.ntmps11 rfl ?_
  refine HC.grow0 31 4 ?_
  refine HC.grow0 9 1 ?_
  refine HC.conv (H2 := A.all (rowsA []) :: [A.grow 9 1 none 0 0 [], A.grow 31 4 none 0 0 []]) (fun w h => h.allNil) ?_
  refine hwOC ?_
  refine HC.loop (α := Nat × List NdZ × (Option Addr × Nat) × (Option Addr × Nat)) (fun q => [(0, .slice a0 rows.length c0), (4, .slice q.2.2.1.1 q.1 q.2.2.1.2), (5, .slice q.2.2.2.1 q.1 q.2.2.2.2), (6, zv (lastId (madeL rows q.1))), (7, zv (q.1 : Int))])
    (fun q => [A.grow 31 4 q.2.2.1.1 q.2.2.1.2 q.1 (ndsV q.2.1), A.grow 9 1 q.2.2.2.1 q.2.2.2.2 q.1 (strs (madeD rows q.1)), A.all (rowsA q.2.1)]) (fun q => q.1 ≤ rows.length ∧ q.1 ≤ 20 ∧ ndsZ q.2.1 = madeL rows q.1) (fun q => 20 - q.1) (0, [], (none, 0), (none, 0)) ⟨Nat.zero_le _, Nat.zero_le _, rfl⟩ esA (by repeat (first | exact Hs.nil _ | (refine Hs.cons pickA ?_))) ?_
  rintro ⟨i, z, ⟨an, cn⟩, ad, cd⟩ ⟨hi1, hi2, hz⟩
  dsimp only at hi1 hi2 hz ⊢
  have hzl : z.length = i := by rw [← ndsZ_len, hz, madeL_len]
  have hend : i = madeN rows → ∀ w', Mm w [A.grow 31 4 an cn i (ndsV z), A.grow 9 1 ad cd i (strs (madeD rows i)), A.all (rowsA z)] w' → (∃ v g U, Value.tuple #[.slice an i cn, .slice ad i cd] = .tuple #[v, g] ∧ RdN w' v (madeL rows (madeN rows)) U ∧ Rd w' g (strs (madeD rows (madeN rows)))) ∧ Ext w w' := by
    intro e w' hM
    refine ⟨⟨_, _, adrZ z, rfl, ?_, ?_⟩, hM.ext⟩
    · have h := hM.rdN (a := an) (c := cn) (z := z) (by rw [hzl]; first | ((repeat (first | with_reducible exact mem_hd | with_reducible apply mem_tl)); done) | (repeat (first | exact List.Mem.head _ | apply List.Mem.tail))) memA
      rw [hz, hzl] at h
      rw [← e]; exact h
    · have h := hM.gr (e := 9) (a := ad) (c := cd) (n := i) memA
      rw [← e]; exact h
  by_cases hlt : i < rows.length
  rotate_left
  · have h1 : ¬ (i : Int) < (rows.length : Int) := by omega
    refine hwOC ?_
    exact HX.ret2 rfl rfl rfl fun w' hM => hend (by unfold madeN; omega) w' hM
  have h1 : (i : Int) < (rows.length : Int) := by omega
  by_cases h20 : i < 20
  rotate_left
  · have h2 : ¬ (i : Int) < 20 := by omega
    refine hwOC ?_
    exact HX.ret2 rfl rfl rfl fun w' hM => hend (by unfold madeN; omega) w' hM
  have h2 : (i : Int) < 20 := by omega
  obtain ⟨y, hy⟩ : ∃ y, rows[i]? = some y := ⟨_, List.getElem?_eq_getElem hlt⟩
  have hy4 := hrow y (List.mem_of_getElem? hy)
  have hgy : rows.getD i [] = y := by rw [List.getD_eq_getElem?_getD, hy]; rfl
  obtain ⟨bx, off, rfl, -, hcell⟩ := hR.at (fun e => by rw [e] at hlt; exact absurd hlt (Nat.not_lt_zero _))
  have hcl := hcell i y hy
  clear hcell hend
  obtain ⟨y0, y1, y2, y3, rfl⟩ := four hy4.1
  have w0 := hy4.2 y0 (by simp)
  have w1 := hy4.2 y1 (by simp)
  have w2 := hy4.2 y2 (by simp)
  have w3 := hy4.2 y3 (by simp)
  have hok := madeL_ok rows i (by omega)
  have hll := madeL_len rows i
  have hlast := lastId_le hok (by omega)
  have hstep : madeL rows (i + 1) = madeL rows i ++ [mkNd (madeL rows i) [y0, y1, y2, y3]] := by
    show madeL rows i ++ [mkNd (madeL rows i) (rows.getD i [])] = _; rw [hgy]
  have hdst : strs (madeD rows i) ++ [.string (sumS (rnsB [y2, (i : Int)]))] = strs (madeD rows (i + 1)) := by
    rw [strs_snoc]
    show _ = strs (madeD rows i ++ [sumS (rnsB [yI (rows.getD i []) 2, (i : Int)])])
    rw [hgy]; rfl
  have hlast2 : lastId (madeL rows (i + 1)) = (mkNd (madeL rows i) [y0, y1, y2, y3]).id := by rw [hstep, lastId_snoc]
  have hmk : ∀ n, mkNd (madeL rows i) [y0, y1, y2, y3] = n → mkNd (madeL rows i) [y0, y1, y2, y3] = n := fun _ h => h
  have hid : (mkNd (madeL rows i) [y0, y1, y2, y3]).id = lastId (madeL rows i) + 1 + pickI21 y0 3 := mkNd_id _ _
  have q0 := pickI21_lt y0 (n := 3) (by decide)
  have q1 := pickI21_lt y1 (n := 4) (by decide)
  generalize hN : madeL rows i = N at hz hok hll hlast hstep hmk hid hlast2 ⊢
  refine hwOC ?_
  refine HL.one (H1.ldAggw (vs := ints [y0, y1, y2, y3]) rfl rfl (fun w' hM i v hv => cell_ext hM.ext (hcl i v hv)) rfl ?_)
  clear hcl hy hy4
  refine hwOC ?_
  refine HL.one (H1.alloc (cs := ints [0, 0, 0, 0]) rfl rfl (fun b8 => ?_))
  refine hwOC ?_
  refine HL.one (H1.stAgg (b := b8) (cs := ints [0, 0, 0, 0]) (vs := ints [y0, y1, y2, y3]) rfl rfl rfl (ints_one _) rplA rfl ?_)
  refine hwOC ?_
  refine HC.cut (α := Nat) (fun b9 => [(0, .slice (some ⟨bx, off, none⟩) rows.length c0), (4, .slice an i cn), (5, .slice ad i cd), (7, zv (i : Int)), (8, .pointer (some ⟨b8, 0, none⟩)), (9, .pointer (some ⟨b9, 0, none⟩))]) (fun b9 => [A.blk b9 (ndC ⟨lastId N + 1 + pickI21 y0 3, 1, 1 + pickI21 y1 4, []⟩ (.slice none 0 0)) 31, A.blk b8 (ints [y0, y1, y2, y3]) 70, A.grow 31 4 an cn i (ndsV z), A.grow 9 1 ad cd i (strs (madeD rows i)), A.all (rowsA z)]) (fun _ => True) ?_ ?_
  · refine HC.anyC ([(⟨b8, 0, none⟩, zv y0), (⟨b8, 1, none⟩, zv y1)]) rfl ?_
    refine HB.pa 0 rfl ?_
    refine HB.pa 1 rfl ?_
    refine HB.pa 2 rfl ?_
    refine HB.ld 3 rfl rfl memD ?_
    refine HB.pa 6 rfl ?_
    refine HB.ld 7 rfl rfl memD ?_
    refine HB.all (by repeat (first | exact Keep.nil | refine Keep.blk (by (repeat (first | exact List.Mem.head _ | apply List.Mem.tail)); done) rfl ?_ | refine Keep.grow (by (repeat (first | exact List.Mem.head _ | apply List.Mem.tail)); done) (by assumption) ?_ | refine Keep.base (by assumption) ?_)) [4, 11] (by kernel_rfl) rfl ⟨⟨_, rfl, ?_⟩, ⟨_, rfl, ?_⟩, trivial⟩
    · refine HP.one ?_
      refine H1.call0 (vs := [zv y0, zv 3]) rfl rfl (fun w' _ => rpick24_fn y0 3 w0.1 w0.2 (by decide) w') ?_
      apply HB.fold
      refine HB.pa 5 rfl ?_
      refine HB.all (by repeat (first | exact Keep.nil | refine Keep.blk (by (repeat (first | exact List.Mem.head _ | apply List.Mem.tail)); done) rfl ?_ | refine Keep.grow (by (repeat (first | exact List.Mem.head _ | apply List.Mem.tail)); done) (by assumption) ?_ | refine Keep.base (by assumption) ?_)) [8, 11] (by kernel_rfl) rfl ⟨⟨_, rfl, ?_⟩, ⟨_, rfl, ?_⟩, trivial⟩
      · refine HP.one ?_
        refine H1.call0 (vs := [zv y1, zv 4]) rfl rfl (fun w' _ => rpick24_fn y1 4 w1.1 w1.2 (by decide) w') ?_
        apply HB.fold
        refine HB.pa 9 rfl ?_
        refine HB.pa 10 rfl ?_ (POp.build (cs := ndC ⟨lastId N + 1 + pickI21 y0 3, 1, 1 + pickI21 y1 4, []⟩ (.slice none 0 0)) rfl rfl)
        refine HB.all (by repeat (first | exact Keep.nil | refine Keep.blk (by (repeat (first | exact List.Mem.head _ | apply List.Mem.tail)); done) rfl ?_ | refine Keep.grow (by (repeat (first | exact List.Mem.head _ | apply List.Mem.tail)); done) (by assumption) ?_ | refine Keep.base (by assumption) ?_)) [11] (by kernel_rfl) rfl ⟨⟨_, rfl, ?_⟩, trivial⟩
        refine HP.one ?_
        refine H1.alloc (cs := ndC ⟨0, 0, 0, []⟩ (.slice none 0 0)) rfl rfl (fun b9 => ?_)
        apply HB.fold
        refine HB.all (by repeat (first | exact Keep.nil | refine Keep.blk (by (repeat (first | exact List.Mem.head _ | apply List.Mem.tail)); done) rfl ?_ | refine Keep.grow (by (repeat (first | exact List.Mem.head _ | apply List.Mem.tail)); done) (by assumption) ?_ | refine Keep.base (by assumption) ?_)) [12] (by kernel_rfl) rfl ⟨⟨_, rfl, ?_⟩, trivial⟩
        refine HP.one ?_
        refine H1.stAgg (b := b9) (cs := ndC ⟨0, 0, 0, []⟩ (.slice none 0 0)) (vs := ndC ⟨lastId N + 1 + pickI21 y0 3, 1, 1 + pickI21 y1 4, []⟩ (.slice none 0 0)) rfl rfl rfl (nd_one rfl) rplA rfl ?_
        apply HB.fold
        refine HB.done (by repeat (first | exact Keep.nil | refine Keep.blk (by (repeat (first | exact List.Mem.head _ | apply List.Mem.tail)); done) rfl ?_ | refine Keep.grow (by (repeat (first | exact List.Mem.head _ | apply List.Mem.tail)); done) (by assumption) ?_ | refine Keep.base (by assumption) ?_)) (by kernel_rfl) ?_
        exact HX.cut b9 trivial esA (by repeat (first | exact Hs.nil _ | (refine Hs.cons pickA ?_)))
      · refine HP.one ?_
        refine H1.alloc (cs := ndC ⟨0, 0, 0, []⟩ (.slice none 0 0)) rfl rfl (fun b9 => ?_)
        apply HB.fold
        refine HB.all (by repeat (first | exact Keep.nil | refine Keep.blk (by (repeat (first | exact List.Mem.head _ | apply List.Mem.tail)); done) rfl ?_ | refine Keep.grow (by (repeat (first | exact List.Mem.head _ | apply List.Mem.tail)); done) (by assumption) ?_ | refine Keep.base (by assumption) ?_)) [8] (by kernel_rfl) rfl ⟨⟨_, rfl, ?_⟩, trivial⟩
        refine HP.one ?_
        refine H1.call0 (vs := [zv y1, zv 4]) rfl rfl (fun w' _ => rpick24_fn y1 4 w1.1 w1.2 (by decide) w') ?_
        apply HB.fold
        refine HB.pa 9 rfl ?_
        refine HB.pa 10 rfl ?_ (POp.build (cs := ndC ⟨lastId N + 1 + pickI21 y0 3, 1, 1 + pickI21 y1 4, []⟩ (.slice none 0 0)) rfl rfl)
        refine HB.all (by repeat (first | exact Keep.nil | refine Keep.blk (by (repeat (first | exact List.Mem.head _ | apply List.Mem.tail)); done) rfl ?_ | refine Keep.grow (by (repeat (first | exact List.Mem.head _ | apply List.Mem.tail)); done) (by assumption) ?_ | refine Keep.base (by assumption) ?_)) [12] (by kernel_rfl) rfl ⟨⟨_, rfl, ?_⟩, trivial⟩
        refine HP.one ?_
        refine H1.stAgg (b := b9) (cs := ndC ⟨0, 0, 0, []⟩ (.slice none 0 0)) (vs := ndC ⟨lastId N + 1 + pickI21 y0 3, 1, 1 + pickI21 y1 4, []⟩ (.slice none 0 0)) rfl rfl rfl (nd_one rfl) rplA rfl ?_
        apply HB.fold
        refine HB.done (by repeat (first | exact Keep.nil | refine Keep.blk (by (repeat (first | exact List.Mem.head _ | apply List.Mem.tail)); done) rfl ?_ | refine Keep.grow (by (repeat (first | exact List.Mem.head _ | apply List.Mem.tail)); done) (by assumption) ?_ | refine Keep.base (by assumption) ?_)) (by kernel_rfl) ?_
        exact HX.cut b9 trivial esA (by repeat (first | exact Hs.nil _ | (refine Hs.cons pickA ?_)))
    · refine HP.one ?_
      refine H1.alloc (cs := ndC ⟨0, 0, 0, []⟩ (.slice none 0 0)) rfl rfl (fun b9 => ?_)
      apply HB.fold
      refine HB.all (by repeat (first | exact Keep.nil | refine Keep.blk (by (repeat (first | exact List.Mem.head _ | apply List.Mem.tail)); done) rfl ?_ | refine Keep.grow (by (repeat (first | exact List.Mem.head _ | apply List.Mem.tail)); done) (by assumption) ?_ | refine Keep.base (by assumption) ?_)) [4] (by kernel_rfl) rfl ⟨⟨_, rfl, ?_⟩, trivial⟩
      refine HP.one ?_
      refine H1.call0 (vs := [zv y0, zv 3]) rfl rfl (fun w' _ => rpick24_fn y0 3 w0.1 w0.2 (by decide) w') ?_
      apply HB.fold
      refine HB.pa 5 rfl ?_
      refine HB.all (by repeat (first | exact Keep.nil | refine Keep.blk (by (repeat (first | exact List.Mem.head _ | apply List.Mem.tail)); done) rfl ?_ | refine Keep.grow (by (repeat (first | exact List.Mem.head _ | apply List.Mem.tail)); done) (by assumption) ?_ | refine Keep.base (by assumption) ?_)) [8] (by kernel_rfl) rfl ⟨⟨_, rfl, ?_⟩, trivial⟩
      refine HP.one ?_
      refine H1.call0 (vs := [zv y1, zv 4]) rfl rfl (fun w' _ => rpick24_fn y1 4 w1.1 w1.2 (by decide) w') ?_
      apply HB.fold
      refine HB.pa 9 rfl ?_
      refine HB.pa 10 rfl ?_ (POp.build (cs := ndC ⟨lastId N + 1 + pickI21 y0 3, 1, 1 + pickI21 y1 4, []⟩ (.slice none 0 0)) rfl rfl)
      refine HB.all (by repeat (first | exact Keep.nil | refine Keep.blk (by (repeat (first | exact List.Mem.head _ | apply List.Mem.tail)); done) rfl ?_ | refine Keep.grow (by (repeat (first | exact List.Mem.head _ | apply List.Mem.tail)); done) (by assumption) ?_ | refine Keep.base (by assumption) ?_)) [12] (by kernel_rfl) rfl ⟨⟨_, rfl, ?_⟩, trivial⟩
      refine HP.one ?_
      refine H1.stAgg (b := b9) (cs := ndC ⟨0, 0, 0, []⟩ (.slice none 0 0)) (vs := ndC ⟨lastId N + 1 + pickI21 y0 3, 1, 1 + pickI21 y1 4, []⟩ (.slice none 0 0)) rfl rfl rfl (nd_one rfl) rplA rfl ?_
      apply HB.fold
      refine HB.done (by repeat (first | exact Keep.nil | refine Keep.blk (by (repeat (first | exact List.Mem.head _ | apply List.Mem.tail)); done) rfl ?_ | refine Keep.grow (by (repeat (first | exact List.Mem.head _ | apply List.Mem.tail)); done) (by assumption) ?_ | refine Keep.base (by assumption) ?_)) (by kernel_rfl) ?_
      exact HX.cut b9 trivial esA (by repeat (first | exact Hs.nil _ | (refine Hs.cons pickA ?_)))
  rintro b9 -
  refine HC.seq ?_
  refine HC.cut (α := Option Addr × Nat) (fun _ => [(0, .slice (some ⟨bx, off, none⟩) rows.length c0), (4, .slice an i cn), (5, .slice ad i cd), (7, zv (i : Int)), (8, .pointer (some ⟨b8, 0, none⟩)), (9, .pointer (some ⟨b9, 0, none⟩))])
    (fun q => [A.grow 3 1 q.1 q.2 (mkNd N [y0, y1, y2, y3]).src.length (ints (mkNd N [y0, y1, y2, y3]).src), A.blk b9 (ndC (mkNd N [y0, y1, y2, y3]) (.slice q.1 (mkNd N [y0, y1, y2, y3]).src.length q.2)) 31, A.blk b8 (ints [y0, y1, y2, y3]) 70, A.grow 31 4 an cn i (ndsV z), A.grow 9 1 ad cd i (strs (madeD rows i)), A.all (rowsA z)]) (fun _ => True) ?_ ?_
  · by_cases h0 : 0 < i
    rotate_left
    · have h0' : ¬ (0 : Int) < (i : Int) := by omega
      have hm : mkNd N [y0, y1, y2, y3] = ⟨lastId N + 1 + pickI21 y0 3, 1, 1 + pickI21 y1 4, []⟩ := by
        unfold mkNd
        rw [if_neg fun h => by have := h.1; omega]
        rfl
      rw [hm]
      refine HC.grow0 3 1 ?_
      refine hwOC ?_
      exact HX.cut (none, 0) trivial esA (by repeat (first | exact Hs.nil _ | (refine Hs.cons pickA ?_)))
    have h0' : (0 : Int) < (i : Int) := by omega
    have q2 := pickI21_lt (y0.tdiv 3) (n := 3) (by decide)
    have u0 := w0.tdiv (n := 3) (by decide)
    have u1 := w1.tdiv (n := 4) (by decide)
    refine hwOC ?_
    refine HL.pa ?_ (POp.quoT rfl rfl w0.1 w0.2 (by decide))
    refine hwOC ?_
    refine HL.one (H1.call0 (vs := [_, zv 3]) rfl rfl (fun w' _ => rpick24_fn (y0.tdiv 3) 3 u0.1 u0.2 (by decide) w') ?_)
    by_cases hp : 0 < pickI21 (y0.tdiv 3) 3
    rotate_left
    · have hm : mkNd N [y0, y1, y2, y3] = ⟨lastId N + 1 + pickI21 y0 3, 1, 1 + pickI21 y1 4, []⟩ := by
        unfold mkNd
        rw [if_neg fun h => hp h.2]
        rfl
      rw [hm]
      refine HL.fold ?_
      refine HL.grow0 3 1 ?_
      refine hwOC ?_
      exact HX.cut (none, 0) trivial esA (by repeat (first | exact Hs.nil _ | (refine Hs.cons pickA ?_)))
    have hsrc : isSrc N [y0, y1, y2, y3] := ⟨by omega, hp⟩
    obtain ⟨a, hae, ha⟩ : ∃ a : Nat, pickI21 y2 (i : Int) = (a : Int) ∧ a < i := by
      have := pickI21_lt y2 (n := (i : Int)) (by omega)
      exact ⟨(pickI21 y2 (i : Int)).toNat, by omega, by omega⟩
    obtain ⟨b, hbe, hb⟩ : ∃ b : Nat, pickI21 y3 (i : Int) = (b : Int) ∧ b < i := by
      have := pickI21_lt y3 (n := (i : Int)) (by omega)
      exact ⟨(pickI21 y3 (i : Int)).toNat, by omega, by omega⟩
    have hm : mkNd N [y0, y1, y2, y3] = ⟨lastId N + 1 + pickI21 y0 3, 2 + pickI21 (y1.tdiv 4) 4, (ndAt N a).pack, (ndAt N (min a b)).id :: if a = b then [] else [(ndAt N (max a b)).id]⟩ := by
      have h1 : srcA N [y0, y1, y2, y3] = a := by
        show (pickI21 y2 (N.length : Int)).toNat = a
        rw [hll, hae]; rfl
      have h2 : srcB N [y0, y1, y2, y3] = b := by
        show (pickI21 y3 (N.length : Int)).toNat = b
        rw [hll, hbe]; rfl
      unfold mkNd
      rw [if_pos hsrc, h1, h2]
      rfl
    have q3 := pickI21_lt (y1.tdiv 4) (n := 4) (by decide)
    have gpa := (zGet hz (i := a) (by omega)).2
    have gmin := (zGet hz (i := min a b) (by omega)).1
    have gmax := (zGet hz (i := max a b) (by omega)).1
    have hmin : (min (a : Int) (b : Int)).toNat = min a b := by omega
    have hmax : (max (a : Int) (b : Int)).toNat = max a b := by omega
    rw [hm]
    generalize (ndAt N a).pack = pk at gpa hm ⊢
    generalize (ndAt N (min a b)).id = idn at gmin hm ⊢
    generalize (ndAt N (max a b)).id = idx at gmax hm ⊢
    refine HL.fold ?_
    refine HL.openg (e := 31) (sz := 4) (a := an) (c := cn) (n := i) (xs := ndsV z) memA (by omega) ?_
    rintro bn rfl
    refine hwOC ?_
    refine HL.pa ?_ (POp.quoT rfl rfl w1.1 w1.2 (by decide))
    refine hwOC ?_
    refine HL.one (H1.call0 (vs := [_, zv 4]) rfl rfl (fun w' _ => rpick24_fn (y1.tdiv 4) 4 u1.1 u1.2 (by decide) w') ?_)
    refine hwOC ?_
    refine HL.one (H1.st (b := b9) (i := 1) rfl rfl (by intro _ h; cases h) (by intro _ h; cases h) rplA (by show 1 < 4; decide) ?_)
    refine hwOC ?_
    refine HL.one (H1.call0 (vs := [zv y2, zv (i : Int)]) rfl rfl (fun w' _ => rpick24_fn y2 (i : Int) w2.1 w2.2 (by omega) w') ?_)
    rw [hae]
    refine hwOC ?_
    refine HL.one (H1.call0 (vs := [zv y3, zv (i : Int)]) rfl rfl (fun w' _ => rpick24_fn y3 (i : Int) w3.1 w3.2 (by omega) w') ?_)
    rw [hbe]
    refine hwOC ?_
    refine HL.one (H1.ldg (c := cn) (n := i) (sz := 4) (e := 31) (vs := ndsV z) (i := a * 4 + 2) rfl memA gpa rfl ?_)
    refine hwOC ?_
    refine HL.one (H1.st (b := b9) (i := 2) rfl rfl (by intro _ h; cases h) (by intro _ h; cases h) rplA (by show 2 < 4; decide) ?_)
    refine hwOC ?_
    refine HL.one (H1.ldg (c := cn) (n := i) (sz := 4) (e := 31) (vs := ndsV z) (i := min a b * 4) (by show some (Value.pointer (some ⟨bn, (min (a : Int) (b : Int)).toNat * 4 + 0, none⟩)) = _; rw [hmin]; rfl) memA gmin rfl ?_)
    refine hwOC ?_
    refine HL.one (H1.lit (cs := [zv idn]) rfl rfl rfl rfl rfl rfl (fun b10 => ?_))
    refine hwOC ?_
    refine HL.one (H1.st (b := b9) (i := 3) rfl rfl (by intro _ h; cases h) (by intro _ h; cases h) rplA (by show 3 < 4; decide) ?_)
    refine HL.fold ?_
    refine HL.conv24 (H2 := [A.blk b10 [zv idn] 3, A.blk b9 [zv (lastId N + 1 + pickI21 y0 3), zv (2 + pickI21 (y1.tdiv 4) 4), zv pk, .slice (some ⟨b10, 0, none⟩) 1 1] 31, A.blk b8 (ints [y0, y1, y2, y3]) 70, A.grow 31 4 (some ⟨bn, 0, none⟩) cn i (ndsV z), A.grow 9 1 ad cd i (strs (madeD rows i)), A.all (rowsA z)]) (fun w h => h) ?_
    by_cases hab : a = b
    · have hab' : ((a : Nat) : Int) = (b : Int) := by omega
      rw [if_pos hab]
      refine hwOC ?_
      refine HX.conv (fun w h => Mm.blkGrow (n := 1) (sz := 1) h rfl (by decide)) ?_
      exact HX.cut (some ⟨b10, 0, none⟩, 1) trivial esA (by repeat (first | exact Hs.nil _ | (refine Hs.cons pickA ?_)))
    have hab' : ¬ ((a : Nat) : Int) = (b : Int) := by omega
    rw [if_neg hab]
    refine hwOC ?_
    refine HC.anyU ([(12, ⟨b9, 3, none⟩, .slice (some ⟨b10, 0, none⟩) 1 1), (12, ⟨bn, max a b * 4, none⟩, zv idx)]) rfl ?_
    refine HU.pa 0 rfl ?_
    refine HU.ld (s := 12) 1 rfl rfl (.head _) ?_
    refine HU.pa 2 rfl ?_
    refine HU.pa 3 rfl ?_
    refine HU.pa 4 rfl ?_
    refine HU.pa 5 rfl ?_
    refine HU.pa 6 rfl ?_
    refine HU.pa 7 rfl ?_
    refine HU.ld (s := 12) (ad := ⟨bn, max a b * 4, none⟩) (v := zv idx) 8 rfl (by show some (Value.pointer (some ⟨bn, (max (a : Int) (b : Int)).toNat * 4 + 0, none⟩)) = _; rw [hmax]; rfl) (.tail _ (.head _)) ?_
    refine HU.all (by (first | refine KeepU.blk (by (repeat (first | exact List.Mem.head _ | apply List.Mem.tail)); done) rfl ?_ | refine KeepU.grow (by (repeat (first | exact List.Mem.head _ | apply List.Mem.tail)); done) (by assumption) ?_ | refine KeepU.base (by assumption) ?_); (first | refine KeepU.blk (by (repeat (first | exact List.Mem.head _ | apply List.Mem.tail)); done) rfl ?_ | refine KeepU.grow (by (repeat (first | exact List.Mem.head _ | apply List.Mem.tail)); done) (by assumption) ?_ | refine KeepU.base (by assumption) ?_); exact KeepU.nil) [9] (by kernel_rfl) rfl ⟨⟨_, rfl, ?_⟩, trivial⟩
    refine HV.one ?_
    refine H1.lit (cs := [zv idx]) rfl rfl rfl rfl rfl rfl (fun b11 => ?_)
    apply HU.fold
    refine HU.all (by (first | refine KeepU.blk (by (repeat (first | exact List.Mem.head _ | apply List.Mem.tail)); done) rfl ?_ | refine KeepU.grow (by (repeat (first | exact List.Mem.head _ | apply List.Mem.tail)); done) (by assumption) ?_ | refine KeepU.base (by assumption) ?_); (first | refine KeepU.blk (by (repeat (first | exact List.Mem.head _ | apply List.Mem.tail)); done) rfl ?_ | refine KeepU.grow (by (repeat (first | exact List.Mem.head _ | apply List.Mem.tail)); done) (by assumption) ?_ | refine KeepU.base (by assumption) ?_); exact KeepU.nil) [10] (by kernel_rfl) rfl ⟨⟨_, rfl, ?_⟩, trivial⟩
    refine HV.one ?_
    refine H1.conv2 (H2 := A.grow 3 1 (some ⟨b10, 0, none⟩) 1 1 [zv idn] :: [A.blk b11 [zv idx] 3, A.blk b9 [zv (lastId N + 1 + pickI21 y0 3), zv (2 + pickI21 (y1.tdiv 4) 4), zv pk, .slice (some ⟨b10, 0, none⟩) 1 1] 31, A.blk b8 (ints [y0, y1, y2, y3]) 70, A.grow 31 4 (some ⟨bn, 0, none⟩) cn i (ndsV z), A.grow 9 1 ad cd i (strs (madeD rows i)), A.all (rowsA z)]) (fun w h => Mm.blkGrow (n := 1) (sz := 1) (h.sub (by repeat (first | exact Hs.nil _ | (refine Hs.cons pickA ?_)))) rfl (by decide)) ?_
    refine H1.app1 (u := zv idx) rfl rfl (fun _ _ => by first | ((repeat (first | with_reducible exact Rpl.here | with_reducible apply Rpl.there)); done) | (repeat (first | exact Rpl.here | apply Rpl.there))) memA rfl rfl (by omega) rfl rfl (fun a' c' => ?_)
    apply HU.fold
    refine HU.pa 11 rfl ?_
    refine HU.all (by (first | refine KeepU.blk (by (repeat (first | exact List.Mem.head _ | apply List.Mem.tail)); done) rfl ?_ | refine KeepU.grow (by (repeat (first | exact List.Mem.head _ | apply List.Mem.tail)); done) (by assumption) ?_ | refine KeepU.base (by assumption) ?_); (first | refine KeepU.blk (by (repeat (first | exact List.Mem.head _ | apply List.Mem.tail)); done) rfl ?_ | refine KeepU.grow (by (repeat (first | exact List.Mem.head _ | apply List.Mem.tail)); done) (by assumption) ?_ | refine KeepU.base (by assumption) ?_); exact KeepU.nil) [12] (by kernel_rfl) rfl ⟨⟨_, rfl, ?_⟩, trivial⟩
    refine HV.one ?_
    refine H1.st (b := b9) (i := 3) rfl rfl (by intro _ h; cases h) (by intro _ h; cases h) rplA (by show 3 < 4; decide) ?_
    apply HU.fold
    refine HU.done (by refine KeepU.skip (by kernel_rfl) ?_; refine KeepU.skip (by kernel_rfl) ?_; exact KeepU.nil) (by kernel_rfl) ?_
    refine hwOC ?_
    exact HX.cut (some ⟨a', 0, none⟩, c') trivial esA (by repeat (first | exact Hs.nil _ | (refine Hs.cons pickA ?_)))
  rintro ⟨az, cz⟩ -
  dsimp only
  generalize hM0 : mkNd N [y0, y1, y2, y3] = n at hstep hid hlast2 ⊢
  have hzn : ndsZ (z ++ [(n, az, cz)]) = madeL rows (i + 1) := by
    rw [hstep]
    unfold ndsZ at hz ⊢
    rw [List.map_append, hz]; rfl
  have hnv : ndsV z ++ ndC n (.slice az n.src.length cz) = ndsV (z ++ [(n, az, cz)]) := (ndsV_snoc z (n, az, cz)).symm
  have hi3 : i64W (i : Int) := by unfold i64W; omega
  refine hwOC ?_
  refine HL.one (H1.ldAgg (b := b9) (vs := ndC n (.slice az n.src.length cz)) rfl memA rfl (fun i v hv => by rw [Nat.zero_add]; exact hv) rfl ?_)
  refine hwOC ?_
  refine HL.one (H1.lit (cs := ndC n (.slice az n.src.length cz)) rfl rfl rfl rfl rfl rfl (fun b10 => ?_))
  refine hwOC ?_
  refine HL.one (H1.app (sz := 4) (m := 1) (news := ndC n (.slice az n.src.length cz)) rfl (by decide) rfl rfl (fun _ _ => by first | ((repeat (first | with_reducible exact Rpl.here | with_reducible apply Rpl.there)); done) | (repeat (first | exact Rpl.here | apply Rpl.there))) rfl (fun w' hM j u hj => by rw [add_lit, Nat.zero_add]; exact (hM.blk (b := b10) memA).cell hj) (nd_one rfl) (by omega) (by decide) rfl (fun an2 cn2 _ => ?_))
  rw [hnv]
  refine hwOC ?_
  refine HL.one (H1.lit (cs := ints [y2, (i : Int)]) rfl rfl rfl rfl rfl rfl (fun b11 => ?_))
  refine hwOC ?_
  refine HL.one (H1.callx (vs := [_]) rfl rfl (fun w' hM => numbers24_fn (.slice (some ⟨b11, 0, none⟩) 2 2) [y2, (i : Int)] (by show 2 ≤ _; omega) (fun x hx => by
    simp only [List.mem_cons, List.not_mem_nil, or_false] at hx
    rcases hx with rfl | rfl
    · exact w2
    · exact hi3) w' (blk_rd (hM.blk (b := b11) memA) rfl)) ?_)
  refine hwOC ?_
  refine HL.one (H1.callx (vs := [_]) rfl rfl (fun w' hM => refSum_fn (rnsB [y2, (i : Int)]) (by have := rnsB_size [y2, (i : Int)]; simp only [List.length_cons, List.length_nil] at this; omega) w') ?_)
  refine hwOC ?_
  refine HL.one (H1.lit (cs := [.string (sumS (rnsB [y2, (i : Int)]))]) rfl rfl rfl rfl rfl rfl (fun b12 => ?_))
  refine hwOC ?_
  refine HL.one (H1.app1 (u := .string (sumS (rnsB [y2, (i : Int)]))) rfl rfl (fun _ _ => by first | ((repeat (first | with_reducible exact Rpl.here | with_reducible apply Rpl.there)); done) | (repeat (first | exact Rpl.here | apply Rpl.there))) memA rfl rfl (by omega) rfl rfl (fun ad2 cd2 => ?_))
  rw [hdst]
  refine hwOC ?_
  refine HX.conv (H2 := A.all (rowsA (z ++ [(n, az, cz)])) :: [A.grow 31 4 an2 cn2 (i + 1) (ndsV (z ++ [(n, az, cz)])), A.grow 9 1 (some ⟨ad2, 0, none⟩) cd2 (i + 1) (strs (madeD rows (i + 1)))]) (fun w h => by
    rw [rowsA_snoc]
    exact Mm.allAdd (h.sub (Hs.cons (a := A.grow 3 1 az cz n.src.length (ints n.src)) pickA (Hs.cons (a := A.all (rowsA z)) pickA (by repeat (first | exact Hs.nil _ | (refine Hs.cons pickA ?_))))))) ?_
  exact HX.again (i + 1, z ++ [(n, az, cz)], (an2, cn2), some ⟨ad2, 0, none⟩, cd2) ⟨hlt, h20, hzn⟩ (by show 20 - (i + 1) < 20 - i; omega) (by dsimp only; rw [hlast2]; repeat (first | exact trivial | refine ⟨rfl, ?_⟩)) (by repeat (first | exact Hs.nil _ | (refine Hs.cons pickA ?_)))
end Go.Sx
/- Chapter 24: equal nodes, equal texts: the walks. -/
namespace Go.Sx
open Go Go.Proofs Go.RowKit
theorem take_getB {l : List ByteArray} {k : Nat} (h : k < l.length) : l.take (k + 1) = l.take k ++ [getB l k] := by
  rw [List.take_add_one, List.getElem?_eq_getElem h]
  simp [getB, h]
attribute [local irreducible] WC WL WX POp Then Again Fn NX W1 WA WO QL RP RA Yld LoopAt HC HL HX HN H1 HA HO HQ HB HP A.blk A.grow A.rd A.obj A.mp AgainH CutH
attribute [local irreducible] A.mq A.mit A.all sumS
end Go.Sx
/- Chapter 24: a base with an order: the walk. -/
namespace Go.Sx
open Go Go.Proofs Go.RowKit
def askR (pk fr : Int) : Rc := ⟨8, 5, 1, 0, false, fr, 0, pk, 0, 0, 0, 1, false, 0, ⟨#[]⟩⟩
theorem Mm.slotR24 {w0 w : World} {H : List Atom} {q : Nat → Slot} (h : Mm w0 H w) (hm : bsA q ∈ H) {i : Nat} (hi : i < 8) : RdR w (slot (q i)) (bsL q i) := by
  have hp : ∀ x ∈ slots q, x.p w := h.all _ hm
  exact RdR.of_owns (hp _ (List.mem_map.2 ⟨i, List.mem_range.2 hi, rfl⟩))
theorem of_len24 {l : List Rc} {day k : Int} {L : List Rc} (h : IsOf l day k L) : L.length ≤ l.length :=
  nodup_len (h.asc.imp fun h e => by subst e; omega) fun r hr => ((h.mem r).1 hr).1.1.mem
/-- A base with one order. -/
structure AskV (w : World) (v : Value) (B : Nat → List Rc) (r : Rc) : Prop where
  base : BaseV w v B
  ord : B 7 = [r]
  h4 : (B 4).length ≤ 30
  h5 : (B 5).length ≤ 30
attribute [local irreducible] WC WL WX POp Then Again Fn NX W1 WA WO QL RP RA Yld LoopAt HC HL HX HN H1 HA HO HQ HB HP A.blk A.grow A.rd A.obj A.mp AgainH CutH
attribute [local irreducible] A.dfr A.loop bsA
end Go.Sx
/- Chapter 24: a base with an order and nothing else: the walk. -/
namespace Go.Sx
open Go Go.Proofs Go.RowKit
theorem hwOK {G G2 : Prop} (x : G2) (hwq : Hold G2 → G := by
    intro hQq
    repeat' (first | refine HL.pa ?_ (POp.nilCheck rfl) | apply HL.fold | apply HA.fold | apply HL.nil | apply HX.n_then | apply HC.seq | apply HC.region | refine HL.pa ?_ | refine HL.ga rfl ?_ | refine HL.na rfl ?_ | refine HL.nu rfl rfl ?_ | apply HC.block | apply HC.skip | apply HC.exit | apply HC.ret | apply HX.e_block | refine HX.e_other rfl ?_ | apply HX.e_then | apply HX.e_again | apply HX.n_block | apply HX.r_then | apply HX.r_block | apply HX.r_again | refine HC.cond_yes rfl ?_ | refine HC.cond_no rfl ?_ | refine HL.one (H1.ldb rfl memA rfl rfl ?_) | refine HC.cond rfl (fun hc => ?_) (fun hc => ?_) | refine HC.cond_b rfl (fun hc => ?_) (fun hc => ?_))
    exact hQq.get) : G := hwq ⟨x⟩
attribute [local irreducible] WC WL WX POp Then Again Fn NX W1 WA WO QL RP RA Yld LoopAt HC HL HX HN H1 HA HO HQ HB HP A.blk A.grow A.rd A.obj A.mp AgainH CutH
attribute [local irreducible] A.dfr A.loop bsA
theorem someNil_fn (w : World) : Fn Tryz.prog 58 #[.slice none 0 0] w fun u w' => u = .slice none 0 0 ∧ Ext w w' := by
  refine enterH (l := [_]) rfl Tryz.ntmps58 rfl ?_
  refine hwOK ?_
  refine HC.loop (α := Unit) (fun _ => [(0, .slice none 0 0), (3, .slice none 0 0), (4, zv 0)]) (fun _ => []) (fun _ => True) (fun _ => 0) () trivial esA (Hs.refl _) ?_
  rintro - -
  have h : ¬ (0 : Int) < ((0 : Nat) : Int) := by decide
  refine hwOK ?_
  exact HX.ret1 rfl rfl fun w' hM => ⟨rfl, hM.ext⟩
set_option maxHeartbeats 2000000 in
theorem askedNil_fn (pack fr : Int) (hp : i64W pack) (hf : i64W fr) (w : World) :
    Fn Tryz.prog 24 #[.slice none 0 0, zv pack, zv fr] w fun u w' => (∃ B, AskV w' u B (askR (1 + pickI21 pack 5) (pickI21 fr 60)) ∧ B 4 = []) ∧ Ext w w' := by
  have q1 := pickI21_lt pack (n := 5) (by decide)
  have q2 := pickI21_lt fr (n := 60) (by decide)
  refine enterH (l := [_, _, _]) rfl Tryz.ntmps24 rfl ?_
  refine hwOK ?_
  refine HL.one (H1.alloc (cs := row 8 fun _ => .slice none 0 0) rfl rfl (fun b6 => ?_))
  refine hwOK ?_
  refine HL.one (H1.callx (vs := [.slice none 0 0]) rfl rfl (fun w' hM => someNil_fn w') ?_)
  refine hwOK ?_
  refine HL.one (H1.callz1 (α := Nat → Slot) (V := fun q => bsV q) (An := fun q => bsA q) (I := fun q => ∀ i : Nat, i < 8 → IsOf [] 100000 ((i : Int) + 1) (bsL q i)) (vs := [.slice none 0 0, zv 100000]) rfl rfl (fun w' hM => of_fn none 0 [] (Nat.zero_le _) (fun r hr => by cases hr) 100000 w' (RdR.nil w' none 0)) ?_)
  intro q hq
  refine hwOK ?_
  refine HL.one (H1.alloc (cs := row 8 fun _ => .slice none 0 0) rfl rfl (fun b7 => ?_))
  refine hwOK ?_
  refine HL.one (H1.stAgg (b := b7) (cs := row 8 fun _ => .slice none 0 0) (vs := row 8 fun i => slot (q i)) rfl rfl rfl (by
    intro v hv
    obtain ⟨i, -, rfl⟩ := List.mem_map.1 hv
    rfl) rplA rfl ?_)
  refine hwOK ?_
  refine HL.one (H1.call0 (vs := [zv fr, zv 60]) rfl rfl (fun w' _ => lpick24_fn fr 60 hf.1 hf.2 (by decide) w') ?_)
  refine hwOK ?_
  refine HL.one (H1.call0 (vs := [zv pack, zv 5]) rfl rfl (fun w' _ => lpick24_fn pack 5 hp.1 hp.2 (by decide) w') ?_)
  refine hwOK ?_
  refine HL.build (cs := rcells (askR (1 + pickI21 pack 5) (pickI21 fr 60))) rfl rfl rfl ?_
  refine hwOK ?_
  refine HL.one (H1.lit (cs := rcells (askR (1 + pickI21 pack 5) (pickI21 fr 60))) rfl rfl rfl rfl rfl rfl (fun b8 => ?_))
  refine hwOK ?_
  refine HL.one (H1.st (b := b7) (i := 7) rfl rfl (by intro _ h; cases h) (by intro _ h; cases h) rplA (by show 7 < 8; decide) ?_)
  rw [show (row 8 fun i => slot (q i)).set 7 (.slice (some ⟨b8, 0, none⟩) 1 1) = row 8 fun i => if i = 7 then .slice (some ⟨b8, 0, none⟩) 1 1 else slot (q i) from rfl]
  refine hwOK ?_
  refine HL.one (H1.ldAgg (b := b7) (vs := row 8 fun i => if i = 7 then .slice (some ⟨b8, 0, none⟩) 1 1 else slot (q i)) rfl memA rfl (fun i v h => by rwa [Nat.zero_add]) rfl ?_)
  refine hwOK ?_
  refine HL.one (H1.stAgg (b := b6) (cs := row 8 fun _ => .slice none 0 0) (vs := row 8 fun i => if i = 7 then .slice (some ⟨b8, 0, none⟩) 1 1 else slot (q i)) rfl rfl rfl (by
    intro v hv
    obtain ⟨i, -, rfl⟩ := List.mem_map.1 hv
    by_cases h : i = 7
    · rw [if_pos h]; rfl
    · rw [if_neg h]; rfl) rplA rfl ?_)
  refine hwOK ?_
  refine HX.retc1 (b := b6) (cs := row 8 fun i => if i = 7 then .slice (some ⟨b8, 0, none⟩) 1 1 else slot (q i)) rfl rfl memA rfl fun w' hM => ⟨⟨fun i => if i = 7 then [askR (1 + pickI21 pack 5) (pickI21 fr 60)] else bsL q i, ⟨⟨_, rfl, fun i hi => ?_⟩, rfl, ?_, ?_⟩, ?_⟩, hM.ext⟩
  · by_cases h : i = 7
    · subst h
      exact RdR.of_blk (l := [askR (1 + pickI21 pack 5) (pickI21 fr 60)]) (hM.blk (b := b8) memA)
    · dsimp only
      rw [if_neg h, if_neg h]
      exact hM.slotR24 memA hi
  · exact Nat.le_trans (of_len24 (hq 4 (by decide))) (Nat.zero_le _)
  · exact Nat.le_trans (of_len24 (hq 5 (by decide))) (Nat.zero_le _)
  · exact List.length_eq_zero_iff.1 (Nat.le_zero.1 (of_len24 (hq 4 (by decide))))
end Go.Sx
/- Plain, chapter 24: what is left after two orders does not depend on which comes first. -/
namespace Go.Sx
open Go Go.RowKit
def leftN1 (l : List Nd) (g : List Int) : List Nd := l.filter fun n => decide (n.id ∈ g) == false
end Go.Sx
/- Chapter 24: the law LineageOrders: the walk. -/
namespace Go.Sx
open Go Go.Proofs Go.RowKit
/-- What Delete returns, whatever it is. -/
structure AnyD where
  x1 : Option Addr × Nat × Nat
  x2 : Option Addr × Nat × Nat
  o : Int
  d : Int
  b : ByteArray
  a : ByteArray
  x3 : Option Addr × Nat × Nat
  x4 : Option Addr × Nat × Nat
  e : Int
def slV (x : Option Addr × Nat × Nat) : Value := .slice x.1 x.2.1 x.2.2
def anyT (z : AnyD) : List Value := [zv z.o, zv z.d, .string z.b, .string z.a, slV z.x3, slV z.x4]
def anyDV (z : AnyD) : Value := .tuple #[slV z.x1, slV z.x2, .agg (anyT z).toArray, zv z.e]
/-- A base with orders alone. -/
def ordB (L : List Rc) (i : Nat) : List Rc := if i = 7 then L else []
def ordR (id pk : Int) : Rc := ⟨8, id, 1, 0, false, 0, 0, pk, 0, 0, 0, 1, false, 0, ⟨#[]⟩⟩
theorem ok_sizes {l : List Nd} {D : List ByteArray} (h : okS l D = true) : l.length ≤ 400000 ∧ (∀ i, i < l.length → (ndAt l i).src.length ≤ 1000000) ∧ D.length ≤ 1000000 ∧ ∀ d ∈ D, d.size ≤ 1000 := by
  have hv := okS_valid h
  have hf := okS_facts h
  have := hv.len
  exact ⟨by omega, fun i hi => by have := (hasN_iff.1 (hv.node i hi)).len; omega, by omega, fun d hd => by rw [hf.2.2 d hd]; decide⟩
theorem made_ok (rows : List (List Int)) : okS (madeL rows (madeN rows)) (madeD rows (madeN rows)) = true :=
  okS_of (madeL_ok rows (madeN rows) (by unfold madeN; omega)).valid (by rw [madeL_len, madeD_len]) (madeD_size rows _)
attribute [local irreducible] WC WL WX POp Then Again Fn NX W1 WA WO QL RP RA Yld LoopAt HC HL HX HN H1 HA HO HQ HB HP A.blk A.grow A.rd A.obj A.mp AgainH CutH
attribute [local irreducible] A.mq A.mit A.all sumS rootP
end Go.Sx
/- Chapter 24: the law LineageTombstones: the walk. -/
namespace Go.Sx
open Go Go.Proofs Go.RowKit
theorem hwOL {G G2 : Prop} (x : G2) (hwq : Hold G2 → G := by
    intro hQq
    repeat' (first | refine HL.pa ?_ (POp.nilCheck rfl) | apply HL.fold | apply HA.fold | apply HL.nil | apply HX.n_then | apply HC.seq | apply HC.region | refine HL.pa ?_ | refine HL.ga rfl ?_ | refine HL.na rfl ?_ | refine HL.nu rfl rfl ?_ | apply HC.block | apply HC.skip | apply HC.exit | apply HC.ret | apply HX.e_block | refine HX.e_other rfl ?_ | apply HX.e_then | apply HX.e_again | apply HX.n_block | apply HX.r_then | apply HX.r_block | apply HX.r_again | refine HC.cond_yes rfl ?_ | refine HC.cond_no rfl ?_ | refine HL.one (H1.ldb rfl memA rfl rfl ?_) | refine HC.cond rfl (fun hc => ?_) (fun hc => ?_) | refine HC.cond_b rfl (fun hc => ?_) (fun hc => ?_))
    exact hQq.get) : G := hwq ⟨x⟩
/-- The first nodes of a slice. -/
theorem RdN.pre {w : World} {a : Option Addr} {c k : Nat} {l : List Nd} {U : Nat → Value} (h : RdN w (.slice a l.length c) l U) (hk : k ≤ l.length) : RdN w (.slice a k c) (l.take k) U := by
  have hkl : (l.take k).length = k := by rw [List.length_take]; omega
  obtain ⟨a', c', h1, h2, h3⟩ := h.shape
  cases h1
  refine ⟨⟨a, c, by rw [hkl], by omega, ?_⟩, fun i hi => ?_⟩
  · rcases h3 with h3 | ⟨b, off, h4, h5⟩
    · exact .inl (by rw [h3]; exact List.take_nil)
    · refine .inr ⟨b, off, h4, fun i hi j u hu => h5 i (by omega) j u ?_⟩
      rwa [ndAt_takeL (by omega)] at hu
  · rw [ndAt_takeL (by omega)]
    exact h.src i (by omega)
theorem HN.openg24 {N : Nat} {ds : List Deferred} {K : Act → World → Prop} {E : Env} {w0 : World} {H : List Atom} {e : TypeId} {sz c n : Nat} {a : Option Addr} {xs : List Value} (hm : A.grow e sz a c n xs ∈ H) (hn : n ≠ 0) (h : ∀ b, a = some ⟨b, 0, none⟩ → HN N ds K E w0 H) : HN N ds K E w0 H := fun w hM => by
  rcases (hM.own hm).2 with ⟨-, h0⟩ | ⟨g, cap, cur, hv, -⟩
  · exact absurd h0 hn
  · cases hv; exact h g rfl w hM
theorem HN.capOf24 {N : Nat} {ds : List Deferred} {K : Act → World → Prop} {E : Env} {w0 : World} {H : List Atom} {e : TypeId} {sz n c : Nat} {a : Option Addr} {xs : List Value} (hm : A.grow e sz a c n xs ∈ H) (h : n ≤ c → HN N ds K E w0 H) : HN N ds K E w0 H := fun w hM => by
  refine h ?_ w hM
  rcases (hM.own hm).2 with ⟨h1, rfl⟩ | ⟨g, cap, cur, hv, -, -, hnc, -⟩
  · exact Nat.zero_le _
  · cases hv; exact hnc
theorem strs_set (l : List ByteArray) (i : Nat) (s : ByteArray) : (strs l).set i (.string s) = strs (l.set i s) := by unfold strs; rw [List.map_set]
theorem mem_setB {l : List ByteArray} {i : Nat} {s : ByteArray} (h : i < l.length) : s ∈ l.set i s := List.mem_iff_getElem.2 ⟨i, by rw [List.length_set]; exact h, by simp⟩
theorem Rd.spre {w : World} {a : Option Addr} {c k : Nat} {l : List ByteArray} (h : Rd w (.slice a l.length c) (strs l)) (hk : k ≤ l.length) : Rd w (.slice a k c) (strs (l.take k)) := by
  obtain ⟨a', c', h1, h2, h3⟩ := h
  have hkl : (strs (l.take k)).length = k := by rw [strs_len, List.length_take]; omega
  rw [strs_len] at h1 h2
  cases h1
  refine ⟨a, c, by rw [hkl], by omega, ?_⟩
  rcases h3 with h3 | ⟨b, off, h4, h5, h6⟩
  · have : l = [] := by cases l with | nil => rfl | cons => cases h3
    exact .inl (by rw [this, List.take_nil]; rfl)
  · refine .inr ⟨b, off, h4, h5, fun i u hu => h6 i u ?_⟩
    unfold strs at hu ⊢
    rw [List.getElem?_map] at hu ⊢
    rw [List.getElem?_take] at hu
    split at hu
    · exact hu
    · cases hu
def inB24 (s : ByteArray) (l : List ByteArray) : Bool := l.any fun x => decide (x = s)
theorem inB24_iff {s : ByteArray} {l : List ByteArray} : inB24 s l = true ↔ s ∈ l := by
  unfold inB24
  rw [List.any_eq_true]
  exact ⟨fun ⟨x, h1, h2⟩ => of_decide_eq_true h2 ▸ h1, fun h => ⟨s, h, decide_eq_true rfl⟩⟩
theorem inB24_no {s : ByteArray} {l : List ByteArray} : inB24 s l = false ↔ s ∉ l := by rw [← Bool.not_eq_true, inB24_iff]
theorem take_sizes {D : List ByteArray} {k : Nat} (h : ∀ d ∈ D, d.size ≤ 1000) : ∀ d ∈ D.take k, d.size ≤ 1000 := fun d hd => h d (List.mem_of_mem_take hd)
theorem set_sizes {D : List ByteArray} {k : Nat} {s : ByteArray} (h : ∀ d ∈ D, d.size ≤ 1000) (hs : s.size ≤ 1000) : ∀ d ∈ D.set k s, d.size ≤ 1000 := fun d hd => by
  rcases List.mem_or_eq_of_mem_set hd with hd | rfl
  · exact h d hd
  · exact hs
theorem take_srcs {l : List Nd} {k : Nat} (h : ∀ i, i < l.length → (ndAt l i).src.length ≤ 1000000) : ∀ i, i < (l.take k).length → (ndAt (l.take k) i).src.length ≤ 1000000 := fun i hi => by
  rw [List.length_take] at hi
  rw [ndAt_takeL (by omega)]
  exact h i (by omega)
attribute [local irreducible] WC WL WX POp Then Again Fn NX W1 WA WO QL RP RA Yld LoopAt HC HL HX HN H1 HA HO HQ HB HP A.blk A.grow A.rd A.obj A.mp AgainH CutH
attribute [local irreducible] A.mq A.mit A.all sumS rootP
theorem hasText_fn (v : Value) (l : List ByteArray) (s : ByteArray) (hl : l.length ≤ 1000000) (w : World) (hR : Rd w v (strs l)) :
    Fn Tryz.prog 35 #[v, .string s] w fun u w' => u = .bool (inB24 s l) ∧ Ext w w' := by
  obtain ⟨a, c, rfl⟩ : ∃ a c, v = .slice a l.length c := by
    obtain ⟨a, c, h1, h2, -⟩ := id hR
    rw [strs_len] at h1
    exact ⟨a, c, h1⟩
  refine enterH (l := [_, _]) rfl Tryz.ntmps35 rfl ?_
  refine hwOL ?_
  refine HC.loop (α := Nat) (fun k => [(0, .slice a l.length c), (1, .string s), (5, zv (k : Int))]) (fun _ => []) (fun k => k ≤ l.length ∧ s ∉ l.take k) (fun k => l.length - k) 0 ⟨Nat.zero_le _, by simp⟩ esA (Hs.refl _) ?_
  rintro k ⟨hk, hI⟩
  by_cases hlt : k < l.length
  · have hn : ((k : Nat) : Int) < (l.length : Int) := by omega
    obtain ⟨b, off, rfl⟩ := rd_addr hR hlt
    have hcl := hR.cell (strs_getB hlt)
    have hm := getB_mem hlt
    have htk := take_getB hlt
    generalize getB l k = x at hcl hm htk
    refine hwOL ?_
    refine HL.one (H1.ld0 rfl hcl rfl ?_)
    by_cases hx : x = s
    · refine hwOL ?_
      exact HX.ret1 rfl rfl fun w' hM => ⟨by rw [inB24_iff.2 (hx ▸ hm)], hM.ext⟩
    · refine hwOL ?_
      exact HX.again (k + 1) ⟨hlt, by rw [htk]; simp [hI, Ne.symm hx]⟩ (by show l.length - (k + 1) < l.length - k; omega) esA (Hs.refl _)
  have hn : ¬ ((k : Nat) : Int) < (l.length : Int) := by omega
  obtain rfl : k = l.length := by omega
  rw [List.take_length] at hI
  refine hwOL ?_
  exact HX.ret1 rfl rfl fun w' hM => ⟨by rw [inB24_no.2 hI], hM.ext⟩
set_option maxHeartbeats 16000000 in
theorem lineageTombstones_fn (v : Value) (rows : List (List Int)) (pack what which : Int) (h1 : i64W pack) (h2 : i64W what) (h3 : i64W which) (hrow : ∀ y ∈ rows, y.length = 4 ∧ ∀ z ∈ y, i64W z) (w : World) (hG : RoundG w) (hX : RdA 4 w v rows) :
    Fn Tryz.prog 9 #[v, zv pack, zv what, zv which] w fun u w' => u = .bool true ∧ Ext w w' := by
  refine enterH (l := [_, _, _, _]) rfl Tryz.ntmps9 rfl ?_
  refine hwOL ?_
  refine HL.one (H1.callx (vs := []) rfl rfl (fun w' hM => sane24_fn w' (hG.ext hM.ext)) ?_)
  refine hwOL ?_
  refine HL.one (H1.callr (vs := [v]) rfl rfl (fun w' hM => made24_fn v rows hrow w' (hX.ext hM.ext)) ?_)
  rintro wa u w1 hMa ⟨⟨vl, vg, U, rfl, hN1, hD1⟩, hxa⟩
  have hx1 : Ext w w1 := hMa.ext.trans hxa
  have hok := made_ok rows
  generalize madeL rows (madeN rows) = l at hN1 hok
  generalize madeD rows (madeN rows) = D at hD1 hok
  obtain ⟨hl, hls, hDl, hDs⟩ := ok_sizes hok
  refine hwOL ?_
  refine HL.one (H1.callr (vs := [.slice none 0 0, zv pack, zv 0]) rfl rfl (fun w' hM => askedNil_fn pack 0 h1 (by unfold i64W; omega) w') ?_)
  rintro wb vb w2 hMb ⟨⟨B, hB, hB4⟩, hxb⟩
  have hx2 : Ext w1 w2 := hMb.ext.trans hxb
  have hN := hN1.ext hx2
  have hD := hD1.ext hx2
  have hxw : Ext w w2 := hx1.trans hx2
  have hG2 := hG.ext hxw
  clear hN1 hD1 hMa hMb hxa hxb hx1 hx2
  have e7 := hB.ord
  have l4 := hB.h4
  have l5 := hB.h5
  have l7 : (B 7).length ≤ 1000000 := by rw [e7]; show 1 ≤ _; omega
  cases hq : delQ B l D 5 0 with
  | none =>
    refine hwOL ?_
    refine HL.one (H1.callx (vs := [_, _, _, zv 5, zv 0]) rfl rfl (fun w' hM => delete_no hq hl hls hDl hDs l7 (by omega) (by omega) w' (hG2.ext hM.ext) (hB.base.ext hM.ext) (hN.ext hM.ext) (hD.ext hM.ext)) ?_)
    unfold delNo
    refine hwOL ?_
    refine HL.one (H1.alloc (cs := tomb0) rfl rfl (fun b14 => ?_))
    refine hwOL ?_
    refine HL.one (H1.stAgg (b := b14) (cs := tomb0) (vs := tomb0) rfl rfl rfl (by intro v hv; simp only [tomb0, List.mem_cons, List.not_mem_nil, or_false] at hv; rcases hv with rfl | rfl | rfl | rfl | rfl | rfl <;> rfl) rplA rfl ?_)
    refine hwOL ?_
    exact HX.ret1 rfl rfl fun w' hM => ⟨rfl, hxw.trans hM.ext⟩
  | some pk =>
  refine hwOL ?_
  refine HL.one (H1.callz (vs := [_, _, _, zv 5, zv 0]) rfl rfl (fun w' hM => delete_yes hq hl hls hDl hDs l7 (by omega) (by omega) w' (hG2.ext hM.ext) (hB.base.ext hM.ext) (hN.ext hM.ext) (hD.ext hM.ext)) ?_)
  rintro ⟨left, a1, c1, a2, c2, ai, ci, ad, cd⟩ hz
  unfold delH delYes tombV
  dsimp only at hz ⊢
  have hgne : goneL l pk ≠ [] := by
    intro h
    unfold delQ at hq
    split at hq
    · cases hq
    · split at hq
      · rename_i hh; cases hq; exact hh.2.2.2.2.1 h
      · cases hq
  have hlost : (prN l D (goneL l pk) true).length = (goneL l pk).length := lost_len hok _
  have hsrtl : (srtI (goneL l pk)).length = (goneL l pk).length := srtI_len _
  have hpn : ∀ b, prN l D (srtI (goneL l pk)) b = prN l D (goneL l pk) b := prN_congr fun x => mem_srtI
  have hok2 : okS (ndsP (prN l D (goneL l pk) false)) (digP (prN l D (goneL l pk) false)) = true := left_ok hok _
  have hzb := zip_back (prN l D (goneL l pk) false)
  have hgl : (goneL l pk).length ≤ l.length := derL_len _ _ _
  have hll : l.length ≤ 400 := (okS_valid hok).len
  have hml : left.length = (prN l D (goneL l pk) false).length := by rw [← ndsZ_len, hz, ndsP_len]
  have hgp : (goneL l pk).length ≠ 0 := fun h => hgne (List.length_eq_zero_iff.1 h)
  generalize goneL l pk = G at *
  have hgp' : ¬ ((G.length : Nat) : Int) = 0 := by omega
  refine hwOL ?_
  refine HL.one (H1.alloc (cs := tomb0) rfl rfl (fun b14 => ?_))
  refine hwOL ?_
  refine HL.one (H1.stAgg (b := b14) (cs := tomb0) (vs := [zv 5, zv 0, .string (rootP (l.zip D)), .string (rootP (prN l D G false)), .slice ai G.length ci, .slice ad G.length cd]) rfl rfl rfl (by intro v hv; simp only [List.mem_cons, List.not_mem_nil, or_false] at hv; rcases hv with rfl | rfl | rfl | rfl | rfl | rfl <;> rfl) rplA rfl ?_)
  refine hwOL ?_
  refine HL.one (H1.callx (vs := [_]) rfl rfl (fun w' hM => refSum_fn (ByteArray.mk #[97, 110, 111, 116, 104, 101, 114, 32, 111, 110, 101]) (by decide) w') ?_)
  obtain ⟨oth, hoth⟩ : ∃ o, o = sumS (ByteArray.mk #[97, 110, 111, 116, 104, 101, 114, 32, 111, 110, 101]) := ⟨_, rfl⟩
  have hosz : oth.size = 32 := by rw [hoth]; exact sumS_size _
  rw [← hoth]
  generalize hbf : rootP (l.zip D) = bf
  generalize haf : rootP (prN l D G false) = af
  by_cases hba : bf = af
  · refine hwOL ?_
    exact HX.ret1 rfl rfl fun w' hM => ⟨rfl, hxw.trans hM.ext⟩
  by_cases hao : af = oth
  · refine hwOL ?_
    exact HX.ret1 rfl rfl fun w' hM => ⟨rfl, hxw.trans hM.ext⟩
  refine hwOL ?_
  refine HL.one (H1.callx (vs := [_, _]) rfl rfl (fun w' hM => hasText_fn _ D oth hDl w' (hD.ext hM.ext)) ?_)
  cases hin : inB24 oth D with
  | true =>
    refine hwOL ?_
    exact HX.ret1 rfl rfl fun w' hM => ⟨rfl, hxw.trans hM.ext⟩
  | false =>
  have hno := inB24_no.1 hin
  refine hwOL ?_
  refine HL.one (H1.call0 (vs := [zv what, zv 7]) rfl rfl (fun w' _ => lpick24_fn what 7 h2.1 h2.2 (by decide) w') ?_)
  have q7 := pickI21_lt what (n := 7) (by decide)
  generalize pickI21 what 7 = q at q7
  have hv2 := okS_valid hok2
  have k1 : (ndsZ left).length ≤ 400000 := by rw [hz]; have := hv2.len; omega
  have k2 : ∀ i, i < (ndsZ left).length → (ndAt (ndsZ left) i).src.length ≤ 1000000 := fun i hi => by rw [hz] at hi ⊢; have := (nd_ok hv2 hi).len; omega
  have k3 : ∀ d ∈ digP (prN l D G false), d.size ≤ 1000 := fun d hd => hDs d (prN_dig hd)
  have k4 : (digP (prN l D G false)).length = left.length := by rw [digP_len, hml]
  have k5 : (digP (prN l D G true)).length = G.length := by rw [digP_len]; exact hlost
  have k6 : left.length ≤ 400 := by have := hv2.len; rw [ndsP_len, ← hml] at this; exact this
  have k7 : (srtI G).length ≤ 1000000 := by rw [hsrtl]; omega
  have k9 : (digP (prN l D G true)).length ≤ 1000000 := by rw [k5]; omega
  have k8 : (digP (prN l D G false)).length ≤ 1000000 := by rw [k4]; omega
  have hDr : ∀ d ∈ digP (prN l D G true), d ∈ D := fun d hd => prN_dig hd
  rcases (show q = 0 ∨ q = 1 ∨ q = 2 ∨ q = 3 ∨ q = 4 ∨ q = 5 ∨ q = 6 by omega) with rfl | rfl | rfl | rfl | rfl | rfl | rfl
  · refine hwOL ?_
    refine HL.one (H1.st (b := b14) (i := 2) rfl rfl (by intro _ h; cases h) (by intro _ h; cases h) rplA (by show 2 < 6; decide) ?_)
    rw [show ([zv 5, zv 0, .string bf, .string af, .slice ai G.length ci, .slice ad G.length cd] : List Value).set 2 (.string af) = [zv 5, zv 0, .string af, .string af, .slice ai G.length ci, .slice ad G.length cd] from rfl]
    refine hwOL ?_
    refine HL.one (H1.ldAgg (b := b14) (vs := [zv 5, zv 0, .string af, .string af, .slice ai G.length ci, .slice ad G.length cd]) rfl memA rfl (fun i v h => by rwa [Nat.zero_add]) rfl ?_)
    refine hwOL ?_
    refine HL.one (H1.callx (u := .bool false) (vs := [_, _, _, _, _]) rfl rfl (fun w' hM => by
      have h := check_fn (l := l) (D := D) (l2 := ndsZ left) (D2 := digP (prN l D G false)) (ns := srtI G) (ds := digP (prN l D G true)) 5 0 af af hl hls hDl hDs k1 k2 k8 k3 k7 k9 w' (hG2.ext hM.ext) (hN.ext hM.ext) (hD.ext hM.ext) (hM.rdN (a := a1) (c := c1) (z := left) memA memA) (hM.gr (a := a2) (c := c2) memA) (hM.gr (a := ai) (c := ci) memA) (hM.gr (a := ad) (c := cd) memA)
      rw [tomb_bef (by rw [hbf]; exact Ne.symm hba)] at h
      exact h) ?_)
    refine hwOL ?_
    exact HX.ret1 rfl rfl fun w' hM => ⟨rfl, hxw.trans hM.ext⟩
  · refine hwOL ?_
    refine HL.one (H1.st (b := b14) (i := 3) rfl rfl (by intro _ h; cases h) (by intro _ h; cases h) rplA (by show 3 < 6; decide) ?_)
    rw [show ([zv 5, zv 0, .string bf, .string af, .slice ai G.length ci, .slice ad G.length cd] : List Value).set 3 (.string oth) = [zv 5, zv 0, .string bf, .string oth, .slice ai G.length ci, .slice ad G.length cd] from rfl]
    refine hwOL ?_
    refine HL.one (H1.ldAgg (b := b14) (vs := [zv 5, zv 0, .string bf, .string oth, .slice ai G.length ci, .slice ad G.length cd]) rfl memA rfl (fun i v h => by rwa [Nat.zero_add]) rfl ?_)
    refine hwOL ?_
    refine HL.one (H1.callx (u := .bool false) (vs := [_, _, _, _, _]) rfl rfl (fun w' hM => by
      have h := check_fn (l := l) (D := D) (l2 := ndsZ left) (D2 := digP (prN l D G false)) (ns := srtI G) (ds := digP (prN l D G true)) 5 0 bf oth hl hls hDl hDs k1 k2 k8 k3 k7 k9 w' (hG2.ext hM.ext) (hN.ext hM.ext) (hD.ext hM.ext) (hM.rdN (a := a1) (c := c1) (z := left) memA memA) (hM.gr (a := a2) (c := c2) memA) (hM.gr (a := ai) (c := ci) memA) (hM.gr (a := ad) (c := cd) memA)
      rw [tomb_aft (by rw [hz, hzb, haf]; exact Ne.symm hao)] at h
      exact h) ?_)
    refine hwOL ?_
    exact HX.ret1 rfl rfl fun w' hM => ⟨rfl, hxw.trans hM.ext⟩
  · have e1 : ((G.length : Nat) : Int) - 1 = ((G.length - 1 : Nat) : Int) := by omega
    refine HN.openg24 (e := 3) (sz := 1) (a := ai) (c := ci) (n := G.length) (xs := ints (srtI G)) memA hgp ?_
    rintro bi rfl
    refine HN.capOf24 (e := 3) (a := some ⟨bi, 0, none⟩) (c := ci) (n := G.length) (xs := ints (srtI G)) memA fun hcp => ?_
    refine hwOL ?_
    refine HL.one (H1.st (b := b14) (i := 4) rfl rfl (by intro _ h; cases h) (by intro _ h; cases h) rplA (by show 4 < 6; decide) ?_)
    rw [show ([zv 5, zv 0, .string bf, .string af, .slice (some ⟨bi, 0, none⟩) G.length ci, .slice ad G.length cd] : List Value).set 4 (.slice (some ⟨bi, 0, none⟩) (((G.length : Nat) : Int) - 1).toNat ci) = [zv 5, zv 0, .string bf, .string af, .slice (some ⟨bi, 0, none⟩) (((G.length : Nat) : Int) - 1).toNat ci, .slice ad G.length cd] from rfl]
    refine hwOL ?_
    have hcut : (((G.length : Nat) : Int) - 1).toNat = G.length - 1 := by omega
    refine HL.one (H1.ldAgg (b := b14) (vs := [zv 5, zv 0, .string bf, .string af, .slice (some ⟨bi, 0, none⟩) (((G.length : Nat) : Int) - 1).toNat ci, .slice ad G.length cd]) rfl memA rfl (fun i v h => by rwa [Nat.zero_add]) rfl ?_)
    refine hwOL ?_
    refine HL.one (H1.callx (u := .bool false) (vs := [_, _, _, _, _]) rfl rfl (fun w' hM => by
      have hcutR : Rd w' (.slice (some ⟨bi, 0, none⟩) (((G.length : Nat) : Int) - 1).toNat ci) (ints ((srtI G).take (G.length - 1))) := by
        have h : Rd w' (.slice (some ⟨bi, 0, none⟩) G.length ci) (ints (srtI G)) := hM.gr memA
        rw [← hsrtl] at h
        have h2 := h.ipre (k := (srtI G).length - 1) (by omega)
        rw [hcut]; rw [hsrtl] at h2; exact h2
      have h := check_fn (l := l) (D := D) (l2 := ndsZ left) (D2 := digP (prN l D G false)) (ns := (srtI G).take (G.length - 1)) (ds := digP (prN l D G true)) 5 0 bf af hl hls hDl hDs k1 k2 k8 k3 (by rw [List.length_take]; omega) k9 w' (hG2.ext hM.ext) (hN.ext hM.ext) (hD.ext hM.ext) (hM.rdN (a := a1) (c := c1) (z := left) memA memA) (hM.gr (a := a2) (c := c2) memA) hcutR (hM.gr (a := ad) (c := cd) memA)
      rw [show digP (prN l D G true) = digP (prN l D (srtI G) true) by rw [hpn], tomb_less (by rw [hpn, k5, hsrtl]) (by rw [List.length_take, hsrtl]; omega)] at h
      exact h) ?_)
    refine hwOL ?_
    exact HX.ret1 rfl rfl fun w' hM => ⟨rfl, hxw.trans hM.ext⟩
  · obtain ⟨p, hp, hpl⟩ : ∃ p : Nat, pickI21 which (G.length : Int) = (p : Int) ∧ p < G.length := by
      have := pickI21_lt which (n := (G.length : Int)) (by omega)
      exact ⟨(pickI21 which (G.length : Int)).toNat, by omega, by omega⟩
    refine HN.openg24 (e := 9) (sz := 1) (a := ad) (c := cd) (n := G.length) (xs := strs (digP (prN l D G true))) memA hgp ?_
    rintro bd rfl
    refine hwOL ?_
    refine HC.anyU ([(9, ⟨b14, 5, none⟩, .slice (some ⟨bd, 0, none⟩) G.length cd)]) rfl ?_
    refine HU.pa 0 rfl ?_
    refine HU.ld (s := 9) 1 rfl rfl (.head _) ?_
    refine HU.pa 2 rfl ?_
    refine HU.pa 3 rfl ?_
    refine HU.ld (s := 9) 4 rfl rfl (.head _) ?_
    refine HU.pa 5 rfl ?_
    refine HU.pa 7 rfl ?_
    refine HU.all (by (first | refine KeepU.blk (by (repeat (first | exact List.Mem.head _ | apply List.Mem.tail)); done) rfl ?_ | refine KeepU.grow (by (repeat (first | exact List.Mem.head _ | apply List.Mem.tail)); done) (by assumption) ?_ | refine KeepU.base (by assumption) ?_); exact KeepU.nil) [6] (by kernel_rfl) rfl ⟨⟨_, rfl, ?_⟩, trivial⟩
    refine HV.one ?_
    refine H1.call0 (u := zv (p : Int)) (vs := [_, _]) rfl rfl (fun w' _ => by have h := lpick24_fn which (G.length : Int) h3.1 h3.2 (by omega) w'; rw [hp] at h; exact h) ?_
    apply HU.fold
    refine HU.pa 8 rfl ?_
    refine HU.all (by (first | refine KeepU.blk (by (repeat (first | exact List.Mem.head _ | apply List.Mem.tail)); done) rfl ?_ | refine KeepU.grow (by (repeat (first | exact List.Mem.head _ | apply List.Mem.tail)); done) (by assumption) ?_ | refine KeepU.base (by assumption) ?_); exact KeepU.nil) [9] (by kernel_rfl) rfl ⟨⟨_, rfl, ?_⟩, trivial⟩
    refine HV.one ?_
    refine H1.stg (i := p) rfl rfl (by intro _ h; cases h) (by intro _ h; cases h) rplA (by rw [strs_len, k5]; exact hpl) ?_
    apply HU.fold
    refine HU.done (by refine KeepU.skip (by kernel_rfl) ?_; exact KeepU.nil) (by kernel_rfl) ?_
    rw [strs_set]
    refine hwOL ?_
    refine HL.one (H1.ldAgg (b := b14) (vs := [zv 5, zv 0, .string bf, .string af, .slice ai G.length ci, .slice (some ⟨bd, 0, none⟩) G.length cd]) rfl memA rfl (fun i v h => by rwa [Nat.zero_add]) rfl ?_)
    refine hwOL ?_
    refine HL.one (H1.callx (u := .bool false) (vs := [_, _, _, _, _]) rfl rfl (fun w' hM => by
      have h := check_fn (l := l) (D := D) (l2 := ndsZ left) (D2 := digP (prN l D G false)) (ns := srtI G) (ds := (digP (prN l D G true)).set p oth) 5 0 bf af hl hls hDl hDs k1 k2 k8 k3 k7 (by rw [List.length_set]; exact k9) w' (hG2.ext hM.ext) (hN.ext hM.ext) (hD.ext hM.ext) (hM.rdN (a := a1) (c := c1) (z := left) memA memA) (hM.gr (a := a2) (c := c2) memA) (hM.gr (a := ai) (c := ci) memA) (hM.gr (a := some ⟨bd, 0, none⟩) (c := cd) (n := G.length) memA)
      rw [tomb_dig hno (mem_setB (by rw [k5]; exact hpl))] at h
      exact h) ?_)
    refine hwOL ?_
    exact HX.ret1 rfl rfl fun w' hM => ⟨rfl, hxw.trans hM.ext⟩
  · by_cases h0 : left.length = 0
    · have h0' : ((left.length : Nat) : Int) = 0 := by omega
      refine hwOL ?_
      exact HX.ret1 rfl rfl fun w' hM => ⟨rfl, hxw.trans hM.ext⟩
    have h0' : ¬ ((left.length : Nat) : Int) = 0 := by omega
    obtain ⟨p, hp, hpl⟩ : ∃ p : Nat, pickI21 which (left.length : Int) = (p : Int) ∧ p < left.length := by
      have := pickI21_lt which (n := (left.length : Int)) (by omega)
      exact ⟨(pickI21 which (left.length : Int)).toNat, by omega, by omega⟩
    refine HN.openg24 (e := 9) (sz := 1) (a := a2) (c := c2) (n := left.length) (xs := strs (digP (prN l D G false))) memA h0 ?_
    rintro bk rfl
    refine hwOL ?_
    refine HL.one (H1.call0 (u := zv (p : Int)) (vs := [_, _]) rfl rfl (fun w' _ => by have h := lpick24_fn which (left.length : Int) h3.1 h3.2 (by omega) w'; rw [hp] at h; exact h) ?_)
    refine hwOL ?_
    refine HL.one (H1.stg (i := p) rfl rfl (by intro _ h; cases h) (by intro _ h; cases h) rplA (by rw [strs_len, k4]; exact hpl) ?_)
    rw [strs_set]
    have k3' : ∀ d ∈ (digP (prN l D G false)).set p oth, d.size ≤ 1000 := set_sizes k3 (by omega)
    have k8' : ((digP (prN l D G false)).set p oth).length ≤ 1000000 := by rw [List.length_set]; exact k8
    have hbad := fun bef aft (ns : List Int) (ds : List ByteArray) => tomb_kept (l := l) (D := D) (bef := bef) (aft := aft) (ns := ns) (ds := ds) (l2 := ndsZ left) hno (mem_setB (l := digP (prN l D G false)) (i := p) (s := oth) (by rw [k4]; exact hpl))
    refine hwOL ?_
    obtain ⟨r, e, hre⟩ : ∃ (r : ByteArray) (e : Int), (if okS (ndsZ left) ((digP (prN l D G false)).set p oth) = true then Value.tuple #[.string (rootP ((ndsZ left).zip ((digP (prN l D G false)).set p oth))), zv 0] else .tuple #[.string ⟨#[]⟩, zv 240]) = .tuple #[.string r, zv e] := by
      split
      · exact ⟨_, _, rfl⟩
      · exact ⟨_, _, rfl⟩
    refine HL.one (H1.callx (u := .tuple #[.string r, zv e]) (vs := [_, _]) rfl rfl (fun w' hM => by
      have h := linRoot_fn (l := ndsZ left) (D := (digP (prN l D G false)).set p oth) k1 k2 k8' k3' w' (hG2.ext hM.ext) (hM.rdN (a := a1) (c := c1) (z := left) memA memA) (hM.gr (a := some ⟨bk, 0, none⟩) (c := c2) (n := left.length) memA)
      rw [hre] at h
      exact h) ?_)
    refine hwOL ?_
    refine HL.one (H1.st (b := b14) (i := 3) rfl rfl (by intro _ h; cases h) (by intro _ h; cases h) rplA (by show 3 < 6; decide) ?_)
    rw [show ([zv 5, zv 0, .string bf, .string af, .slice ai G.length ci, .slice ad G.length cd] : List Value).set 3 (.string r) = [zv 5, zv 0, .string bf, .string r, .slice ai G.length ci, .slice ad G.length cd] from rfl]
    refine hwOL ?_
    refine HL.one (H1.ldAgg (b := b14) (vs := [zv 5, zv 0, .string bf, .string r, .slice ai G.length ci, .slice ad G.length cd]) rfl memA rfl (fun i v h => by rwa [Nat.zero_add]) rfl ?_)
    refine hwOL ?_
    refine HL.one (H1.callx (u := .bool false) (vs := [_, _, _, _, _]) rfl rfl (fun w' hM => by
      have h := check_fn (l := l) (D := D) (l2 := ndsZ left) (D2 := (digP (prN l D G false)).set p oth) (ns := srtI G) (ds := digP (prN l D G true)) 5 0 bf r hl hls hDl hDs k1 k2 k8' k3' k7 k9 w' (hG2.ext hM.ext) (hN.ext hM.ext) (hD.ext hM.ext) (hM.rdN (a := a1) (c := c1) (z := left) memA memA) (hM.gr (a := some ⟨bk, 0, none⟩) (c := c2) (n := left.length) memA) (hM.gr (a := ai) (c := ci) memA) (hM.gr (a := ad) (c := cd) memA)
      rw [hbad] at h
      exact h) ?_)
    refine hwOL ?_
    exact HX.ret1 rfl rfl fun w' hM => ⟨rfl, hxw.trans hM.ext⟩
  · by_cases h0 : left.length = 0
    · have h0' : ((left.length : Nat) : Int) = 0 := by omega
      refine hwOL ?_
      exact HX.ret1 rfl rfl fun w' hM => ⟨rfl, hxw.trans hM.ext⟩
    have h0' : ¬ ((left.length : Nat) : Int) = 0 := by omega
    have hcut : (((left.length : Nat) : Int) - 1).toNat = left.length - 1 := by omega
    refine HN.openg24 (e := 9) (sz := 1) (a := a2) (c := c2) (n := left.length) (xs := strs (digP (prN l D G false))) memA h0 ?_
    rintro bk rfl
    refine HN.openg24 (e := 31) (sz := 4) (a := a1) (c := c1) (n := left.length) (xs := ndsV left) memA h0 ?_
    rintro bn rfl
    refine HN.capOf24 (e := 9) (sz := 1) (a := some ⟨bk, 0, none⟩) (c := c2) (n := left.length) (xs := strs (digP (prN l D G false))) memA fun hcp2 => ?_
    refine HN.capOf24 (e := 31) (sz := 4) (a := some ⟨bn, 0, none⟩) (c := c1) (n := left.length) (xs := ndsV left) memA fun hcp1 => ?_
    have hzl : (ndsZ left).length = left.length := ndsZ_len left
    have g1 : ((ndsZ left).take (left.length - 1)).length ≤ 400000 := by rw [List.length_take]; omega
    have g2 := take_srcs (k := left.length - 1) k2
    have g3 := take_sizes (k := left.length - 1) k3
    have g8 : ((digP (prN l D G false)).take (left.length - 1)).length ≤ 1000000 := by rw [List.length_take]; omega
    have hbad := fun bef aft (ds : List ByteArray) => tomb_left (l := l) (D := D) (bef := bef) (aft := aft) (ns := srtI G) (ds := ds) (l2 := (ndsZ left).take (left.length - 1)) (D2 := (digP (prN l D G false)).take (left.length - 1)) (by rw [List.length_take, hpn, ← hml, hzl]; omega)
    obtain ⟨r, e, hre⟩ : ∃ (r : ByteArray) (e : Int), (if okS ((ndsZ left).take (left.length - 1)) ((digP (prN l D G false)).take (left.length - 1)) = true then Value.tuple #[.string (rootP (((ndsZ left).take (left.length - 1)).zip ((digP (prN l D G false)).take (left.length - 1)))), zv 0] else .tuple #[.string ⟨#[]⟩, zv 240]) = .tuple #[.string r, zv e] := by
      split
      · exact ⟨_, _, rfl⟩
      · exact ⟨_, _, rfl⟩
    have cutN : ∀ w', RdN w' (.slice (some ⟨bn, 0, none⟩) left.length c1) (ndsZ left) (adrZ left) → RdN w' (.slice (some ⟨bn, 0, none⟩) (((left.length : Nat) : Int) - 1).toNat c1) ((ndsZ left).take (left.length - 1)) (adrZ left) := fun w' h => by
      rw [← hzl] at h
      have h2 := h.pre (k := (ndsZ left).length - 1) (by omega)
      rw [hcut]; rw [hzl] at h2; exact h2
    have cutD : ∀ w', Rd w' (.slice (some ⟨bk, 0, none⟩) left.length c2) (strs (digP (prN l D G false))) → Rd w' (.slice (some ⟨bk, 0, none⟩) (((left.length : Nat) : Int) - 1).toNat c2) (strs ((digP (prN l D G false)).take (left.length - 1))) := fun w' h => by
      rw [← k4] at h
      have h2 := h.spre (k := (digP (prN l D G false)).length - 1) (by omega)
      rw [hcut]; rw [k4] at h2; exact h2
    refine hwOL ?_
    refine HL.one (H1.callx (u := .tuple #[.string r, zv e]) (vs := [_, _]) rfl rfl (fun w' hM => by
      have h := linRoot_fn g1 g2 g8 g3 w' (hG2.ext hM.ext) (cutN w' (hM.rdN (a := some ⟨bn, 0, none⟩) (c := c1) (z := left) memA memA)) (cutD w' (hM.gr (a := some ⟨bk, 0, none⟩) (c := c2) (n := left.length) memA))
      rw [hre] at h
      exact h) ?_)
    refine hwOL ?_
    refine HL.one (H1.st (b := b14) (i := 3) rfl rfl (by intro _ h; cases h) (by intro _ h; cases h) rplA (by show 3 < 6; decide) ?_)
    rw [show ([zv 5, zv 0, .string bf, .string af, .slice ai G.length ci, .slice ad G.length cd] : List Value).set 3 (.string r) = [zv 5, zv 0, .string bf, .string r, .slice ai G.length ci, .slice ad G.length cd] from rfl]
    refine hwOL ?_
    refine HL.one (H1.ldAgg (b := b14) (vs := [zv 5, zv 0, .string bf, .string r, .slice ai G.length ci, .slice ad G.length cd]) rfl memA rfl (fun i v h => by rwa [Nat.zero_add]) rfl ?_)
    refine hwOL ?_
    refine HL.one (H1.callx (u := .bool false) (vs := [_, _, _, _, _]) rfl rfl (fun w' hM => by
      have h := check_fn (l := l) (D := D) (l2 := (ndsZ left).take (left.length - 1)) (D2 := (digP (prN l D G false)).take (left.length - 1)) (ns := srtI G) (ds := digP (prN l D G true)) 5 0 bf r hl hls hDl hDs g1 g2 g8 g3 k7 k9 w' (hG2.ext hM.ext) (hN.ext hM.ext) (hD.ext hM.ext) (cutN w' (hM.rdN (a := some ⟨bn, 0, none⟩) (c := c1) (z := left) memA memA)) (cutD w' (hM.gr (a := some ⟨bk, 0, none⟩) (c := c2) (n := left.length) memA)) (hM.gr (a := ai) (c := ci) memA) (hM.gr (a := ad) (c := cd) memA)
      rw [hbad] at h
      exact h) ?_)
    refine hwOL ?_
    exact HX.ret1 rfl rfl fun w' hM => ⟨rfl, hxw.trans hM.ext⟩
  · refine hwOL ?_
    refine HL.one (H1.lit (cs := [zv 2000000]) rfl rfl rfl rfl rfl rfl (fun b10 => ?_))
    refine hwOL ?_
    refine HL.one (H1.app1 (u := zv 2000000) rfl rfl (fun _ _ => by first | ((repeat (first | with_reducible exact Rpl.here | with_reducible apply Rpl.there)); done) | (repeat (first | exact Rpl.here | apply Rpl.there))) memA rfl rfl (by omega) rfl rfl (fun an cn => ?_))
    rw [ints_snocL]
    refine hwOL ?_
    refine HL.one (H1.st (b := b14) (i := 4) rfl rfl (by intro _ h; cases h) (by intro _ h; cases h) rplA (by show 4 < 6; decide) ?_)
    rw [show ([zv 5, zv 0, .string bf, .string af, .slice ai G.length ci, .slice ad G.length cd] : List Value).set 4 (.slice (some ⟨an, 0, none⟩) (G.length + 1) cn) = [zv 5, zv 0, .string bf, .string af, .slice (some ⟨an, 0, none⟩) (G.length + 1) cn, .slice ad G.length cd] from rfl]
    refine hwOL ?_
    refine HL.one (H1.ldAgg (b := b14) (vs := [zv 5, zv 0, .string bf, .string af, .slice (some ⟨an, 0, none⟩) (G.length + 1) cn, .slice ad G.length cd]) rfl memA rfl (fun i v h => by rwa [Nat.zero_add]) rfl ?_)
    refine hwOL ?_
    refine HL.one (H1.callx (u := .bool false) (vs := [_, _, _, _, _]) rfl rfl (fun w' hM => by
      have h := check_fn (l := l) (D := D) (l2 := ndsZ left) (D2 := digP (prN l D G false)) (ns := srtI G ++ [2000000]) (ds := digP (prN l D G true)) 5 0 bf af hl hls hDl hDs k1 k2 k8 k3 (by rw [List.length_append]; show _ + 1 ≤ _; omega) k9 w' (hG2.ext hM.ext) (hN.ext hM.ext) (hD.ext hM.ext) (hM.rdN (a := a1) (c := c1) (z := left) memA memA) (hM.gr (a := a2) (c := c2) memA) (hM.gr (a := some ⟨an, 0, none⟩) (c := cn) memA) (hM.gr (a := ad) (c := cd) memA)
      rw [tomb_more] at h
      exact h) ?_)
    refine hwOL ?_
    exact HX.ret1 rfl rfl fun w' hM => ⟨rfl, hxw.trans hM.ext⟩
end Go.Sx
/- From a function's contract to a row's statement: arguments that are numbers, arrays of numbers, slices of arrays of numbers, records. -/
namespace Go.Sx
open Go Go.ChangeShapes Go.WideShapes Go.ChangeAt Go.RowKit
section
variable {H : Type} {enc : TypeId × Value → H} {P : Program} {w : World} {b : Nat} {sp : Nat → Bool} {hd : Bool}
theorem args_cons {t : TypeId} {ts : List TypeId} {vs : List Value} {ds : List (DataW H)} {ps : List MemPlace} (h : DataW.TrodAll enc P w b sp hd (t :: ts) vs ds ps) :
    ∃ v vs' d ds' p q, vs = v :: vs' ∧ ds = d :: ds' ∧ ps = p ++ q ∧ DataW.Trod enc P w b sp hd t v d p ∧ DataW.TrodAll enc P w b sp hd ts vs' ds' q := by
  cases vs with
  | nil => exact h.elim
  | cons v vs =>
    cases ds with
    | nil => exact h.elim
    | cons d ds =>
      obtain ⟨p, q, h1, h2, h3⟩ := h
      exact ⟨v, vs, d, ds, p, q, rfl, rfl, h3, h1, h2⟩
theorem args_nil {vs : List Value} {ds : List (DataW H)} {ps : List MemPlace} (h : DataW.TrodAll enc P w b sp hd [] vs ds ps) : vs = [] ∧ ds = [] ∧ ps = [] := by
  cases vs with
  | cons v vs => exact h.elim
  | nil => cases ds with
    | cons d ds => exact h.elim
    | nil => exact ⟨rfl, rfl, h⟩
theorem trodAll_ext (hl : laidOutB P = true) {W W' : World} (hx : Below W.heap.size W W') : ∀ {ts : List TypeId} {vs : List Value} {ds : List (DataW H)} {ps : List MemPlace}, (ts.all fun t => P.readableRec t && decide (t < P.types.size)) = true →
    DataW.TrodAll enc P W 0 (fun _ => true) true ts vs ds ps → (∀ p ∈ ps, p.block < W.heap.size) → ∀ sp : Nat → Bool, (∀ p ∈ ps, sp p.block = true) → DataW.TrodAll enc P W' 0 sp true ts vs ds ps
  | [], [], [], _, _, h, _, _, _ => h
  | [], [], _ :: _, _, _, h, _, _, _ => h.elim
  | [], _ :: _, _, _, _, h, _, _, _ => h.elim
  | _ :: _, [], _, _, _, h, _, _, _ => h.elim
  | _ :: _, _ :: _, [], _, _, h, _, _, _ => h.elim
  | t :: ts, v :: vs, d :: ds, ps, ht, h, hlt, sp, hsp => by
    obtain ⟨p, q, h1, h2, rfl⟩ := h
    simp only [List.all_cons, Bool.and_eq_true, decide_eq_true_eq] at ht
    refine ⟨p, q, ?_, trodAll_ext hl hx ht.2 h2 (fun x hx => hlt x (by simp [hx])) sp (fun x hx => hsp x (by simp [hx])), rfl⟩
    exact WideElems.Trod_stays hl ht.1.1 ht.1.2 h1 (fun x hx' => hx.same (hlt x (by simp [hx']))) (fun x hx' => hsp x (by simp [hx']))
end
end Go.Sx
namespace Go.Sx
open Go Go.Proofs Go.ChangeShapes Go.WideShapes Go.ChangeAt Go.RowKit
theorem ints_rowK (f : Nat → Int) (n : Nat) : ints ((List.range n).map f) = row n fun q => zv (f q) := by
  unfold ints row
  rw [List.map_map]; rfl
/-- The call has laid new blocks, and turned no old one. -/
theorem post_ext {H : Type} {enc : TypeId × Value → H} {P : Program} {f : Func} {s : ChangeSpec} {apart fresh handsOn again : Bool} {W W' : World} {args : Array Value} {v : Value} {ds gs : List (DataW H)} {before pa pv : List MemPlace} (hx : Ext W W')
    (hW : DataW.Whole enc P f.params.toList s.vars apart W args.toList ds gs before)
    (hres : ∀ (b : Nat) (sp : Nat → Bool) (hd : Bool), DataW.TrodAll enc P W' b sp hd f.resultTypes.toList (v.resultList f.resultTypes.size) (s.fn H (ds ++ gs)).results [])
    (hargs : ∀ sp : Nat → Bool, (∀ p ∈ before, sp p.block = true) → DataW.TrodAll enc P W' 0 sp true f.params.toList args.toList (s.fn H (ds ++ gs)).args pa)
    (hvars : ∀ sp : Nat → Bool, (∀ p ∈ before, sp p.block = true) → DataW.TrodVars enc P W' sp s.vars (s.fn H (ds ++ gs)).vars pv)
    (hps : before = pa ++ pv)
    (hok : ∀ (j : Nat) (t : TypeId) (r : Value), f.resultTypes[j]? = some t → (v.resultList f.resultTypes.size)[j]? = some r → Value.okWide P W' .any 0 t r) :
    s.post enc P f apart fresh handsOn again W args v W' := by
  have hlt : ∀ p ∈ before, p.block < W.heap.size := fun p hp => hW.lt p hp
  have hold : ∀ p ∈ before, (fun b => decide (b < W.heap.size)) p.block = true := fun p hp => by simpa using hW.lt p hp
  refine ⟨ds, gs, before, [], pa, pv, hW, hres _ _ _, hargs _ hold, hvars _ hold, (World.keptBut_refl W _).congr hx.os hx.output hx.block, fun _ => ?_⟩
  obtain ⟨_, _, _, _, _, hz, hn⟩ := hW
  refine ⟨hok, _, _, ([] ++ pa) ++ pv, ⟨[] ++ pa, pv, trodAll_append (hargs _ (fun _ _ => rfl)) (hres _ _ _), hvars _ (fun _ _ => rfl), rfl, ?_, ?_⟩, ?_⟩
  · intro b off hp
    have hp' : MemPlace.cell b off ∈ before := by rw [hps]; simpa using hp
    rw [World.frozen?_of_block (hx.block b (hlt _ hp'))]
    exact hz b off hp'
  · intro ha
    have := hn ha
    rw [hps] at this
    simpa using this
  · intro p hp _
    rw [hps]
    simpa using hp
theorem i64_of {x : Int} (h : (Lit.int .i64 x).wf = true) : i64W x := by
  simp only [Lit.wf, Bool.and_eq_true, decide_eq_true_eq] at h
  have e1 : IntKind.i64.min = -9223372036854775808 := rfl
  have e2 : IntKind.i64.max = 9223372036854775807 := rfl
  rw [e1, e2] at h
  exact h
theorem ownK : ownKnob Tryz.prog.godebug = none := by kernel_rfl
section
variable {H : Type} {enc : TypeId × Value → H} {P : Program} {W : World} {r : Reach} {b0 b : Nat} {sp : Nat → Bool} {hd : Bool} {v : Value} {d : DataW H} {p : List MemPlace}
theorem spot_none {W : World} {a : Addr} {v : Value} (h : W.cell? a = some v) : a = ⟨a.block, a.off, none⟩ ∧ a.block < W.heap.size := by
  unfold World.cell? at h
  split at h
  · rename_i c e f hc
    split at h
    · cases h
    · rename_i hs
      refine ⟨?_, (Array.getElem?_eq_some_iff.1 hc).1⟩
      cases a with
      | mk b o s => cases s <;> simp_all
  · cases h
def cellInt (W : World) (a : Addr) : Int := match W.cell? a with | some (.int _ z) => z | _ => 0

/-- All cells of a type are numbers. -/
def intCellsB (P : Program) : Nat → TypeId → Bool
  | 0, _ => false
  | n + 1, t => match P.underlying t with
    | some (.int .i64) => Nat.beq (P.cellsOf t) 1
    | some (.array k e) => intCellsB P n e && Nat.beq (P.cellsOf t) (k * P.cellsOf e) && Nat.ble 1 (P.cellsOf e)
    | some (.struct fs) => (fs.toList.all fun f => intCellsB P n f.type) && (List.range (P.cellsOf t)).all fun j => (List.range fs.size).any fun i => match fs[i]? with | some f => Nat.ble f.offset j && Nat.blt j (f.offset + P.cellsOf f.type) | none => false
    | _ => false
theorem intCells : ∀ (n : Nat) (t : TypeId) (cs : List Value) (fuel : Nat) (x : DataW H × List MemPlace), intCellsB P n t = true → DataW.trod enc P W b sp hd fuel t cs = some x → cs.length = P.cellsOf t ∧ ∀ j, j < cs.length → ∃ z, cs[j]? = some (zv z) ∧ i64W z := by
  intro n
  induction n with
  | zero => intro t cs fuel x h; cases h
  | succ n ih =>
    intro t cs fuel x h hf
    simp only [intCellsB] at h
    split at h
    · rename_i ht
      have h1 : P.cellsOf t = 1 := Nat.eq_of_beq_eq_true h
      obtain ⟨z, e, -, hw⟩ := DataW.trod_int ht hf
      subst e
      refine ⟨by rw [h1]; rfl, fun j hj => ?_⟩
      have : j = 0 := by simpa using hj
      subst this
      exact ⟨z, rfl, i64_of hw⟩
    · rename_i k e ht
      rw [Bool.and_eq_true, Bool.and_eq_true] at h
      obtain ⟨⟨h1, h2⟩, h3⟩ := h
      have h2' : P.cellsOf t = k * P.cellsOf e := Nat.eq_of_beq_eq_true h2
      have h3' : 1 ≤ P.cellsOf e := Nat.le_of_ble_eq_true h3
      obtain ⟨xs, m, -, -, hl, hxl, hel⟩ := DataW.trod_array ht hf
      refine ⟨hl, fun j hj => ?_⟩
      rw [h2'] at hl
      have hi : j / P.cellsOf e < k := by
        rw [Nat.div_lt_iff_lt_mul h3']; omega
      have h4 := hel (j / P.cellsOf e) hi
      rw [List.getElem?_eq_getElem (by omega)] at h4
      obtain ⟨hlen, hz⟩ := ih e _ _ _ h1 h4
      have hm := Nat.mod_lt j h3'
      obtain ⟨z, hz, hw⟩ := hz (j % P.cellsOf e) (by rw [hlen]; exact hm)
      refine ⟨z, ?_, hw⟩
      rw [List.getElem?_take, if_pos hm, List.getElem?_drop] at hz
      rw [← hz]
      congr 1
      have := Nat.div_add_mod j (P.cellsOf e)
      rw [Nat.mul_comm] at this
      omega
    · rename_i fs ht
      rw [Bool.and_eq_true, List.all_eq_true, List.all_eq_true] at h
      obtain ⟨h1, h2⟩ := h
      obtain ⟨xs, m, -, -, hl, hxl, hel⟩ := DataW.trod_struct ht hf
      refine ⟨hl, fun j hj => ?_⟩
      have h3 := h2 j (List.mem_range.2 (by omega))
      rw [List.any_eq_true] at h3
      obtain ⟨i, hi, h4⟩ := h3
      have hi' := List.mem_range.1 hi
      cases hfi : fs[i]? with
      | none => rw [hfi] at h4; cases h4
      | some f =>
        rw [hfi] at h4
        simp only [Bool.and_eq_true] at h4
        have h5 : f.offset ≤ j := Nat.le_of_ble_eq_true h4.1
        have h6 : j < f.offset + P.cellsOf f.type := by simpa [Nat.blt_eq] using h4.2
        have h7 := hel i f hfi
        rw [List.getElem?_eq_getElem (by omega)] at h7
        have hmem : f ∈ fs.toList := by
          rw [← Array.getElem?_toList] at hfi
          exact List.mem_of_getElem? hfi
        obtain ⟨hlen, hz⟩ := ih f.type _ _ _ (h1 f hmem) h7
        obtain ⟨z, hz, hw⟩ := hz (j - f.offset) (by rw [hlen]; omega)
        refine ⟨z, ?_, hw⟩
        rw [List.getElem?_take, if_pos (by omega), List.getElem?_drop, show f.offset + (j - f.offset) = j by omega] at hz
        exact hz
    · cases h
/-- A row of numbers. -/
theorem intRow {n : Nat} {t : TypeId} {cs : List Value} {fuel : Nat} {x : DataW H × List MemPlace} (h : intCellsB P n t = true) (hf : DataW.trod enc P W b sp hd fuel t cs = some x) : ∃ zs : List Int, cs = ints zs ∧ zs.length = P.cellsOf t ∧ ∀ z ∈ zs, i64W z := by
  obtain ⟨hl, hz⟩ := intCells n t cs fuel x h hf
  have hch : ∃ g : Nat → Int, ∀ j, j < cs.length → cs[j]? = some (zv (g j)) ∧ i64W (g j) := by
    refine ⟨fun j => if h : j < cs.length then Classical.choose (hz j h) else 0, fun j hj => ?_⟩
    simp only [dif_pos hj]
    exact Classical.choose_spec (hz j hj)
  obtain ⟨g, hg⟩ := hch
  refine ⟨(List.range cs.length).map g, ?_, by simpa using hl, fun z hz => ?_⟩
  · rw [ints_rowK]
    apply List.ext_getElem?
    intro j
    by_cases hj : j < cs.length
    · rw [(hg j hj).1, row_get _ hj]
    · rw [List.getElem?_eq_none (by omega), List.getElem?_eq_none (by rw [row_len]; omega)]
  · obtain ⟨j, hj, rfl⟩ := List.mem_map.1 hz
    exact (hg j (List.mem_range.1 hj)).2
/-- A slice of structs (or arrays) of numbers, read in place: one cell. -/
theorem sl_rows {t e n fuel sz : Nat} {x : DataW H × List MemPlace} (ht : P.underlying t = some (.slice e)) (he : intCellsB P n e = true) (hce : P.cellsOf e = sz) (hsz : 0 < sz) (hf : DataW.trod enc P W b sp hd fuel t [v] = some x) :
    ∃ rows : List (List Int), (∃ (a : Option Addr) (c : Nat), v = .slice a rows.length c ∧ rows.length ≤ c ∧ (rows = [] ∨ ∃ b off, a = some ⟨b, off, none⟩ ∧ b < W.heap.size ∧ ∀ i rw j u, (rows.map ints)[i]? = some rw → rw[j]? = some u → W.cell? ⟨b, off + i * sz + j, none⟩ = some u)) ∧ (∀ r ∈ rows, r.length = sz ∧ ∀ z ∈ r, i64W z) ∧ rows.length ≤ maxLen := by
  rcases DataW.trod_slice ht hf with ⟨h0, -⟩ | ⟨a', n', c, elems, rest, m, -, hcs, -, hb, hlc, hm, hlen, hel, -, -⟩
  · cases h0
    exact ⟨[], ⟨_, _, rfl, Nat.le_refl _, .inl rfl⟩, by simp, Nat.zero_le _⟩
  · cases hcs
    have key : ∀ q, q < n' → ∃ zs : List Int, zs.length = sz ∧ (∀ z ∈ zs, i64W z) ∧ ∀ j u, (ints zs)[j]? = some u → W.cell? ((a'.add (q * sz)).add j) = some u := fun q hq => by
      have h1 := hel q hq
      rw [hce, List.getElem?_eq_getElem (by omega)] at h1
      cases hcl : W.cells? b (a'.add (q * sz)) sz with
      | none => rw [hcl] at h1; cases h1
      | some cs =>
        rw [hcl] at h1
        simp only [Option.bind_some] at h1
        obtain ⟨-, h5, h6⟩ := World.cells?_some hcl
        obtain ⟨zs, rfl, hl, hz⟩ := intRow he h1
        refine ⟨zs, by rw [hl, hce], hz, fun j u hu => ?_⟩
        have hj : j < sz := by
          have := (List.getElem?_eq_some_iff.1 hu).1
          rw [ints_len, hl, hce] at this; exact this
        rw [h6 j hj]; exact hu
    by_cases hn0 : n' = 0
    · subst hn0
      exact ⟨[], ⟨_, _, rfl, Nat.zero_le _, .inl rfl⟩, by simp, Nat.zero_le _⟩
    · have hch : ∃ Z : Nat → List Int, ∀ q, q < n' → (Z q).length = sz ∧ (∀ z ∈ Z q, i64W z) ∧ ∀ j u, (ints (Z q))[j]? = some u → W.cell? ((a'.add (q * sz)).add j) = some u := by
        refine ⟨fun q => if h : q < n' then Classical.choose (key q h) else [], fun q hq => ?_⟩
        simp only [dif_pos hq]
        exact Classical.choose_spec (key q hq)
      obtain ⟨Z, hZ⟩ := hch
      have h0 := hZ 0 (by omega)
      have hz0 := h0.2.2 0 _ (ints_get (by rw [h0.1]; exact hsz))
      rw [Nat.zero_mul, show (a'.add 0).add 0 = a' by simp [Addr.add]] at hz0
      obtain ⟨ha, hblk⟩ := spot_none hz0
      have hadd : ∀ q j, (a'.add (q * sz)).add j = ⟨a'.block, a'.off + q * sz + j, none⟩ := fun q j => by rw [ha, add_lit, add_lit]
      refine ⟨(List.range n').map Z, ⟨some a', c, by simp, by simpa using hlc, .inr ⟨a'.block, a'.off, congrArg some ha, hblk, fun i rw' j u hi hu => ?_⟩⟩, fun r hr => ?_, by simpa using (by omega : n' ≤ maxLen)⟩
      · rw [List.getElem?_map, List.getElem?_map] at hi
        have hin : i < n' := by
          refine Classical.byContradiction fun hn => ?_
          rw [List.getElem?_eq_none (by rw [List.length_range]; omega)] at hi
          cases hi
        rw [List.getElem?_range hin] at hi
        simp only [Option.map_some, Option.some.injEq] at hi
        subst hi
        have := (hZ i hin).2.2 j u hu
        rwa [hadd] at this
      · obtain ⟨q, hq, rfl⟩ := List.mem_map.1 hr
        have := hZ q (List.mem_range.1 hq)
        exact ⟨this.1, this.2.1⟩
end
end Go.Sx
namespace Go.Sx
open Go Go.Proofs Go.ChangeShapes Go.WideShapes Go.ChangeAt Go.RowKit
section
variable {H : Type} {enc : TypeId × Value → H} {W : World} {r : Reach} {b0 b : Nat} {sp : Nat → Bool} {hd : Bool} {v : Value} {d : DataW H} {p : List MemPlace}
theorem open_intK {t : TypeId} {P : Program} (ht : P.underlying t = some (.int .i64)) (hv : Value.okWide P W r b0 t v) (h : DataW.Trod enc P W b sp hd t v d p) : ∃ x : Int, v = zv x ∧ i64W x := by
  obtain ⟨z, rfl⟩ := okWide_int ht hv
  obtain ⟨fuel, hf⟩ := h
  have hf' : DataW.trod enc P W b sp hd fuel t [.int .i64 z] = some (d, p) := hf
  obtain ⟨z', e, -, hw⟩ := DataW.trod_int ht hf'
  cases e
  exact ⟨z, rfl, i64_of hw⟩
set_option maxRecDepth 100000 in
theorem open_rowsK {t e sz : TypeId} (ht : Tryz.prog.underlying t = some (.slice e)) (hi : intCellsB Tryz.prog 3 e = true) (hc : Tryz.prog.cellsOf e = sz) (hsz : 0 < sz) (hv : Value.okWide Tryz.prog W r b0 t v) (h : DataW.Trod enc Tryz.prog W b sp hd t v d p) :
    ∃ rows : List (List Int), RdA sz W v rows ∧ (∀ r ∈ rows, r.length = sz ∧ ∀ z ∈ r, i64W z) ∧ rows.length ≤ maxLen := by
  obtain ⟨fuel, hf⟩ := h
  obtain ⟨a, n, c, rfl⟩ := okWide_slice ht hv
  have hcells : (Value.slice a n c).cells.toList = [Value.slice a n c] := rfl
  rw [hcells] at hf
  exact sl_rows ht hi hc hsz hf
end
end Go.Sx
/- Chapter 24: the laid variables. -/
namespace Go.Sx
open Go Go.Proofs Go.ChangeShapes Go.WideShapes Go.ChangeAt Go.RowKit
def kZ : List Int := kL.map fun x => ((x.toNat : Nat) : Int)
theorem kZ_data : (YtehehfcmanccjaaGreatDoor.Rows.laid_evergreen_digest_round : DataW Unit) = Lib.tabData .u32 kZ := by kernel_rfl
def laid1 : List (String × DataW Unit) := [("evergreen/digest.round", YtehehfcmanccjaaGreatDoor.Rows.laid_evergreen_digest_round)]
theorem laid1_plain {W : World} (h : laidMetH Tryz.prog laid1 W) : laidMet Tryz.prog laid1 W := by
  rwa [MakeChecks.laidMetH_plain _ _ _ (by kernel_rfl)] at h
theorem round_of_laid1 {W : World} (h : laidMetH Tryz.prog laid1 W) : RoundG W := by
  have h1 := laid1_plain h
  have h2 : laidMet Tryz.prog (("evergreen/digest.round", Lib.tabData .u32 kZ) :: []) W := by
    rw [← kZ_data]; exact h1
  have hT := Lib.tabIs_of_head (g := 0) (by kernel_rfl) (by kernel_rfl) Tryz.underlying222 Tryz.underlying114 (by kernel_rfl) (by kernel_rfl) h2
  intro i v hv
  have hlen : kZ.length = 64 := by kernel_rfl
  have hi : i < 64 := by
    have := (List.getElem?_eq_some_iff.1 hv).1
    unfold ws at this
    rw [List.length_map] at this
    exact this
  have hc := hT.cell (g := 0) (by kernel_rfl) i (by rw [hlen]; exact hi)
  rw [hc]
  unfold ws at hv
  rw [List.getElem?_map, List.getElem?_eq_getElem (by exact hi)] at hv
  rw [← hv]
  have hk : i < kL.length := hi
  have : kZ.getD i 0 = ((kL[i].toNat : Nat) : Int) := by unfold kZ; simp [hk]
  rw [this]; rfl
end Go.Sx
