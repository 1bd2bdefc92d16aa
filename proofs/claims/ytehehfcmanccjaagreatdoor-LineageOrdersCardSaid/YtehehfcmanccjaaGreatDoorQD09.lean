/- Chapter 24: the nodes that integers determine: the walk. -/
import Derived.Test.YtehehfcmanccjaaGreatDoorQD08
import Derived.Test.YtehehfcmanccjaaGreatDoorRows
import Derived.ProofKit
import Derived.OpenShut
import Derived.LaidMore
import Derived.Lay
import Derived.SevenTiedAt
import Derived.Stop.Joined
import Derived.Deep.Onto
import Derived.Laws.IdiomArrays
import Derived.Carry
import Derived.Test.YtehehfcmanccjaaGreatDoorTie
import Derived.Lib.LaidTab
import Derived.Stop.LaidErr
namespace Go.Sx
open Go Go.Proofs Go.RowKit
theorem hwOC {G G2 : Prop} (x : G2) (hwq : Hold G2 → G := by
    intro hQq
    repeat' (first | refine HL.pa ?_ (POp.nilCheck rfl) | apply HL.fold | apply HA.fold | apply HL.nil | apply HX.n_then | apply HC.seq | apply HC.region | refine HL.pa ?_ | refine HL.ga rfl ?_ | refine HL.na rfl ?_ | refine HL.nu rfl rfl ?_ | apply HC.block | apply HC.skip | apply HC.exit | apply HC.ret | apply HX.e_block | refine HX.e_other rfl ?_ | apply HX.e_then | apply HX.e_again | apply HX.n_block | apply HX.r_then | apply HX.r_block | apply HX.r_again | refine HC.cond_yes rfl ?_ | refine HC.cond_no rfl ?_ | refine HL.one (H1.ldb rfl memA rfl rfl ?_) | refine HC.cond rfl (fun hc => ?_) (fun hc => ?_) | refine HC.cond_b rfl (fun hc => ?_) (fun hc => ?_))
    exact hQq.get) : G := hwq ⟨x⟩
def madeD (rows : List (List Int)) : Nat → List ByteArray
  | 0 => []
  | i + 1 => madeD rows i ++ [sumS (rnsB [yI (rows.getD i []) 2, (i : Int)])]
theorem madeD_len (rows : List (List Int)) : ∀ i, (madeD rows i).length = i
  | 0 => rfl
  | i + 1 => by show (_ ++ [_]).length = _; rw [List.length_append, madeD_len rows i]; rfl
theorem madeD_size (rows : List (List Int)) : ∀ i, ∀ d ∈ madeD rows i, d.size = 32
  | 0, _, h => by cases h
  | i + 1, d, h => by
    rcases List.mem_append.1 h with h | h
    · exact madeD_size rows i d h
    · rw [List.mem_singleton] at h; subst h; exact sumS_size _
theorem four {y : List Int} (h : y.length = 4) : ∃ y0 y1 y2 y3, y = [y0, y1, y2, y3] := by
  match y, h with
  | [a, b, c, d], _ => exact ⟨a, b, c, d, rfl⟩
def madeN (rows : List (List Int)) : Nat := min rows.length 20
theorem lastId_le {l : List Nd} (h : MadeP l) (hl : l.length ≤ 20) : 0 ≤ lastId l ∧ lastId l ≤ 60 := by have := h.last; omega
theorem zGet {z : List NdZ} {N : List Nd} (h : ndsZ z = N) {i : Nat} (hi : i < N.length) : (ndsV z)[i * 4]? = some (zv (ndAt N i).id) ∧ (ndsV z)[i * 4 + 2]? = some (zv (ndAt N i).pack) := by
  subst h
  rw [ndsZ_len] at hi
  have e : z[i]? = some (z.getD i default) := by simp [hi]
  have e2 : ndAt (ndsZ z) i = (z.getD i default).1 := by unfold ndAt ndsZ; simp [hi]
  rw [e2]
  exact ⟨ndsV_get e (j := 0) (by decide), ndsV_get e (j := 2) (by decide)⟩
theorem HL.conv24 {P : Program} {r : Option Nat} {N : Nat} {ds : List Deferred} {ol l : List Oper} {Q : Post} {E : Env} {w0 : World} {H H2 : List Atom} (hh : ∀ w, Mm w0 H w → Mm w0 H2 w) (h : HL P r N ds ol l Q E w0 H2) : HL P r N ds ol l Q E w0 H := fun w hM => h w (hh w hM)
attribute [local irreducible] WC WL WX POp Then Again Fn NX W1 WA WO QL RP RA Yld LoopAt HC HL HX HN H1 HA HO HQ HB HP A.blk A.grow A.rd A.obj A.mp AgainH CutH
attribute [local irreducible] A.mq A.mit A.all sumS HU HV
set_option maxHeartbeats 8000000 in
theorem made24_fn (v : Value) (rows : List (List Int)) (hrow : ∀ y ∈ rows, y.length = 4 ∧ ∀ z ∈ y, i64W z) (w : World) (hR : RdA 4 w v rows) :
    Fn Tryz.prog 11 #[v] w fun u w' => (∃ v g U, u = .tuple #[v, g] ∧ RdN w' v (madeL rows (madeN rows)) U ∧ Rd w' g (strs (madeD rows (madeN rows)))) ∧ Ext w w' := by
  obtain ⟨a0, c0, rfl, -⟩ := hR.shape
  refine enterH (l := [_]) rfl Tryz.ntmps11 rfl ?_
  refine HC.grow0 31 4 ?_
  refine HC.grow0 9 1 ?_
  refine HC.conv (H2 := A.all (rowsA []) :: [A.grow 9 1 none 0 0 [], A.grow 31 4 none 0 0 []]) (fun w h => h.allNil) ?_
  refine hwOC ?_
  refine HC.loop (α := Nat × List NdZ × (Option Addr × Nat) × (Option Addr × Nat)) (fun q => [(0, .slice a0 rows.length c0), (4, .slice q.2.2.1.1 q.1 q.2.2.1.2), (5, .slice q.2.2.2.1 q.1 q.2.2.2.2), (6, zv (lastId (madeL rows q.1))), (7, zv (q.1 : Int))])
    (fun q => [A.grow 31 4 q.2.2.1.1 q.2.2.1.2 q.1 (ndsV q.2.1), A.grow 9 1 q.2.2.2.1 q.2.2.2.2 q.1 (strs (madeD rows q.1)), A.all (rowsA q.2.1)]) (fun q => q.1 ≤ rows.length ∧ q.1 ≤ 20 ∧ ndsZ q.2.1 = madeL rows q.1) (fun q => 20 - q.1) (0, [], (none, 0), (none, 0)) ⟨Nat.zero_le _, Nat.zero_le _, rfl⟩ esA (by repeat (first | exact Hs.nil _ | (refine Hs.cons pickA ?_))) ?_
  rintro ⟨i, z, ⟨an, cn⟩, ad, cd⟩ ⟨hi1, hi2, hz⟩
  dsimp only at hi1 hi2 hz ⊢
  have hzl : z.length = i := by rw [← ndsZ_len, hz, madeL_len]
  have hend : i = madeN rows → ∀ w', Mm w [A.grow 31 4 an cn i (ndsV z), A.grow 9 1 ad cd i (strs (madeD rows i)), A.all (rowsA z)] w' → (∃ v g U, Value.tuple #[.slice an i cn, .slice ad i cd] = .tuple #[v, g] ∧ RdN w' v (madeL rows (madeN rows)) U ∧ Rd w' g (strs (madeD rows (madeN rows)))) ∧ Ext w w' := by
    intro e w' hM
    refine ⟨⟨_, _, adrZ z, rfl, ?_, ?_⟩, hM.ext⟩
    · have h := hM.rdN (a := an) (c := cn) (z := z) (by rw [hzl]; first | ((repeat (first | with_reducible exact mem_hd | with_reducible apply mem_tl)); done) | (repeat (first | exact List.Mem.head _ | apply List.Mem.tail))) memA
      rw [hz, hzl] at h
      rw [← e]; exact h
    · have h := hM.gr (e := 9) (a := ad) (c := cd) (n := i) memA
      rw [← e]; exact h
  by_cases hlt : i < rows.length
  rotate_left
  · have h1 : ¬ (i : Int) < (rows.length : Int) := by omega
    refine hwOC ?_
    exact HX.ret2 rfl rfl rfl fun w' hM => hend (by unfold madeN; omega) w' hM
  have h1 : (i : Int) < (rows.length : Int) := by omega
  by_cases h20 : i < 20
  rotate_left
  · have h2 : ¬ (i : Int) < 20 := by omega
    refine hwOC ?_
    exact HX.ret2 rfl rfl rfl fun w' hM => hend (by unfold madeN; omega) w' hM
  have h2 : (i : Int) < 20 := by omega
  obtain ⟨y, hy⟩ : ∃ y, rows[i]? = some y := ⟨_, List.getElem?_eq_getElem hlt⟩
  have hy4 := hrow y (List.mem_of_getElem? hy)
  have hgy : rows.getD i [] = y := by rw [List.getD_eq_getElem?_getD, hy]; rfl
  obtain ⟨bx, off, rfl, -, hcell⟩ := hR.at (fun e => by rw [e] at hlt; exact absurd hlt (Nat.not_lt_zero _))
  have hcl := hcell i y hy
  clear hcell hend
  obtain ⟨y0, y1, y2, y3, rfl⟩ := four hy4.1
  have w0 := hy4.2 y0 (by simp)
  have w1 := hy4.2 y1 (by simp)
  have w2 := hy4.2 y2 (by simp)
  have w3 := hy4.2 y3 (by simp)
  have hok := madeL_ok rows i (by omega)
  have hll := madeL_len rows i
  have hlast := lastId_le hok (by omega)
  have hstep : madeL rows (i + 1) = madeL rows i ++ [mkNd (madeL rows i) [y0, y1, y2, y3]] := by
    show madeL rows i ++ [mkNd (madeL rows i) (rows.getD i [])] = _; rw [hgy]
  have hdst : strs (madeD rows i) ++ [.string (sumS (rnsB [y2, (i : Int)]))] = strs (madeD rows (i + 1)) := by
    rw [strs_snoc]
    show _ = strs (madeD rows i ++ [sumS (rnsB [yI (rows.getD i []) 2, (i : Int)])])
    rw [hgy]; rfl
  have hlast2 : lastId (madeL rows (i + 1)) = (mkNd (madeL rows i) [y0, y1, y2, y3]).id := by rw [hstep, lastId_snoc]
  have hmk : ∀ n, mkNd (madeL rows i) [y0, y1, y2, y3] = n → mkNd (madeL rows i) [y0, y1, y2, y3] = n := fun _ h => h
  have hid : (mkNd (madeL rows i) [y0, y1, y2, y3]).id = lastId (madeL rows i) + 1 + pickI21 y0 3 := mkNd_id _ _
  have q0 := pickI21_lt y0 (n := 3) (by decide)
  have q1 := pickI21_lt y1 (n := 4) (by decide)
  generalize hN : madeL rows i = N at hz hok hll hlast hstep hmk hid hlast2 ⊢
  refine hwOC ?_
  refine HL.one (H1.ldAggw (vs := ints [y0, y1, y2, y3]) rfl rfl (fun w' hM i v hv => cell_ext hM.ext (hcl i v hv)) rfl ?_)
  clear hcl hy hy4
  refine hwOC ?_
  refine HL.one (H1.alloc (cs := ints [0, 0, 0, 0]) rfl rfl (fun b8 => ?_))
  refine hwOC ?_
  refine HL.one (H1.stAgg (b := b8) (cs := ints [0, 0, 0, 0]) (vs := ints [y0, y1, y2, y3]) rfl rfl rfl (ints_one _) rplA rfl ?_)
  refine hwOC ?_
  refine HC.cut (α := Nat) (fun b9 => [(0, .slice (some ⟨bx, off, none⟩) rows.length c0), (4, .slice an i cn), (5, .slice ad i cd), (7, zv (i : Int)), (8, .pointer (some ⟨b8, 0, none⟩)), (9, .pointer (some ⟨b9, 0, none⟩))]) (fun b9 => [A.blk b9 (ndC ⟨lastId N + 1 + pickI21 y0 3, 1, 1 + pickI21 y1 4, []⟩ (.slice none 0 0)) 31, A.blk b8 (ints [y0, y1, y2, y3]) 70, A.grow 31 4 an cn i (ndsV z), A.grow 9 1 ad cd i (strs (madeD rows i)), A.all (rowsA z)]) (fun _ => True) ?_ ?_
  · refine HC.anyC ([(⟨b8, 0, none⟩, zv y0), (⟨b8, 1, none⟩, zv y1)]) rfl ?_
    refine HB.pa 0 rfl ?_
    refine HB.pa 1 rfl ?_
    refine HB.pa 2 rfl ?_
    refine HB.ld 3 rfl rfl memD ?_
    refine HB.pa 6 rfl ?_
    refine HB.ld 7 rfl rfl memD ?_
    refine HB.all (by repeat (first | exact Keep.nil | refine Keep.blk (by (repeat (first | exact List.Mem.head _ | apply List.Mem.tail)); done) rfl ?_ | refine Keep.grow (by (repeat (first | exact List.Mem.head _ | apply List.Mem.tail)); done) (by assumption) ?_ | refine Keep.base (by assumption) ?_)) [4, 11] (by kernel_rfl) rfl ⟨⟨_, rfl, ?_⟩, ⟨_, rfl, ?_⟩, trivial⟩
    · refine HP.one ?_
      refine H1.call0 (vs := [zv y0, zv 3]) rfl rfl (fun w' _ => rpick24_fn y0 3 w0.1 w0.2 (by decide) w') ?_
      apply HB.fold
      refine HB.pa 5 rfl ?_
      refine HB.all (by repeat (first | exact Keep.nil | refine Keep.blk (by (repeat (first | exact List.Mem.head _ | apply List.Mem.tail)); done) rfl ?_ | refine Keep.grow (by (repeat (first | exact List.Mem.head _ | apply List.Mem.tail)); done) (by assumption) ?_ | refine Keep.base (by assumption) ?_)) [8, 11] (by kernel_rfl) rfl ⟨⟨_, rfl, ?_⟩, ⟨_, rfl, ?_⟩, trivial⟩
      · refine HP.one ?_
        refine H1.call0 (vs := [zv y1, zv 4]) rfl rfl (fun w' _ => rpick24_fn y1 4 w1.1 w1.2 (by decide) w') ?_
        apply HB.fold
        refine HB.pa 9 rfl ?_
        refine HB.pa 10 rfl ?_ (POp.build (cs := ndC ⟨lastId N + 1 + pickI21 y0 3, 1, 1 + pickI21 y1 4, []⟩ (.slice none 0 0)) rfl rfl)
        refine HB.all (by repeat (first | exact Keep.nil | refine Keep.blk (by (repeat (first | exact List.Mem.head _ | apply List.Mem.tail)); done) rfl ?_ | refine Keep.grow (by (repeat (first | exact List.Mem.head _ | apply List.Mem.tail)); done) (by assumption) ?_ | refine Keep.base (by assumption) ?_)) [11] (by kernel_rfl) rfl ⟨⟨_, rfl, ?_⟩, trivial⟩
        refine HP.one ?_
        refine H1.alloc (cs := ndC ⟨0, 0, 0, []⟩ (.slice none 0 0)) rfl rfl (fun b9 => ?_)
        apply HB.fold
        refine HB.all (by repeat (first | exact Keep.nil | refine Keep.blk (by (repeat (first | exact List.Mem.head _ | apply List.Mem.tail)); done) rfl ?_ | refine Keep.grow (by (repeat (first | exact List.Mem.head _ | apply List.Mem.tail)); done) (by assumption) ?_ | refine Keep.base (by assumption) ?_)) [12] (by kernel_rfl) rfl ⟨⟨_, rfl, ?_⟩, trivial⟩
        refine HP.one ?_
        refine H1.stAgg (b := b9) (cs := ndC ⟨0, 0, 0, []⟩ (.slice none 0 0)) (vs := ndC ⟨lastId N + 1 + pickI21 y0 3, 1, 1 + pickI21 y1 4, []⟩ (.slice none 0 0)) rfl rfl rfl (nd_one rfl) rplA rfl ?_
        apply HB.fold
        refine HB.done (by repeat (first | exact Keep.nil | refine Keep.blk (by (repeat (first | exact List.Mem.head _ | apply List.Mem.tail)); done) rfl ?_ | refine Keep.grow (by (repeat (first | exact List.Mem.head _ | apply List.Mem.tail)); done) (by assumption) ?_ | refine Keep.base (by assumption) ?_)) (by kernel_rfl) ?_
        exact HX.cut b9 trivial esA (by repeat (first | exact Hs.nil _ | (refine Hs.cons pickA ?_)))
      · refine HP.one ?_
        refine H1.alloc (cs := ndC ⟨0, 0, 0, []⟩ (.slice none 0 0)) rfl rfl (fun b9 => ?_)
        apply HB.fold
        refine HB.all (by repeat (first | exact Keep.nil | refine Keep.blk (by (repeat (first | exact List.Mem.head _ | apply List.Mem.tail)); done) rfl ?_ | refine Keep.grow (by (repeat (first | exact List.Mem.head _ | apply List.Mem.tail)); done) (by assumption) ?_ | refine Keep.base (by assumption) ?_)) [8] (by kernel_rfl) rfl ⟨⟨_, rfl, ?_⟩, trivial⟩
        refine HP.one ?_
        refine H1.call0 (vs := [zv y1, zv 4]) rfl rfl (fun w' _ => rpick24_fn y1 4 w1.1 w1.2 (by decide) w') ?_
        apply HB.fold
        refine HB.pa 9 rfl ?_
        refine HB.pa 10 rfl ?_ (POp.build (cs := ndC ⟨lastId N + 1 + pickI21 y0 3, 1, 1 + pickI21 y1 4, []⟩ (.slice none 0 0)) rfl rfl)
        refine HB.all (by repeat (first | exact Keep.nil | refine Keep.blk (by (repeat (first | exact List.Mem.head _ | apply List.Mem.tail)); done) rfl ?_ | refine Keep.grow (by (repeat (first | exact List.Mem.head _ | apply List.Mem.tail)); done) (by assumption) ?_ | refine Keep.base (by assumption) ?_)) [12] (by kernel_rfl) rfl ⟨⟨_, rfl, ?_⟩, trivial⟩
        refine HP.one ?_
        refine H1.stAgg (b := b9) (cs := ndC ⟨0, 0, 0, []⟩ (.slice none 0 0)) (vs := ndC ⟨lastId N + 1 + pickI21 y0 3, 1, 1 + pickI21 y1 4, []⟩ (.slice none 0 0)) rfl rfl rfl (nd_one rfl) rplA rfl ?_
        apply HB.fold
        refine HB.done (by repeat (first | exact Keep.nil | refine Keep.blk (by (repeat (first | exact List.Mem.head _ | apply List.Mem.tail)); done) rfl ?_ | refine Keep.grow (by (repeat (first | exact List.Mem.head _ | apply List.Mem.tail)); done) (by assumption) ?_ | refine Keep.base (by assumption) ?_)) (by kernel_rfl) ?_
        exact HX.cut b9 trivial esA (by repeat (first | exact Hs.nil _ | (refine Hs.cons pickA ?_)))
    · refine HP.one ?_
      refine H1.alloc (cs := ndC ⟨0, 0, 0, []⟩ (.slice none 0 0)) rfl rfl (fun b9 => ?_)
      apply HB.fold
      refine HB.all (by repeat (first | exact Keep.nil | refine Keep.blk (by (repeat (first | exact List.Mem.head _ | apply List.Mem.tail)); done) rfl ?_ | refine Keep.grow (by (repeat (first | exact List.Mem.head _ | apply List.Mem.tail)); done) (by assumption) ?_ | refine Keep.base (by assumption) ?_)) [4] (by kernel_rfl) rfl ⟨⟨_, rfl, ?_⟩, trivial⟩
      refine HP.one ?_
      refine H1.call0 (vs := [zv y0, zv 3]) rfl rfl (fun w' _ => rpick24_fn y0 3 w0.1 w0.2 (by decide) w') ?_
      apply HB.fold
      refine HB.pa 5 rfl ?_
      refine HB.all (by repeat (first | exact Keep.nil | refine Keep.blk (by (repeat (first | exact List.Mem.head _ | apply List.Mem.tail)); done) rfl ?_ | refine Keep.grow (by (repeat (first | exact List.Mem.head _ | apply List.Mem.tail)); done) (by assumption) ?_ | refine Keep.base (by assumption) ?_)) [8] (by kernel_rfl) rfl ⟨⟨_, rfl, ?_⟩, trivial⟩
      refine HP.one ?_
      refine H1.call0 (vs := [zv y1, zv 4]) rfl rfl (fun w' _ => rpick24_fn y1 4 w1.1 w1.2 (by decide) w') ?_
      apply HB.fold
      refine HB.pa 9 rfl ?_
      refine HB.pa 10 rfl ?_ (POp.build (cs := ndC ⟨lastId N + 1 + pickI21 y0 3, 1, 1 + pickI21 y1 4, []⟩ (.slice none 0 0)) rfl rfl)
      refine HB.all (by repeat (first | exact Keep.nil | refine Keep.blk (by (repeat (first | exact List.Mem.head _ | apply List.Mem.tail)); done) rfl ?_ | refine Keep.grow (by (repeat (first | exact List.Mem.head _ | apply List.Mem.tail)); done) (by assumption) ?_ | refine Keep.base (by assumption) ?_)) [12] (by kernel_rfl) rfl ⟨⟨_, rfl, ?_⟩, trivial⟩
      refine HP.one ?_
      refine H1.stAgg (b := b9) (cs := ndC ⟨0, 0, 0, []⟩ (.slice none 0 0)) (vs := ndC ⟨lastId N + 1 + pickI21 y0 3, 1, 1 + pickI21 y1 4, []⟩ (.slice none 0 0)) rfl rfl rfl (nd_one rfl) rplA rfl ?_
      apply HB.fold
      refine HB.done (by repeat (first | exact Keep.nil | refine Keep.blk (by (repeat (first | exact List.Mem.head _ | apply List.Mem.tail)); done) rfl ?_ | refine Keep.grow (by (repeat (first | exact List.Mem.head _ | apply List.Mem.tail)); done) (by assumption) ?_ | refine Keep.base (by assumption) ?_)) (by kernel_rfl) ?_
      exact HX.cut b9 trivial esA (by repeat (first | exact Hs.nil _ | (refine Hs.cons pickA ?_)))
  rintro b9 -
  refine HC.seq ?_
  refine HC.cut (α := Option Addr × Nat) (fun _ => [(0, .slice (some ⟨bx, off, none⟩) rows.length c0), (4, .slice an i cn), (5, .slice ad i cd), (7, zv (i : Int)), (8, .pointer (some ⟨b8, 0, none⟩)), (9, .pointer (some ⟨b9, 0, none⟩))])
    (fun q => [A.grow 3 1 q.1 q.2 (mkNd N [y0, y1, y2, y3]).src.length (ints (mkNd N [y0, y1, y2, y3]).src), A.blk b9 (ndC (mkNd N [y0, y1, y2, y3]) (.slice q.1 (mkNd N [y0, y1, y2, y3]).src.length q.2)) 31, A.blk b8 (ints [y0, y1, y2, y3]) 70, A.grow 31 4 an cn i (ndsV z), A.grow 9 1 ad cd i (strs (madeD rows i)), A.all (rowsA z)]) (fun _ => True) ?_ ?_
  · by_cases h0 : 0 < i
    rotate_left
    · have h0' : ¬ (0 : Int) < (i : Int) := by omega
      have hm : mkNd N [y0, y1, y2, y3] = ⟨lastId N + 1 + pickI21 y0 3, 1, 1 + pickI21 y1 4, []⟩ := by
        unfold mkNd
        rw [if_neg fun h => by have := h.1; omega]
        rfl
      rw [hm]
      refine HC.grow0 3 1 ?_
      refine hwOC ?_
      exact HX.cut (none, 0) trivial esA (by repeat (first | exact Hs.nil _ | (refine Hs.cons pickA ?_)))
    have h0' : (0 : Int) < (i : Int) := by omega
    have q2 := pickI21_lt (y0.tdiv 3) (n := 3) (by decide)
    have u0 := w0.tdiv (n := 3) (by decide)
    have u1 := w1.tdiv (n := 4) (by decide)
    refine hwOC ?_
    refine HL.pa ?_ (POp.quoT rfl rfl w0.1 w0.2 (by decide))
    refine hwOC ?_
    refine HL.one (H1.call0 (vs := [_, zv 3]) rfl rfl (fun w' _ => rpick24_fn (y0.tdiv 3) 3 u0.1 u0.2 (by decide) w') ?_)
    by_cases hp : 0 < pickI21 (y0.tdiv 3) 3
    rotate_left
    · have hm : mkNd N [y0, y1, y2, y3] = ⟨lastId N + 1 + pickI21 y0 3, 1, 1 + pickI21 y1 4, []⟩ := by
        unfold mkNd
        rw [if_neg fun h => hp h.2]
        rfl
      rw [hm]
      refine HL.fold ?_
      refine HL.grow0 3 1 ?_
      refine hwOC ?_
      exact HX.cut (none, 0) trivial esA (by repeat (first | exact Hs.nil _ | (refine Hs.cons pickA ?_)))
    have hsrc : isSrc N [y0, y1, y2, y3] := ⟨by omega, hp⟩
    obtain ⟨a, hae, ha⟩ : ∃ a : Nat, pickI21 y2 (i : Int) = (a : Int) ∧ a < i := by
      have := pickI21_lt y2 (n := (i : Int)) (by omega)
      exact ⟨(pickI21 y2 (i : Int)).toNat, by omega, by omega⟩
    obtain ⟨b, hbe, hb⟩ : ∃ b : Nat, pickI21 y3 (i : Int) = (b : Int) ∧ b < i := by
      have := pickI21_lt y3 (n := (i : Int)) (by omega)
      exact ⟨(pickI21 y3 (i : Int)).toNat, by omega, by omega⟩
    have hm : mkNd N [y0, y1, y2, y3] = ⟨lastId N + 1 + pickI21 y0 3, 2 + pickI21 (y1.tdiv 4) 4, (ndAt N a).pack, (ndAt N (min a b)).id :: if a = b then [] else [(ndAt N (max a b)).id]⟩ := by
      have h1 : srcA N [y0, y1, y2, y3] = a := by
        show (pickI21 y2 (N.length : Int)).toNat = a
        rw [hll, hae]; rfl
      have h2 : srcB N [y0, y1, y2, y3] = b := by
        show (pickI21 y3 (N.length : Int)).toNat = b
        rw [hll, hbe]; rfl
      unfold mkNd
      rw [if_pos hsrc, h1, h2]
      rfl
    have q3 := pickI21_lt (y1.tdiv 4) (n := 4) (by decide)
    have gpa := (zGet hz (i := a) (by omega)).2
    have gmin := (zGet hz (i := min a b) (by omega)).1
    have gmax := (zGet hz (i := max a b) (by omega)).1
    have hmin : (min (a : Int) (b : Int)).toNat = min a b := by omega
    have hmax : (max (a : Int) (b : Int)).toNat = max a b := by omega
    rw [hm]
    generalize (ndAt N a).pack = pk at gpa hm ⊢
    generalize (ndAt N (min a b)).id = idn at gmin hm ⊢
    generalize (ndAt N (max a b)).id = idx at gmax hm ⊢
    refine HL.fold ?_
    refine HL.openg (e := 31) (sz := 4) (a := an) (c := cn) (n := i) (xs := ndsV z) memA (by omega) ?_
    rintro bn rfl
    refine hwOC ?_
    refine HL.pa ?_ (POp.quoT rfl rfl w1.1 w1.2 (by decide))
    refine hwOC ?_
    refine HL.one (H1.call0 (vs := [_, zv 4]) rfl rfl (fun w' _ => rpick24_fn (y1.tdiv 4) 4 u1.1 u1.2 (by decide) w') ?_)
    refine hwOC ?_
    refine HL.one (H1.st (b := b9) (i := 1) rfl rfl (by intro _ h; cases h) (by intro _ h; cases h) rplA (by show 1 < 4; decide) ?_)
    refine hwOC ?_
    refine HL.one (H1.call0 (vs := [zv y2, zv (i : Int)]) rfl rfl (fun w' _ => rpick24_fn y2 (i : Int) w2.1 w2.2 (by omega) w') ?_)
    rw [hae]
    refine hwOC ?_
    refine HL.one (H1.call0 (vs := [zv y3, zv (i : Int)]) rfl rfl (fun w' _ => rpick24_fn y3 (i : Int) w3.1 w3.2 (by omega) w') ?_)
    rw [hbe]
    refine hwOC ?_
    refine HL.one (H1.ldg (c := cn) (n := i) (sz := 4) (e := 31) (vs := ndsV z) (i := a * 4 + 2) rfl memA gpa rfl ?_)
    refine hwOC ?_
    refine HL.one (H1.st (b := b9) (i := 2) rfl rfl (by intro _ h; cases h) (by intro _ h; cases h) rplA (by show 2 < 4; decide) ?_)
    refine hwOC ?_
    refine HL.one (H1.ldg (c := cn) (n := i) (sz := 4) (e := 31) (vs := ndsV z) (i := min a b * 4) (by show some (Value.pointer (some ⟨bn, (min (a : Int) (b : Int)).toNat * 4 + 0, none⟩)) = _; rw [hmin]; rfl) memA gmin rfl ?_)
    refine hwOC ?_
    refine HL.one (H1.lit (cs := [zv idn]) rfl rfl rfl rfl rfl rfl (fun b10 => ?_))
    refine hwOC ?_
    refine HL.one (H1.st (b := b9) (i := 3) rfl rfl (by intro _ h; cases h) (by intro _ h; cases h) rplA (by show 3 < 4; decide) ?_)
    refine HL.fold ?_
    refine HL.conv24 (H2 := [A.blk b10 [zv idn] 3, A.blk b9 [zv (lastId N + 1 + pickI21 y0 3), zv (2 + pickI21 (y1.tdiv 4) 4), zv pk, .slice (some ⟨b10, 0, none⟩) 1 1] 31, A.blk b8 (ints [y0, y1, y2, y3]) 70, A.grow 31 4 (some ⟨bn, 0, none⟩) cn i (ndsV z), A.grow 9 1 ad cd i (strs (madeD rows i)), A.all (rowsA z)]) (fun w h => h) ?_
    by_cases hab : a = b
    · have hab' : ((a : Nat) : Int) = (b : Int) := by omega
      rw [if_pos hab]
      refine hwOC ?_
      refine HX.conv (fun w h => Mm.blkGrow (n := 1) (sz := 1) h rfl (by decide)) ?_
      exact HX.cut (some ⟨b10, 0, none⟩, 1) trivial esA (by repeat (first | exact Hs.nil _ | (refine Hs.cons pickA ?_)))
    have hab' : ¬ ((a : Nat) : Int) = (b : Int) := by omega
    rw [if_neg hab]
    refine hwOC ?_
    refine HC.anyU ([(12, ⟨b9, 3, none⟩, .slice (some ⟨b10, 0, none⟩) 1 1), (12, ⟨bn, max a b * 4, none⟩, zv idx)]) rfl ?_
    refine HU.pa 0 rfl ?_
    refine HU.ld (s := 12) 1 rfl rfl (.head _) ?_
    refine HU.pa 2 rfl ?_
    refine HU.pa 3 rfl ?_
    refine HU.pa 4 rfl ?_
    refine HU.pa 5 rfl ?_
    refine HU.pa 6 rfl ?_
    refine HU.pa 7 rfl ?_
    refine HU.ld (s := 12) (ad := ⟨bn, max a b * 4, none⟩) (v := zv idx) 8 rfl (by show some (Value.pointer (some ⟨bn, (max (a : Int) (b : Int)).toNat * 4 + 0, none⟩)) = _; rw [hmax]; rfl) (.tail _ (.head _)) ?_
    refine HU.all (by (first | refine KeepU.blk (by (repeat (first | exact List.Mem.head _ | apply List.Mem.tail)); done) rfl ?_ | refine KeepU.grow (by (repeat (first | exact List.Mem.head _ | apply List.Mem.tail)); done) (by assumption) ?_ | refine KeepU.base (by assumption) ?_); (first | refine KeepU.blk (by (repeat (first | exact List.Mem.head _ | apply List.Mem.tail)); done) rfl ?_ | refine KeepU.grow (by (repeat (first | exact List.Mem.head _ | apply List.Mem.tail)); done) (by assumption) ?_ | refine KeepU.base (by assumption) ?_); exact KeepU.nil) [9] (by kernel_rfl) rfl ⟨⟨_, rfl, ?_⟩, trivial⟩
    refine HV.one ?_
    refine H1.lit (cs := [zv idx]) rfl rfl rfl rfl rfl rfl (fun b11 => ?_)
    apply HU.fold
    refine HU.all (by (first | refine KeepU.blk (by (repeat (first | exact List.Mem.head _ | apply List.Mem.tail)); done) rfl ?_ | refine KeepU.grow (by (repeat (first | exact List.Mem.head _ | apply List.Mem.tail)); done) (by assumption) ?_ | refine KeepU.base (by assumption) ?_); (first | refine KeepU.blk (by (repeat (first | exact List.Mem.head _ | apply List.Mem.tail)); done) rfl ?_ | refine KeepU.grow (by (repeat (first | exact List.Mem.head _ | apply List.Mem.tail)); done) (by assumption) ?_ | refine KeepU.base (by assumption) ?_); exact KeepU.nil) [10] (by kernel_rfl) rfl ⟨⟨_, rfl, ?_⟩, trivial⟩
    refine HV.one ?_
    refine H1.conv2 (H2 := A.grow 3 1 (some ⟨b10, 0, none⟩) 1 1 [zv idn] :: [A.blk b11 [zv idx] 3, A.blk b9 [zv (lastId N + 1 + pickI21 y0 3), zv (2 + pickI21 (y1.tdiv 4) 4), zv pk, .slice (some ⟨b10, 0, none⟩) 1 1] 31, A.blk b8 (ints [y0, y1, y2, y3]) 70, A.grow 31 4 (some ⟨bn, 0, none⟩) cn i (ndsV z), A.grow 9 1 ad cd i (strs (madeD rows i)), A.all (rowsA z)]) (fun w h => Mm.blkGrow (n := 1) (sz := 1) (h.sub (by repeat (first | exact Hs.nil _ | (refine Hs.cons pickA ?_)))) rfl (by decide)) ?_
    refine H1.app1 (u := zv idx) rfl rfl (fun _ _ => by first | ((repeat (first | with_reducible exact Rpl.here | with_reducible apply Rpl.there)); done) | (repeat (first | exact Rpl.here | apply Rpl.there))) memA rfl rfl (by omega) rfl rfl (fun a' c' => ?_)
    apply HU.fold
    refine HU.pa 11 rfl ?_
    refine HU.all (by (first | refine KeepU.blk (by (repeat (first | exact List.Mem.head _ | apply List.Mem.tail)); done) rfl ?_ | refine KeepU.grow (by (repeat (first | exact List.Mem.head _ | apply List.Mem.tail)); done) (by assumption) ?_ | refine KeepU.base (by assumption) ?_); (first | refine KeepU.blk (by (repeat (first | exact List.Mem.head _ | apply List.Mem.tail)); done) rfl ?_ | refine KeepU.grow (by (repeat (first | exact List.Mem.head _ | apply List.Mem.tail)); done) (by assumption) ?_ | refine KeepU.base (by assumption) ?_); exact KeepU.nil) [12] (by kernel_rfl) rfl ⟨⟨_, rfl, ?_⟩, trivial⟩
    refine HV.one ?_
    refine H1.st (b := b9) (i := 3) rfl rfl (by intro _ h; cases h) (by intro _ h; cases h) rplA (by show 3 < 4; decide) ?_
    apply HU.fold
    refine HU.done (by refine KeepU.skip (by kernel_rfl) ?_; refine KeepU.skip (by kernel_rfl) ?_; exact KeepU.nil) (by kernel_rfl) ?_
    refine hwOC ?_
    exact HX.cut (some ⟨a', 0, none⟩, c') trivial esA (by repeat (first | exact Hs.nil _ | (refine Hs.cons pickA ?_)))
  rintro ⟨az, cz⟩ -
  dsimp only
  generalize hM0 : mkNd N [y0, y1, y2, y3] = n at hstep hid hlast2 ⊢
  have hzn : ndsZ (z ++ [(n, az, cz)]) = madeL rows (i + 1) := by
    rw [hstep]
    unfold ndsZ at hz ⊢
    rw [List.map_append, hz]; rfl
  have hnv : ndsV z ++ ndC n (.slice az n.src.length cz) = ndsV (z ++ [(n, az, cz)]) := (ndsV_snoc z (n, az, cz)).symm
  have hi3 : i64W (i : Int) := by unfold i64W; omega
  refine hwOC ?_
  refine HL.one (H1.ldAgg (b := b9) (vs := ndC n (.slice az n.src.length cz)) rfl memA rfl (fun i v hv => by rw [Nat.zero_add]; exact hv) rfl ?_)
  refine hwOC ?_
  refine HL.one (H1.lit (cs := ndC n (.slice az n.src.length cz)) rfl rfl rfl rfl rfl rfl (fun b10 => ?_))
  refine hwOC ?_
  refine HL.one (H1.app (sz := 4) (m := 1) (news := ndC n (.slice az n.src.length cz)) rfl (by decide) rfl rfl (fun _ _ => by first | ((repeat (first | with_reducible exact Rpl.here | with_reducible apply Rpl.there)); done) | (repeat (first | exact Rpl.here | apply Rpl.there))) rfl (fun w' hM j u hj => by rw [add_lit, Nat.zero_add]; exact (hM.blk (b := b10) memA).cell hj) (nd_one rfl) (by omega) (by decide) rfl (fun an2 cn2 _ => ?_))
  rw [hnv]
  refine hwOC ?_
  refine HL.one (H1.lit (cs := ints [y2, (i : Int)]) rfl rfl rfl rfl rfl rfl (fun b11 => ?_))
  refine hwOC ?_
  refine HL.one (H1.callx (vs := [_]) rfl rfl (fun w' hM => numbers24_fn (.slice (some ⟨b11, 0, none⟩) 2 2) [y2, (i : Int)] (by show 2 ≤ _; omega) (fun x hx => by
    simp only [List.mem_cons, List.not_mem_nil, or_false] at hx
    rcases hx with rfl | rfl
    · exact w2
    · exact hi3) w' (blk_rd (hM.blk (b := b11) memA) rfl)) ?_)
  refine hwOC ?_
  refine HL.one (H1.callx (vs := [_]) rfl rfl (fun w' hM => refSum_fn (rnsB [y2, (i : Int)]) (by have := rnsB_size [y2, (i : Int)]; simp only [List.length_cons, List.length_nil] at this; omega) w') ?_)
  refine hwOC ?_
  refine HL.one (H1.lit (cs := [.string (sumS (rnsB [y2, (i : Int)]))]) rfl rfl rfl rfl rfl rfl (fun b12 => ?_))
  refine hwOC ?_
  refine HL.one (H1.app1 (u := .string (sumS (rnsB [y2, (i : Int)]))) rfl rfl (fun _ _ => by first | ((repeat (first | with_reducible exact Rpl.here | with_reducible apply Rpl.there)); done) | (repeat (first | exact Rpl.here | apply Rpl.there))) memA rfl rfl (by omega) rfl rfl (fun ad2 cd2 => ?_))
  rw [hdst]
  refine hwOC ?_
  refine HX.conv (H2 := A.all (rowsA (z ++ [(n, az, cz)])) :: [A.grow 31 4 an2 cn2 (i + 1) (ndsV (z ++ [(n, az, cz)])), A.grow 9 1 (some ⟨ad2, 0, none⟩) cd2 (i + 1) (strs (madeD rows (i + 1)))]) (fun w h => by
    rw [rowsA_snoc]
    exact Mm.allAdd (h.sub (Hs.cons (a := A.grow 3 1 az cz n.src.length (ints n.src)) pickA (Hs.cons (a := A.all (rowsA z)) pickA (by repeat (first | exact Hs.nil _ | (refine Hs.cons pickA ?_))))))) ?_
  exact HX.again (i + 1, z ++ [(n, az, cz)], (an2, cn2), some ⟨ad2, 0, none⟩, cd2) ⟨hlt, h20, hzn⟩ (by show 20 - (i + 1) < 20 - i; omega) (by dsimp only; rw [hlast2]; repeat (first | exact trivial | refine ⟨rfl, ?_⟩)) (by repeat (first | exact Hs.nil _ | (refine Hs.cons pickA ?_)))
end Go.Sx
/- Chapter 24: equal nodes, equal texts: the walks. -/
namespace Go.Sx
open Go Go.Proofs Go.RowKit
theorem hwOG {G G2 : Prop} (x : G2) (hwq : Hold G2 → G := by
    intro hQq
    repeat' (first | refine HL.pa ?_ (POp.nilCheck rfl) | apply HL.fold | apply HA.fold | apply HL.nil | apply HX.n_then | apply HC.seq | apply HC.region | refine HL.pa ?_ | refine HL.ga rfl ?_ | refine HL.na rfl ?_ | refine HL.nu rfl rfl ?_ | apply HC.block | apply HC.skip | apply HC.exit | apply HC.ret | apply HX.e_block | refine HX.e_other rfl ?_ | apply HX.e_then | apply HX.e_again | apply HX.n_block | apply HX.r_then | apply HX.r_block | apply HX.r_again | refine HC.cond_yes rfl ?_ | refine HC.cond_no rfl ?_ | refine HL.one (H1.ldb rfl memA rfl rfl ?_) | refine HC.cond rfl (fun hc => ?_) (fun hc => ?_) | refine HC.cond_b rfl (fun hc => ?_) (fun hc => ?_))
    exact hQq.get) : G := hwq ⟨x⟩
theorem take_getB {l : List ByteArray} {k : Nat} (h : k < l.length) : l.take (k + 1) = l.take k ++ [getB l k] := by
  rw [List.take_add_one, List.getElem?_eq_getElem h]
  simp [getB, h]
attribute [local irreducible] WC WL WX POp Then Again Fn NX W1 WA WO QL RP RA Yld LoopAt HC HL HX HN H1 HA HO HQ HB HP A.blk A.grow A.rd A.obj A.mp AgainH CutH
attribute [local irreducible] A.mq A.mit A.all sumS
theorem sameTexts_fn (v u : Value) (l m : List ByteArray) (hl : l.length ≤ 1000000) (w : World) (hR : Rd w v (strs l)) (hS : Rd w u (strs m)) :
    Fn Tryz.prog 19 #[v, u] w fun u w' => u = .bool (decide (l = m)) ∧ Ext w w' := by
  have shape : ∀ {g : Value} {D : List ByteArray}, Rd w g (strs D) → ∃ a c, g = .slice a D.length c := fun {g D} h => by
    obtain ⟨a, c, h1, h2, -⟩ := id h
    rw [strs_len] at h1
    exact ⟨a, c, h1⟩
  obtain ⟨a, c, rfl⟩ := shape hR
  obtain ⟨a2, c2, rfl⟩ := shape hS
  refine enterH (l := [_, _]) rfl Tryz.ntmps19 rfl ?_
  by_cases hlen : l.length = m.length
  rotate_left
  · have hlen' : ¬ (l.length : Int) = (m.length : Int) := by omega
    refine hwOG ?_
    exact HX.ret1 rfl rfl fun w' hM => ⟨by rw [decide_eq_false fun e => hlen (by rw [e])], hM.ext⟩
  have hlen' : (l.length : Int) = (m.length : Int) := by omega
  refine hwOG ?_
  refine HC.loop (α := Nat) (fun k => [(0, .slice a l.length c), (1, .slice a2 m.length c2), (5, zv (k : Int))]) (fun _ => []) (fun k => k ≤ l.length ∧ l.take k = m.take k) (fun k => l.length - k) 0 ⟨Nat.zero_le _, rfl⟩ esA (Hs.refl _) ?_
  rintro k ⟨hk, hI⟩
  by_cases hlt : k < l.length
  rotate_left
  · have hn : ¬ ((k : Nat) : Int) < (l.length : Int) := by omega
    have he : l = m := by
      rw [List.take_of_length_le (by omega), List.take_of_length_le (by omega)] at hI
      exact hI
    refine hwOG ?_
    exact HX.ret1 rfl rfl fun w' hM => ⟨by rw [decide_eq_true he], hM.ext⟩
  have hn : ((k : Nat) : Int) < (l.length : Int) := by omega
  have hlt2 : k < m.length := by omega
  obtain ⟨b, off, rfl⟩ := rd_addr hR hlt
  obtain ⟨b2, off2, rfl⟩ := rd_addr hS hlt2
  have h1 := hR.cell (strs_getB hlt)
  have h2 := hS.cell (strs_getB hlt2)
  have t1 := take_getB hlt
  have t2 := take_getB hlt2
  have hne : getB l k ≠ getB m k → l ≠ m := fun h e => h (by rw [e])
  generalize getB l k = x at h1 t1 hne
  generalize getB m k = y at h2 t2 hne
  refine hwOG ?_
  refine HC.quietS [(some 17, [0], []), (some 18, [5], []), (some 19, [17, 18], [0, 1]), (some 20, [19], [2]), (some 21, [1], []), (some 22, [5], []), (some 23, [21, 22], [4, 5]), (some 24, [23], [6]), (some 25, [20, 24], [3, 7])] (by kernel_rfl) (by kernel_rfl) (by kernel_rfl) ?_
  repeat' (first | refine HQ.pa ?_ | refine HQ.ga rfl ?_ | refine HQ.na rfl ?_ | refine HQ.nu rfl ?_ | refine HQ.ldb rfl memA rfl rfl ?_)
  refine HQ.ld rfl (fun w' hM => cell_ext hM.ext h1) rfl ?_
  repeat' (first | refine HQ.pa ?_ | refine HQ.ga rfl ?_ | refine HQ.na rfl ?_ | refine HQ.nu rfl ?_ | refine HQ.ldb rfl memA rfl rfl ?_)
  refine HQ.ld rfl (fun w' hM => cell_ext hM.ext h2) rfl ?_
  by_cases hxy : x = y
  · have hxy' : (decide ¬ x = y) = false := by simp [hxy]
    repeat' (first | refine HQ.pa ?_ | refine HQ.ga rfl ?_ | refine HQ.na rfl ?_ | refine HQ.nu rfl ?_ | refine HQ.ldb rfl memA rfl rfl ?_)
    refine HQ.nil ?_
    refine hwOG ?_
    exact HX.again (k + 1) ⟨hlt, by rw [t1, t2, hI, hxy]⟩ (by show l.length - (k + 1) < l.length - k; omega) esA (Hs.refl _)
  · have hxy' : (decide ¬ x = y) = true := by simp [hxy]
    repeat' (first | refine HQ.pa ?_ | refine HQ.ga rfl ?_ | refine HQ.na rfl ?_ | refine HQ.nu rfl ?_ | refine HQ.ldb rfl memA rfl rfl ?_)
    refine HQ.nil ?_
    refine hwOG ?_
    exact HX.ret1 rfl rfl fun w' hM => ⟨by rw [decide_eq_false (hne hxy)], hM.ext⟩
set_option maxHeartbeats 1000000 in
theorem sameNodes_fn {v u : Value} {l m : List Nd} {U V : Nat → Value} (hl : l.length ≤ 400000) (hls : ∀ i, i < l.length → (ndAt l i).src.length ≤ 1000000) (w : World) (hR : RdN w v l U) (hS : RdN w u m V) :
    Fn Tryz.prog 18 #[v, u] w fun u w' => u = .bool (eqNs l m) ∧ Ext w w' := by
  obtain ⟨a, c, rfl, hc, -⟩ := id hR.shape
  obtain ⟨a2, c2, rfl, hc2, -⟩ := id hS.shape
  refine enterH (l := [_, _]) rfl Tryz.ntmps18 rfl ?_
  by_cases hlen : l.length = m.length
  rotate_left
  · have hlen' : ¬ (l.length : Int) = (m.length : Int) := by omega
    have hno : eqNs l m = false := by rw [← Bool.not_eq_true, eqNs_iff]; intro e; exact hlen (by rw [e])
    refine hwOG ?_
    exact HX.ret1 rfl rfl fun w' hM => ⟨by rw [hno], hM.ext⟩
  have hlen' : (l.length : Int) = (m.length : Int) := by omega
  refine hwOG ?_
  refine HC.loop (α := Nat) (fun k => [(0, .slice a l.length c), (1, .slice a2 m.length c2), (5, zv (k : Int))]) (fun _ => []) (fun k => k ≤ l.length ∧ l.take k = m.take k) (fun k => l.length - k) 0 ⟨Nat.zero_le _, rfl⟩ esA (Hs.refl _) ?_
  rintro k ⟨hk, hI⟩
  by_cases hlt : k < l.length
  rotate_left
  · have hn : ¬ ((k : Nat) : Int) < (l.length : Int) := by omega
    have he : l = m := by
      rw [List.take_of_length_le (by omega), List.take_of_length_le (by omega)] at hI
      exact hI
    refine hwOG ?_
    exact HX.ret1 rfl rfl fun w' hM => ⟨by rw [eqNs_iff.2 he], hM.ext⟩
  have hn : ((k : Nat) : Int) < (l.length : Int) := by omega
  have hlt2 : k < m.length := by omega
  obtain ⟨b, off, rfl, hb⟩ := hR.cell hlt
  obtain ⟨b2, off2, rfl, hb2⟩ := hS.cell hlt2
  have hx := hb k hlt
  have hy := hb2 k hlt2
  have hsx := hR.src k hlt
  have hsy := hS.src k hlt2
  have hlx := hls k hlt
  have hst := eqNs_take hlt hlt2 hI
  clear hb hb2
  generalize ndAt l k = n1 at hx hsx hlx hst
  generalize ndAt m k = n2 at hy hsy hst
  generalize U k = u1 at hx hsx
  generalize V k = u2 at hy hsy
  have x0 := hx 0 (zv n1.id) rfl
  have x1 := hx 1 (zv n1.kind) rfl
  have x2 := hx 2 (zv n1.pack) rfl
  have x3 := hx 3 u1 rfl
  have y0 := hy 0 (zv n2.id) rfl
  have y1 := hy 1 (zv n2.kind) rfl
  have y2 := hy 2 (zv n2.pack) rfl
  have y3 := hy 3 u2 rfl
  refine hwOG ?_
  refine HC.quietS [(some 18, [0], []), (some 19, [5], []), (some 20, [18, 19], [0, 1]), (some 21, [20], [2]), (some 22, [21], [3]), (some 23, [1], []), (some 24, [5], []), (some 25, [23, 24], [5, 6]), (some 26, [25], [7]), (some 27, [26], [8]), (some 28, [22, 27], [4, 9]), (some 6, [28], [10, 10, 0, 1, 2, 3, 4, 5, 6, 7, 8, 9, 10])] (by kernel_rfl) (by kernel_rfl) (by kernel_rfl) ?_
  repeat' (first | refine HQ.pa ?_ | refine HQ.ga rfl ?_ | refine HQ.na rfl ?_ | refine HQ.nu rfl ?_ | refine HQ.ldb rfl memA rfl rfl ?_)
  refine HQ.ld rfl (fun w' hM => cell_ext hM.ext x3) rfl ?_
  repeat' (first | refine HQ.pa ?_ | refine HQ.ga rfl ?_ | refine HQ.na rfl ?_ | refine HQ.nu rfl ?_ | refine HQ.ldb rfl memA rfl rfl ?_)
  refine HQ.ld rfl (fun w' hM => cell_ext hM.ext y3) rfl ?_
  repeat' (first | refine HQ.pa ?_ | refine HQ.ga rfl ?_ | refine HQ.na rfl ?_ | refine HQ.nu rfl ?_ | refine HQ.ldb rfl memA rfl rfl ?_)
  refine HQ.call (vs := [_, _]) rfl rfl (fun w' hM => SameInts_fn _ _ n1.src n2.src w' (hsx.ext hM.ext) (hsy.ext hM.ext) hlx) ?_
  repeat' (first | refine HQ.pa ?_ | refine HQ.ga rfl ?_ | refine HQ.na rfl ?_ | refine HQ.nu rfl ?_ | refine HQ.ldb rfl memA rfl rfl ?_)
  refine HQ.nil ?_
  refine hwOG ?_
  refine HC.quietS [(some 29, [0], []), (some 30, [5], []), (some 31, [29, 30], [0, 1]), (some 32, [31], [2]), (some 33, [32], [3]), (some 34, [1], []), (some 35, [5], []), (some 36, [34, 35], [5, 6]), (some 37, [36], [7]), (some 38, [37], [8]), (some 39, [33, 38], [4, 9]), (some 40, [39], [10]), (some 41, [0, 40], [11]), (some 42, [5, 40], [11]), (some 43, [41, 42, 40], [12, 13, 11]), (some 44, [43, 40], [14, 11]), (some 45, [44, 40], [15, 11]), (some 46, [1, 40], [11]), (some 47, [5, 40], [11]), (some 48, [46, 47, 40], [17, 18, 11]), (some 49, [48, 40], [19, 11]), (some 50, [49, 40], [20, 11]), (some 51, [45, 50, 40], [16, 21, 11]), (some 52, [40, 51], [11, 22]), (some 53, [52], [23, 11]), (some 54, [0, 53], [24]), (some 55, [5, 53], [24]), (some 56, [54, 55, 53], [25, 26, 24]), (some 57, [56, 53], [27, 24]), (some 58, [57, 53], [28, 24]), (some 59, [1, 53], [24]), (some 60, [5, 53], [24]), (some 61, [59, 60, 53], [30, 31, 24]), (some 62, [61, 53], [32, 24]), (some 63, [62, 53], [33, 24]), (some 64, [58, 63, 53], [29, 34, 24]), (some 65, [53, 64], [24, 35]), (some 66, [65], [36, 24]), (some 67, [6, 66], [37]), (some 68, [67, 66], [38, 37]), (some 69, [66, 68], [37, 39])] (by kernel_rfl) (by kernel_rfl) (by kernel_rfl) ?_
  repeat' (first | refine HQ.pa ?_ | refine HQ.ga rfl ?_ | refine HQ.na rfl ?_ | refine HQ.nu rfl ?_ | refine HQ.ldb rfl memA rfl rfl ?_)
  refine HQ.ld rfl (fun w' hM => cell_ext hM.ext x0) rfl ?_
  repeat' (first | refine HQ.pa ?_ | refine HQ.ga rfl ?_ | refine HQ.na rfl ?_ | refine HQ.nu rfl ?_ | refine HQ.ldb rfl memA rfl rfl ?_)
  refine HQ.ld rfl (fun w' hM => cell_ext hM.ext y0) rfl ?_
  by_cases e0 : n1.id = n2.id
  rotate_left
  · have e' : (decide ¬ n1.id = n2.id) = true := by simp [e0]
    repeat' (first | refine HQ.pa ?_ | refine HQ.ga rfl ?_ | refine HQ.na rfl ?_ | refine HQ.nu rfl ?_ | refine HQ.ldb rfl memA rfl rfl ?_)
    refine HQ.nil ?_
    refine hwOG ?_
    exact HX.ret1 rfl rfl fun w' hM => ⟨by rw [hst.2 (by unfold eqNd; simp [e0])], hM.ext⟩
  have f0 : (decide ¬ n1.id = n2.id) = false := by simp [e0]
  repeat' (first | refine HQ.pa ?_ | refine HQ.ga rfl ?_ | refine HQ.na rfl ?_ | refine HQ.nu rfl ?_ | refine HQ.ldb rfl memA rfl rfl ?_)
  refine HQ.ld rfl (fun w' hM => cell_ext hM.ext x1) rfl ?_
  repeat' (first | refine HQ.pa ?_ | refine HQ.ga rfl ?_ | refine HQ.na rfl ?_ | refine HQ.nu rfl ?_ | refine HQ.ldb rfl memA rfl rfl ?_)
  refine HQ.ld rfl (fun w' hM => cell_ext hM.ext y1) rfl ?_
  by_cases e1 : n1.kind = n2.kind
  rotate_left
  · have e' : (decide ¬ n1.kind = n2.kind) = true := by simp [e1]
    repeat' (first | refine HQ.pa ?_ | refine HQ.ga rfl ?_ | refine HQ.na rfl ?_ | refine HQ.nu rfl ?_ | refine HQ.ldb rfl memA rfl rfl ?_)
    refine HQ.nil ?_
    refine hwOG ?_
    exact HX.ret1 rfl rfl fun w' hM => ⟨by rw [hst.2 (by unfold eqNd; simp [e1])], hM.ext⟩
  have f1 : (decide ¬ n1.kind = n2.kind) = false := by simp [e1]
  repeat' (first | refine HQ.pa ?_ | refine HQ.ga rfl ?_ | refine HQ.na rfl ?_ | refine HQ.nu rfl ?_ | refine HQ.ldb rfl memA rfl rfl ?_)
  refine HQ.ld rfl (fun w' hM => cell_ext hM.ext x2) rfl ?_
  repeat' (first | refine HQ.pa ?_ | refine HQ.ga rfl ?_ | refine HQ.na rfl ?_ | refine HQ.nu rfl ?_ | refine HQ.ldb rfl memA rfl rfl ?_)
  refine HQ.ld rfl (fun w' hM => cell_ext hM.ext y2) rfl ?_
  by_cases e2 : n1.pack = n2.pack
  rotate_left
  · have e' : (decide ¬ n1.pack = n2.pack) = true := by simp [e2]
    repeat' (first | refine HQ.pa ?_ | refine HQ.ga rfl ?_ | refine HQ.na rfl ?_ | refine HQ.nu rfl ?_ | refine HQ.ldb rfl memA rfl rfl ?_)
    refine HQ.nil ?_
    refine hwOG ?_
    exact HX.ret1 rfl rfl fun w' hM => ⟨by rw [hst.2 (by unfold eqNd; simp [e2])], hM.ext⟩
  have f2 : (decide ¬ n1.pack = n2.pack) = false := by simp [e2]
  by_cases e3 : n1.src = n2.src
  · rw [decide_eq_true e3]
    repeat' (first | refine HQ.pa ?_ | refine HQ.ga rfl ?_ | refine HQ.na rfl ?_ | refine HQ.nu rfl ?_ | refine HQ.ldb rfl memA rfl rfl ?_)
    refine HQ.nil ?_
    refine hwOG ?_
    exact HX.again (k + 1) ⟨hlt, hst.1 (by unfold eqNd; simp [e0, e1, e2, e3])⟩ (by show l.length - (k + 1) < l.length - k; omega) esA (Hs.refl _)
  · rw [decide_eq_false e3]
    repeat' (first | refine HQ.pa ?_ | refine HQ.ga rfl ?_ | refine HQ.na rfl ?_ | refine HQ.nu rfl ?_ | refine HQ.ldb rfl memA rfl rfl ?_)
    refine HQ.nil ?_
    refine hwOG ?_
    exact HX.ret1 rfl rfl fun w' hM => ⟨by rw [hst.2 (by unfold eqNd; simp [e3])], hM.ext⟩
end Go.Sx
/- Plain, chapter 24: what is left after two orders does not depend on which comes first. -/
namespace Go.Sx
open Go Go.RowKit
theorem mem_goneL {l : List Nd} (hv : ValidP l) {pk : Int} {n : Nd} (hn : n ∈ l) : n.id ∈ goneL l pk ↔ n.pack = pk ∨ ∃ x ∈ n.src, x ∈ goneL l pk := by
  obtain ⟨i, hi, rfl⟩ := mem_nd.1 hn
  have := mem_derL hv (fun i => decide ((ndAt l i).pack = pk)) hi
  rwa [decide_eq_true_eq] at this
def leftN1 (l : List Nd) (g : List Int) : List Nd := l.filter fun n => decide (n.id ∈ g) == false
theorem mem_left1 {l : List Nd} {g : List Int} {n : Nd} : n ∈ leftN1 l g ↔ n ∈ l ∧ n.id ∉ g := by unfold leftN1; rw [List.mem_filter]; simp
theorem gone_two {l : List Nd} (hv : ValidP l) (a b : Int) {n : Nd} (hn : n ∈ l) (h1 : n.id ∉ goneL l a) : n.id ∈ goneL (leftN1 l (goneL l a)) b ↔ n.id ∈ goneL l b := by
  have hcl := derL_isClosed hv fun i => decide ((ndAt l i).pack = a)
  have hv1 : ValidP (leftN1 l (goneL l a)) := left_valid hv hcl
  have key : ∀ k i, i ≤ k → i < l.length → (ndAt l i).id ∉ goneL l a → ((ndAt l i).id ∈ goneL (leftN1 l (goneL l a)) b ↔ (ndAt l i).id ∈ goneL l b) := by
    intro k
    induction k with
    | zero =>
      intro i hi hil hni
      obtain rfl : i = 0 := by omega
      have hm : ndAt l 0 ∈ l := mem_nd.2 ⟨0, hil, rfl⟩
      rw [mem_goneL hv hm, mem_goneL hv1 (mem_left1.2 ⟨hm, hni⟩)]
      have hs : ∀ x, x ∉ (ndAt l 0).src := fun x hx => by obtain ⟨j, hj, -⟩ := hv.src hil hx; omega
      simp [hs]
    | succ k ih =>
      intro i hi hil hni
      have hm : ndAt l i ∈ l := mem_nd.2 ⟨i, hil, rfl⟩
      rw [mem_goneL hv hm, mem_goneL hv1 (mem_left1.2 ⟨hm, hni⟩)]
      have hs : ∀ x ∈ (ndAt l i).src, (x ∈ goneL (leftN1 l (goneL l a)) b ↔ x ∈ goneL l b) := fun x hx => by
        obtain ⟨j, hj, rfl⟩ := hv.src hil hx
        exact ih j (by omega) (by omega) fun h => hni (hcl i hil ⟨_, hx, h⟩)
      constructor
      · rintro (h | ⟨x, hx, h⟩)
        · exact .inl h
        · exact .inr ⟨x, hx, (hs x hx).1 h⟩
      · rintro (h | ⟨x, hx, h⟩)
        · exact .inl h
        · exact .inr ⟨x, hx, (hs x hx).2 h⟩
  obtain ⟨i, hi, rfl⟩ := mem_nd.1 hn
  exact key i i (Nat.le_refl _) hi h1
theorem filter_two {p q : List (Nd × ByteArray)} {g : List Int} (h : p = q.filter fun x => decide (x.1.id ∈ g) == false) (g2 : List Int) : prN (ndsP p) (digP p) g2 false = q.filter fun x => (decide (x.1.id ∈ g) == false) && (decide (x.1.id ∈ g2) == false) := by
  unfold prN
  rw [zip_back, h, List.filter_filter]
  refine List.filter_congr fun x _ => ?_
  rw [Bool.and_comm]
/-- What is left after both. -/
theorem left_two {l : List Nd} {D : List ByteArray} (h : okS l D = true) (a b : Int) :
    prN (ndsP (prN l D (goneL l a) false)) (digP (prN l D (goneL l a) false)) (goneL (ndsP (prN l D (goneL l a) false)) b) false = (l.zip D).filter fun x => (decide (x.1.id ∈ goneL l a) == false) && (decide (x.1.id ∈ goneL l b) == false) := by
  have hv := okS_valid h
  have hl := (okS_facts h).2.1
  rw [filter_two (p := prN l D (goneL l a) false) (q := l.zip D) (g := goneL l a) rfl]
  refine List.filter_congr fun x hx => ?_
  have hm : x.1 ∈ l := (List.of_mem_zip (show (x.1, x.2) ∈ l.zip D from hx)).1
  rw [prN_nds hl]
  by_cases hA : x.1.id ∈ goneL l a
  · simp [hA]
  · have := gone_two hv a b hm hA
    unfold leftN1 at this
    rw [decide_eq_decide.2 this]
theorem left_swap {l : List Nd} {D : List ByteArray} (h : okS l D = true) (a b : Int) :
    prN (ndsP (prN l D (goneL l a) false)) (digP (prN l D (goneL l a) false)) (goneL (ndsP (prN l D (goneL l a) false)) b) false = prN (ndsP (prN l D (goneL l b) false)) (digP (prN l D (goneL l b) false)) (goneL (ndsP (prN l D (goneL l b) false)) a) false := by
  rw [left_two h, left_two h]
  refine List.filter_congr fun x _ => ?_
  rw [Bool.and_comm]
end Go.Sx
/- Chapter 24: the law LineageOrders: the walk. -/
namespace Go.Sx
open Go Go.Proofs Go.RowKit
theorem hwOH {G G2 : Prop} (x : G2) (hwq : Hold G2 → G := by
    intro hQq
    repeat' (first | refine HL.pa ?_ (POp.nilCheck rfl) | apply HL.fold | apply HA.fold | apply HL.nil | apply HX.n_then | apply HC.seq | apply HC.region | refine HL.pa ?_ | refine HL.ga rfl ?_ | refine HL.na rfl ?_ | refine HL.nu rfl rfl ?_ | apply HC.block | apply HC.skip | apply HC.exit | apply HC.ret | apply HX.e_block | refine HX.e_other rfl ?_ | apply HX.e_then | apply HX.e_again | apply HX.n_block | apply HX.r_then | apply HX.r_block | apply HX.r_again | refine HC.cond_yes rfl ?_ | refine HC.cond_no rfl ?_ | refine HL.one (H1.ldb rfl memA rfl rfl ?_) | refine HC.cond rfl (fun hc => ?_) (fun hc => ?_) | refine HC.cond_b rfl (fun hc => ?_) (fun hc => ?_))
    exact hQq.get) : G := hwq ⟨x⟩
/-- What Delete returns, whatever it is. -/
structure AnyD where
  x1 : Option Addr × Nat × Nat
  x2 : Option Addr × Nat × Nat
  o : Int
  d : Int
  b : ByteArray
  a : ByteArray
  x3 : Option Addr × Nat × Nat
  x4 : Option Addr × Nat × Nat
  e : Int
def slV (x : Option Addr × Nat × Nat) : Value := .slice x.1 x.2.1 x.2.2
def anyT (z : AnyD) : List Value := [zv z.o, zv z.d, .string z.b, .string z.a, slV z.x3, slV z.x4]
def anyDV (z : AnyD) : Value := .tuple #[slV z.x1, slV z.x2, .agg (anyT z).toArray, zv z.e]
theorem delete_any {vb v g : Value} {B : Nat → List Rc} {l : List Nd} {D : List ByteArray} {U : Nat → Value} {o d : Int} (hl : l.length ≤ 400000) (hls : ∀ i, i < l.length → (ndAt l i).src.length ≤ 1000000) (hD : D.length ≤ 1000000) (hDs : ∀ d ∈ D, d.size ≤ 1000) (hB7 : (B 7).length ≤ 1000000) (hB4 : (B 4).length ≤ 1000000) (hB5 : (B 5).length ≤ 1000000) (w : World) (hG : RoundG w) (hB : BaseV w vb B) (hR : RdN w v l U) (hS : Rd w g (strs D)) :
    Fn Tryz.prog 22 #[vb, v, g, zv o, zv d] w fun u w' => ∃ z : AnyD, ((delQ B l D o d = none ∧ z.e = 240) ∨ (delQ B l D o d ≠ none ∧ z.e = 0)) ∧ u = anyDV z ∧ Ext w w' := (delete_fn o d hl hls hD hDs hB7 hB4 hB5 w hG hB hR hS).mono fun u w' h => by
  rcases h with ⟨h1, rfl, h2⟩ | ⟨pk, h1, z, -, rfl, h2⟩
  · exact ⟨⟨(none, 0, 0), (none, 0, 0), 0, 0, ⟨#[]⟩, ⟨#[]⟩, (none, 0, 0), (none, 0, 0), 240⟩, .inl ⟨h1, rfl⟩, rfl, h2⟩
  · exact ⟨⟨(z.a1, z.left.length, z.c1), (z.a2, z.left.length, z.c2), o, d, _, _, (z.ai, _, z.ci), (z.ad, _, z.cd), 0⟩, .inr ⟨(by rw [h1]; intro h; cases h), rfl⟩, rfl, h2.ext⟩
theorem anyT_one (z : AnyD) : ∀ v ∈ anyT z, v.oneCell' = true := by
  intro v hv
  simp only [anyT, slV, List.mem_cons, List.not_mem_nil, or_false] at hv
  rcases hv with rfl | rfl | rfl | rfl | rfl | rfl <;> rfl
theorem tombV_one (o d : Int) (l : List Nd) (D : List ByteArray) (pk : Int) (z : DelZ) : ∀ v ∈ tombV o d l D pk z, v.oneCell' = true := by
  intro v hv
  simp only [tombV, List.mem_cons, List.not_mem_nil, or_false] at hv
  rcases hv with rfl | rfl | rfl | rfl | rfl | rfl <;> rfl
/-- A base with orders alone. -/
def ordB (L : List Rc) (i : Nat) : List Rc := if i = 7 then L else []
theorem ordB_no (L : List Rc) : ∀ i, i ≠ 4 → i ≠ 7 → ordB L i = [] := fun _ _ h => if_neg h
theorem heldN_none {B : Nat → List Rc} (h : B 4 = []) (d : Int) (n : Nd) : heldN B d n = false := by
  unfold heldN
  rw [h, heldL_nil]; rfl
theorem delQ_ord {L : List Rc} {l : List Nd} {D : List ByteArray} {o d : Int} {r : Rc} (h0 : okS l D = true) (h1 : ordF L o = some r) (h2 : r.start ≤ d) (h3 : 0 ≤ d) (h4 : d ≤ 100000) : delQ (ordB L) l D o d = if goneL l r.pack ≠ [] then some r.pack else none := by
  rw [delQ_in h0 (show ordF (ordB L 7) o = some r from h1) h2 h3 h4]
  have hn : ¬ (ndsP (prN l D (goneL l r.pack) true)).any (heldN (ordB L) d) = true := by
    intro hh
    obtain ⟨n, -, hh⟩ := List.any_eq_true.1 hh
    rw [heldN_none rfl] at hh; cases hh
  by_cases h : goneL l r.pack ≠ []
  · rw [if_pos h, if_pos ⟨h, hn⟩]
  · rw [if_neg h, if_neg fun hh => h hh.1]
theorem delQ_ord_pk {L : List Rc} {l : List Nd} {D : List ByteArray} {o d : Int} {r : Rc} (h0 : okS l D = true) (h1 : ordF L o = some r) (h2 : r.start ≤ d) (h3 : 0 ≤ d) (h4 : d ≤ 100000) (h : delQ (ordB L) l D o d ≠ none) : delQ (ordB L) l D o d = some r.pack := by
  rw [delQ_ord h0 h1 h2 h3 h4] at h ⊢
  by_cases hh : goneL l r.pack ≠ []
  · rw [if_pos hh]
  · rw [if_neg hh] at h; exact absurd rfl h
def ordR (id pk : Int) : Rc := ⟨8, id, 1, 0, false, 0, 0, pk, 0, 0, 0, 1, false, 0, ⟨#[]⟩⟩
theorem lit2R (r0 r1 : Rc) : litC (fun i => some (i * 15, 15)) (zeroRow (2 * 15) (rcells rcZ)) [(0, recV r0), (1, recV r1)] = some (rcl [r0, r1]) := by kernel_rfl
theorem ok_sizes {l : List Nd} {D : List ByteArray} (h : okS l D = true) : l.length ≤ 400000 ∧ (∀ i, i < l.length → (ndAt l i).src.length ≤ 1000000) ∧ D.length ≤ 1000000 ∧ ∀ d ∈ D, d.size ≤ 1000 := by
  have hv := okS_valid h
  have hf := okS_facts h
  have := hv.len
  exact ⟨by omega, fun i hi => by have := (hasN_iff.1 (hv.node i hi)).len; omega, by omega, fun d hd => by rw [hf.2.2 d hd]; decide⟩
theorem made_ok (rows : List (List Int)) : okS (madeL rows (madeN rows)) (madeD rows (madeN rows)) = true :=
  okS_of (madeL_ok rows (madeN rows) (by unfold madeN; omega)).valid (by rw [madeL_len, madeD_len]) (madeD_size rows _)
attribute [local irreducible] WC WL WX POp Then Again Fn NX W1 WA WO QL RP RA Yld LoopAt HC HL HX HN H1 HA HO HQ HB HP A.blk A.grow A.rd A.obj A.mp AgainH CutH
attribute [local irreducible] A.mq A.mit A.all sumS rootP
set_option maxHeartbeats 8000000 in
theorem lineageOrders_fn (v : Value) (rows : List (List Int)) (one two : Int) (h1 : i64W one) (h2 : i64W two) (hrow : ∀ y ∈ rows, y.length = 4 ∧ ∀ z ∈ y, i64W z) (w : World) (hG : RoundG w) (hX : RdA 4 w v rows) :
    Fn Tryz.prog 5 #[v, zv one, zv two] w fun u w' => u = .bool true ∧ Ext w w' := by
  refine enterH (l := [_, _, _]) rfl Tryz.ntmps5 rfl ?_
  refine hwOH ?_
  refine HL.one (H1.callx (vs := []) rfl rfl (fun w' hM => sane24_fn w' (hG.ext hM.ext)) ?_)
  refine hwOH ?_
  refine HL.one (H1.callr (vs := [v]) rfl rfl (fun w' hM => made24_fn v rows hrow w' (hX.ext hM.ext)) ?_)
  rintro wa u w1 hMa ⟨⟨vl, vg, U, rfl, hN, hD⟩, hxa⟩
  have hx1 : Ext w w1 := hMa.ext.trans hxa
  have hG1 := hG.ext hx1
  have hok := made_ok rows
  generalize madeL rows (madeN rows) = l at hN hok
  generalize madeD rows (madeN rows) = D at hD hok
  obtain ⟨hl, hls, hDl, hDs⟩ := ok_sizes hok
  have q1 := pickI21_lt one (n := 4) (by decide)
  have q2 := pickI21_lt two (n := 4) (by decide)
  refine hwOH ?_
  refine HL.one (H1.call0 (vs := [zv one, zv 4]) rfl rfl (fun w' _ => lpick24_fn one 4 h1.1 h1.2 (by decide) w') ?_)
  refine hwOH ?_
  refine HL.build (cs := rcells (ordR 1 (1 + pickI21 one 4))) rfl rfl rfl ?_
  refine hwOH ?_
  refine HL.one (H1.call0 (vs := [zv two, zv 4]) rfl rfl (fun w' _ => lpick24_fn two 4 h2.1 h2.2 (by decide) w') ?_)
  refine hwOH ?_
  refine HL.build (cs := rcells (ordR 2 (1 + pickI21 two 4))) rfl rfl rfl ?_
  obtain ⟨p1, hp1⟩ : ∃ p, p = 1 + pickI21 one 4 := ⟨_, rfl⟩
  obtain ⟨p2, hp2⟩ : ∃ p, p = 1 + pickI21 two 4 := ⟨_, rfl⟩
  rw [← hp1, ← hp2]
  have f1 : ordF [ordR 1 p1, ordR 2 p2] 1 = some (ordR 1 p1) := rfl
  have f2 : ordF [ordR 1 p1, ordR 2 p2] 2 = some (ordR 2 p2) := rfl
  obtain ⟨r1, hr1⟩ : ∃ r, r = ordR 1 p1 := ⟨_, rfl⟩
  obtain ⟨r2, hr2⟩ : ∃ r, r = ordR 2 p2 := ⟨_, rfl⟩
  rw [← hr1, ← hr2]
  rw [← hr1, ← hr2] at f1 f2
  have s1 : r1.start ≤ 0 := by rw [hr1]; exact Int.le_refl 0
  have s2 : r2.start ≤ 0 := by rw [hr2]; exact Int.le_refl 0
  clear hr1 hr2
  refine hwOH ?_
  refine HL.one (H1.lit (zs := rcells rcZ) (pv := [(0, recV r1), (1, recV r2)]) (cs := rcl [r1, r2]) rfl rfl (lit2R r1 r2) rfl rfl rfl (fun bo => ?_))
  refine hwOH ?_
  refine HL.build (cs := baseC (.slice none 0 0) (.slice (some ⟨bo, 0, none⟩) 2 2)) rfl rfl rfl ?_
  refine hwOH ?_
  refine HL.one (H1.alloc (cs := baseC (.slice none 0 0) (.slice none 0 0)) rfl rfl (fun b10 => ?_))
  refine hwOH ?_
  refine HL.one (H1.stAgg (b := b10) (cs := baseC (.slice none 0 0) (.slice none 0 0)) (vs := baseC (.slice none 0 0) (.slice (some ⟨bo, 0, none⟩) 2 2)) rfl rfl rfl (by intro v hv; simp only [baseC, List.mem_cons, List.not_mem_nil, or_false] at hv; rcases hv with rfl | rfl | rfl | rfl | rfl | rfl | rfl | rfl <;> rfl) rplA rfl ?_)
  refine hwOH ?_
  by_cases hboth : delQ (ordB [r1, r2]) l D 1 0 ≠ none ∧ delQ (ordB [r1, r2]) l D 2 0 ≠ none
  rotate_left
  · refine HL.one (H1.ldAgg (b := b10) (vs := baseC (.slice none 0 0) (.slice (some ⟨bo, 0, none⟩) 2 2)) rfl memA rfl (fun i v h => by rwa [Nat.zero_add]) rfl ?_)
    refine hwOH ?_
    refine HL.one (H1.callp (V := anyDV) (I := fun z => (delQ (ordB [r1, r2]) l D 1 0 = none ∧ z.e = 240) ∨ (delQ (ordB [r1, r2]) l D 1 0 ≠ none ∧ z.e = 0)) (vs := [_, _, _, zv 1, zv 0]) rfl rfl (fun w' hM => delete_any hl hls hDl hDs (by show 2 ≤ _; omega) (by show 0 ≤ _; omega) (by show 0 ≤ _; omega) w' (hG1.ext hM.ext) (baseV_of (ordB_no [r1, r2]) (rdR_nil w') (RdR.of_blk (l := [r1, r2]) (hM.blk (b := bo) memA))) (hN.ext hM.ext) (hD.ext hM.ext)) ?_)
    rintro y1 hy1
    unfold anyDV
    refine hwOH ?_
    refine HL.one (H1.alloc (cs := tomb0) rfl rfl (fun b13 => ?_))
    refine hwOH ?_
    refine HL.one (H1.stAgg (b := b13) (cs := tomb0) (vs := anyT y1) rfl rfl rfl (anyT_one y1) rplA rfl ?_)
    refine hwOH ?_
    refine HL.one (H1.ldAgg (b := b10) (vs := baseC (.slice none 0 0) (.slice (some ⟨bo, 0, none⟩) 2 2)) rfl memA rfl (fun i v h => by rwa [Nat.zero_add]) rfl ?_)
    refine hwOH ?_
    refine HL.one (H1.callp (V := anyDV) (I := fun z => (delQ (ordB [r1, r2]) l D 2 0 = none ∧ z.e = 240) ∨ (delQ (ordB [r1, r2]) l D 2 0 ≠ none ∧ z.e = 0)) (vs := [_, _, _, zv 2, zv 0]) rfl rfl (fun w' hM => delete_any hl hls hDl hDs (by show 2 ≤ _; omega) (by show 0 ≤ _; omega) (by show 0 ≤ _; omega) w' (hG1.ext hM.ext) (baseV_of (ordB_no [r1, r2]) (rdR_nil w') (RdR.of_blk (l := [r1, r2]) (hM.blk (b := bo) memA))) (hN.ext hM.ext) (hD.ext hM.ext)) ?_)
    rintro y2 hy2
    unfold anyDV
    refine hwOH ?_
    refine HL.one (H1.alloc (cs := tomb0) rfl rfl (fun b17 => ?_))
    refine hwOH ?_
    refine HL.one (H1.stAgg (b := b17) (cs := tomb0) (vs := anyT y2) rfl rfl rfl (anyT_one y2) rplA rfl ?_)
    refine hwOH ?_
    rcases hy1 with ⟨g1, e1⟩ | ⟨g1, e1⟩
    · have e1' : (decide ¬ y1.e = 0) = true := by rw [e1]; decide
      refine hwOH ?_
      exact HX.ret1 rfl rfl fun w' hM => ⟨rfl, hx1.trans hM.ext⟩
    · have e1' : (decide ¬ y1.e = 0) = false := by rw [e1]; decide
      have e2' : (decide ¬ y2.e = 0) = true := by
        rcases hy2 with ⟨g2, e2⟩ | ⟨g2, -⟩
        · rw [e2]; decide
        · exact absurd ⟨g1, g2⟩ hboth
      refine hwOH ?_
      exact HX.ret1 rfl rfl fun w' hM => ⟨rfl, hx1.trans hM.ext⟩
  have d1 := delQ_ord_pk hok f1 s1 (by decide) (by decide) hboth.1
  have d2 := delQ_ord_pk hok f2 s2 (by decide) (by decide) hboth.2
  clear hboth
  refine HL.one (H1.ldAgg (b := b10) (vs := baseC (.slice none 0 0) (.slice (some ⟨bo, 0, none⟩) 2 2)) rfl memA rfl (fun i v h => by rwa [Nat.zero_add]) rfl ?_)
  refine hwOH ?_
  refine HL.one (H1.callz (vs := [_, _, _, zv 1, zv 0]) rfl rfl (fun w' hM => delete_yes (l := l) (D := D) d1 hl hls hDl hDs (by show 2 ≤ _; omega) (by show 0 ≤ _; omega) (by show 0 ≤ _; omega) w' (hG1.ext hM.ext) (baseV_of (ordB_no [r1, r2]) (rdR_nil w') (RdR.of_blk (l := [r1, r2]) (hM.blk (b := bo) memA))) (hN.ext hM.ext) (hD.ext hM.ext)) ?_)
  rintro z1 hz1
  unfold delH delYes
  refine hwOH ?_
  refine HL.one (H1.alloc (cs := tomb0) rfl rfl (fun b13 => ?_))
  refine hwOH ?_
  refine HL.one (H1.stAgg (b := b13) (cs := tomb0) (vs := tombV 1 0 l D r1.pack z1) rfl rfl rfl (tombV_one _ _ _ _ _ _) rplA rfl ?_)
  refine hwOH ?_
  refine HL.one (H1.ldAgg (b := b10) (vs := baseC (.slice none 0 0) (.slice (some ⟨bo, 0, none⟩) 2 2)) rfl memA rfl (fun i v h => by rwa [Nat.zero_add]) rfl ?_)
  refine hwOH ?_
  refine HL.one (H1.callz (vs := [_, _, _, zv 2, zv 0]) rfl rfl (fun w' hM => delete_yes (l := l) (D := D) d2 hl hls hDl hDs (by show 2 ≤ _; omega) (by show 0 ≤ _; omega) (by show 0 ≤ _; omega) w' (hG1.ext hM.ext) (baseV_of (ordB_no [r1, r2]) (rdR_nil w') (RdR.of_blk (l := [r1, r2]) (hM.blk (b := bo) memA))) (hN.ext hM.ext) (hD.ext hM.ext)) ?_)
  rintro z2 hz2
  unfold delH delYes
  refine hwOH ?_
  refine HL.one (H1.alloc (cs := tomb0) rfl rfl (fun b17 => ?_))
  refine hwOH ?_
  refine HL.one (H1.stAgg (b := b17) (cs := tomb0) (vs := tombV 2 0 l D r2.pack z2) rfl rfl rfl (tombV_one _ _ _ _ _ _) rplA rfl ?_)
  refine hwOH ?_
  have hswap := left_swap hok r1.pack r2.pack
  have hok1 : okS (ndsP (prN l D (goneL l r1.pack) false)) (digP (prN l D (goneL l r1.pack) false)) = true := left_ok hok _
  have hok2 : okS (ndsP (prN l D (goneL l r2.pack) false)) (digP (prN l D (goneL l r2.pack) false)) = true := left_ok hok _
  generalize hL1 : ndsP (prN l D (goneL l r1.pack) false) = l1 at hswap hok1 hz1
  generalize hL2 : ndsP (prN l D (goneL l r2.pack) false) = l2 at hswap hok2 hz2
  generalize hK1 : digP (prN l D (goneL l r1.pack) false) = D1 at hswap hok1 ⊢
  generalize hK2 : digP (prN l D (goneL l r2.pack) false) = D2 at hswap hok2 ⊢
  obtain ⟨s11, s12, s13, s14⟩ := ok_sizes hok1
  obtain ⟨s21, s22, s23, s24⟩ := ok_sizes hok2
  by_cases hboth : delQ (ordB [r1, r2]) l1 D1 2 0 ≠ none ∧ delQ (ordB [r1, r2]) l2 D2 1 0 ≠ none
  rotate_left
  · refine HL.one (H1.ldAgg (b := b10) (vs := baseC (.slice none 0 0) (.slice (some ⟨bo, 0, none⟩) 2 2)) rfl memA rfl (fun i v h => by rwa [Nat.zero_add]) rfl ?_)
    refine hwOH ?_
    refine HL.one (H1.callp (V := anyDV) (I := fun z => (delQ (ordB [r1, r2]) l1 D1 2 0 = none ∧ z.e = 240) ∨ (delQ (ordB [r1, r2]) l1 D1 2 0 ≠ none ∧ z.e = 0)) (vs := [_, _, _, zv 2, zv 0]) rfl rfl (fun w' hM => delete_any s11 s12 s13 s14 (by show 2 ≤ _; omega) (by show 0 ≤ _; omega) (by show 0 ≤ _; omega) w' (hG1.ext hM.ext) (baseV_of (ordB_no [r1, r2]) (rdR_nil w') (RdR.of_blk (l := [r1, r2]) (hM.blk (b := bo) memA))) (by have h := hM.rdN (a := z1.a1) (c := z1.c1) (z := z1.left) memA memA; rw [hz1] at h; exact h) (hM.gr (a := z1.a2) (c := z1.c2) memA)) ?_)
    rintro y1 hy1
    unfold anyDV
    refine hwOH ?_
    refine HL.one (H1.alloc (cs := tomb0) rfl rfl (fun b21 => ?_))
    refine hwOH ?_
    refine HL.one (H1.stAgg (b := b21) (cs := tomb0) (vs := anyT y1) rfl rfl rfl (anyT_one y1) rplA rfl ?_)
    refine hwOH ?_
    refine HL.one (H1.ldAgg (b := b10) (vs := baseC (.slice none 0 0) (.slice (some ⟨bo, 0, none⟩) 2 2)) rfl memA rfl (fun i v h => by rwa [Nat.zero_add]) rfl ?_)
    refine hwOH ?_
    refine HL.one (H1.callp (V := anyDV) (I := fun z => (delQ (ordB [r1, r2]) l2 D2 1 0 = none ∧ z.e = 240) ∨ (delQ (ordB [r1, r2]) l2 D2 1 0 ≠ none ∧ z.e = 0)) (vs := [_, _, _, zv 1, zv 0]) rfl rfl (fun w' hM => delete_any s21 s22 s23 s24 (by show 2 ≤ _; omega) (by show 0 ≤ _; omega) (by show 0 ≤ _; omega) w' (hG1.ext hM.ext) (baseV_of (ordB_no [r1, r2]) (rdR_nil w') (RdR.of_blk (l := [r1, r2]) (hM.blk (b := bo) memA))) (by have h := hM.rdN (a := z2.a1) (c := z2.c1) (z := z2.left) memA memA; rw [hz2] at h; exact h) (hM.gr (a := z2.a2) (c := z2.c2) memA)) ?_)
    rintro y2 hy2
    unfold anyDV
    refine hwOH ?_
    refine HL.one (H1.alloc (cs := tomb0) rfl rfl (fun b25 => ?_))
    refine hwOH ?_
    refine HL.one (H1.stAgg (b := b25) (cs := tomb0) (vs := anyT y2) rfl rfl rfl (anyT_one y2) rplA rfl ?_)
    refine hwOH ?_
    rcases hy1 with ⟨g1, e1⟩ | ⟨g1, e1⟩
    · have e1' : (decide ¬ y1.e = 0) = true := by rw [e1]; decide
      refine hwOH ?_
      exact HX.ret1 rfl rfl fun w' hM => ⟨rfl, hx1.trans hM.ext⟩
    · have e1' : (decide ¬ y1.e = 0) = false := by rw [e1]; decide
      have e2' : (decide ¬ y2.e = 0) = true := by
        rcases hy2 with ⟨g2, e2⟩ | ⟨g2, -⟩
        · rw [e2]; decide
        · exact absurd ⟨g1, g2⟩ hboth
      refine hwOH ?_
      exact HX.ret1 rfl rfl fun w' hM => ⟨rfl, hx1.trans hM.ext⟩
  have d3 := delQ_ord_pk hok1 f2 s2 (by decide) (by decide) hboth.1
  have d4 := delQ_ord_pk hok2 f1 s1 (by decide) (by decide) hboth.2
  clear hboth
  refine HL.one (H1.ldAgg (b := b10) (vs := baseC (.slice none 0 0) (.slice (some ⟨bo, 0, none⟩) 2 2)) rfl memA rfl (fun i v h => by rwa [Nat.zero_add]) rfl ?_)
  refine hwOH ?_
  refine HL.one (H1.callz (vs := [_, _, _, zv 2, zv 0]) rfl rfl (fun w' hM => delete_yes (l := l1) (D := D1) d3 s11 s12 s13 s14 (by show 2 ≤ _; omega) (by show 0 ≤ _; omega) (by show 0 ≤ _; omega) w' (hG1.ext hM.ext) (baseV_of (ordB_no [r1, r2]) (rdR_nil w') (RdR.of_blk (l := [r1, r2]) (hM.blk (b := bo) memA))) (by have h := hM.rdN (a := z1.a1) (c := z1.c1) (z := z1.left) memA memA; rw [hz1] at h; exact h) (hM.gr (a := z1.a2) (c := z1.c2) memA)) ?_)
  rintro z3 hz3
  unfold delH delYes
  refine hwOH ?_
  refine HL.one (H1.alloc (cs := tomb0) rfl rfl (fun b21 => ?_))
  refine hwOH ?_
  refine HL.one (H1.stAgg (b := b21) (cs := tomb0) (vs := tombV 2 0 l1 D1 r2.pack z3) rfl rfl rfl (tombV_one _ _ _ _ _ _) rplA rfl ?_)
  refine hwOH ?_
  refine HL.one (H1.ldAgg (b := b10) (vs := baseC (.slice none 0 0) (.slice (some ⟨bo, 0, none⟩) 2 2)) rfl memA rfl (fun i v h => by rwa [Nat.zero_add]) rfl ?_)
  refine hwOH ?_
  refine HL.one (H1.callz (vs := [_, _, _, zv 1, zv 0]) rfl rfl (fun w' hM => delete_yes (l := l2) (D := D2) d4 s21 s22 s23 s24 (by show 2 ≤ _; omega) (by show 0 ≤ _; omega) (by show 0 ≤ _; omega) w' (hG1.ext hM.ext) (baseV_of (ordB_no [r1, r2]) (rdR_nil w') (RdR.of_blk (l := [r1, r2]) (hM.blk (b := bo) memA))) (by have h := hM.rdN (a := z2.a1) (c := z2.c1) (z := z2.left) memA memA; rw [hz2] at h; exact h) (hM.gr (a := z2.a2) (c := z2.c2) memA)) ?_)
  rintro z4 hz4
  unfold delH delYes
  refine hwOH ?_
  refine HL.one (H1.alloc (cs := tomb0) rfl rfl (fun b25 => ?_))
  refine hwOH ?_
  refine HL.one (H1.stAgg (b := b25) (cs := tomb0) (vs := tombV 1 0 l2 D2 r1.pack z4) rfl rfl rfl (tombV_one _ _ _ _ _ _) rplA rfl ?_)
  refine hwOH ?_
  rw [← hswap] at hz4 ⊢
  have hok3 : okS (ndsP (prN l1 D1 (goneL l1 r2.pack) false)) (digP (prN l1 D1 (goneL l1 r2.pack) false)) = true := left_ok hok1 _
  obtain ⟨s31, s32, s33, s34⟩ := ok_sizes hok3
  refine HL.one (H1.callx (u := .bool true) (vs := [_, _]) rfl rfl (fun w' hM => by
    have h := sameNodes_fn (l := ndsZ z3.left) (m := ndsZ z4.left) (v := .slice z3.a1 z3.left.length z3.c1) (u := .slice z4.a1 z4.left.length z4.c1) (by rw [hz3]; exact s31) (by rw [hz3]; exact s32) w' (hM.rdN memA memA) (hM.rdN memA memA)
    rw [hz3, hz4, eqNs_iff.2 rfl] at h
    exact h) ?_)
  refine hwOH ?_
  refine HL.one (H1.callx (u := .bool true) (vs := [_, _]) rfl rfl (fun w' hM => by
    have h := sameTexts_fn (.slice z3.a2 z3.left.length z3.c2) (.slice z4.a2 z4.left.length z4.c2) (digP (prN l1 D1 (goneL l1 r2.pack) false)) (digP (prN l1 D1 (goneL l1 r2.pack) false)) s33 w' (hM.gr memA) (hM.gr memA)
    rw [decide_eq_true rfl] at h
    exact h) ?_)
  refine hwOH ?_
  exact HX.ret1 rfl rfl fun w' hM => ⟨by rw [hswap, decide_eq_true rfl], hx1.trans hM.ext⟩
end Go.Sx
/- From a function's contract to a row's statement: arguments that are numbers, arrays of numbers, slices of arrays of numbers, records. -/
namespace Go.Sx
open Go Go.ChangeShapes Go.WideShapes Go.ChangeAt Go.RowKit
section
variable {H : Type} {enc : TypeId × Value → H} {P : Program} {w : World} {b : Nat} {sp : Nat → Bool} {hd : Bool}
theorem args_cons {t : TypeId} {ts : List TypeId} {vs : List Value} {ds : List (DataW H)} {ps : List MemPlace} (h : DataW.TrodAll enc P w b sp hd (t :: ts) vs ds ps) :
    ∃ v vs' d ds' p q, vs = v :: vs' ∧ ds = d :: ds' ∧ ps = p ++ q ∧ DataW.Trod enc P w b sp hd t v d p ∧ DataW.TrodAll enc P w b sp hd ts vs' ds' q := by
  cases vs with
  | nil => exact h.elim
  | cons v vs =>
    cases ds with
    | nil => exact h.elim
    | cons d ds =>
      obtain ⟨p, q, h1, h2, h3⟩ := h
      exact ⟨v, vs, d, ds, p, q, rfl, rfl, h3, h1, h2⟩
theorem args_nil {vs : List Value} {ds : List (DataW H)} {ps : List MemPlace} (h : DataW.TrodAll enc P w b sp hd [] vs ds ps) : vs = [] ∧ ds = [] ∧ ps = [] := by
  cases vs with
  | cons v vs => exact h.elim
  | nil => cases ds with
    | cons d ds => exact h.elim
    | nil => exact ⟨rfl, rfl, h⟩
theorem trodAll_ext (hl : laidOutB P = true) {W W' : World} (hx : Below W.heap.size W W') : ∀ {ts : List TypeId} {vs : List Value} {ds : List (DataW H)} {ps : List MemPlace}, (ts.all fun t => P.readableRec t && decide (t < P.types.size)) = true →
    DataW.TrodAll enc P W 0 (fun _ => true) true ts vs ds ps → (∀ p ∈ ps, p.block < W.heap.size) → ∀ sp : Nat → Bool, (∀ p ∈ ps, sp p.block = true) → DataW.TrodAll enc P W' 0 sp true ts vs ds ps
  | [], [], [], _, _, h, _, _, _ => h
  | [], [], _ :: _, _, _, h, _, _, _ => h.elim
  | [], _ :: _, _, _, _, h, _, _, _ => h.elim
  | _ :: _, [], _, _, _, h, _, _, _ => h.elim
  | _ :: _, _ :: _, [], _, _, h, _, _, _ => h.elim
  | t :: ts, v :: vs, d :: ds, ps, ht, h, hlt, sp, hsp => by
    obtain ⟨p, q, h1, h2, rfl⟩ := h
    simp only [List.all_cons, Bool.and_eq_true, decide_eq_true_eq] at ht
    refine ⟨p, q, ?_, trodAll_ext hl hx ht.2 h2 (fun x hx => hlt x (by simp [hx])) sp (fun x hx => hsp x (by simp [hx])), rfl⟩
    exact WideElems.Trod_stays hl ht.1.1 ht.1.2 h1 (fun x hx' => hx.same (hlt x (by simp [hx']))) (fun x hx' => hsp x (by simp [hx']))
end
end Go.Sx
namespace Go.Sx
open Go Go.Proofs Go.ChangeShapes Go.WideShapes Go.ChangeAt Go.RowKit
theorem ints_rowK (f : Nat → Int) (n : Nat) : ints ((List.range n).map f) = row n fun q => zv (f q) := by
  unfold ints row
  rw [List.map_map]; rfl
/-- The call has laid new blocks, and turned no old one. -/
theorem post_ext {H : Type} {enc : TypeId × Value → H} {P : Program} {f : Func} {s : ChangeSpec} {apart fresh handsOn again : Bool} {W W' : World} {args : Array Value} {v : Value} {ds gs : List (DataW H)} {before pa pv : List MemPlace} (hx : Ext W W')
    (hW : DataW.Whole enc P f.params.toList s.vars apart W args.toList ds gs before)
    (hres : ∀ (b : Nat) (sp : Nat → Bool) (hd : Bool), DataW.TrodAll enc P W' b sp hd f.resultTypes.toList (v.resultList f.resultTypes.size) (s.fn H (ds ++ gs)).results [])
    (hargs : ∀ sp : Nat → Bool, (∀ p ∈ before, sp p.block = true) → DataW.TrodAll enc P W' 0 sp true f.params.toList args.toList (s.fn H (ds ++ gs)).args pa)
    (hvars : ∀ sp : Nat → Bool, (∀ p ∈ before, sp p.block = true) → DataW.TrodVars enc P W' sp s.vars (s.fn H (ds ++ gs)).vars pv)
    (hps : before = pa ++ pv)
    (hok : ∀ (j : Nat) (t : TypeId) (r : Value), f.resultTypes[j]? = some t → (v.resultList f.resultTypes.size)[j]? = some r → Value.okWide P W' .any 0 t r) :
    s.post enc P f apart fresh handsOn again W args v W' := by
  have hlt : ∀ p ∈ before, p.block < W.heap.size := fun p hp => hW.lt p hp
  have hold : ∀ p ∈ before, (fun b => decide (b < W.heap.size)) p.block = true := fun p hp => by simpa using hW.lt p hp
  refine ⟨ds, gs, before, [], pa, pv, hW, hres _ _ _, hargs _ hold, hvars _ hold, (World.keptBut_refl W _).congr hx.os hx.output hx.block, fun _ => ?_⟩
  obtain ⟨_, _, _, _, _, hz, hn⟩ := hW
  refine ⟨hok, _, _, ([] ++ pa) ++ pv, ⟨[] ++ pa, pv, trodAll_append (hargs _ (fun _ _ => rfl)) (hres _ _ _), hvars _ (fun _ _ => rfl), rfl, ?_, ?_⟩, ?_⟩
  · intro b off hp
    have hp' : MemPlace.cell b off ∈ before := by rw [hps]; simpa using hp
    rw [World.frozen?_of_block (hx.block b (hlt _ hp'))]
    exact hz b off hp'
  · intro ha
    have := hn ha
    rw [hps] at this
    simpa using this
  · intro p hp _
    rw [hps]
    simpa using hp
theorem i64_of {x : Int} (h : (Lit.int .i64 x).wf = true) : i64W x := by
  simp only [Lit.wf, Bool.and_eq_true, decide_eq_true_eq] at h
  have e1 : IntKind.i64.min = -9223372036854775808 := rfl
  have e2 : IntKind.i64.max = 9223372036854775807 := rfl
  rw [e1, e2] at h
  exact h
theorem ownK : ownKnob Tryz.prog.godebug = none := by kernel_rfl
section
variable {H : Type} {enc : TypeId × Value → H} {P : Program} {W : World} {r : Reach} {b0 b : Nat} {sp : Nat → Bool} {hd : Bool} {v : Value} {d : DataW H} {p : List MemPlace}
theorem spot_none {W : World} {a : Addr} {v : Value} (h : W.cell? a = some v) : a = ⟨a.block, a.off, none⟩ ∧ a.block < W.heap.size := by
  unfold World.cell? at h
  split at h
  · rename_i c e f hc
    split at h
    · cases h
    · rename_i hs
      refine ⟨?_, (Array.getElem?_eq_some_iff.1 hc).1⟩
      cases a with
      | mk b o s => cases s <;> simp_all
  · cases h
def cellInt (W : World) (a : Addr) : Int := match W.cell? a with | some (.int _ z) => z | _ => 0

/-- All cells of a type are numbers. -/
def intCellsB (P : Program) : Nat → TypeId → Bool
  | 0, _ => false
  | n + 1, t => match P.underlying t with
    | some (.int .i64) => Nat.beq (P.cellsOf t) 1
    | some (.array k e) => intCellsB P n e && Nat.beq (P.cellsOf t) (k * P.cellsOf e) && Nat.ble 1 (P.cellsOf e)
    | some (.struct fs) => (fs.toList.all fun f => intCellsB P n f.type) && (List.range (P.cellsOf t)).all fun j => (List.range fs.size).any fun i => match fs[i]? with | some f => Nat.ble f.offset j && Nat.blt j (f.offset + P.cellsOf f.type) | none => false
    | _ => false
theorem intCells : ∀ (n : Nat) (t : TypeId) (cs : List Value) (fuel : Nat) (x : DataW H × List MemPlace), intCellsB P n t = true → DataW.trod enc P W b sp hd fuel t cs = some x → cs.length = P.cellsOf t ∧ ∀ j, j < cs.length → ∃ z, cs[j]? = some (zv z) ∧ i64W z := by
  intro n
  induction n with
  | zero => intro t cs fuel x h; cases h
  | succ n ih =>
    intro t cs fuel x h hf
    simp only [intCellsB] at h
    split at h
    · rename_i ht
      have h1 : P.cellsOf t = 1 := Nat.eq_of_beq_eq_true h
      obtain ⟨z, e, -, hw⟩ := DataW.trod_int ht hf
      subst e
      refine ⟨by rw [h1]; rfl, fun j hj => ?_⟩
      have : j = 0 := by simpa using hj
      subst this
      exact ⟨z, rfl, i64_of hw⟩
    · rename_i k e ht
      rw [Bool.and_eq_true, Bool.and_eq_true] at h
      obtain ⟨⟨h1, h2⟩, h3⟩ := h
      have h2' : P.cellsOf t = k * P.cellsOf e := Nat.eq_of_beq_eq_true h2
      have h3' : 1 ≤ P.cellsOf e := Nat.le_of_ble_eq_true h3
      obtain ⟨xs, m, -, -, hl, hxl, hel⟩ := DataW.trod_array ht hf
      refine ⟨hl, fun j hj => ?_⟩
      rw [h2'] at hl
      have hi : j / P.cellsOf e < k := by
        rw [Nat.div_lt_iff_lt_mul h3']; omega
      have h4 := hel (j / P.cellsOf e) hi
      rw [List.getElem?_eq_getElem (by omega)] at h4
      obtain ⟨hlen, hz⟩ := ih e _ _ _ h1 h4
      have hm := Nat.mod_lt j h3'
      obtain ⟨z, hz, hw⟩ := hz (j % P.cellsOf e) (by rw [hlen]; exact hm)
      refine ⟨z, ?_, hw⟩
      rw [List.getElem?_take, if_pos hm, List.getElem?_drop] at hz
      rw [← hz]
      congr 1
      have := Nat.div_add_mod j (P.cellsOf e)
      rw [Nat.mul_comm] at this
      omega
    · rename_i fs ht
      rw [Bool.and_eq_true, List.all_eq_true, List.all_eq_true] at h
      obtain ⟨h1, h2⟩ := h
      obtain ⟨xs, m, -, -, hl, hxl, hel⟩ := DataW.trod_struct ht hf
      refine ⟨hl, fun j hj => ?_⟩
      have h3 := h2 j (List.mem_range.2 (by omega))
      rw [List.any_eq_true] at h3
      obtain ⟨i, hi, h4⟩ := h3
      have hi' := List.mem_range.1 hi
      cases hfi : fs[i]? with
      | none => rw [hfi] at h4; cases h4
      | some f =>
        rw [hfi] at h4
        simp only [Bool.and_eq_true] at h4
        have h5 : f.offset ≤ j := Nat.le_of_ble_eq_true h4.1
        have h6 : j < f.offset + P.cellsOf f.type := by simpa [Nat.blt_eq] using h4.2
        have h7 := hel i f hfi
        rw [List.getElem?_eq_getElem (by omega)] at h7
        have hmem : f ∈ fs.toList := by
          rw [← Array.getElem?_toList] at hfi
          exact List.mem_of_getElem? hfi
        obtain ⟨hlen, hz⟩ := ih f.type _ _ _ (h1 f hmem) h7
        obtain ⟨z, hz, hw⟩ := hz (j - f.offset) (by rw [hlen]; omega)
        refine ⟨z, ?_, hw⟩
        rw [List.getElem?_take, if_pos (by omega), List.getElem?_drop, show f.offset + (j - f.offset) = j by omega] at hz
        exact hz
    · cases h
/-- A row of numbers. -/
theorem intRow {n : Nat} {t : TypeId} {cs : List Value} {fuel : Nat} {x : DataW H × List MemPlace} (h : intCellsB P n t = true) (hf : DataW.trod enc P W b sp hd fuel t cs = some x) : ∃ zs : List Int, cs = ints zs ∧ zs.length = P.cellsOf t ∧ ∀ z ∈ zs, i64W z := by
  obtain ⟨hl, hz⟩ := intCells n t cs fuel x h hf
  have hch : ∃ g : Nat → Int, ∀ j, j < cs.length → cs[j]? = some (zv (g j)) ∧ i64W (g j) := by
    refine ⟨fun j => if h : j < cs.length then Classical.choose (hz j h) else 0, fun j hj => ?_⟩
    simp only [dif_pos hj]
    exact Classical.choose_spec (hz j hj)
  obtain ⟨g, hg⟩ := hch
  refine ⟨(List.range cs.length).map g, ?_, by simpa using hl, fun z hz => ?_⟩
  · rw [ints_rowK]
    apply List.ext_getElem?
    intro j
    by_cases hj : j < cs.length
    · rw [(hg j hj).1, row_get _ hj]
    · rw [List.getElem?_eq_none (by omega), List.getElem?_eq_none (by rw [row_len]; omega)]
  · obtain ⟨j, hj, rfl⟩ := List.mem_map.1 hz
    exact (hg j (List.mem_range.1 hj)).2
/-- A slice of structs (or arrays) of numbers, read in place: one cell. -/
theorem sl_rows {t e n fuel sz : Nat} {x : DataW H × List MemPlace} (ht : P.underlying t = some (.slice e)) (he : intCellsB P n e = true) (hce : P.cellsOf e = sz) (hsz : 0 < sz) (hf : DataW.trod enc P W b sp hd fuel t [v] = some x) :
    ∃ rows : List (List Int), (∃ (a : Option Addr) (c : Nat), v = .slice a rows.length c ∧ rows.length ≤ c ∧ (rows = [] ∨ ∃ b off, a = some ⟨b, off, none⟩ ∧ b < W.heap.size ∧ ∀ i rw j u, (rows.map ints)[i]? = some rw → rw[j]? = some u → W.cell? ⟨b, off + i * sz + j, none⟩ = some u)) ∧ (∀ r ∈ rows, r.length = sz ∧ ∀ z ∈ r, i64W z) ∧ rows.length ≤ maxLen := by
  rcases DataW.trod_slice ht hf with ⟨h0, -⟩ | ⟨a', n', c, elems, rest, m, -, hcs, -, hb, hlc, hm, hlen, hel, -, -⟩
  · cases h0
    exact ⟨[], ⟨_, _, rfl, Nat.le_refl _, .inl rfl⟩, by simp, Nat.zero_le _⟩
  · cases hcs
    have key : ∀ q, q < n' → ∃ zs : List Int, zs.length = sz ∧ (∀ z ∈ zs, i64W z) ∧ ∀ j u, (ints zs)[j]? = some u → W.cell? ((a'.add (q * sz)).add j) = some u := fun q hq => by
      have h1 := hel q hq
      rw [hce, List.getElem?_eq_getElem (by omega)] at h1
      cases hcl : W.cells? b (a'.add (q * sz)) sz with
      | none => rw [hcl] at h1; cases h1
      | some cs =>
        rw [hcl] at h1
        simp only [Option.bind_some] at h1
        obtain ⟨-, h5, h6⟩ := World.cells?_some hcl
        obtain ⟨zs, rfl, hl, hz⟩ := intRow he h1
        refine ⟨zs, by rw [hl, hce], hz, fun j u hu => ?_⟩
        have hj : j < sz := by
          have := (List.getElem?_eq_some_iff.1 hu).1
          rw [ints_len, hl, hce] at this; exact this
        rw [h6 j hj]; exact hu
    by_cases hn0 : n' = 0
    · subst hn0
      exact ⟨[], ⟨_, _, rfl, Nat.zero_le _, .inl rfl⟩, by simp, Nat.zero_le _⟩
    · have hch : ∃ Z : Nat → List Int, ∀ q, q < n' → (Z q).length = sz ∧ (∀ z ∈ Z q, i64W z) ∧ ∀ j u, (ints (Z q))[j]? = some u → W.cell? ((a'.add (q * sz)).add j) = some u := by
        refine ⟨fun q => if h : q < n' then Classical.choose (key q h) else [], fun q hq => ?_⟩
        simp only [dif_pos hq]
        exact Classical.choose_spec (key q hq)
      obtain ⟨Z, hZ⟩ := hch
      have h0 := hZ 0 (by omega)
      have hz0 := h0.2.2 0 _ (ints_get (by rw [h0.1]; exact hsz))
      rw [Nat.zero_mul, show (a'.add 0).add 0 = a' by simp [Addr.add]] at hz0
      obtain ⟨ha, hblk⟩ := spot_none hz0
      have hadd : ∀ q j, (a'.add (q * sz)).add j = ⟨a'.block, a'.off + q * sz + j, none⟩ := fun q j => by rw [ha, add_lit, add_lit]
      refine ⟨(List.range n').map Z, ⟨some a', c, by simp, by simpa using hlc, .inr ⟨a'.block, a'.off, congrArg some ha, hblk, fun i rw' j u hi hu => ?_⟩⟩, fun r hr => ?_, by simpa using (by omega : n' ≤ maxLen)⟩
      · rw [List.getElem?_map, List.getElem?_map] at hi
        have hin : i < n' := by
          refine Classical.byContradiction fun hn => ?_
          rw [List.getElem?_eq_none (by rw [List.length_range]; omega)] at hi
          cases hi
        rw [List.getElem?_range hin] at hi
        simp only [Option.map_some, Option.some.injEq] at hi
        subst hi
        have := (hZ i hin).2.2 j u hu
        rwa [hadd] at this
      · obtain ⟨q, hq, rfl⟩ := List.mem_map.1 hr
        have := hZ q (List.mem_range.1 hq)
        exact ⟨this.1, this.2.1⟩
end
end Go.Sx
namespace Go.Sx
open Go Go.Proofs Go.ChangeShapes Go.WideShapes Go.ChangeAt Go.RowKit
section
variable {H : Type} {enc : TypeId × Value → H} {W : World} {r : Reach} {b0 b : Nat} {sp : Nat → Bool} {hd : Bool} {v : Value} {d : DataW H} {p : List MemPlace}
theorem open_intK {t : TypeId} {P : Program} (ht : P.underlying t = some (.int .i64)) (hv : Value.okWide P W r b0 t v) (h : DataW.Trod enc P W b sp hd t v d p) : ∃ x : Int, v = zv x ∧ i64W x := by
  obtain ⟨z, rfl⟩ := okWide_int ht hv
  obtain ⟨fuel, hf⟩ := h
  have hf' : DataW.trod enc P W b sp hd fuel t [.int .i64 z] = some (d, p) := hf
  obtain ⟨z', e, -, hw⟩ := DataW.trod_int ht hf'
  cases e
  exact ⟨z, rfl, i64_of hw⟩
set_option maxRecDepth 100000 in
theorem open_rowsK {t e sz : TypeId} (ht : Tryz.prog.underlying t = some (.slice e)) (hi : intCellsB Tryz.prog 3 e = true) (hc : Tryz.prog.cellsOf e = sz) (hsz : 0 < sz) (hv : Value.okWide Tryz.prog W r b0 t v) (h : DataW.Trod enc Tryz.prog W b sp hd t v d p) :
    ∃ rows : List (List Int), RdA sz W v rows ∧ (∀ r ∈ rows, r.length = sz ∧ ∀ z ∈ r, i64W z) ∧ rows.length ≤ maxLen := by
  obtain ⟨fuel, hf⟩ := h
  obtain ⟨a, n, c, rfl⟩ := okWide_slice ht hv
  have hcells : (Value.slice a n c).cells.toList = [Value.slice a n c] := rfl
  rw [hcells] at hf
  exact sl_rows ht hi hc hsz hf
end
end Go.Sx
/- Chapter 24: the laid variables. -/
namespace Go.Sx
open Go Go.Proofs Go.ChangeShapes Go.WideShapes Go.ChangeAt Go.RowKit
def kZ : List Int := kL.map fun x => ((x.toNat : Nat) : Int)
theorem kZ_data : (YtehehfcmanccjaaGreatDoor.Rows.laid_evergreen_digest_round : DataW Unit) = Lib.tabData .u32 kZ := by kernel_rfl
def laid1 : List (String × DataW Unit) := [("evergreen/digest.round", YtehehfcmanccjaaGreatDoor.Rows.laid_evergreen_digest_round)]
theorem laid1_plain {W : World} (h : laidMetH Tryz.prog laid1 W) : laidMet Tryz.prog laid1 W := by
  rwa [MakeChecks.laidMetH_plain _ _ _ (by kernel_rfl)] at h
theorem round_of_laid1 {W : World} (h : laidMetH Tryz.prog laid1 W) : RoundG W := by
  have h1 := laid1_plain h
  have h2 : laidMet Tryz.prog (("evergreen/digest.round", Lib.tabData .u32 kZ) :: []) W := by
    rw [← kZ_data]; exact h1
  have hT := Lib.tabIs_of_head (g := 0) (by kernel_rfl) (by kernel_rfl) Tryz.underlying222 Tryz.underlying114 (by kernel_rfl) (by kernel_rfl) h2
  intro i v hv
  have hlen : kZ.length = 64 := by kernel_rfl
  have hi : i < 64 := by
    have := (List.getElem?_eq_some_iff.1 hv).1
    unfold ws at this
    rw [List.length_map] at this
    exact this
  have hc := hT.cell (g := 0) (by kernel_rfl) i (by rw [hlen]; exact hi)
  rw [hc]
  unfold ws at hv
  rw [List.getElem?_map, List.getElem?_eq_getElem (by exact hi)] at hv
  rw [← hv]
  have hk : i < kL.length := hi
  have : kZ.getD i 0 = ((kL[i].toNat : Nat) : Int) := by unfold kZ; simp [hk]
  rw [this]; rfl
end Go.Sx
