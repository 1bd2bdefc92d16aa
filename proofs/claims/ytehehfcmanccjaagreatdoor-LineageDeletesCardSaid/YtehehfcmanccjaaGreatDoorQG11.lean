/- Chapter 24: the nodes that integers determine: the walk. -/
import Derived.Test.YtehehfcmanccjaaGreatDoorQG10
import Derived.Test.YtehehfcmanccjaaGreatDoorRows
import Derived.ProofKit
import Derived.OpenShut
import Derived.LaidMore
import Derived.Lay
import Derived.SevenTiedAt
import Derived.Stop.Joined
import Derived.Deep.Onto
import Derived.Laws.IdiomArrays
import Derived.Carry
import Derived.Test.YtehehfcmanccjaaGreatDoorTie
import Derived.Lib.LaidTab
import Derived.Stop.LaidErr
namespace Go.Sx
open Go Go.Proofs Go.RowKit
theorem hwOC {G G2 : Prop} (x : G2) (hwq : Hold G2 → G := by
    intro hQq
    repeat' (first | refine HL.pa ?_ (POp.nilCheck rfl) | apply HL.fold | apply HA.fold | apply HL.nil | apply HX.n_then | apply HC.seq | apply HC.region | refine HL.pa ?_ | refine HL.ga rfl ?_ | refine HL.na rfl ?_ | refine HL.nu rfl rfl ?_ | apply HC.block | apply HC.skip | apply HC.exit | apply HC.ret | apply HX.e_block | refine HX.e_other rfl ?_ | apply HX.e_then | apply HX.e_again | apply HX.n_block | apply HX.r_then | apply HX.r_block | apply HX.r_again | refine HC.cond_yes rfl ?_ | refine HC.cond_no rfl ?_ | refine HL.one (H1.ldb rfl memA rfl rfl ?_) | refine HC.cond rfl (fun hc => ?_) (fun hc => ?_) | refine HC.cond_b rfl (fun hc => ?_) (fun hc => ?_))
    exact hQq.get) : G := hwq ⟨x⟩
def madeD (rows : List (List Int)) : Nat → List ByteArray
  | 0 => []
  | i + 1 => madeD rows i ++ [sumS (rnsB [yI (rows.getD i []) 2, (i : Int)])]
theorem madeD_len (rows : List (List Int)) : ∀ i, (madeD rows i).length = i
  | 0 => rfl
  | i + 1 => by show (_ ++ [_]).length = _; rw [List.length_append, madeD_len rows i]; rfl
theorem madeD_size (rows : List (List Int)) : ∀ i, ∀ d ∈ madeD rows i, d.size = 32
  | 0, _, h => by cases h
  | i + 1, d, h => by
    rcases List.mem_append.1 h with h | h
    · exact madeD_size rows i d h
    · rw [List.mem_singleton] at h; subst h; exact sumS_size _
theorem four {y : List Int} (h : y.length = 4) : ∃ y0 y1 y2 y3, y = [y0, y1, y2, y3] := by
  match y, h with
  | [a, b, c, d], _ => exact ⟨a, b, c, d, rfl⟩
def madeN (rows : List (List Int)) : Nat := min rows.length 20
theorem lastId_le {l : List Nd} (h : MadeP l) (hl : l.length ≤ 20) : 0 ≤ lastId l ∧ lastId l ≤ 60 := by have := h.last; omega
theorem zGet {z : List NdZ} {N : List Nd} (h : ndsZ z = N) {i : Nat} (hi : i < N.length) : (ndsV z)[i * 4]? = some (zv (ndAt N i).id) ∧ (ndsV z)[i * 4 + 2]? = some (zv (ndAt N i).pack) := by
  subst h
  rw [ndsZ_len] at hi
  have e : z[i]? = some (z.getD i default) := by simp [hi]
  have e2 : ndAt (ndsZ z) i = (z.getD i default).1 := by unfold ndAt ndsZ; simp [hi]
  rw [e2]
  exact ⟨ndsV_get e (j := 0) (by decide), ndsV_get e (j := 2) (by decide)⟩
theorem HL.conv24 {P : Program} {r : Option Nat} {N : Nat} {ds : List Deferred} {ol l : List Oper} {Q : Post} {E : Env} {w0 : World} {H H2 : List Atom} (hh : ∀ w, Mm w0 H w → Mm w0 H2 w) (h : HL P r N ds ol l Q E w0 H2) : HL P r N ds ol l Q E w0 H := fun w hM => h w (hh w hM)
attribute [local irreducible] WC WL WX POp Then Again Fn NX W1 WA WO QL RP RA Yld LoopAt HC HL HX HN H1 HA HO HQ HB HP A.blk A.grow A.rd A.obj A.mp AgainH CutH
attribute [local irreducible] A.mq A.mit A.all sumS HU HV
set_option maxHeartbeats 8000000 in
theorem made24_fn (v : Value) (rows : List (List Int)) (hrow : ∀ y ∈ rows, y.length = 4 ∧ ∀ z ∈ y, i64W z) (w : World) (hR : RdA 4 w v rows) :
    Fn Tryz.prog 11 #[v] w fun u w' => (∃ v g U, u = .tuple #[v, g] ∧ RdN w' v (madeL rows (madeN rows)) U ∧ Rd w' g (strs (madeD rows (madeN rows)))) ∧ Ext w w' := by
  obtain ⟨a0, c0, rfl, -⟩ := hR.shape
  refine enterH (l := [_]) rfl Tryz.ntmps11 rfl ?_
  refine HC.grow0 31 4 ?_
  refine HC.grow0 9 1 ?_
  refine HC.conv (H2 := A.all (rowsA []) :: [A.grow 9 1 none 0 0 [], A.grow 31 4 none 0 0 []]) (fun w h => h.allNil) ?_
  refine hwOC ?_
  refine HC.loop (α := Nat × List NdZ × (Option Addr × Nat) × (Option Addr × Nat)) (fun q => [(0, .slice a0 rows.length c0), (4, .slice q.2.2.1.1 q.1 q.2.2.1.2), (5, .slice q.2.2.2.1 q.1 q.2.2.2.2), (6, zv (lastId (madeL rows q.1))), (7, zv (q.1 : Int))])
    (fun q => [A.grow 31 4 q.2.2.1.1 q.2.2.1.2 q.1 (ndsV q.2.1), A.grow 9 1 q.2.2.2.1 q.2.2.2.2 q.1 (strs (madeD rows q.1)), A.all (rowsA q.2.1)]) (fun q => q.1 ≤ rows.length ∧ q.1 ≤ 20 ∧ ndsZ q.2.1 = madeL rows q.1) (fun q => 20 - q.1) (0, [], (none, 0), (none, 0)) ⟨Nat.zero_le _, Nat.zero_le _, rfl⟩ esA (by repeat (first | exact Hs.nil _ | (refine Hs.cons pickA ?_))) ?_
  rintro ⟨i, z, ⟨an, cn⟩, ad, cd⟩ ⟨hi1, hi2, hz⟩
  dsimp only at hi1 hi2 hz ⊢
  have hzl : z.length = i := by rw [← ndsZ_len, hz, madeL_len]
  have hend : i = madeN rows → ∀ w', Mm w [A.grow 31 4 an cn i (ndsV z), A.grow 9 1 ad cd i (strs (madeD rows i)), A.all (rowsA z)] w' → (∃ v g U, Value.tuple #[.slice an i cn, .slice ad i cd] = .tuple #[v, g] ∧ RdN w' v (madeL rows (madeN rows)) U ∧ Rd w' g (strs (madeD rows (madeN rows)))) ∧ Ext w w' := by
    intro e w' hM
    refine ⟨⟨_, _, adrZ z, rfl, ?_, ?_⟩, hM.ext⟩
    · have h := hM.rdN (a := an) (c := cn) (z := z) (by rw [hzl]; first | ((repeat (first | with_reducible exact mem_hd | with_reducible apply mem_tl)); done) | (repeat (first | exact List.Mem.head _ | apply List.Mem.tail))) memA
      rw [hz, hzl] at h
      rw [← e]; exact h
    · have h := hM.gr (e := 9) (a := ad) (c := cd) (n := i) memA
      rw [← e]; exact h
  by_cases hlt : i < rows.length
  rotate_left
  · have h1 : ¬ (i : Int) < (rows.length : Int) := by omega
    refine hwOC ?_
    exact HX.ret2 rfl rfl rfl fun w' hM => hend (by unfold madeN; omega) w' hM
  have h1 : (i : Int) < (rows.length : Int) := by omega
  by_cases h20 : i < 20
  rotate_left
  · have h2 : ¬ (i : Int) < 20 := by omega
    refine hwOC ?_
    exact HX.ret2 rfl rfl rfl fun w' hM => hend (by unfold madeN; omega) w' hM
  have h2 : (i : Int) < 20 := by omega
  obtain ⟨y, hy⟩ : ∃ y, rows[i]? = some y := ⟨_, List.getElem?_eq_getElem hlt⟩
  have hy4 := hrow y (List.mem_of_getElem? hy)
  have hgy : rows.getD i [] = y := by rw [List.getD_eq_getElem?_getD, hy]; rfl
  obtain ⟨bx, off, rfl, -, hcell⟩ := hR.at (fun e => by rw [e] at hlt; exact absurd hlt (Nat.not_lt_zero _))
  have hcl := hcell i y hy
  clear hcell hend
  obtain ⟨y0, y1, y2, y3, rfl⟩ := four hy4.1
  have w0 := hy4.2 y0 (by simp)
  have w1 := hy4.2 y1 (by simp)
  have w2 := hy4.2 y2 (by simp)
  have w3 := hy4.2 y3 (by simp)
  have hok := madeL_ok rows i (by omega)
  have hll := madeL_len rows i
  have hlast := lastId_le hok (by omega)
  have hstep : madeL rows (i + 1) = madeL rows i ++ [mkNd (madeL rows i) [y0, y1, y2, y3]] := by
    show madeL rows i ++ [mkNd (madeL rows i) (rows.getD i [])] = _; rw [hgy]
  have hdst : strs (madeD rows i) ++ [.string (sumS (rnsB [y2, (i : Int)]))] = strs (madeD rows (i + 1)) := by
    rw [strs_snoc]
    show _ = strs (madeD rows i ++ [sumS (rnsB [yI (rows.getD i []) 2, (i : Int)])])
    rw [hgy]; rfl
  have hlast2 : lastId (madeL rows (i + 1)) = (mkNd (madeL rows i) [y0, y1, y2, y3]).id := by rw [hstep, lastId_snoc]
  have hmk : ∀ n, mkNd (madeL rows i) [y0, y1, y2, y3] = n → mkNd (madeL rows i) [y0, y1, y2, y3] = n := fun _ h => h
  have hid : (mkNd (madeL rows i) [y0, y1, y2, y3]).id = lastId (madeL rows i) + 1 + pickI21 y0 3 := mkNd_id _ _
  have q0 := pickI21_lt y0 (n := 3) (by decide)
  have q1 := pickI21_lt y1 (n := 4) (by decide)
  generalize hN : madeL rows i = N at hz hok hll hlast hstep hmk hid hlast2 ⊢
  refine hwOC ?_
  refine HL.one (H1.ldAggw (vs := ints [y0, y1, y2, y3]) rfl rfl (fun w' hM i v hv => cell_ext hM.ext (hcl i v hv)) rfl ?_)
  clear hcl hy hy4
  refine hwOC ?_
  refine HL.one (H1.alloc (cs := ints [0, 0, 0, 0]) rfl rfl (fun b8 => ?_))
  refine hwOC ?_
  refine HL.one (H1.stAgg (b := b8) (cs := ints [0, 0, 0, 0]) (vs := ints [y0, y1, y2, y3]) rfl rfl rfl (ints_one _) rplA rfl ?_)
  refine hwOC ?_
  refine HC.cut (α := Nat) (fun b9 => [(0, .slice (some ⟨bx, off, none⟩) rows.length c0), (4, .slice an i cn), (5, .slice ad i cd), (7, zv (i : Int)), (8, .pointer (some ⟨b8, 0, none⟩)), (9, .pointer (some ⟨b9, 0, none⟩))]) (fun b9 => [A.blk b9 (ndC ⟨lastId N + 1 + pickI21 y0 3, 1, 1 + pickI21 y1 4, []⟩ (.slice none 0 0)) 31, A.blk b8 (ints [y0, y1, y2, y3]) 70, A.grow 31 4 an cn i (ndsV z), A.grow 9 1 ad cd i (strs (madeD rows i)), A.all (rowsA z)]) (fun _ => True) ?_ ?_
  · refine HC.anyC ([(⟨b8, 0, none⟩, zv y0), (⟨b8, 1, none⟩, zv y1)]) rfl ?_
    refine HB.pa 0 rfl ?_
    refine HB.pa 1 rfl ?_
    refine HB.pa 2 rfl ?_
    refine HB.ld 3 rfl rfl memD ?_
    refine HB.pa 6 rfl ?_
    refine HB.ld 7 rfl rfl memD ?_
    refine HB.all (by repeat (first | exact Keep.nil | refine Keep.blk (by (repeat (first | exact List.Mem.head _ | apply List.Mem.tail)); done) rfl ?_ | refine Keep.grow (by (repeat (first | exact List.Mem.head _ | apply List.Mem.tail)); done) (by assumption) ?_ | refine Keep.base (by assumption) ?_)) [4, 11] (by kernel_rfl) rfl ⟨⟨_, rfl, ?_⟩, ⟨_, rfl, ?_⟩, trivial⟩
    · refine HP.one ?_
      refine H1.call0 (vs := [zv y0, zv 3]) rfl rfl (fun w' _ => rpick24_fn y0 3 w0.1 w0.2 (by decide) w') ?_
      apply HB.fold
      refine HB.pa 5 rfl ?_
      refine HB.all (by repeat (first | exact Keep.nil | refine Keep.blk (by (repeat (first | exact List.Mem.head _ | apply List.Mem.tail)); done) rfl ?_ | refine Keep.grow (by (repeat (first | exact List.Mem.head _ | apply List.Mem.tail)); done) (by assumption) ?_ | refine Keep.base (by assumption) ?_)) [8, 11] (by kernel_rfl) rfl ⟨⟨_, rfl, ?_⟩, ⟨_, rfl, ?_⟩, trivial⟩
      · refine HP.one ?_
        refine H1.call0 (vs := [zv y1, zv 4]) rfl rfl (fun w' _ => rpick24_fn y1 4 w1.1 w1.2 (by decide) w') ?_
        apply HB.fold
        refine HB.pa 9 rfl ?_
        refine HB.pa 10 rfl ?_ (POp.build (cs := ndC ⟨lastId N + 1 + pickI21 y0 3, 1, 1 + pickI21 y1 4, []⟩ (.slice none 0 0)) rfl rfl)
        refine HB.all (by repeat (first | exact Keep.nil | refine Keep.blk (by (repeat (first | exact List.Mem.head _ | apply List.Mem.tail)); done) rfl ?_ | refine Keep.grow (by (repeat (first | exact List.Mem.head _ | apply List.Mem.tail)); done) (by assumption) ?_ | refine Keep.base (by assumption) ?_)) [11] (by kernel_rfl) rfl ⟨⟨_, rfl, ?_⟩, trivial⟩
        refine HP.one ?_
        refine H1.alloc (cs := ndC ⟨0, 0, 0, []⟩ (.slice none 0 0)) rfl rfl (fun b9 => ?_)
        apply HB.fold
        refine HB.all (by repeat (first | exact Keep.nil | refine Keep.blk (by (repeat (first | exact List.Mem.head _ | apply List.Mem.tail)); done) rfl ?_ | refine Keep.grow (by (repeat (first | exact List.Mem.head _ | apply List.Mem.tail)); done) (by assumption) ?_ | refine Keep.base (by assumption) ?_)) [12] (by kernel_rfl) rfl ⟨⟨_, rfl, ?_⟩, trivial⟩
        refine HP.one ?_
        refine H1.stAgg (b := b9) (cs := ndC ⟨0, 0, 0, []⟩ (.slice none 0 0)) (vs := ndC ⟨lastId N + 1 + pickI21 y0 3, 1, 1 + pickI21 y1 4, []⟩ (.slice none 0 0)) rfl rfl rfl (nd_one rfl) rplA rfl ?_
        apply HB.fold
        refine HB.done (by repeat (first | exact Keep.nil | refine Keep.blk (by (repeat (first | exact List.Mem.head _ | apply List.Mem.tail)); done) rfl ?_ | refine Keep.grow (by (repeat (first | exact List.Mem.head _ | apply List.Mem.tail)); done) (by assumption) ?_ | refine Keep.base (by assumption) ?_)) (by kernel_rfl) ?_
        exact HX.cut b9 trivial esA (by repeat (first | exact Hs.nil _ | (refine Hs.cons pickA ?_)))
      · refine HP.one ?_
        refine H1.alloc (cs := ndC ⟨0, 0, 0, []⟩ (.slice none 0 0)) rfl rfl (fun b9 => ?_)
        apply HB.fold
        refine HB.all (by repeat (first | exact Keep.nil | refine Keep.blk (by (repeat (first | exact List.Mem.head _ | apply List.Mem.tail)); done) rfl ?_ | refine Keep.grow (by (repeat (first | exact List.Mem.head _ | apply List.Mem.tail)); done) (by assumption) ?_ | refine Keep.base (by assumption) ?_)) [8] (by kernel_rfl) rfl ⟨⟨_, rfl, ?_⟩, trivial⟩
        refine HP.one ?_
        refine H1.call0 (vs := [zv y1, zv 4]) rfl rfl (fun w' _ => rpick24_fn y1 4 w1.1 w1.2 (by decide) w') ?_
        apply HB.fold
        refine HB.pa 9 rfl ?_
        refine HB.pa 10 rfl ?_ (POp.build (cs := ndC ⟨lastId N + 1 + pickI21 y0 3, 1, 1 + pickI21 y1 4, []⟩ (.slice none 0 0)) rfl rfl)
        refine HB.all (by repeat (first | exact Keep.nil | refine Keep.blk (by (repeat (first | exact List.Mem.head _ | apply List.Mem.tail)); done) rfl ?_ | refine Keep.grow (by (repeat (first | exact List.Mem.head _ | apply List.Mem.tail)); done) (by assumption) ?_ | refine Keep.base (by assumption) ?_)) [12] (by kernel_rfl) rfl ⟨⟨_, rfl, ?_⟩, trivial⟩
        refine HP.one ?_
        refine H1.stAgg (b := b9) (cs := ndC ⟨0, 0, 0, []⟩ (.slice none 0 0)) (vs := ndC ⟨lastId N + 1 + pickI21 y0 3, 1, 1 + pickI21 y1 4, []⟩ (.slice none 0 0)) rfl rfl rfl (nd_one rfl) rplA rfl ?_
        apply HB.fold
        refine HB.done (by repeat (first | exact Keep.nil | refine Keep.blk (by (repeat (first | exact List.Mem.head _ | apply List.Mem.tail)); done) rfl ?_ | refine Keep.grow (by (repeat (first | exact List.Mem.head _ | apply List.Mem.tail)); done) (by assumption) ?_ | refine Keep.base (by assumption) ?_)) (by kernel_rfl) ?_
        exact HX.cut b9 trivial esA (by repeat (first | exact Hs.nil _ | (refine Hs.cons pickA ?_)))
    · refine HP.one ?_
      refine H1.alloc (cs := ndC ⟨0, 0, 0, []⟩ (.slice none 0 0)) rfl rfl (fun b9 => ?_)
      apply HB.fold
      refine HB.all (by repeat (first | exact Keep.nil | refine Keep.blk (by (repeat (first | exact List.Mem.head _ | apply List.Mem.tail)); done) rfl ?_ | refine Keep.grow (by (repeat (first | exact List.Mem.head _ | apply List.Mem.tail)); done) (by assumption) ?_ | refine Keep.base (by assumption) ?_)) [4] (by kernel_rfl) rfl ⟨⟨_, rfl, ?_⟩, trivial⟩
      refine HP.one ?_
      refine H1.call0 (vs := [zv y0, zv 3]) rfl rfl (fun w' _ => rpick24_fn y0 3 w0.1 w0.2 (by decide) w') ?_
      apply HB.fold
      refine HB.pa 5 rfl ?_
      refine HB.all (by repeat (first | exact Keep.nil | refine Keep.blk (by (repeat (first | exact List.Mem.head _ | apply List.Mem.tail)); done) rfl ?_ | refine Keep.grow (by (repeat (first | exact List.Mem.head _ | apply List.Mem.tail)); done) (by assumption) ?_ | refine Keep.base (by assumption) ?_)) [8] (by kernel_rfl) rfl ⟨⟨_, rfl, ?_⟩, trivial⟩
      refine HP.one ?_
      refine H1.call0 (vs := [zv y1, zv 4]) rfl rfl (fun w' _ => rpick24_fn y1 4 w1.1 w1.2 (by decide) w') ?_
      apply HB.fold
      refine HB.pa 9 rfl ?_
      refine HB.pa 10 rfl ?_ (POp.build (cs := ndC ⟨lastId N + 1 + pickI21 y0 3, 1, 1 + pickI21 y1 4, []⟩ (.slice none 0 0)) rfl rfl)
      refine HB.all (by repeat (first | exact Keep.nil | refine Keep.blk (by (repeat (first | exact List.Mem.head _ | apply List.Mem.tail)); done) rfl ?_ | refine Keep.grow (by (repeat (first | exact List.Mem.head _ | apply List.Mem.tail)); done) (by assumption) ?_ | refine Keep.base (by assumption) ?_)) [12] (by kernel_rfl) rfl ⟨⟨_, rfl, ?_⟩, trivial⟩
      refine HP.one ?_
      refine H1.stAgg (b := b9) (cs := ndC ⟨0, 0, 0, []⟩ (.slice none 0 0)) (vs := ndC ⟨lastId N + 1 + pickI21 y0 3, 1, 1 + pickI21 y1 4, []⟩ (.slice none 0 0)) rfl rfl rfl (nd_one rfl) rplA rfl ?_
      apply HB.fold
      refine HB.done (by repeat (first | exact Keep.nil | refine Keep.blk (by (repeat (first | exact List.Mem.head _ | apply List.Mem.tail)); done) rfl ?_ | refine Keep.grow (by (repeat (first | exact List.Mem.head _ | apply List.Mem.tail)); done) (by assumption) ?_ | refine Keep.base (by assumption) ?_)) (by kernel_rfl) ?_
      exact HX.cut b9 trivial esA (by repeat (first | exact Hs.nil _ | (refine Hs.cons pickA ?_)))
  rintro b9 -
  refine HC.seq ?_
  refine HC.cut (α := Option Addr × Nat) (fun _ => [(0, .slice (some ⟨bx, off, none⟩) rows.length c0), (4, .slice an i cn), (5, .slice ad i cd), (7, zv (i : Int)), (8, .pointer (some ⟨b8, 0, none⟩)), (9, .pointer (some ⟨b9, 0, none⟩))])
    (fun q => [A.grow 3 1 q.1 q.2 (mkNd N [y0, y1, y2, y3]).src.length (ints (mkNd N [y0, y1, y2, y3]).src), A.blk b9 (ndC (mkNd N [y0, y1, y2, y3]) (.slice q.1 (mkNd N [y0, y1, y2, y3]).src.length q.2)) 31, A.blk b8 (ints [y0, y1, y2, y3]) 70, A.grow 31 4 an cn i (ndsV z), A.grow 9 1 ad cd i (strs (madeD rows i)), A.all (rowsA z)]) (fun _ => True) ?_ ?_
  · by_cases h0 : 0 < i
    rotate_left
    · have h0' : ¬ (0 : Int) < (i : Int) := by omega
      have hm : mkNd N [y0, y1, y2, y3] = ⟨lastId N + 1 + pickI21 y0 3, 1, 1 + pickI21 y1 4, []⟩ := by
        unfold mkNd
        rw [if_neg fun h => by have := h.1; omega]
        rfl
      rw [hm]
      refine HC.grow0 3 1 ?_
      refine hwOC ?_
      exact HX.cut (none, 0) trivial esA (by repeat (first | exact Hs.nil _ | (refine Hs.cons pickA ?_)))
    have h0' : (0 : Int) < (i : Int) := by omega
    have q2 := pickI21_lt (y0.tdiv 3) (n := 3) (by decide)
    have u0 := w0.tdiv (n := 3) (by decide)
    have u1 := w1.tdiv (n := 4) (by decide)
    refine hwOC ?_
    refine HL.pa ?_ (POp.quoT rfl rfl w0.1 w0.2 (by decide))
    refine hwOC ?_
    refine HL.one (H1.call0 (vs := [_, zv 3]) rfl rfl (fun w' _ => rpick24_fn (y0.tdiv 3) 3 u0.1 u0.2 (by decide) w') ?_)
    by_cases hp : 0 < pickI21 (y0.tdiv 3) 3
    rotate_left
    · have hm : mkNd N [y0, y1, y2, y3] = ⟨lastId N + 1 + pickI21 y0 3, 1, 1 + pickI21 y1 4, []⟩ := by
        unfold mkNd
        rw [if_neg fun h => hp h.2]
        rfl
      rw [hm]
      refine HL.fold ?_
      refine HL.grow0 3 1 ?_
      refine hwOC ?_
      exact HX.cut (none, 0) trivial esA (by repeat (first | exact Hs.nil _ | (refine Hs.cons pickA ?_)))
    have hsrc : isSrc N [y0, y1, y2, y3] := ⟨by omega, hp⟩
    obtain ⟨a, hae, ha⟩ : ∃ a : Nat, pickI21 y2 (i : Int) = (a : Int) ∧ a < i := by
      have := pickI21_lt y2 (n := (i : Int)) (by omega)
      exact ⟨(pickI21 y2 (i : Int)).toNat, by omega, by omega⟩
    obtain ⟨b, hbe, hb⟩ : ∃ b : Nat, pickI21 y3 (i : Int) = (b : Int) ∧ b < i := by
      have := pickI21_lt y3 (n := (i : Int)) (by omega)
      exact ⟨(pickI21 y3 (i : Int)).toNat, by omega, by omega⟩
    have hm : mkNd N [y0, y1, y2, y3] = ⟨lastId N + 1 + pickI21 y0 3, 2 + pickI21 (y1.tdiv 4) 4, (ndAt N a).pack, (ndAt N (min a b)).id :: if a = b then [] else [(ndAt N (max a b)).id]⟩ := by
      have h1 : srcA N [y0, y1, y2, y3] = a := by
        show (pickI21 y2 (N.length : Int)).toNat = a
        rw [hll, hae]; rfl
      have h2 : srcB N [y0, y1, y2, y3] = b := by
        show (pickI21 y3 (N.length : Int)).toNat = b
        rw [hll, hbe]; rfl
      unfold mkNd
      rw [if_pos hsrc, h1, h2]
      rfl
    have q3 := pickI21_lt (y1.tdiv 4) (n := 4) (by decide)
    have gpa := (zGet hz (i := a) (by omega)).2
    have gmin := (zGet hz (i := min a b) (by omega)).1
    have gmax := (zGet hz (i := max a b) (by omega)).1
    have hmin : (min (a : Int) (b : Int)).toNat = min a b := by omega
    have hmax : (max (a : Int) (b : Int)).toNat = max a b := by omega
    rw [hm]
    generalize (ndAt N a).pack = pk at gpa hm ⊢
    generalize (ndAt N (min a b)).id = idn at gmin hm ⊢
    generalize (ndAt N (max a b)).id = idx at gmax hm ⊢
    refine HL.fold ?_
    refine HL.openg (e := 31) (sz := 4) (a := an) (c := cn) (n := i) (xs := ndsV z) memA (by omega) ?_
    rintro bn rfl
    refine hwOC ?_
    refine HL.pa ?_ (POp.quoT rfl rfl w1.1 w1.2 (by decide))
    refine hwOC ?_
    refine HL.one (H1.call0 (vs := [_, zv 4]) rfl rfl (fun w' _ => rpick24_fn (y1.tdiv 4) 4 u1.1 u1.2 (by decide) w') ?_)
    refine hwOC ?_
    refine HL.one (H1.st (b := b9) (i := 1) rfl rfl (by intro _ h; cases h) (by intro _ h; cases h) rplA (by show 1 < 4; decide) ?_)
    refine hwOC ?_
    refine HL.one (H1.call0 (vs := [zv y2, zv (i : Int)]) rfl rfl (fun w' _ => rpick24_fn y2 (i : Int) w2.1 w2.2 (by omega) w') ?_)
    rw [hae]
    refine hwOC ?_
    refine HL.one (H1.call0 (vs := [zv y3, zv (i : Int)]) rfl rfl (fun w' _ => rpick24_fn y3 (i : Int) w3.1 w3.2 (by omega) w') ?_)
    rw [hbe]
    refine hwOC ?_
    refine HL.one (H1.ldg (c := cn) (n := i) (sz := 4) (e := 31) (vs := ndsV z) (i := a * 4 + 2) rfl memA gpa rfl ?_)
    refine hwOC ?_
    refine HL.one (H1.st (b := b9) (i := 2) rfl rfl (by intro _ h; cases h) (by intro _ h; cases h) rplA (by show 2 < 4; decide) ?_)
    refine hwOC ?_
    refine HL.one (H1.ldg (c := cn) (n := i) (sz := 4) (e := 31) (vs := ndsV z) (i := min a b * 4) (by show some (Value.pointer (some ⟨bn, (min (a : Int) (b : Int)).toNat * 4 + 0, none⟩)) = _; rw [hmin]; rfl) memA gmin rfl ?_)
    refine hwOC ?_
    refine HL.one (H1.lit (cs := [zv idn]) rfl rfl rfl rfl rfl rfl (fun b10 => ?_))
    refine hwOC ?_
    refine HL.one (H1.st (b := b9) (i := 3) rfl rfl (by intro _ h; cases h) (by intro _ h; cases h) rplA (by show 3 < 4; decide) ?_)
    refine HL.fold ?_
    refine HL.conv24 (H2 := [A.blk b10 [zv idn] 3, A.blk b9 [zv (lastId N + 1 + pickI21 y0 3), zv (2 + pickI21 (y1.tdiv 4) 4), zv pk, .slice (some ⟨b10, 0, none⟩) 1 1] 31, A.blk b8 (ints [y0, y1, y2, y3]) 70, A.grow 31 4 (some ⟨bn, 0, none⟩) cn i (ndsV z), A.grow 9 1 ad cd i (strs (madeD rows i)), A.all (rowsA z)]) (fun w h => h) ?_
    by_cases hab : a = b
    · have hab' : ((a : Nat) : Int) = (b : Int) := by omega
      rw [if_pos hab]
      refine hwOC ?_
      refine HX.conv (fun w h => Mm.blkGrow (n := 1) (sz := 1) h rfl (by decide)) ?_
      exact HX.cut (some ⟨b10, 0, none⟩, 1) trivial esA (by repeat (first | exact Hs.nil _ | (refine Hs.cons pickA ?_)))
    have hab' : ¬ ((a : Nat) : Int) = (b : Int) := by omega
    rw [if_neg hab]
    refine hwOC ?_
    refine HC.anyU ([(12, ⟨b9, 3, none⟩, .slice (some ⟨b10, 0, none⟩) 1 1), (12, ⟨bn, max a b * 4, none⟩, zv idx)]) rfl ?_
    refine HU.pa 0 rfl ?_
    refine HU.ld (s := 12) 1 rfl rfl (.head _) ?_
    refine HU.pa 2 rfl ?_
    refine HU.pa 3 rfl ?_
    refine HU.pa 4 rfl ?_
    refine HU.pa 5 rfl ?_
    refine HU.pa 6 rfl ?_
    refine HU.pa 7 rfl ?_
    refine HU.ld (s := 12) (ad := ⟨bn, max a b * 4, none⟩) (v := zv idx) 8 rfl (by show some (Value.pointer (some ⟨bn, (max (a : Int) (b : Int)).toNat * 4 + 0, none⟩)) = _; rw [hmax]; rfl) (.tail _ (.head _)) ?_
    refine HU.all (by (first | refine KeepU.blk (by (repeat (first | exact List.Mem.head _ | apply List.Mem.tail)); done) rfl ?_ | refine KeepU.grow (by (repeat (first | exact List.Mem.head _ | apply List.Mem.tail)); done) (by assumption) ?_ | refine KeepU.base (by assumption) ?_); (first | refine KeepU.blk (by (repeat (first | exact List.Mem.head _ | apply List.Mem.tail)); done) rfl ?_ | refine KeepU.grow (by (repeat (first | exact List.Mem.head _ | apply List.Mem.tail)); done) (by assumption) ?_ | refine KeepU.base (by assumption) ?_); exact KeepU.nil) [9] (by kernel_rfl) rfl ⟨⟨_, rfl, ?_⟩, trivial⟩
    refine HV.one ?_
    refine H1.lit (cs := [zv idx]) rfl rfl rfl rfl rfl rfl (fun b11 => ?_)
    apply HU.fold
    refine HU.all (by (first | refine KeepU.blk (by (repeat (first | exact List.Mem.head _ | apply List.Mem.tail)); done) rfl ?_ | refine KeepU.grow (by (repeat (first | exact List.Mem.head _ | apply List.Mem.tail)); done) (by assumption) ?_ | refine KeepU.base (by assumption) ?_); (first | refine KeepU.blk (by (repeat (first | exact List.Mem.head _ | apply List.Mem.tail)); done) rfl ?_ | refine KeepU.grow (by (repeat (first | exact List.Mem.head _ | apply List.Mem.tail)); done) (by assumption) ?_ | refine KeepU.base (by assumption) ?_); exact KeepU.nil) [10] (by kernel_rfl) rfl ⟨⟨_, rfl, ?_⟩, trivial⟩
    refine HV.one ?_
    refine H1.conv2 (H2 := A.grow 3 1 (some ⟨b10, 0, none⟩) 1 1 [zv idn] :: [A.blk b11 [zv idx] 3, A.blk b9 [zv (lastId N + 1 + pickI21 y0 3), zv (2 + pickI21 (y1.tdiv 4) 4), zv pk, .slice (some ⟨b10, 0, none⟩) 1 1] 31, A.blk b8 (ints [y0, y1, y2, y3]) 70, A.grow 31 4 (some ⟨bn, 0, none⟩) cn i (ndsV z), A.grow 9 1 ad cd i (strs (madeD rows i)), A.all (rowsA z)]) (fun w h => Mm.blkGrow (n := 1) (sz := 1) (h.sub (by repeat (first | exact Hs.nil _ | (refine Hs.cons pickA ?_)))) rfl (by decide)) ?_
    refine H1.app1 (u := zv idx) rfl rfl (fun _ _ => by first | ((repeat (first | with_reducible exact Rpl.here | with_reducible apply Rpl.there)); done) | (repeat (first | exact Rpl.here | apply Rpl.there))) memA rfl rfl (by omega) rfl rfl (fun a' c' => ?_)
    apply HU.fold
    refine HU.pa 11 rfl ?_
    refine HU.all (by (first | refine KeepU.blk (by (repeat (first | exact List.Mem.head _ | apply List.Mem.tail)); done) rfl ?_ | refine KeepU.grow (by (repeat (first | exact List.Mem.head _ | apply List.Mem.tail)); done) (by assumption) ?_ | refine KeepU.base (by assumption) ?_); (first | refine KeepU.blk (by (repeat (first | exact List.Mem.head _ | apply List.Mem.tail)); done) rfl ?_ | refine KeepU.grow (by (repeat (first | exact List.Mem.head _ | apply List.Mem.tail)); done) (by assumption) ?_ | refine KeepU.base (by assumption) ?_); exact KeepU.nil) [12] (by kernel_rfl) rfl ⟨⟨_, rfl, ?_⟩, trivial⟩
    refine HV.one ?_
    refine H1.st (b := b9) (i := 3) rfl rfl (by intro _ h; cases h) (by intro _ h; cases h) rplA (by show 3 < 4; decide) ?_
    apply HU.fold
    refine HU.done (by refine KeepU.skip (by kernel_rfl) ?_; refine KeepU.skip (by kernel_rfl) ?_; exact KeepU.nil) (by kernel_rfl) ?_
    refine hwOC ?_
    exact HX.cut (some ⟨a', 0, none⟩, c') trivial esA (by repeat (first | exact Hs.nil _ | (refine Hs.cons pickA ?_)))
  rintro ⟨az, cz⟩ -
  dsimp only
  generalize hM0 : mkNd N [y0, y1, y2, y3] = n at hstep hid hlast2 ⊢
  have hzn : ndsZ (z ++ [(n, az, cz)]) = madeL rows (i + 1) := by
    rw [hstep]
    unfold ndsZ at hz ⊢
    rw [List.map_append, hz]; rfl
  have hnv : ndsV z ++ ndC n (.slice az n.src.length cz) = ndsV (z ++ [(n, az, cz)]) := (ndsV_snoc z (n, az, cz)).symm
  have hi3 : i64W (i : Int) := by unfold i64W; omega
  refine hwOC ?_
  refine HL.one (H1.ldAgg (b := b9) (vs := ndC n (.slice az n.src.length cz)) rfl memA rfl (fun i v hv => by rw [Nat.zero_add]; exact hv) rfl ?_)
  refine hwOC ?_
  refine HL.one (H1.lit (cs := ndC n (.slice az n.src.length cz)) rfl rfl rfl rfl rfl rfl (fun b10 => ?_))
  refine hwOC ?_
  refine HL.one (H1.app (sz := 4) (m := 1) (news := ndC n (.slice az n.src.length cz)) rfl (by decide) rfl rfl (fun _ _ => by first | ((repeat (first | with_reducible exact Rpl.here | with_reducible apply Rpl.there)); done) | (repeat (first | exact Rpl.here | apply Rpl.there))) rfl (fun w' hM j u hj => by rw [add_lit, Nat.zero_add]; exact (hM.blk (b := b10) memA).cell hj) (nd_one rfl) (by omega) (by decide) rfl (fun an2 cn2 _ => ?_))
  rw [hnv]
  refine hwOC ?_
  refine HL.one (H1.lit (cs := ints [y2, (i : Int)]) rfl rfl rfl rfl rfl rfl (fun b11 => ?_))
  refine hwOC ?_
  refine HL.one (H1.callx (vs := [_]) rfl rfl (fun w' hM => numbers24_fn (.slice (some ⟨b11, 0, none⟩) 2 2) [y2, (i : Int)] (by show 2 ≤ _; omega) (fun x hx => by
    simp only [List.mem_cons, List.not_mem_nil, or_false] at hx
    rcases hx with rfl | rfl
    · exact w2
    · exact hi3) w' (blk_rd (hM.blk (b := b11) memA) rfl)) ?_)
  refine hwOC ?_
  refine HL.one (H1.callx (vs := [_]) rfl rfl (fun w' hM => refSum_fn (rnsB [y2, (i : Int)]) (by have := rnsB_size [y2, (i : Int)]; simp only [List.length_cons, List.length_nil] at this; omega) w') ?_)
  refine hwOC ?_
  refine HL.one (H1.lit (cs := [.string (sumS (rnsB [y2, (i : Int)]))]) rfl rfl rfl rfl rfl rfl (fun b12 => ?_))
  refine hwOC ?_
  refine HL.one (H1.app1 (u := .string (sumS (rnsB [y2, (i : Int)]))) rfl rfl (fun _ _ => by first | ((repeat (first | with_reducible exact Rpl.here | with_reducible apply Rpl.there)); done) | (repeat (first | exact Rpl.here | apply Rpl.there))) memA rfl rfl (by omega) rfl rfl (fun ad2 cd2 => ?_))
  rw [hdst]
  refine hwOC ?_
  refine HX.conv (H2 := A.all (rowsA (z ++ [(n, az, cz)])) :: [A.grow 31 4 an2 cn2 (i + 1) (ndsV (z ++ [(n, az, cz)])), A.grow 9 1 (some ⟨ad2, 0, none⟩) cd2 (i + 1) (strs (madeD rows (i + 1)))]) (fun w h => by
    rw [rowsA_snoc]
    exact Mm.allAdd (h.sub (Hs.cons (a := A.grow 3 1 az cz n.src.length (ints n.src)) pickA (Hs.cons (a := A.all (rowsA z)) pickA (by repeat (first | exact Hs.nil _ | (refine Hs.cons pickA ?_))))))) ?_
  exact HX.again (i + 1, z ++ [(n, az, cz)], (an2, cn2), some ⟨ad2, 0, none⟩, cd2) ⟨hlt, h20, hzn⟩ (by show 20 - (i + 1) < 20 - i; omega) (by dsimp only; rw [hlast2]; repeat (first | exact trivial | refine ⟨rfl, ?_⟩)) (by repeat (first | exact Hs.nil _ | (refine Hs.cons pickA ?_)))
end Go.Sx
/- Chapter 24: equal nodes, equal texts: the walks. -/
namespace Go.Sx
open Go Go.Proofs Go.RowKit
attribute [local irreducible] WC WL WX POp Then Again Fn NX W1 WA WO QL RP RA Yld LoopAt HC HL HX HN H1 HA HO HQ HB HP A.blk A.grow A.rd A.obj A.mp AgainH CutH
attribute [local irreducible] A.mq A.mit A.all sumS
end Go.Sx
/- Chapter 24: a base with an order: the walk. -/
namespace Go.Sx
open Go Go.Proofs Go.RowKit
def askR (pk fr : Int) : Rc := ⟨8, 5, 1, 0, false, fr, 0, pk, 0, 0, 0, 1, false, 0, ⟨#[]⟩⟩
theorem Mm.slotR24 {w0 w : World} {H : List Atom} {q : Nat → Slot} (h : Mm w0 H w) (hm : bsA q ∈ H) {i : Nat} (hi : i < 8) : RdR w (slot (q i)) (bsL q i) := by
  have hp : ∀ x ∈ slots q, x.p w := h.all _ hm
  exact RdR.of_owns (hp _ (List.mem_map.2 ⟨i, List.mem_range.2 hi, rfl⟩))
theorem of_len24 {l : List Rc} {day k : Int} {L : List Rc} (h : IsOf l day k L) : L.length ≤ l.length :=
  nodup_len (h.asc.imp fun h e => by subst e; omega) fun r hr => ((h.mem r).1 hr).1.1.mem
/-- A base with one order. -/
structure AskV (w : World) (v : Value) (B : Nat → List Rc) (r : Rc) : Prop where
  base : BaseV w v B
  ord : B 7 = [r]
  h4 : (B 4).length ≤ 30
  h5 : (B 5).length ≤ 30
attribute [local irreducible] WC WL WX POp Then Again Fn NX W1 WA WO QL RP RA Yld LoopAt HC HL HX HN H1 HA HO HQ HB HP A.blk A.grow A.rd A.obj A.mp AgainH CutH
attribute [local irreducible] A.dfr A.loop bsA
end Go.Sx
/- Chapter 24: a base with an order and nothing else: the walk. -/
namespace Go.Sx
open Go Go.Proofs Go.RowKit
theorem hwOK {G G2 : Prop} (x : G2) (hwq : Hold G2 → G := by
    intro hQq
    repeat' (first | refine HL.pa ?_ (POp.nilCheck rfl) | apply HL.fold | apply HA.fold | apply HL.nil | apply HX.n_then | apply HC.seq | apply HC.region | refine HL.pa ?_ | refine HL.ga rfl ?_ | refine HL.na rfl ?_ | refine HL.nu rfl rfl ?_ | apply HC.block | apply HC.skip | apply HC.exit | apply HC.ret | apply HX.e_block | refine HX.e_other rfl ?_ | apply HX.e_then | apply HX.e_again | apply HX.n_block | apply HX.r_then | apply HX.r_block | apply HX.r_again | refine HC.cond_yes rfl ?_ | refine HC.cond_no rfl ?_ | refine HL.one (H1.ldb rfl memA rfl rfl ?_) | refine HC.cond rfl (fun hc => ?_) (fun hc => ?_) | refine HC.cond_b rfl (fun hc => ?_) (fun hc => ?_))
    exact hQq.get) : G := hwq ⟨x⟩
attribute [local irreducible] WC WL WX POp Then Again Fn NX W1 WA WO QL RP RA Yld LoopAt HC HL HX HN H1 HA HO HQ HB HP A.blk A.grow A.rd A.obj A.mp AgainH CutH
attribute [local irreducible] A.dfr A.loop bsA
theorem someNil_fn (w : World) : Fn Tryz.prog 58 #[.slice none 0 0] w fun u w' => u = .slice none 0 0 ∧ Ext w w' := by
  refine enterH (l := [_]) rfl Tryz.ntmps58 rfl ?_
  refine hwOK ?_
  refine HC.loop (α := Unit) (fun _ => [(0, .slice none 0 0), (3, .slice none 0 0), (4, zv 0)]) (fun _ => []) (fun _ => True) (fun _ => 0) () trivial esA (Hs.refl _) ?_
  rintro - -
  have h : ¬ (0 : Int) < ((0 : Nat) : Int) := by decide
  refine hwOK ?_
  exact HX.ret1 rfl rfl fun w' hM => ⟨rfl, hM.ext⟩
set_option maxHeartbeats 2000000 in
theorem askedNil_fn (pack fr : Int) (hp : i64W pack) (hf : i64W fr) (w : World) :
    Fn Tryz.prog 24 #[.slice none 0 0, zv pack, zv fr] w fun u w' => (∃ B, AskV w' u B (askR (1 + pickI21 pack 5) (pickI21 fr 60)) ∧ B 4 = []) ∧ Ext w w' := by
  have q1 := pickI21_lt pack (n := 5) (by decide)
  have q2 := pickI21_lt fr (n := 60) (by decide)
  refine enterH (l := [_, _, _]) rfl Tryz.ntmps24 rfl ?_
  refine hwOK ?_
  refine HL.one (H1.alloc (cs := row 8 fun _ => .slice none 0 0) rfl rfl (fun b6 => ?_))
  refine hwOK ?_
  refine HL.one (H1.callx (vs := [.slice none 0 0]) rfl rfl (fun w' hM => someNil_fn w') ?_)
  refine hwOK ?_
  refine HL.one (H1.callz1 (α := Nat → Slot) (V := fun q => bsV q) (An := fun q => bsA q) (I := fun q => ∀ i : Nat, i < 8 → IsOf [] 100000 ((i : Int) + 1) (bsL q i)) (vs := [.slice none 0 0, zv 100000]) rfl rfl (fun w' hM => of_fn none 0 [] (Nat.zero_le _) (fun r hr => by cases hr) 100000 w' (RdR.nil w' none 0)) ?_)
  intro q hq
  refine hwOK ?_
  refine HL.one (H1.alloc (cs := row 8 fun _ => .slice none 0 0) rfl rfl (fun b7 => ?_))
  refine hwOK ?_
  refine HL.one (H1.stAgg (b := b7) (cs := row 8 fun _ => .slice none 0 0) (vs := row 8 fun i => slot (q i)) rfl rfl rfl (by
    intro v hv
    obtain ⟨i, -, rfl⟩ := List.mem_map.1 hv
    rfl) rplA rfl ?_)
  refine hwOK ?_
  refine HL.one (H1.call0 (vs := [zv fr, zv 60]) rfl rfl (fun w' _ => lpick24_fn fr 60 hf.1 hf.2 (by decide) w') ?_)
  refine hwOK ?_
  refine HL.one (H1.call0 (vs := [zv pack, zv 5]) rfl rfl (fun w' _ => lpick24_fn pack 5 hp.1 hp.2 (by decide) w') ?_)
  refine hwOK ?_
  refine HL.build (cs := rcells (askR (1 + pickI21 pack 5) (pickI21 fr 60))) rfl rfl rfl ?_
  refine hwOK ?_
  refine HL.one (H1.lit (cs := rcells (askR (1 + pickI21 pack 5) (pickI21 fr 60))) rfl rfl rfl rfl rfl rfl (fun b8 => ?_))
  refine hwOK ?_
  refine HL.one (H1.st (b := b7) (i := 7) rfl rfl (by intro _ h; cases h) (by intro _ h; cases h) rplA (by show 7 < 8; decide) ?_)
  rw [show (row 8 fun i => slot (q i)).set 7 (.slice (some ⟨b8, 0, none⟩) 1 1) = row 8 fun i => if i = 7 then .slice (some ⟨b8, 0, none⟩) 1 1 else slot (q i) from rfl]
  refine hwOK ?_
  refine HL.one (H1.ldAgg (b := b7) (vs := row 8 fun i => if i = 7 then .slice (some ⟨b8, 0, none⟩) 1 1 else slot (q i)) rfl memA rfl (fun i v h => by rwa [Nat.zero_add]) rfl ?_)
  refine hwOK ?_
  refine HL.one (H1.stAgg (b := b6) (cs := row 8 fun _ => .slice none 0 0) (vs := row 8 fun i => if i = 7 then .slice (some ⟨b8, 0, none⟩) 1 1 else slot (q i)) rfl rfl rfl (by
    intro v hv
    obtain ⟨i, -, rfl⟩ := List.mem_map.1 hv
    by_cases h : i = 7
    · rw [if_pos h]; rfl
    · rw [if_neg h]; rfl) rplA rfl ?_)
  refine hwOK ?_
  refine HX.retc1 (b := b6) (cs := row 8 fun i => if i = 7 then .slice (some ⟨b8, 0, none⟩) 1 1 else slot (q i)) rfl rfl memA rfl fun w' hM => ⟨⟨fun i => if i = 7 then [askR (1 + pickI21 pack 5) (pickI21 fr 60)] else bsL q i, ⟨⟨_, rfl, fun i hi => ?_⟩, rfl, ?_, ?_⟩, ?_⟩, hM.ext⟩
  · by_cases h : i = 7
    · subst h
      exact RdR.of_blk (l := [askR (1 + pickI21 pack 5) (pickI21 fr 60)]) (hM.blk (b := b8) memA)
    · dsimp only
      rw [if_neg h, if_neg h]
      exact hM.slotR24 memA hi
  · exact Nat.le_trans (of_len24 (hq 4 (by decide))) (Nat.zero_le _)
  · exact Nat.le_trans (of_len24 (hq 5 (by decide))) (Nat.zero_le _)
  · exact List.length_eq_zero_iff.1 (Nat.le_zero.1 (of_len24 (hq 4 (by decide))))
end Go.Sx
/- Plain, chapter 24: what is left after two orders does not depend on which comes first. -/
namespace Go.Sx
open Go Go.RowKit
theorem mem_goneL {l : List Nd} (hv : ValidP l) {pk : Int} {n : Nd} (hn : n ∈ l) : n.id ∈ goneL l pk ↔ n.pack = pk ∨ ∃ x ∈ n.src, x ∈ goneL l pk := by
  obtain ⟨i, hi, rfl⟩ := mem_nd.1 hn
  have := mem_derL hv (fun i => decide ((ndAt l i).pack = pk)) hi
  rwa [decide_eq_true_eq] at this
def leftN1 (l : List Nd) (g : List Int) : List Nd := l.filter fun n => decide (n.id ∈ g) == false
end Go.Sx
/- Chapter 24: the law LineageOrders: the walk. -/
namespace Go.Sx
open Go Go.Proofs Go.RowKit
/-- What Delete returns, whatever it is. -/
structure AnyD where
  x1 : Option Addr × Nat × Nat
  x2 : Option Addr × Nat × Nat
  o : Int
  d : Int
  b : ByteArray
  a : ByteArray
  x3 : Option Addr × Nat × Nat
  x4 : Option Addr × Nat × Nat
  e : Int
def slV (x : Option Addr × Nat × Nat) : Value := .slice x.1 x.2.1 x.2.2
def anyT (z : AnyD) : List Value := [zv z.o, zv z.d, .string z.b, .string z.a, slV z.x3, slV z.x4]
def anyDV (z : AnyD) : Value := .tuple #[slV z.x1, slV z.x2, .agg (anyT z).toArray, zv z.e]
/-- A base with orders alone. -/
def ordB (L : List Rc) (i : Nat) : List Rc := if i = 7 then L else []
def ordR (id pk : Int) : Rc := ⟨8, id, 1, 0, false, 0, 0, pk, 0, 0, 0, 1, false, 0, ⟨#[]⟩⟩
theorem ok_sizes {l : List Nd} {D : List ByteArray} (h : okS l D = true) : l.length ≤ 400000 ∧ (∀ i, i < l.length → (ndAt l i).src.length ≤ 1000000) ∧ D.length ≤ 1000000 ∧ ∀ d ∈ D, d.size ≤ 1000 := by
  have hv := okS_valid h
  have hf := okS_facts h
  have := hv.len
  exact ⟨by omega, fun i hi => by have := (hasN_iff.1 (hv.node i hi)).len; omega, by omega, fun d hd => by rw [hf.2.2 d hd]; decide⟩
theorem made_ok (rows : List (List Int)) : okS (madeL rows (madeN rows)) (madeD rows (madeN rows)) = true :=
  okS_of (madeL_ok rows (madeN rows) (by unfold madeN; omega)).valid (by rw [madeL_len, madeD_len]) (madeD_size rows _)
attribute [local irreducible] WC WL WX POp Then Again Fn NX W1 WA WO QL RP RA Yld LoopAt HC HL HX HN H1 HA HO HQ HB HP A.blk A.grow A.rd A.obj A.mp AgainH CutH
attribute [local irreducible] A.mq A.mit A.all sumS rootP
end Go.Sx
/- Chapter 24: the law LineageClosed: the walk. -/
namespace Go.Sx
open Go Go.Proofs Go.RowKit
/-- The numbers of the nodes that are chosen. -/
def selL (l : List Nd) (f : Nat → Bool) : Nat → List Int
  | 0 => []
  | k + 1 => if f k = true then selL l f k ++ [(ndAt l k).id] else selL l f k
theorem selL_yes {l : List Nd} {f : Nat → Bool} {k : Nat} (h : f k = true) : selL l f (k + 1) = selL l f k ++ [(ndAt l k).id] := if_pos h
theorem selL_no {l : List Nd} {f : Nat → Bool} {k : Nat} (h : f k = false) : selL l f (k + 1) = selL l f k := if_neg (by rw [h]; decide)
/-- The bit of a number. -/
def bitB (p : Int) (i : Nat) : Bool := decide (p / 2 ^ i % 2 = 1)
attribute [local irreducible] WC WL WX POp Then Again Fn NX W1 WA WO QL RP RA Yld LoopAt HC HL HX HN H1 HA HO HQ HB HP A.blk A.grow A.rd A.obj A.mp AgainH CutH
attribute [local irreducible] A.mq A.mit A.all sumS
end Go.Sx
/- Chapter 24: the law LineageHeld: the walk. -/
namespace Go.Sx
open Go Go.Proofs Go.RowKit
/-- The numbers of a package's nodes. -/
def ownL (l : List Nd) (pk : Int) : List Int := selL l (fun i => decide ((ndAt l i).pack = pk)) l.length
/-- Whether the law takes a deletion as stopped. -/
def stopB (B : Nat → List Rc) (l : List Nd) (G : List Int) (fr d : Int) : Bool := (decide (d < fr) || decide ((G.length : Int) = 0)) || l.any fun n => G.any fun x => decide (n.id = x) && heldN B d n
theorem BaseV.slices24 {w : World} {vb : Value} {B : Nat → List Rc} (h : BaseV w vb B) : ∃ t : Nat → Option Addr × Nat × Nat, vb = .agg (row 8 fun i => .slice (t i).1 (t i).2.1 (t i).2.2).toArray ∧ ∀ i, i < 8 → RdR w (.slice (t i).1 (t i).2.1 (t i).2.2) (B i) := by
  obtain ⟨s, rfl, hs⟩ := h
  have h1 : ∀ i, ∃ t : Option Addr × Nat × Nat, i < 8 → s i = .slice t.1 t.2.1 t.2.2 := fun i => by
    by_cases hi : i < 8
    · obtain ⟨a, c, e, -⟩ := (hs i hi).shape
      exact ⟨(a, (B i).length, c), fun _ => e⟩
    · exact ⟨(none, 0, 0), fun h => absurd h hi⟩
  obtain ⟨t, ht⟩ := Classical.axiomOfChoice h1
  exact ⟨t, by rw [row_congr ht], fun i hi => by rw [← ht i hi]; exact hs i hi⟩
theorem AskV.cells {w : World} {vb : Value} {B : Nat → List Rc} {r : Rc} (h : AskV w vb B r) : ∃ (t : Nat → Option Addr × Nat × Nat) (bo oo c7 : Nat), vb = .agg #[.slice (t 0).1 (t 0).2.1 (t 0).2.2, .slice (t 1).1 (t 1).2.1 (t 1).2.2, .slice (t 2).1 (t 2).2.1 (t 2).2.2, .slice (t 3).1 (t 3).2.1 (t 3).2.2, .slice (t 4).1 (t 4).2.1 (t 4).2.2, .slice (t 5).1 (t 5).2.1 (t 5).2.2, .slice (t 6).1 (t 6).2.1 (t 6).2.2, .slice (some ⟨bo, oo, none⟩) 1 c7] ∧ ∀ i u, (rcells r)[i]? = some u → w.cell? ⟨bo, oo + i, none⟩ = some u := by
  obtain ⟨t, rfl, ht⟩ := h.base.slices24
  have h7 := ht 7 (by decide)
  rw [h.ord] at h7
  obtain ⟨a, c, e, -⟩ := id h7.shape
  rw [e] at h7
  obtain ⟨b, off, rfl, -, hc⟩ := h7.at (by simp)
  refine ⟨t, b, off, c, ?_, fun i u hu => ?_⟩
  · have e2 : Value.slice (t 7).1 (t 7).2.1 (t 7).2.2 = .slice (some ⟨b, off, none⟩) 1 c := e
    rw [← e2]; rfl
  · have := hc 0 r rfl i u hu
    rwa [Nat.zero_mul, Nat.add_zero] at this
attribute [local irreducible] WC WL WX POp Then Again Fn NX W1 WA WO QL RP RA Yld LoopAt HC HL HX HN H1 HA HO HQ HB HP A.blk A.grow A.rd A.obj A.mp AgainH CutH
attribute [local irreducible] A.mq A.mit A.all sumS rootP
end Go.Sx
/- Plain, chapter 24: rounds of marks come to what was derived. -/
namespace Go.Sx
open Go Go.Proofs Go.RowKit
def boolsF (F : List Bool) : List Value := F.map Value.bool
def getF (F : List Bool) (i : Nat) : Bool := F.getD i false
theorem boolsF_len (F : List Bool) : (boolsF F).length = F.length := List.length_map ..
theorem boolsF_get {F : List Bool} {i : Nat} (h : i < F.length) : (boolsF F)[i]? = some (.bool (getF F i)) := by
  unfold boolsF getF
  rw [List.getElem?_map, List.getElem?_eq_getElem h]
  simp [List.getD, h]
theorem boolsF_set (F : List Bool) (i : Nat) (v : Bool) : (boolsF F).set i (.bool v) = boolsF (F.set i v) := by unfold boolsF; rw [List.map_set]
theorem getF_set {F : List Bool} {i : Nat} {v : Bool} (h : i < F.length) : getF (F.set i v) i = v := by unfold getF; simp [List.getD, h]
theorem getF_ne {F : List Bool} {i j : Nat} {v : Bool} (h : i ≠ j) : getF (F.set i v) j = getF F j := by unfold getF; simp [List.getD, List.getElem?_set_ne h]
theorem getF_no (n i : Nat) : getF (List.replicate n false) i = false := by
  unfold getF
  rw [List.getD_eq_getElem?_getD, List.getElem?_replicate]
  split <;> rfl
/-- Marks, after some rounds (r: after one at least), before the node i. -/
structure InI (l : List Nd) (g : List Int) (r : Prop) (i : Nat) (F : List Bool) : Prop where
  len : F.length = l.length
  snd : ∀ j, j < l.length → getF F j = true → (ndAt l j).id ∈ g
  bef : ∀ j, (j < i ∨ r) → j < l.length → (ndAt l j).id ∈ g → getF F j = true
theorem InI.zero' (l : List Nd) (g : List Int) : InI l g (0 < 0) 0 (List.replicate l.length false) :=
  ⟨List.length_replicate, fun j _ h => (by rw [getF_no] at h; cases h), fun j h _ _ => (h.elim (fun h => absurd h (Nat.not_lt_zero _)) fun h => absurd h (Nat.lt_irrefl _))⟩
theorem InI.step {l : List Nd} {g : List Int} {r : Prop} {i : Nat} {F : List Bool} (h : InI l g r i F) (hi : i < l.length) {v : Bool} (h1 : getF F i = true → v = true) (h2 : v = true → (ndAt l i).id ∈ g) : InI l g r i (F.set i v) := by
  have hl : i < F.length := by rw [h.len]; exact hi
  refine ⟨by rw [List.length_set]; exact h.len, fun j hj hf => ?_, fun j hj hjl hg => ?_⟩
  · by_cases e : i = j
    · subst e; rw [getF_set hl] at hf; exact h2 hf
    · rw [getF_ne e] at hf; exact h.snd j hj hf
  · by_cases e : i = j
    · subst e; rw [getF_set hl]; exact h1 (h.bef i hj hjl hg)
    · rw [getF_ne e]; exact h.bef j hj hjl hg
theorem InI.next {l : List Nd} {g : List Int} {r : Prop} {i : Nat} {F : List Bool} (h : InI l g r i F) (h1 : i < l.length → (ndAt l i).id ∈ g → getF F i = true) : InI l g r (i + 1) F :=
  ⟨h.len, h.snd, fun j hj hjl hg => by
    by_cases e : j = i
    · subst e; exact h1 hjl hg
    · exact h.bef j (hj.elim (fun hj => .inl (by omega)) .inr) hjl hg⟩
theorem InI.round {l : List Nd} {g : List Int} {r : Prop} {F : List Bool} (h : InI l g r l.length F) {q : Prop} : InI l g q 0 F :=
  ⟨h.len, h.snd, fun j _ hjl hg => h.bef j (.inl hjl) hjl hg⟩
/-- Before the source k of the node i. -/
structure InK (l : List Nd) (pk : Int) (r : Prop) (i k : Nat) (F : List Bool) : Prop where
  ini : InI l (goneL l pk) r i F
  own : (ndAt l i).pack = pk → getF F i = true
  src : ∀ k', k' < k → getI (ndAt l i).src k' ∈ goneL l pk → getF F i = true
theorem InK.done {l : List Nd} (hv : ValidP l) {pk : Int} {r : Prop} {i : Nat} {F : List Bool} (hi : i < l.length) (h : InK l pk r i (ndAt l i).src.length F) : InI l (goneL l pk) r (i + 1) F :=
  h.ini.next fun _ hg => by
    rcases (mem_goneL hv (mem_nd.2 ⟨i, hi, rfl⟩)).1 hg with hg | ⟨x, hx, hg⟩
    · exact h.own hg
    · obtain ⟨k, hk, e⟩ := List.mem_iff_getElem.1 hx
      refine h.src k hk ?_
      rw [show getI (ndAt l i).src k = x from by unfold getI; simp [hk, e]]
      exact hg
/-- Before the node j, at the source k of the node i. -/
structure InJ (l : List Nd) (pk : Int) (r : Prop) (i k j : Nat) (F : List Bool) : Prop where
  ink : InK l pk r i k F
  at' : ∀ j', j' < j → getF F j' = true → (ndAt l j').id = getI (ndAt l i).src k → getF F i = true
theorem InK.start {l : List Nd} {pk : Int} {r : Prop} {i k : Nat} {F : List Bool} (h : InK l pk r i k F) : InJ l pk r i k 0 F := ⟨h, fun _ h => absurd h (Nat.not_lt_zero _)⟩
theorem InJ.done {l : List Nd} (hv : ValidP l) {pk : Int} {r : Prop} {i k : Nat} {F : List Bool} (hi : i < l.length) (hk : k < (ndAt l i).src.length) (h : InJ l pk r i k i F) : InK l pk r i (k + 1) F :=
  ⟨h.ink.ini, h.ink.own, fun k' hk' hg => by
    by_cases e : k' = k
    · subst e
      obtain ⟨j, hj, hx⟩ := hv.src hi (getI_mem hk)
      exact h.at' j hj (h.ink.ini.bef j (.inl hj) (by omega) (hx ▸ hg)) hx.symm
    · exact h.ink.src k' (by omega) hg⟩
theorem InJ.step {l : List Nd} (hv : ValidP l) {pk : Int} {r : Prop} {i k j : Nat} {F : List Bool} (hi : i < l.length) (hk : k < (ndAt l i).src.length) (hj : j < i) (h : InJ l pk r i k j F) {v : Bool} (e : v = (getF F i || (getF F j && decide ((ndAt l j).id = getI (ndAt l i).src k)))) : InJ l pk r i k (j + 1) (F.set i v) := by
  have hl : i < F.length := by rw [h.ink.ini.len]; exact hi
  have h1 : getF F i = true → v = true := fun h => by rw [e, h]; rfl
  have h2 : v = true → (ndAt l i).id ∈ goneL l pk := fun hv2 => by
    rw [e, Bool.or_eq_true, Bool.and_eq_true, decide_eq_true_eq] at hv2
    rcases hv2 with h3 | ⟨h3, h4⟩
    · exact h.ink.ini.snd i hi h3
    · exact (mem_goneL hv (mem_nd.2 ⟨i, hi, rfl⟩)).2 (.inr ⟨_, getI_mem hk, h4 ▸ h.ink.ini.snd j (by omega) h3⟩)
  refine ⟨⟨h.ink.ini.step hi h1 h2, fun hp => ?_, fun k' hk' hg => ?_⟩, fun j' hj' hf he => ?_⟩
  · rw [getF_set hl]; exact h1 (h.ink.own hp)
  · rw [getF_set hl]; exact h1 (h.ink.src k' hk' hg)
  · rw [getF_set hl]
    rw [getF_ne (by omega)] at hf
    by_cases ej : j' = j
    · subst ej
      rw [e, hf, decide_eq_true he]; simp
    · exact h1 (h.at' j' (by omega) hf he)
theorem InI.first {l : List Nd} (hv : ValidP l) {pk : Int} {r : Prop} {i : Nat} {F : List Bool} (hi : i < l.length) (h : InI l (goneL l pk) r i F) {v : Bool} (e : v = (getF F i || decide ((ndAt l i).pack = pk))) : InK l pk r i 0 (F.set i v) := by
  have hl : i < F.length := by rw [h.len]; exact hi
  refine ⟨h.step hi (fun h => by rw [e, h]; rfl) fun hv2 => ?_, fun hp => ?_, fun _ h => absurd h (Nat.not_lt_zero _)⟩
  · rw [e, Bool.or_eq_true, decide_eq_true_eq] at hv2
    rcases hv2 with h3 | h3
    · exact h.snd i hi h3
    · exact (mem_goneL hv (mem_nd.2 ⟨i, hi, rfl⟩)).2 (.inl h3)
  · rw [getF_set hl, e, decide_eq_true hp]; simp
theorem InI.all {l : List Nd} {g : List Int} {r : Prop} {i : Nat} {F : List Bool} (h : InI l g r i F) (hr : r) {j : Nat} (hj : j < l.length) : getF F j = decide ((ndAt l j).id ∈ g) := by
  rw [Bool.eq_iff_iff, decide_eq_true_eq]
  exact ⟨h.snd j hj, h.bef j (.inr hr) hj⟩
theorem filt_at {α : Type} {L : List α} {p : α → Bool} {i : Nat} {x : α} (h : L[i]? = some x) (hp : p x = true) : (L.filter p)[((L.take i).filter p).length]? = some x := by
  have hlt := (List.getElem?_eq_some_iff.1 h).1
  have e : L = L.take i ++ x :: L.drop (i + 1) := by
    rw [← (List.getElem?_eq_some_iff.1 h).2, ← List.drop_eq_getElem_cons hlt, List.take_append_drop]
  conv => lhs; arg 1; rw [e]
  rw [List.filter_append, List.getElem?_append_right (Nat.le_refl _), Nat.sub_self, List.filter_cons, if_pos hp]
  rfl
theorem filt_take {α : Type} {L : List α} {p : α → Bool} {i : Nat} {x : α} (h : L[i]? = some x) : ((L.take (i + 1)).filter p).length = ((L.take i).filter p).length + (if p x = true then 1 else 0) := by
  rw [List.take_add_one, h, List.filter_append, List.length_append]
  show _ + (List.filter p [x]).length = _
  congr 1
  by_cases hp : p x = true
  · rw [if_pos hp, List.filter_cons, if_pos hp]; rfl
  · rw [if_neg hp, List.filter_cons, if_neg hp]; rfl
theorem held_nil {B : Nat → List Rc} (h : B 4 = []) (d : Int) (n : Nd) : heldN B d n = false := by
  unfold heldN heldL
  rw [h]
  have e : numL ([] : List Int) = [] := List.eq_nil_iff_forall_not_mem.2 fun x hx => by
    unfold numL at hx
    rw [compact_mem, mem_srtI] at hx
    cases hx
  rw [show ((([] : List Rc).filter (heldB (B 5) n.pack d)).map Rc.id) = [] from rfl, e]
  rfl
theorem any_no {α : Type} (l : List α) (p : α → Bool) (h : ∀ x, p x = false) : l.any p = false := by
  rw [List.any_eq_false]
  intro x _
  rw [h]; decide
end Go.Sx
/- Chapter 24: the law LineageDeletes: the walk. -/
namespace Go.Sx
open Go Go.Proofs Go.RowKit
theorem hwOR {G G2 : Prop} (x : G2) (hwq : Hold G2 → G := by
    intro hQq
    repeat' (first | refine HL.pa ?_ (POp.nilCheck rfl) | apply HL.fold | apply HA.fold | apply HL.nil | apply HX.n_then | apply HC.seq | apply HC.region | refine HL.pa ?_ | refine HL.ga rfl ?_ | refine HL.na rfl ?_ | refine HL.nu rfl rfl ?_ | apply HC.block | apply HC.skip | apply HC.exit | apply HC.ret | apply HX.e_block | refine HX.e_other rfl ?_ | apply HX.e_then | apply HX.e_again | apply HX.n_block | apply HX.r_then | apply HX.r_block | apply HX.r_again | refine HC.cond_yes rfl ?_ | refine HC.cond_no rfl ?_ | refine HL.one (H1.ldb rfl memA rfl rfl ?_) | refine HC.cond rfl (fun hc => ?_) (fun hc => ?_) | refine HC.cond_b rfl (fun hc => ?_) (fun hc => ?_))
    exact hQq.get) : G := hwq ⟨x⟩
def dvL : Option DelZ → Value
  | none => .slice none 0 0
  | some z => .slice z.a1 z.left.length z.c1
def dvK : Option DelZ → Value
  | none => .slice none 0 0
  | some z => .slice z.a2 z.left.length z.c2
def dvE : Option DelZ → Int
  | none => 240
  | some _ => 0
def dvT (d : Int) (l : List Nd) (D : List ByteArray) (pk : Int) : Option DelZ → List Value
  | none => tomb0
  | some z => tombV 5 d l D pk z
def dvH (l : List Nd) (D : List ByteArray) (pk : Int) : Option DelZ → List Atom
  | none => []
  | some z => delH l D pk z
def dvI (l : List Nd) (D : List ByteArray) (pk : Int) : Option DelZ → Prop
  | none => goneL l pk = []
  | some z => goneL l pk ≠ [] ∧ ndsZ z.left = ndsP (prN l D (goneL l pk) false)
theorem del_iff {B : Nat → List Rc} {l : List Nd} {D : List ByteArray} {pk d : Int} (hok : okS l D = true) (h7 : B 7 = [askR pk 0]) (h4 : B 4 = []) (h0 : 0 ≤ d) (h1 : d ≤ 100000) : delQ B l D 5 d = if goneL l pk = [] then none else some pk := by
  have hf : ordF (B 7) 5 = some (askR pk 0) := by rw [h7]; rfl
  have hq : delQ B l D 5 d = if goneL l pk ≠ [] ∧ ¬ (ndsP (prN l D (goneL l pk) true)).any (heldN B d) = true then some pk else none := delQ_in (r := askR pk 0) hok hf h0 h0 h1
  rw [hq, any_no _ _ (held_nil h4 d)]
  by_cases hg : goneL l pk = []
  · rw [if_neg fun h => h.1 hg, if_pos hg]
  · rw [if_pos ⟨hg, by decide⟩, if_neg hg]
attribute [local irreducible] WC WL WX POp Then Again Fn NX W1 WA WO QL RP RA Yld LoopAt HC HL HX HN H1 HA HO HQ HB HP A.blk A.grow A.rd A.obj A.mp AgainH CutH
attribute [local irreducible] A.mq A.mit A.all sumS rootP
set_option maxHeartbeats 16000000 in
theorem lineageDeletes_fn (v : Value) (rows : List (List Int)) (pack day : Int) (h1 : i64W pack) (h2 : i64W day) (hrow : ∀ y ∈ rows, y.length = 4 ∧ ∀ z ∈ y, i64W z) (w : World) (hG : RoundG w) (hX : RdA 4 w v rows) :
    Fn Tryz.prog 7 #[v, zv pack, zv day] w fun u w' => u = .bool true ∧ Ext w w' := by
  refine enterH (l := [_, _, _]) rfl Tryz.ntmps7 rfl ?_
  refine hwOR ?_
  refine HL.one (H1.callx (vs := []) rfl rfl (fun w' hM => sane24_fn w' (hG.ext hM.ext)) ?_)
  refine hwOR ?_
  refine HL.one (H1.callr (vs := [v]) rfl rfl (fun w' hM => made24_fn v rows hrow w' (hX.ext hM.ext)) ?_)
  rintro wa u w1 hMa ⟨⟨vl, vg, U, rfl, hN1, hD1⟩, hxa⟩
  have hx1 : Ext w w1 := hMa.ext.trans hxa
  have hok := made_ok rows
  generalize madeL rows (madeN rows) = l at hN1 hok
  generalize madeD rows (madeN rows) = D at hD1 hok
  obtain ⟨hl, hls, hDl, hDs⟩ := ok_sizes hok
  have hv := okS_valid hok
  have hll : l.length ≤ 400 := hv.len
  refine hwOR ?_
  refine HL.one (H1.callr (vs := [.slice none 0 0, zv pack, zv 0]) rfl rfl (fun w' hM => askedNil_fn pack 0 h1 (by unfold i64W; omega) w') ?_)
  rintro wb vb w2 hMb ⟨⟨B, hB, hB4⟩, hxb⟩
  have hx2 : Ext w1 w2 := hMb.ext.trans hxb
  have hN := hN1.ext hx2
  have hD := hD1.ext hx2
  have hxw : Ext w w2 := hx1.trans hx2
  have hG2 := hG.ext hxw
  clear hN1 hD1 hMa hMb hxa hxb hx1 hx2
  have e7 := hB.ord
  have l4 : (B 4).length ≤ 1000000 := by have := hB.h4; omega
  have l5 : (B 5).length ≤ 1000000 := by have := hB.h5; omega
  have l7 : (B 7).length ≤ 1000000 := by rw [e7]; show 1 ≤ _; omega
  have hdq := pickI21_lt day (n := 1000) (by decide)
  obtain ⟨d, hd⟩ : ∃ d, d = pickI21 day 1000 := ⟨_, rfl⟩
  rw [← hd] at hdq
  generalize 1 + pickI21 pack 5 = pk at hB e7
  rw [show pickI21 0 60 = 0 from rfl] at hB e7
  have hst := del_iff (d := d) hok e7 hB4 hdq.1 (by omega)
  obtain ⟨t, bo, oo, c7, rfl, hcell⟩ := hB.cells
  have hpk := hcell 7 (zv pk) rfl
  have hbase := hB.base
  obtain ⟨al, cl, rfl, -⟩ := hN.shape
  obtain ⟨ag, cg, rfl⟩ : ∃ a c, vg = .slice a D.length c := by
    obtain ⟨a, c, h1, -⟩ := id hD
    rw [strs_len] at h1
    exact ⟨a, c, h1⟩
  obtain ⟨C, hC⟩ : ∃ C : List Value, C = [.slice (t 0).1 (t 0).2.1 (t 0).2.2, .slice (t 1).1 (t 1).2.1 (t 1).2.2, .slice (t 2).1 (t 2).2.1 (t 2).2.2, .slice (t 3).1 (t 3).2.1 (t 3).2.2, .slice (t 4).1 (t 4).2.1 (t 4).2.2, .slice (t 5).1 (t 5).2.1 (t 5).2.2, .slice (t 6).1 (t 6).2.1 (t 6).2.2, .slice (some ⟨bo, oo, none⟩) 1 c7] := ⟨_, rfl⟩
  refine hwOR ?_
  refine HL.one (H1.alloc (cs := row 8 fun _ => .slice none 0 0) rfl rfl (fun b14 => ?_))
  refine hwOR ?_
  refine HL.one (H1.stAgg (b := b14) (cs := row 8 fun _ => .slice none 0 0) (vs := C) rfl (by rw [hC]; rfl) (by rw [hC]; rfl) (by
    rw [hC]; intro v hv
    simp only [List.mem_cons, List.not_mem_nil, or_false] at hv
    rcases hv with rfl | rfl | rfl | rfl | rfl | rfl | rfl | rfl <;> rfl) rplA (by rw [hC]; rfl) ?_)
  have hC7 : C[7]? = some (.slice (some ⟨bo, oo, none⟩) 1 c7) := by rw [hC]; rfl
  have hCl : C.length = 8 := by rw [hC]; rfl
  have hCv : Value.agg C.toArray = .agg #[.slice (t 0).1 (t 0).2.1 (t 0).2.2, .slice (t 1).1 (t 1).2.1 (t 1).2.2, .slice (t 2).1 (t 2).2.1 (t 2).2.2, .slice (t 3).1 (t 3).2.1 (t 3).2.2, .slice (t 4).1 (t 4).2.1 (t 4).2.2, .slice (t 5).1 (t 5).2.1 (t 5).2.2, .slice (t 6).1 (t 6).2.1 (t 6).2.2, .slice (some ⟨bo, oo, none⟩) 1 c7] := by rw [hC]
  rw [← hCv] at hbase
  clear hC hCv
  refine hwOR ?_
  refine HC.cut (α := Option DelZ × Nat) (fun z => [(7, .bool true), (8, .slice al l.length cl), (9, .slice ag D.length cg), (10, .pointer (some ⟨b14, 0, none⟩)), (11, dvL z.1), (12, dvK z.1), (13, .pointer (some ⟨z.2, 0, none⟩)), (14, zv (dvE z.1))])
    (fun z => [A.blk z.2 (dvT d l D pk z.1) 51, A.blk b14 C 49] ++ dvH l D pk z.1) (fun z => dvI l D pk z.1) ?_ ?_
  · by_cases hg : goneL l pk = []
    · rw [if_pos hg] at hst
      refine HC.any rfl ?_
      refine HA.pa 1 rfl ?_
      refine HA.pa 2 rfl ?_
      refine HA.pa 3 rfl ?_
      refine HA.all [0, 4, 11] (by kernel_rfl) rfl ⟨⟨_, rfl, ?_⟩, ⟨_, rfl, ?_⟩, ⟨_, rfl, ?_⟩, trivial⟩
      · refine HO.one ?_
        refine H1.ldAgg (b := b14) (vs := C) rfl memA hCl (fun i v h => by rwa [Nat.zero_add]) rfl ?_
        apply HA.fold
        refine HA.all [4, 11] (by kernel_rfl) rfl ⟨⟨_, rfl, ?_⟩, ⟨_, rfl, ?_⟩, trivial⟩
        · refine HO.one ?_
          refine H1.call0 (u := zv d) (vs := [zv day, zv 1000]) rfl rfl (fun w' _ => by rw [hd]; exact lpick24_fn day 1000 h2.1 h2.2 (by decide) w') ?_
          apply HA.fold
          refine HA.all [5, 11] (by kernel_rfl) rfl ⟨⟨_, rfl, ?_⟩, ⟨_, rfl, ?_⟩, trivial⟩
          · refine HO.one ?_
            refine H1.callx (vs := [_, _, _, zv 5, zv d]) rfl rfl (fun w' hM => delete_no hst hl hls hDl hDs l7 l4 l5 w' (hG2.ext hM.ext) (hbase.ext hM.ext) (hN.ext hM.ext) (hD.ext hM.ext)) ?_
            unfold delNo
            apply HA.fold
            refine HA.pa 6 rfl ?_
            refine HA.pa 7 rfl ?_
            refine HA.pa 8 rfl ?_
            refine HA.pa 9 rfl ?_
            refine HA.pa 10 rfl ?_
            refine HA.all [11] (by kernel_rfl) rfl ⟨⟨_, rfl, ?_⟩, trivial⟩
            refine HO.one ?_
            refine H1.alloc (cs := tomb0) rfl rfl (fun b13 => ?_)
            apply HA.fold
            refine HA.pa 12 rfl ?_
            refine HA.pa 13 rfl ?_
            refine HA.all [14] (by kernel_rfl) rfl ⟨⟨_, rfl, ?_⟩, trivial⟩
            refine HO.one ?_
            refine H1.stAgg (b := b13) (cs := tomb0) (vs := tomb0) rfl rfl rfl (by intro v hv; simp only [tomb0, List.mem_cons, List.not_mem_nil, or_false] at hv; rcases hv with rfl | rfl | rfl | rfl | rfl | rfl <;> rfl) rplA rfl ?_
            apply HA.fold
            refine HA.pa 15 rfl ?_
            refine HA.done (by kernel_rfl) ?_
            exact HX.cut (none, b13) hg esA (by repeat (first | exact Hs.nil _ | (refine Hs.cons pickA ?_)))
          · refine HO.one ?_
            refine H1.alloc (cs := tomb0) rfl rfl (fun b13 => ?_)
            apply HA.fold
            refine HA.all [5] (by kernel_rfl) rfl ⟨⟨_, rfl, ?_⟩, trivial⟩
            refine HO.one ?_
            refine H1.callx (vs := [_, _, _, zv 5, zv d]) rfl rfl (fun w' hM => delete_no hst hl hls hDl hDs l7 l4 l5 w' (hG2.ext hM.ext) (hbase.ext hM.ext) (hN.ext hM.ext) (hD.ext hM.ext)) ?_
            unfold delNo
            apply HA.fold
            refine HA.pa 6 rfl ?_
            refine HA.pa 7 rfl ?_
            refine HA.pa 8 rfl ?_
            refine HA.pa 9 rfl ?_
            refine HA.pa 10 rfl ?_
            refine HA.pa 12 rfl ?_
            refine HA.pa 13 rfl ?_
            refine HA.all [14] (by kernel_rfl) rfl ⟨⟨_, rfl, ?_⟩, trivial⟩
            refine HO.one ?_
            refine H1.stAgg (b := b13) (cs := tomb0) (vs := tomb0) rfl rfl rfl (by intro v hv; simp only [tomb0, List.mem_cons, List.not_mem_nil, or_false] at hv; rcases hv with rfl | rfl | rfl | rfl | rfl | rfl <;> rfl) rplA rfl ?_
            apply HA.fold
            refine HA.pa 15 rfl ?_
            refine HA.done (by kernel_rfl) ?_
            exact HX.cut (none, b13) hg esA (by repeat (first | exact Hs.nil _ | (refine Hs.cons pickA ?_)))
        · refine HO.one ?_
          refine H1.alloc (cs := tomb0) rfl rfl (fun b13 => ?_)
          apply HA.fold
          refine HA.all [4] (by kernel_rfl) rfl ⟨⟨_, rfl, ?_⟩, trivial⟩
          refine HO.one ?_
          refine H1.call0 (u := zv d) (vs := [zv day, zv 1000]) rfl rfl (fun w' _ => by rw [hd]; exact lpick24_fn day 1000 h2.1 h2.2 (by decide) w') ?_
          apply HA.fold
          refine HA.all [5] (by kernel_rfl) rfl ⟨⟨_, rfl, ?_⟩, trivial⟩
          refine HO.one ?_
          refine H1.callx (vs := [_, _, _, zv 5, zv d]) rfl rfl (fun w' hM => delete_no hst hl hls hDl hDs l7 l4 l5 w' (hG2.ext hM.ext) (hbase.ext hM.ext) (hN.ext hM.ext) (hD.ext hM.ext)) ?_
          unfold delNo
          apply HA.fold
          refine HA.pa 6 rfl ?_
          refine HA.pa 7 rfl ?_
          refine HA.pa 8 rfl ?_
          refine HA.pa 9 rfl ?_
          refine HA.pa 10 rfl ?_
          refine HA.pa 12 rfl ?_
          refine HA.pa 13 rfl ?_
          refine HA.all [14] (by kernel_rfl) rfl ⟨⟨_, rfl, ?_⟩, trivial⟩
          refine HO.one ?_
          refine H1.stAgg (b := b13) (cs := tomb0) (vs := tomb0) rfl rfl rfl (by intro v hv; simp only [tomb0, List.mem_cons, List.not_mem_nil, or_false] at hv; rcases hv with rfl | rfl | rfl | rfl | rfl | rfl <;> rfl) rplA rfl ?_
          apply HA.fold
          refine HA.pa 15 rfl ?_
          refine HA.done (by kernel_rfl) ?_
          exact HX.cut (none, b13) hg esA (by repeat (first | exact Hs.nil _ | (refine Hs.cons pickA ?_)))
      · refine HO.one ?_
        refine H1.call0 (u := zv d) (vs := [zv day, zv 1000]) rfl rfl (fun w' _ => by rw [hd]; exact lpick24_fn day 1000 h2.1 h2.2 (by decide) w') ?_
        apply HA.fold
        refine HA.all [0, 11] (by kernel_rfl) rfl ⟨⟨_, rfl, ?_⟩, ⟨_, rfl, ?_⟩, trivial⟩
        · refine HO.one ?_
          refine H1.ldAgg (b := b14) (vs := C) rfl memA hCl (fun i v h => by rwa [Nat.zero_add]) rfl ?_
          apply HA.fold
          refine HA.all [5, 11] (by kernel_rfl) rfl ⟨⟨_, rfl, ?_⟩, ⟨_, rfl, ?_⟩, trivial⟩
          · refine HO.one ?_
            refine H1.callx (vs := [_, _, _, zv 5, zv d]) rfl rfl (fun w' hM => delete_no hst hl hls hDl hDs l7 l4 l5 w' (hG2.ext hM.ext) (hbase.ext hM.ext) (hN.ext hM.ext) (hD.ext hM.ext)) ?_
            unfold delNo
            apply HA.fold
            refine HA.pa 6 rfl ?_
            refine HA.pa 7 rfl ?_
            refine HA.pa 8 rfl ?_
            refine HA.pa 9 rfl ?_
            refine HA.pa 10 rfl ?_
            refine HA.all [11] (by kernel_rfl) rfl ⟨⟨_, rfl, ?_⟩, trivial⟩
            refine HO.one ?_
            refine H1.alloc (cs := tomb0) rfl rfl (fun b13 => ?_)
            apply HA.fold
            refine HA.pa 12 rfl ?_
            refine HA.pa 13 rfl ?_
            refine HA.all [14] (by kernel_rfl) rfl ⟨⟨_, rfl, ?_⟩, trivial⟩
            refine HO.one ?_
            refine H1.stAgg (b := b13) (cs := tomb0) (vs := tomb0) rfl rfl rfl (by intro v hv; simp only [tomb0, List.mem_cons, List.not_mem_nil, or_false] at hv; rcases hv with rfl | rfl | rfl | rfl | rfl | rfl <;> rfl) rplA rfl ?_
            apply HA.fold
            refine HA.pa 15 rfl ?_
            refine HA.done (by kernel_rfl) ?_
            exact HX.cut (none, b13) hg esA (by repeat (first | exact Hs.nil _ | (refine Hs.cons pickA ?_)))
          · refine HO.one ?_
            refine H1.alloc (cs := tomb0) rfl rfl (fun b13 => ?_)
            apply HA.fold
            refine HA.all [5] (by kernel_rfl) rfl ⟨⟨_, rfl, ?_⟩, trivial⟩
            refine HO.one ?_
            refine H1.callx (vs := [_, _, _, zv 5, zv d]) rfl rfl (fun w' hM => delete_no hst hl hls hDl hDs l7 l4 l5 w' (hG2.ext hM.ext) (hbase.ext hM.ext) (hN.ext hM.ext) (hD.ext hM.ext)) ?_
            unfold delNo
            apply HA.fold
            refine HA.pa 6 rfl ?_
            refine HA.pa 7 rfl ?_
            refine HA.pa 8 rfl ?_
            refine HA.pa 9 rfl ?_
            refine HA.pa 10 rfl ?_
            refine HA.pa 12 rfl ?_
            refine HA.pa 13 rfl ?_
            refine HA.all [14] (by kernel_rfl) rfl ⟨⟨_, rfl, ?_⟩, trivial⟩
            refine HO.one ?_
            refine H1.stAgg (b := b13) (cs := tomb0) (vs := tomb0) rfl rfl rfl (by intro v hv; simp only [tomb0, List.mem_cons, List.not_mem_nil, or_false] at hv; rcases hv with rfl | rfl | rfl | rfl | rfl | rfl <;> rfl) rplA rfl ?_
            apply HA.fold
            refine HA.pa 15 rfl ?_
            refine HA.done (by kernel_rfl) ?_
            exact HX.cut (none, b13) hg esA (by repeat (first | exact Hs.nil _ | (refine Hs.cons pickA ?_)))
        · refine HO.one ?_
          refine H1.alloc (cs := tomb0) rfl rfl (fun b13 => ?_)
          apply HA.fold
          refine HA.all [0] (by kernel_rfl) rfl ⟨⟨_, rfl, ?_⟩, trivial⟩
          refine HO.one ?_
          refine H1.ldAgg (b := b14) (vs := C) rfl memA hCl (fun i v h => by rwa [Nat.zero_add]) rfl ?_
          apply HA.fold
          refine HA.all [5] (by kernel_rfl) rfl ⟨⟨_, rfl, ?_⟩, trivial⟩
          refine HO.one ?_
          refine H1.callx (vs := [_, _, _, zv 5, zv d]) rfl rfl (fun w' hM => delete_no hst hl hls hDl hDs l7 l4 l5 w' (hG2.ext hM.ext) (hbase.ext hM.ext) (hN.ext hM.ext) (hD.ext hM.ext)) ?_
          unfold delNo
          apply HA.fold
          refine HA.pa 6 rfl ?_
          refine HA.pa 7 rfl ?_
          refine HA.pa 8 rfl ?_
          refine HA.pa 9 rfl ?_
          refine HA.pa 10 rfl ?_
          refine HA.pa 12 rfl ?_
          refine HA.pa 13 rfl ?_
          refine HA.all [14] (by kernel_rfl) rfl ⟨⟨_, rfl, ?_⟩, trivial⟩
          refine HO.one ?_
          refine H1.stAgg (b := b13) (cs := tomb0) (vs := tomb0) rfl rfl rfl (by intro v hv; simp only [tomb0, List.mem_cons, List.not_mem_nil, or_false] at hv; rcases hv with rfl | rfl | rfl | rfl | rfl | rfl <;> rfl) rplA rfl ?_
          apply HA.fold
          refine HA.pa 15 rfl ?_
          refine HA.done (by kernel_rfl) ?_
          exact HX.cut (none, b13) hg esA (by repeat (first | exact Hs.nil _ | (refine Hs.cons pickA ?_)))
      · refine HO.one ?_
        refine H1.alloc (cs := tomb0) rfl rfl (fun b13 => ?_)
        apply HA.fold
        refine HA.all [0, 4] (by kernel_rfl) rfl ⟨⟨_, rfl, ?_⟩, ⟨_, rfl, ?_⟩, trivial⟩
        · refine HO.one ?_
          refine H1.ldAgg (b := b14) (vs := C) rfl memA hCl (fun i v h => by rwa [Nat.zero_add]) rfl ?_
          apply HA.fold
          refine HA.all [4] (by kernel_rfl) rfl ⟨⟨_, rfl, ?_⟩, trivial⟩
          refine HO.one ?_
          refine H1.call0 (u := zv d) (vs := [zv day, zv 1000]) rfl rfl (fun w' _ => by rw [hd]; exact lpick24_fn day 1000 h2.1 h2.2 (by decide) w') ?_
          apply HA.fold
          refine HA.all [5] (by kernel_rfl) rfl ⟨⟨_, rfl, ?_⟩, trivial⟩
          refine HO.one ?_
          refine H1.callx (vs := [_, _, _, zv 5, zv d]) rfl rfl (fun w' hM => delete_no hst hl hls hDl hDs l7 l4 l5 w' (hG2.ext hM.ext) (hbase.ext hM.ext) (hN.ext hM.ext) (hD.ext hM.ext)) ?_
          unfold delNo
          apply HA.fold
          refine HA.pa 6 rfl ?_
          refine HA.pa 7 rfl ?_
          refine HA.pa 8 rfl ?_
          refine HA.pa 9 rfl ?_
          refine HA.pa 10 rfl ?_
          refine HA.pa 12 rfl ?_
          refine HA.pa 13 rfl ?_
          refine HA.all [14] (by kernel_rfl) rfl ⟨⟨_, rfl, ?_⟩, trivial⟩
          refine HO.one ?_
          refine H1.stAgg (b := b13) (cs := tomb0) (vs := tomb0) rfl rfl rfl (by intro v hv; simp only [tomb0, List.mem_cons, List.not_mem_nil, or_false] at hv; rcases hv with rfl | rfl | rfl | rfl | rfl | rfl <;> rfl) rplA rfl ?_
          apply HA.fold
          refine HA.pa 15 rfl ?_
          refine HA.done (by kernel_rfl) ?_
          exact HX.cut (none, b13) hg esA (by repeat (first | exact Hs.nil _ | (refine Hs.cons pickA ?_)))
        · refine HO.one ?_
          refine H1.call0 (u := zv d) (vs := [zv day, zv 1000]) rfl rfl (fun w' _ => by rw [hd]; exact lpick24_fn day 1000 h2.1 h2.2 (by decide) w') ?_
          apply HA.fold
          refine HA.all [0] (by kernel_rfl) rfl ⟨⟨_, rfl, ?_⟩, trivial⟩
          refine HO.one ?_
          refine H1.ldAgg (b := b14) (vs := C) rfl memA hCl (fun i v h => by rwa [Nat.zero_add]) rfl ?_
          apply HA.fold
          refine HA.all [5] (by kernel_rfl) rfl ⟨⟨_, rfl, ?_⟩, trivial⟩
          refine HO.one ?_
          refine H1.callx (vs := [_, _, _, zv 5, zv d]) rfl rfl (fun w' hM => delete_no hst hl hls hDl hDs l7 l4 l5 w' (hG2.ext hM.ext) (hbase.ext hM.ext) (hN.ext hM.ext) (hD.ext hM.ext)) ?_
          unfold delNo
          apply HA.fold
          refine HA.pa 6 rfl ?_
          refine HA.pa 7 rfl ?_
          refine HA.pa 8 rfl ?_
          refine HA.pa 9 rfl ?_
          refine HA.pa 10 rfl ?_
          refine HA.pa 12 rfl ?_
          refine HA.pa 13 rfl ?_
          refine HA.all [14] (by kernel_rfl) rfl ⟨⟨_, rfl, ?_⟩, trivial⟩
          refine HO.one ?_
          refine H1.stAgg (b := b13) (cs := tomb0) (vs := tomb0) rfl rfl rfl (by intro v hv; simp only [tomb0, List.mem_cons, List.not_mem_nil, or_false] at hv; rcases hv with rfl | rfl | rfl | rfl | rfl | rfl <;> rfl) rplA rfl ?_
          apply HA.fold
          refine HA.pa 15 rfl ?_
          refine HA.done (by kernel_rfl) ?_
          exact HX.cut (none, b13) hg esA (by repeat (first | exact Hs.nil _ | (refine Hs.cons pickA ?_)))
    · rw [if_neg hg] at hst
      refine HC.any rfl ?_
      refine HA.pa 1 rfl ?_
      refine HA.pa 2 rfl ?_
      refine HA.pa 3 rfl ?_
      refine HA.all [0, 4, 11] (by kernel_rfl) rfl ⟨⟨_, rfl, ?_⟩, ⟨_, rfl, ?_⟩, ⟨_, rfl, ?_⟩, trivial⟩
      · refine HO.one ?_
        refine H1.ldAgg (b := b14) (vs := C) rfl memA hCl (fun i v h => by rwa [Nat.zero_add]) rfl ?_
        apply HA.fold
        refine HA.all [4, 11] (by kernel_rfl) rfl ⟨⟨_, rfl, ?_⟩, ⟨_, rfl, ?_⟩, trivial⟩
        · refine HO.one ?_
          refine H1.call0 (u := zv d) (vs := [zv day, zv 1000]) rfl rfl (fun w' _ => by rw [hd]; exact lpick24_fn day 1000 h2.1 h2.2 (by decide) w') ?_
          apply HA.fold
          refine HA.all [5, 11] (by kernel_rfl) rfl ⟨⟨_, rfl, ?_⟩, ⟨_, rfl, ?_⟩, trivial⟩
          · refine HO.one ?_
            refine H1.callz (vs := [_, _, _, zv 5, zv d]) rfl rfl (fun w' hM => delete_yes hst hl hls hDl hDs l7 l4 l5 w' (hG2.ext hM.ext) (hbase.ext hM.ext) (hN.ext hM.ext) (hD.ext hM.ext)) ?_
            rintro z hz
            unfold delH delYes
            apply HA.fold
            refine HA.pa 6 rfl ?_
            refine HA.pa 7 rfl ?_
            refine HA.pa 8 rfl ?_
            refine HA.pa 9 rfl ?_
            refine HA.pa 10 rfl ?_
            refine HA.all [11] (by kernel_rfl) rfl ⟨⟨_, rfl, ?_⟩, trivial⟩
            refine HO.one ?_
            refine H1.alloc (cs := tomb0) rfl rfl (fun b13 => ?_)
            apply HA.fold
            refine HA.pa 12 rfl ?_
            refine HA.pa 13 rfl ?_
            refine HA.all [14] (by kernel_rfl) rfl ⟨⟨_, rfl, ?_⟩, trivial⟩
            refine HO.one ?_
            refine H1.stAgg (b := b13) (cs := tomb0) (vs := tombV 5 d l D pk z) rfl rfl rfl (by intro v hv; simp only [tombV, List.mem_cons, List.not_mem_nil, or_false] at hv; rcases hv with rfl | rfl | rfl | rfl | rfl | rfl <;> rfl) rplA rfl ?_
            apply HA.fold
            refine HA.pa 15 rfl ?_
            refine HA.done (by kernel_rfl) ?_
            exact HX.cut (some z, b13) ⟨hg, hz⟩ esA (by repeat (first | exact Hs.nil _ | (refine Hs.cons pickA ?_)))
          · refine HO.one ?_
            refine H1.alloc (cs := tomb0) rfl rfl (fun b13 => ?_)
            apply HA.fold
            refine HA.all [5] (by kernel_rfl) rfl ⟨⟨_, rfl, ?_⟩, trivial⟩
            refine HO.one ?_
            refine H1.callz (vs := [_, _, _, zv 5, zv d]) rfl rfl (fun w' hM => delete_yes hst hl hls hDl hDs l7 l4 l5 w' (hG2.ext hM.ext) (hbase.ext hM.ext) (hN.ext hM.ext) (hD.ext hM.ext)) ?_
            rintro z hz
            unfold delH delYes
            apply HA.fold
            refine HA.pa 6 rfl ?_
            refine HA.pa 7 rfl ?_
            refine HA.pa 8 rfl ?_
            refine HA.pa 9 rfl ?_
            refine HA.pa 10 rfl ?_
            refine HA.pa 12 rfl ?_
            refine HA.pa 13 rfl ?_
            refine HA.all [14] (by kernel_rfl) rfl ⟨⟨_, rfl, ?_⟩, trivial⟩
            refine HO.one ?_
            refine H1.stAgg (b := b13) (cs := tomb0) (vs := tombV 5 d l D pk z) rfl rfl rfl (by intro v hv; simp only [tombV, List.mem_cons, List.not_mem_nil, or_false] at hv; rcases hv with rfl | rfl | rfl | rfl | rfl | rfl <;> rfl) rplA rfl ?_
            apply HA.fold
            refine HA.pa 15 rfl ?_
            refine HA.done (by kernel_rfl) ?_
            exact HX.cut (some z, b13) ⟨hg, hz⟩ esA (by repeat (first | exact Hs.nil _ | (refine Hs.cons pickA ?_)))
        · refine HO.one ?_
          refine H1.alloc (cs := tomb0) rfl rfl (fun b13 => ?_)
          apply HA.fold
          refine HA.all [4] (by kernel_rfl) rfl ⟨⟨_, rfl, ?_⟩, trivial⟩
          refine HO.one ?_
          refine H1.call0 (u := zv d) (vs := [zv day, zv 1000]) rfl rfl (fun w' _ => by rw [hd]; exact lpick24_fn day 1000 h2.1 h2.2 (by decide) w') ?_
          apply HA.fold
          refine HA.all [5] (by kernel_rfl) rfl ⟨⟨_, rfl, ?_⟩, trivial⟩
          refine HO.one ?_
          refine H1.callz (vs := [_, _, _, zv 5, zv d]) rfl rfl (fun w' hM => delete_yes hst hl hls hDl hDs l7 l4 l5 w' (hG2.ext hM.ext) (hbase.ext hM.ext) (hN.ext hM.ext) (hD.ext hM.ext)) ?_
          rintro z hz
          unfold delH delYes
          apply HA.fold
          refine HA.pa 6 rfl ?_
          refine HA.pa 7 rfl ?_
          refine HA.pa 8 rfl ?_
          refine HA.pa 9 rfl ?_
          refine HA.pa 10 rfl ?_
          refine HA.pa 12 rfl ?_
          refine HA.pa 13 rfl ?_
          refine HA.all [14] (by kernel_rfl) rfl ⟨⟨_, rfl, ?_⟩, trivial⟩
          refine HO.one ?_
          refine H1.stAgg (b := b13) (cs := tomb0) (vs := tombV 5 d l D pk z) rfl rfl rfl (by intro v hv; simp only [tombV, List.mem_cons, List.not_mem_nil, or_false] at hv; rcases hv with rfl | rfl | rfl | rfl | rfl | rfl <;> rfl) rplA rfl ?_
          apply HA.fold
          refine HA.pa 15 rfl ?_
          refine HA.done (by kernel_rfl) ?_
          exact HX.cut (some z, b13) ⟨hg, hz⟩ esA (by repeat (first | exact Hs.nil _ | (refine Hs.cons pickA ?_)))
      · refine HO.one ?_
        refine H1.call0 (u := zv d) (vs := [zv day, zv 1000]) rfl rfl (fun w' _ => by rw [hd]; exact lpick24_fn day 1000 h2.1 h2.2 (by decide) w') ?_
        apply HA.fold
        refine HA.all [0, 11] (by kernel_rfl) rfl ⟨⟨_, rfl, ?_⟩, ⟨_, rfl, ?_⟩, trivial⟩
        · refine HO.one ?_
          refine H1.ldAgg (b := b14) (vs := C) rfl memA hCl (fun i v h => by rwa [Nat.zero_add]) rfl ?_
          apply HA.fold
          refine HA.all [5, 11] (by kernel_rfl) rfl ⟨⟨_, rfl, ?_⟩, ⟨_, rfl, ?_⟩, trivial⟩
          · refine HO.one ?_
            refine H1.callz (vs := [_, _, _, zv 5, zv d]) rfl rfl (fun w' hM => delete_yes hst hl hls hDl hDs l7 l4 l5 w' (hG2.ext hM.ext) (hbase.ext hM.ext) (hN.ext hM.ext) (hD.ext hM.ext)) ?_
            rintro z hz
            unfold delH delYes
            apply HA.fold
            refine HA.pa 6 rfl ?_
            refine HA.pa 7 rfl ?_
            refine HA.pa 8 rfl ?_
            refine HA.pa 9 rfl ?_
            refine HA.pa 10 rfl ?_
            refine HA.all [11] (by kernel_rfl) rfl ⟨⟨_, rfl, ?_⟩, trivial⟩
            refine HO.one ?_
            refine H1.alloc (cs := tomb0) rfl rfl (fun b13 => ?_)
            apply HA.fold
            refine HA.pa 12 rfl ?_
            refine HA.pa 13 rfl ?_
            refine HA.all [14] (by kernel_rfl) rfl ⟨⟨_, rfl, ?_⟩, trivial⟩
            refine HO.one ?_
            refine H1.stAgg (b := b13) (cs := tomb0) (vs := tombV 5 d l D pk z) rfl rfl rfl (by intro v hv; simp only [tombV, List.mem_cons, List.not_mem_nil, or_false] at hv; rcases hv with rfl | rfl | rfl | rfl | rfl | rfl <;> rfl) rplA rfl ?_
            apply HA.fold
            refine HA.pa 15 rfl ?_
            refine HA.done (by kernel_rfl) ?_
            exact HX.cut (some z, b13) ⟨hg, hz⟩ esA (by repeat (first | exact Hs.nil _ | (refine Hs.cons pickA ?_)))
          · refine HO.one ?_
            refine H1.alloc (cs := tomb0) rfl rfl (fun b13 => ?_)
            apply HA.fold
            refine HA.all [5] (by kernel_rfl) rfl ⟨⟨_, rfl, ?_⟩, trivial⟩
            refine HO.one ?_
            refine H1.callz (vs := [_, _, _, zv 5, zv d]) rfl rfl (fun w' hM => delete_yes hst hl hls hDl hDs l7 l4 l5 w' (hG2.ext hM.ext) (hbase.ext hM.ext) (hN.ext hM.ext) (hD.ext hM.ext)) ?_
            rintro z hz
            unfold delH delYes
            apply HA.fold
            refine HA.pa 6 rfl ?_
            refine HA.pa 7 rfl ?_
            refine HA.pa 8 rfl ?_
            refine HA.pa 9 rfl ?_
            refine HA.pa 10 rfl ?_
            refine HA.pa 12 rfl ?_
            refine HA.pa 13 rfl ?_
            refine HA.all [14] (by kernel_rfl) rfl ⟨⟨_, rfl, ?_⟩, trivial⟩
            refine HO.one ?_
            refine H1.stAgg (b := b13) (cs := tomb0) (vs := tombV 5 d l D pk z) rfl rfl rfl (by intro v hv; simp only [tombV, List.mem_cons, List.not_mem_nil, or_false] at hv; rcases hv with rfl | rfl | rfl | rfl | rfl | rfl <;> rfl) rplA rfl ?_
            apply HA.fold
            refine HA.pa 15 rfl ?_
            refine HA.done (by kernel_rfl) ?_
            exact HX.cut (some z, b13) ⟨hg, hz⟩ esA (by repeat (first | exact Hs.nil _ | (refine Hs.cons pickA ?_)))
        · refine HO.one ?_
          refine H1.alloc (cs := tomb0) rfl rfl (fun b13 => ?_)
          apply HA.fold
          refine HA.all [0] (by kernel_rfl) rfl ⟨⟨_, rfl, ?_⟩, trivial⟩
          refine HO.one ?_
          refine H1.ldAgg (b := b14) (vs := C) rfl memA hCl (fun i v h => by rwa [Nat.zero_add]) rfl ?_
          apply HA.fold
          refine HA.all [5] (by kernel_rfl) rfl ⟨⟨_, rfl, ?_⟩, trivial⟩
          refine HO.one ?_
          refine H1.callz (vs := [_, _, _, zv 5, zv d]) rfl rfl (fun w' hM => delete_yes hst hl hls hDl hDs l7 l4 l5 w' (hG2.ext hM.ext) (hbase.ext hM.ext) (hN.ext hM.ext) (hD.ext hM.ext)) ?_
          rintro z hz
          unfold delH delYes
          apply HA.fold
          refine HA.pa 6 rfl ?_
          refine HA.pa 7 rfl ?_
          refine HA.pa 8 rfl ?_
          refine HA.pa 9 rfl ?_
          refine HA.pa 10 rfl ?_
          refine HA.pa 12 rfl ?_
          refine HA.pa 13 rfl ?_
          refine HA.all [14] (by kernel_rfl) rfl ⟨⟨_, rfl, ?_⟩, trivial⟩
          refine HO.one ?_
          refine H1.stAgg (b := b13) (cs := tomb0) (vs := tombV 5 d l D pk z) rfl rfl rfl (by intro v hv; simp only [tombV, List.mem_cons, List.not_mem_nil, or_false] at hv; rcases hv with rfl | rfl | rfl | rfl | rfl | rfl <;> rfl) rplA rfl ?_
          apply HA.fold
          refine HA.pa 15 rfl ?_
          refine HA.done (by kernel_rfl) ?_
          exact HX.cut (some z, b13) ⟨hg, hz⟩ esA (by repeat (first | exact Hs.nil _ | (refine Hs.cons pickA ?_)))
      · refine HO.one ?_
        refine H1.alloc (cs := tomb0) rfl rfl (fun b13 => ?_)
        apply HA.fold
        refine HA.all [0, 4] (by kernel_rfl) rfl ⟨⟨_, rfl, ?_⟩, ⟨_, rfl, ?_⟩, trivial⟩
        · refine HO.one ?_
          refine H1.ldAgg (b := b14) (vs := C) rfl memA hCl (fun i v h => by rwa [Nat.zero_add]) rfl ?_
          apply HA.fold
          refine HA.all [4] (by kernel_rfl) rfl ⟨⟨_, rfl, ?_⟩, trivial⟩
          refine HO.one ?_
          refine H1.call0 (u := zv d) (vs := [zv day, zv 1000]) rfl rfl (fun w' _ => by rw [hd]; exact lpick24_fn day 1000 h2.1 h2.2 (by decide) w') ?_
          apply HA.fold
          refine HA.all [5] (by kernel_rfl) rfl ⟨⟨_, rfl, ?_⟩, trivial⟩
          refine HO.one ?_
          refine H1.callz (vs := [_, _, _, zv 5, zv d]) rfl rfl (fun w' hM => delete_yes hst hl hls hDl hDs l7 l4 l5 w' (hG2.ext hM.ext) (hbase.ext hM.ext) (hN.ext hM.ext) (hD.ext hM.ext)) ?_
          rintro z hz
          unfold delH delYes
          apply HA.fold
          refine HA.pa 6 rfl ?_
          refine HA.pa 7 rfl ?_
          refine HA.pa 8 rfl ?_
          refine HA.pa 9 rfl ?_
          refine HA.pa 10 rfl ?_
          refine HA.pa 12 rfl ?_
          refine HA.pa 13 rfl ?_
          refine HA.all [14] (by kernel_rfl) rfl ⟨⟨_, rfl, ?_⟩, trivial⟩
          refine HO.one ?_
          refine H1.stAgg (b := b13) (cs := tomb0) (vs := tombV 5 d l D pk z) rfl rfl rfl (by intro v hv; simp only [tombV, List.mem_cons, List.not_mem_nil, or_false] at hv; rcases hv with rfl | rfl | rfl | rfl | rfl | rfl <;> rfl) rplA rfl ?_
          apply HA.fold
          refine HA.pa 15 rfl ?_
          refine HA.done (by kernel_rfl) ?_
          exact HX.cut (some z, b13) ⟨hg, hz⟩ esA (by repeat (first | exact Hs.nil _ | (refine Hs.cons pickA ?_)))
        · refine HO.one ?_
          refine H1.call0 (u := zv d) (vs := [zv day, zv 1000]) rfl rfl (fun w' _ => by rw [hd]; exact lpick24_fn day 1000 h2.1 h2.2 (by decide) w') ?_
          apply HA.fold
          refine HA.all [0] (by kernel_rfl) rfl ⟨⟨_, rfl, ?_⟩, trivial⟩
          refine HO.one ?_
          refine H1.ldAgg (b := b14) (vs := C) rfl memA hCl (fun i v h => by rwa [Nat.zero_add]) rfl ?_
          apply HA.fold
          refine HA.all [5] (by kernel_rfl) rfl ⟨⟨_, rfl, ?_⟩, trivial⟩
          refine HO.one ?_
          refine H1.callz (vs := [_, _, _, zv 5, zv d]) rfl rfl (fun w' hM => delete_yes hst hl hls hDl hDs l7 l4 l5 w' (hG2.ext hM.ext) (hbase.ext hM.ext) (hN.ext hM.ext) (hD.ext hM.ext)) ?_
          rintro z hz
          unfold delH delYes
          apply HA.fold
          refine HA.pa 6 rfl ?_
          refine HA.pa 7 rfl ?_
          refine HA.pa 8 rfl ?_
          refine HA.pa 9 rfl ?_
          refine HA.pa 10 rfl ?_
          refine HA.pa 12 rfl ?_
          refine HA.pa 13 rfl ?_
          refine HA.all [14] (by kernel_rfl) rfl ⟨⟨_, rfl, ?_⟩, trivial⟩
          refine HO.one ?_
          refine H1.stAgg (b := b13) (cs := tomb0) (vs := tombV 5 d l D pk z) rfl rfl rfl (by intro v hv; simp only [tombV, List.mem_cons, List.not_mem_nil, or_false] at hv; rcases hv with rfl | rfl | rfl | rfl | rfl | rfl <;> rfl) rplA rfl ?_
          apply HA.fold
          refine HA.pa 15 rfl ?_
          refine HA.done (by kernel_rfl) ?_
          exact HX.cut (some z, b13) ⟨hg, hz⟩ esA (by repeat (first | exact Hs.nil _ | (refine Hs.cons pickA ?_)))
  rintro ⟨o, b13⟩ hI
  dsimp only at hI ⊢
  refine HC.rebase fun w3 hM3 => ?_
  have hx3 := hM3.ext
  have hN3 := hN.ext hx3
  have hD3 := hD.ext hx3
  have hG3 := hG2.ext hx3
  have hw3 : Ext w w3 := hxw.trans hx3
  have hb7 : w3.cell? ⟨b14, 7, none⟩ = some (.slice (some ⟨bo, oo, none⟩) 1 c7) := (hM3.blk (b := b14) (cs := C) (.tail _ (.head _))).cell hC7
  have hpk3 := cell_ext hx3 hpk
  refine hwOR ?_
  refine HL.one (H1.make (l := l.length) (c := l.length) rfl rfl rfl rfl rfl (Nat.le_refl _) (by omega) (by omega) rfl (fun b15 => ?_))
  rw [show List.replicate l.length (Value.bool false) = boolsF (List.replicate l.length false) by unfold boolsF; rw [List.map_replicate]]
  refine hwOR ?_
  refine HC.loop (α := Nat × List Bool) (fun q => [(7, .bool true), (8, .slice al l.length cl), (9, .slice ag D.length cg), (10, .pointer (some ⟨b14, 0, none⟩)), (11, dvL o), (12, dvK o), (13, .pointer (some ⟨b13, 0, none⟩)), (14, zv (dvE o)), (15, .slice (some ⟨b15, 0, none⟩) l.length l.length), (16, zv 0), (17, zv (q.1 : Int))]) (fun q => [A.blk b15 (boolsF q.2) 4]) (fun q => q.1 ≤ l.length + 1 ∧ InI l (goneL l pk) (0 < q.1) 0 q.2) (fun q => l.length + 1 - q.1) (0, List.replicate l.length false) ⟨Nat.zero_le _, InI.zero' l _⟩ esA (by repeat (first | exact Hs.nil _ | (refine Hs.cons pickA ?_))) ?_
  rintro ⟨r, F⟩ ⟨hr, hI1⟩
  dsimp only at hr hI1 ⊢
  by_cases hrl : r ≤ l.length
  · have hrn : ((r : Nat) : Int) ≤ (l.length : Int) := by omega
    refine hwOR ?_
    refine HC.loop (α := Nat × List Bool) (fun q => [(7, .bool true), (8, .slice al l.length cl), (9, .slice ag D.length cg), (10, .pointer (some ⟨b14, 0, none⟩)), (11, dvL o), (12, dvK o), (13, .pointer (some ⟨b13, 0, none⟩)), (14, zv (dvE o)), (15, .slice (some ⟨b15, 0, none⟩) l.length l.length), (16, zv 0), (17, zv (r : Int)), (18, zv (q.1 : Int))]) (fun q => [A.blk b15 (boolsF q.2) 4]) (fun q => q.1 ≤ l.length ∧ InI l (goneL l pk) (0 < r) q.1 q.2) (fun q => l.length - q.1) (0, F) ⟨Nat.zero_le _, hI1⟩ esA (by repeat (first | exact Hs.nil _ | (refine Hs.cons pickA ?_))) ?_
    clear hI1 F
    rintro ⟨i, F⟩ ⟨hi, hI1⟩
    dsimp only at hi hI1 ⊢
    by_cases hlt : i < l.length
    · have hn : ((i : Nat) : Int) < (l.length : Int) := by omega
      obtain ⟨b0, off0, rfl, hb⟩ := hN3.cell hlt
      have hsl := hls i hlt
      have hFl := hI1.len
      have hFi := boolsF_get (F := F) (i := i) (by omega)
      have hc2 := hb i hlt 2 (zv (ndAt l i).pack) rfl
      have hc3 := hb i hlt 3 (U i) rfl
      obtain ⟨asr, cs, hU, hcs⟩ := (hN3.src i hlt).isInts
      have hsr := hN3.src i hlt
      rw [hU] at hc3 hsr
      have hfirst := fun (v : Bool) (e : v = (getF F i || decide ((ndAt l i).pack = pk))) => hI1.first hv hlt e
      generalize hpi : (ndAt l i).pack = pki at hc2 hfirst
      refine hwOR ?_
      refine HC.cut (α := List Bool) (fun _ => [(7, .bool true), (8, .slice (some ⟨b0, off0, none⟩) l.length cl), (9, .slice ag D.length cg), (10, .pointer (some ⟨b14, 0, none⟩)), (11, dvL o), (12, dvK o), (13, .pointer (some ⟨b13, 0, none⟩)), (14, zv (dvE o)), (15, .slice (some ⟨b15, 0, none⟩) l.length l.length), (16, zv 0), (17, zv (r : Int)), (18, zv (i : Int))]) (fun F => [A.blk b15 (boolsF F) 4]) (fun F => InK l pk (0 < r) i 0 F) ?_ ?_
      · cases hgf : getF F i with
        | true =>
          rw [hgf] at hFi hfirst
          refine HC.any rfl ?_
          refine HA.pa 0 rfl ?_
          refine HA.pa 1 rfl ?_
          refine HA.pa 2 rfl ?_
          refine HA.pa 3 rfl ?_
          refine HA.pa 4 rfl ?_
          refine HA.all [5] (by kernel_rfl) rfl ⟨⟨_, rfl, ?_⟩, trivial⟩
          refine HO.one ?_
          refine H1.ldb rfl memA hFi rfl ?_
          apply HA.fold
          refine HA.pa 6 rfl ?_
          first | refine HA.ga 7 rfl rfl ?_ | refine HA.na 7 rfl rfl ?_ | refine HA.nu 7 rfl rfl ?_
          first | refine HA.ga 8 rfl rfl ?_ | refine HA.na 8 rfl rfl ?_ | refine HA.nu 8 rfl rfl ?_
          first | refine HA.ga 9 rfl rfl ?_ | refine HA.na 9 rfl rfl ?_ | refine HA.nu 9 rfl rfl ?_
          first | refine HA.ga 10 rfl rfl ?_ | refine HA.na 10 rfl rfl ?_ | refine HA.nu 10 rfl rfl ?_
          first | refine HA.ga 11 rfl rfl ?_ | refine HA.na 11 rfl rfl ?_ | refine HA.nu 11 rfl rfl ?_
          first | refine HA.ga 12 rfl rfl ?_ | refine HA.na 12 rfl rfl ?_ | refine HA.nu 12 rfl rfl ?_
          first | refine HA.ga 13 rfl rfl ?_ | refine HA.na 13 rfl rfl ?_ | refine HA.nu 13 rfl rfl ?_
          first | refine HA.ga 14 rfl rfl ?_ | refine HA.na 14 rfl rfl ?_ | refine HA.nu 14 rfl rfl ?_
          first | refine HA.ga 15 rfl rfl ?_ | refine HA.na 15 rfl rfl ?_ | refine HA.nu 15 rfl rfl ?_
          first | refine HA.ga 16 rfl rfl ?_ | refine HA.na 16 rfl rfl ?_ | refine HA.nu 16 rfl rfl ?_
          first | refine HA.ga 17 rfl rfl ?_ | refine HA.na 17 rfl rfl ?_ | refine HA.nu 17 rfl rfl ?_
          refine HA.pa 18 rfl ?_
          refine HA.pa 19 rfl ?_
          refine HA.all [20] (by kernel_rfl) rfl ⟨⟨_, rfl, ?_⟩, trivial⟩
          refine HO.one ?_
          refine H1.st (b := b15) (i := i) rfl rfl (by intro _ h; cases h) (by intro _ h; cases h) rplA (by rw [boolsF_len, hFl]; exact hlt) ?_
          rw [boolsF_set]
          apply HA.fold
          refine HA.done (by kernel_rfl) ?_
          exact HX.cut (F.set i true) (hfirst true rfl) esA (by repeat (first | exact Hs.nil _ | (refine Hs.cons pickA ?_)))
        | false =>
          rw [hgf] at hFi hfirst
          by_cases hp : pki = pk
          · rw [decide_eq_true hp] at hfirst
            refine HC.anyC ([(⟨b0, off0 + i * 4 + 2, none⟩, zv pki), (⟨b14, 7, none⟩, .slice (some ⟨bo, oo, none⟩) 1 c7), (⟨bo, oo + 7, none⟩, zv pk)]) rfl ?_
            refine HB.pa 0 rfl ?_
            refine HB.pa 1 rfl ?_
            refine HB.pa 2 rfl ?_
            refine HB.pa 3 rfl ?_
            refine HB.pa 4 rfl ?_
            refine HB.all (by repeat (first | exact Keep.nil | refine Keep.blk (by (repeat (first | exact List.Mem.head _ | apply List.Mem.tail)); done) rfl ?_ | refine Keep.grow (by (repeat (first | exact List.Mem.head _ | apply List.Mem.tail)); done) (by assumption) ?_ | refine Keep.base (by assumption) ?_)) [5] (by kernel_rfl) rfl ⟨⟨_, rfl, ?_⟩, trivial⟩
            refine HP.one ?_
            refine H1.ldb rfl memA hFi rfl ?_
            apply HB.fold
            refine HB.pa 6 rfl ?_
            first | refine HB.ga 7 rfl rfl ?_ | refine HB.na 7 rfl rfl ?_ | refine HB.nu 7 rfl rfl ?_
            first | refine HB.ga 8 rfl rfl ?_ | refine HB.na 8 rfl rfl ?_ | refine HB.nu 8 rfl rfl ?_
            first | refine HB.ga 9 rfl rfl ?_ | refine HB.na 9 rfl rfl ?_ | refine HB.nu 9 rfl rfl ?_
            first | refine HB.ga 10 rfl rfl ?_ | refine HB.na 10 rfl rfl ?_ | refine HB.nu 10 rfl rfl ?_
            refine HB.ldg 11 rfl rfl rfl memD ?_
            first | refine HB.ga 12 rfl rfl ?_ | refine HB.na 12 rfl rfl ?_ | refine HB.nu 12 rfl rfl ?_
            refine HB.ldg 13 rfl rfl rfl memD ?_
            first | refine HB.ga 14 rfl rfl ?_ | refine HB.na 14 rfl rfl ?_ | refine HB.nu 14 rfl rfl ?_
            first | refine HB.ga 15 rfl rfl ?_ | refine HB.na 15 rfl rfl ?_ | refine HB.nu 15 rfl rfl ?_
            refine HB.ldg 16 rfl rfl rfl memD ?_
            first | refine HB.ga 17 rfl rfl ?_ | refine HB.na 17 rfl rfl ?_ | refine HB.nu 17 rfl rfl ?_
            refine HB.pa 18 rfl ?_
            refine HB.pa 19 rfl ?_
            refine HB.all (by repeat (first | exact Keep.nil | refine Keep.blk (by (repeat (first | exact List.Mem.head _ | apply List.Mem.tail)); done) rfl ?_ | refine Keep.grow (by (repeat (first | exact List.Mem.head _ | apply List.Mem.tail)); done) (by assumption) ?_ | refine Keep.base (by assumption) ?_)) [20] (by kernel_rfl) rfl ⟨⟨_, rfl, ?_⟩, trivial⟩
            refine HP.one ?_
            refine H1.st (b := b15) (i := i) rfl rfl (by intro _ h; cases h) (by intro _ h; cases h) rplA (by rw [boolsF_len, hFl]; exact hlt) ?_
            rw [decide_eq_true hp, boolsF_set]
            apply HB.fold
            refine HB.done (by repeat (first | exact Keep.nil | refine Keep.blk (by (repeat (first | exact List.Mem.head _ | apply List.Mem.tail)); done) rfl ?_ | refine Keep.grow (by (repeat (first | exact List.Mem.head _ | apply List.Mem.tail)); done) (by assumption) ?_ | refine Keep.base (by assumption) ?_)) (by kernel_rfl) ?_
            exact HX.cut (F.set i true) (hfirst true rfl) esA (by repeat (first | exact Hs.nil _ | (refine Hs.cons pickA ?_)))
          · rw [decide_eq_false hp] at hfirst
            refine HC.anyC ([(⟨b0, off0 + i * 4 + 2, none⟩, zv pki), (⟨b14, 7, none⟩, .slice (some ⟨bo, oo, none⟩) 1 c7), (⟨bo, oo + 7, none⟩, zv pk)]) rfl ?_
            refine HB.pa 0 rfl ?_
            refine HB.pa 1 rfl ?_
            refine HB.pa 2 rfl ?_
            refine HB.pa 3 rfl ?_
            refine HB.pa 4 rfl ?_
            refine HB.all (by repeat (first | exact Keep.nil | refine Keep.blk (by (repeat (first | exact List.Mem.head _ | apply List.Mem.tail)); done) rfl ?_ | refine Keep.grow (by (repeat (first | exact List.Mem.head _ | apply List.Mem.tail)); done) (by assumption) ?_ | refine Keep.base (by assumption) ?_)) [5] (by kernel_rfl) rfl ⟨⟨_, rfl, ?_⟩, trivial⟩
            refine HP.one ?_
            refine H1.ldb rfl memA hFi rfl ?_
            apply HB.fold
            refine HB.pa 6 rfl ?_
            first | refine HB.ga 7 rfl rfl ?_ | refine HB.na 7 rfl rfl ?_ | refine HB.nu 7 rfl rfl ?_
            first | refine HB.ga 8 rfl rfl ?_ | refine HB.na 8 rfl rfl ?_ | refine HB.nu 8 rfl rfl ?_
            first | refine HB.ga 9 rfl rfl ?_ | refine HB.na 9 rfl rfl ?_ | refine HB.nu 9 rfl rfl ?_
            first | refine HB.ga 10 rfl rfl ?_ | refine HB.na 10 rfl rfl ?_ | refine HB.nu 10 rfl rfl ?_
            refine HB.ldg 11 rfl rfl rfl memD ?_
            first | refine HB.ga 12 rfl rfl ?_ | refine HB.na 12 rfl rfl ?_ | refine HB.nu 12 rfl rfl ?_
            refine HB.ldg 13 rfl rfl rfl memD ?_
            first | refine HB.ga 14 rfl rfl ?_ | refine HB.na 14 rfl rfl ?_ | refine HB.nu 14 rfl rfl ?_
            first | refine HB.ga 15 rfl rfl ?_ | refine HB.na 15 rfl rfl ?_ | refine HB.nu 15 rfl rfl ?_
            refine HB.ldg 16 rfl rfl rfl memD ?_
            first | refine HB.ga 17 rfl rfl ?_ | refine HB.na 17 rfl rfl ?_ | refine HB.nu 17 rfl rfl ?_
            refine HB.pa 18 rfl ?_
            refine HB.pa 19 rfl ?_
            refine HB.all (by repeat (first | exact Keep.nil | refine Keep.blk (by (repeat (first | exact List.Mem.head _ | apply List.Mem.tail)); done) rfl ?_ | refine Keep.grow (by (repeat (first | exact List.Mem.head _ | apply List.Mem.tail)); done) (by assumption) ?_ | refine Keep.base (by assumption) ?_)) [20] (by kernel_rfl) rfl ⟨⟨_, rfl, ?_⟩, trivial⟩
            refine HP.one ?_
            refine H1.st (b := b15) (i := i) rfl rfl (by intro _ h; cases h) (by intro _ h; cases h) rplA (by rw [boolsF_len, hFl]; exact hlt) ?_
            rw [decide_eq_false hp, boolsF_set]
            apply HB.fold
            refine HB.done (by repeat (first | exact Keep.nil | refine Keep.blk (by (repeat (first | exact List.Mem.head _ | apply List.Mem.tail)); done) rfl ?_ | refine Keep.grow (by (repeat (first | exact List.Mem.head _ | apply List.Mem.tail)); done) (by assumption) ?_ | refine Keep.base (by assumption) ?_)) (by kernel_rfl) ?_
            exact HX.cut (F.set i false) (hfirst false rfl) esA (by repeat (first | exact Hs.nil _ | (refine Hs.cons pickA ?_)))
      clear hI1 hFl hFi hfirst F
      intro F hK
      refine hwOR ?_
      refine HC.loop (α := Nat × List Bool) (fun q => [(7, .bool true), (8, .slice (some ⟨b0, off0, none⟩) l.length cl), (9, .slice ag D.length cg), (10, .pointer (some ⟨b14, 0, none⟩)), (11, dvL o), (12, dvK o), (13, .pointer (some ⟨b13, 0, none⟩)), (14, zv (dvE o)), (15, .slice (some ⟨b15, 0, none⟩) l.length l.length), (16, zv 0), (17, zv (r : Int)), (18, zv (i : Int)), (19, zv (q.1 : Int))]) (fun q => [A.blk b15 (boolsF q.2) 4]) (fun q => q.1 ≤ (ndAt l i).src.length ∧ InK l pk (0 < r) i q.1 q.2) (fun q => (ndAt l i).src.length - q.1) (0, F) ⟨Nat.zero_le _, hK⟩ esA (by repeat (first | exact Hs.nil _ | (refine Hs.cons pickA ?_))) ?_
      clear hK F
      rintro ⟨k, F⟩ ⟨hk, hK⟩
      dsimp only at hk hK ⊢
      by_cases hkl : k < (ndAt l i).src.length
      · have hkn : ((k : Nat) : Int) < ((ndAt l i).src.length : Int) := by omega
        obtain ⟨bs, os, rfl⟩ := rd_addr hsr hkl
        have hcx := hsr.cell (ints_getI hkl)
        refine hwOR ?_
        refine HL.one (H1.ld0 rfl hc3 rfl ?_)
        refine hwOR ?_
        refine HC.loop (α := Nat × List Bool) (fun q => [(7, .bool true), (8, .slice (some ⟨b0, off0, none⟩) l.length cl), (9, .slice ag D.length cg), (10, .pointer (some ⟨b14, 0, none⟩)), (11, dvL o), (12, dvK o), (13, .pointer (some ⟨b13, 0, none⟩)), (14, zv (dvE o)), (15, .slice (some ⟨b15, 0, none⟩) l.length l.length), (16, zv 0), (17, zv (r : Int)), (18, zv (i : Int)), (19, zv (k : Int)), (20, zv (q.1 : Int))]) (fun q => [A.blk b15 (boolsF q.2) 4]) (fun q => q.1 ≤ i ∧ InJ l pk (0 < r) i k q.1 q.2) (fun q => i - q.1) (0, F) ⟨Nat.zero_le _, hK.start⟩ esA (by repeat (first | exact Hs.nil _ | (refine Hs.cons pickA ?_))) ?_
        clear hK F
        rintro ⟨j, F⟩ ⟨hj, hJ⟩
        dsimp only at hj hJ ⊢
        by_cases hjl : j < i
        · have hjn : ((j : Nat) : Int) < (i : Int) := by omega
          have hFl := hJ.ink.ini.len
          have hFi := boolsF_get (F := F) (i := i) (by omega)
          have hFj := boolsF_get (F := F) (i := j) (by omega)
          have hcj := hb j (by omega) 0 (zv (ndAt l j).id) rfl
          have hjb : j < l.length := by omega
          have hjc : ((j : Nat) : Int) < (l.length : Int) := by omega
          have hstep := fun (v : Bool) (e : v = (getF F i || (getF F j && decide ((ndAt l j).id = getI (ndAt l i).src k)))) => hJ.step hv hlt hkl hjl e
          generalize getI (ndAt l i).src k = x at hcx hstep
          generalize (ndAt l j).id = idj at hcj hstep
          refine hwOR ?_
          cases hgi : getF F i with
          | true =>
            rw [hgi] at hFi hstep
            refine HC.any rfl ?_
            refine HA.pa 0 rfl ?_
            refine HA.pa 1 rfl ?_
            refine HA.pa 2 rfl ?_
            refine HA.pa 3 rfl ?_
            refine HA.pa 4 rfl ?_
            refine HA.all [5] (by kernel_rfl) rfl ⟨⟨_, rfl, ?_⟩, trivial⟩
            refine HO.one ?_
            refine H1.ldb rfl memA hFi rfl ?_
            apply HA.fold
            refine HA.pa 6 rfl ?_
            first | refine HA.ga 7 rfl rfl ?_ | refine HA.na 7 rfl rfl ?_ | refine HA.nu 7 rfl rfl ?_
            first | refine HA.ga 8 rfl rfl ?_ | refine HA.na 8 rfl rfl ?_ | refine HA.nu 8 rfl rfl ?_
            first | refine HA.ga 9 rfl rfl ?_ | refine HA.na 9 rfl rfl ?_ | refine HA.nu 9 rfl rfl ?_
            first | refine HA.ga 10 rfl rfl ?_ | refine HA.na 10 rfl rfl ?_ | refine HA.nu 10 rfl rfl ?_
            first | refine HA.ga 11 rfl rfl ?_ | refine HA.na 11 rfl rfl ?_ | refine HA.nu 11 rfl rfl ?_
            first | refine HA.ga 12 rfl rfl ?_ | refine HA.na 12 rfl rfl ?_ | refine HA.nu 12 rfl rfl ?_
            first | refine HA.ga 13 rfl rfl ?_ | refine HA.na 13 rfl rfl ?_ | refine HA.nu 13 rfl rfl ?_
            first | refine HA.ga 14 rfl rfl ?_ | refine HA.na 14 rfl rfl ?_ | refine HA.nu 14 rfl rfl ?_
            first | refine HA.ga 15 rfl rfl ?_ | refine HA.na 15 rfl rfl ?_ | refine HA.nu 15 rfl rfl ?_
            first | refine HA.ga 16 rfl rfl ?_ | refine HA.na 16 rfl rfl ?_ | refine HA.nu 16 rfl rfl ?_
            first | refine HA.ga 17 rfl rfl ?_ | refine HA.na 17 rfl rfl ?_ | refine HA.nu 17 rfl rfl ?_
            first | refine HA.ga 18 rfl rfl ?_ | refine HA.na 18 rfl rfl ?_ | refine HA.nu 18 rfl rfl ?_
            first | refine HA.ga 19 rfl rfl ?_ | refine HA.na 19 rfl rfl ?_ | refine HA.nu 19 rfl rfl ?_
            first | refine HA.ga 20 rfl rfl ?_ | refine HA.na 20 rfl rfl ?_ | refine HA.nu 20 rfl rfl ?_
            first | refine HA.ga 21 rfl rfl ?_ | refine HA.na 21 rfl rfl ?_ | refine HA.nu 21 rfl rfl ?_
            first | refine HA.ga 22 rfl rfl ?_ | refine HA.na 22 rfl rfl ?_ | refine HA.nu 22 rfl rfl ?_
            first | refine HA.ga 23 rfl rfl ?_ | refine HA.na 23 rfl rfl ?_ | refine HA.nu 23 rfl rfl ?_
            first | refine HA.ga 24 rfl rfl ?_ | refine HA.na 24 rfl rfl ?_ | refine HA.nu 24 rfl rfl ?_
            first | refine HA.ga 25 rfl rfl ?_ | refine HA.na 25 rfl rfl ?_ | refine HA.nu 25 rfl rfl ?_
            first | refine HA.ga 26 rfl rfl ?_ | refine HA.na 26 rfl rfl ?_ | refine HA.nu 26 rfl rfl ?_
            refine HA.pa 27 rfl ?_
            refine HA.pa 28 rfl ?_
            refine HA.all [29] (by kernel_rfl) rfl ⟨⟨_, rfl, ?_⟩, trivial⟩
            refine HO.one ?_
            refine H1.st (b := b15) (i := i) rfl rfl (by intro _ h; cases h) (by intro _ h; cases h) rplA (by rw [boolsF_len, hFl]; exact hlt) ?_
            rw [boolsF_set]
            apply HA.fold
            refine HA.done (by kernel_rfl) ?_
            refine hwOR ?_
            exact HX.again (j + 1, F.set i true) ⟨hjl, hstep true rfl⟩ (by show i - (j + 1) < i - j; omega) esA (by repeat (first | exact Hs.nil _ | (refine Hs.cons pickA ?_)))
          | false =>
            rw [hgi] at hFi hstep
            cases hgj : getF F j with
            | false =>
              rw [hgj] at hFj hstep
              refine HC.any rfl ?_
              refine HA.pa 0 rfl ?_
              refine HA.pa 1 rfl ?_
              refine HA.pa 2 rfl ?_
              refine HA.pa 3 rfl ?_
              refine HA.pa 4 rfl ?_
              refine HA.all [5] (by kernel_rfl) rfl ⟨⟨_, rfl, ?_⟩, trivial⟩
              refine HO.one ?_
              refine H1.ldb rfl memA hFi rfl ?_
              apply HA.fold
              refine HA.pa 6 rfl ?_
              first | refine HA.ga 7 rfl rfl ?_ | refine HA.na 7 rfl rfl ?_ | refine HA.nu 7 rfl rfl ?_
              first | refine HA.ga 8 rfl rfl ?_ | refine HA.na 8 rfl rfl ?_ | refine HA.nu 8 rfl rfl ?_
              first | refine HA.ga 9 rfl rfl ?_ | refine HA.na 9 rfl rfl ?_ | refine HA.nu 9 rfl rfl ?_
              refine HA.all [10] (by kernel_rfl) rfl ⟨⟨_, rfl, ?_⟩, trivial⟩
              refine HO.one_a rfl ?_
              refine H1.ldb rfl memA hFj rfl ?_
              apply HA.fold
              first | refine HA.ga 11 rfl rfl ?_ | refine HA.na 11 rfl rfl ?_ | refine HA.nu 11 rfl rfl ?_
              first | refine HA.ga 12 rfl rfl ?_ | refine HA.na 12 rfl rfl ?_ | refine HA.nu 12 rfl rfl ?_
              first | refine HA.ga 13 rfl rfl ?_ | refine HA.na 13 rfl rfl ?_ | refine HA.nu 13 rfl rfl ?_
              first | refine HA.ga 14 rfl rfl ?_ | refine HA.na 14 rfl rfl ?_ | refine HA.nu 14 rfl rfl ?_
              first | refine HA.ga 15 rfl rfl ?_ | refine HA.na 15 rfl rfl ?_ | refine HA.nu 15 rfl rfl ?_
              first | refine HA.ga 16 rfl rfl ?_ | refine HA.na 16 rfl rfl ?_ | refine HA.nu 16 rfl rfl ?_
              first | refine HA.ga 17 rfl rfl ?_ | refine HA.na 17 rfl rfl ?_ | refine HA.nu 17 rfl rfl ?_
              first | refine HA.ga 18 rfl rfl ?_ | refine HA.na 18 rfl rfl ?_ | refine HA.nu 18 rfl rfl ?_
              first | refine HA.ga 19 rfl rfl ?_ | refine HA.na 19 rfl rfl ?_ | refine HA.nu 19 rfl rfl ?_
              first | refine HA.ga 20 rfl rfl ?_ | refine HA.na 20 rfl rfl ?_ | refine HA.nu 20 rfl rfl ?_
              first | refine HA.ga 21 rfl rfl ?_ | refine HA.na 21 rfl rfl ?_ | refine HA.nu 21 rfl rfl ?_
              first | refine HA.ga 22 rfl rfl ?_ | refine HA.na 22 rfl rfl ?_ | refine HA.nu 22 rfl rfl ?_
              first | refine HA.ga 23 rfl rfl ?_ | refine HA.na 23 rfl rfl ?_ | refine HA.nu 23 rfl rfl ?_
              first | refine HA.ga 24 rfl rfl ?_ | refine HA.na 24 rfl rfl ?_ | refine HA.nu 24 rfl rfl ?_
              first | refine HA.ga 25 rfl rfl ?_ | refine HA.na 25 rfl rfl ?_ | refine HA.nu 25 rfl rfl ?_
              first | refine HA.ga 26 rfl rfl ?_ | refine HA.na 26 rfl rfl ?_ | refine HA.nu 26 rfl rfl ?_
              refine HA.pa 27 rfl ?_
              refine HA.pa 28 rfl ?_
              refine HA.all [29] (by kernel_rfl) rfl ⟨⟨_, rfl, ?_⟩, trivial⟩
              refine HO.one ?_
              refine H1.st (b := b15) (i := i) rfl rfl (by intro _ h; cases h) (by intro _ h; cases h) rplA (by rw [boolsF_len, hFl]; exact hlt) ?_
              rw [boolsF_set]
              apply HA.fold
              refine HA.done (by kernel_rfl) ?_
              refine hwOR ?_
              exact HX.again (j + 1, F.set i false) ⟨hjl, hstep false rfl⟩ (by show i - (j + 1) < i - j; omega) esA (by repeat (first | exact Hs.nil _ | (refine Hs.cons pickA ?_)))
            | true =>
              rw [hgj] at hFj hstep
              by_cases hx : idj = x
              · rw [decide_eq_true hx] at hstep
                refine HC.anyC ([(⟨b0, off0 + j * 4 + 0, none⟩, zv idj), (⟨b0, off0 + i * 4 + 3, none⟩, .slice (some ⟨bs, os, none⟩) (ndAt l i).src.length cs), (⟨bs, os + k, none⟩, zv x)]) rfl ?_
                refine HB.pa 0 rfl ?_
                refine HB.pa 1 rfl ?_
                refine HB.pa 2 rfl ?_
                refine HB.pa 3 rfl ?_
                refine HB.pa 4 rfl ?_
                refine HB.all (by repeat (first | exact Keep.nil | refine Keep.blk (by (repeat (first | exact List.Mem.head _ | apply List.Mem.tail)); done) rfl ?_ | refine Keep.grow (by (repeat (first | exact List.Mem.head _ | apply List.Mem.tail)); done) (by assumption) ?_ | refine Keep.base (by assumption) ?_)) [5] (by kernel_rfl) rfl ⟨⟨_, rfl, ?_⟩, trivial⟩
                refine HP.one ?_
                refine H1.ldb rfl memA hFi rfl ?_
                apply HB.fold
                refine HB.pa 6 rfl ?_
                first | refine HB.ga 7 rfl rfl ?_ | refine HB.na 7 rfl rfl ?_ | refine HB.nu 7 rfl rfl ?_
                first | refine HB.ga 8 rfl rfl ?_ | refine HB.na 8 rfl rfl ?_ | refine HB.nu 8 rfl rfl ?_
                first | refine HB.ga 9 rfl rfl ?_ | refine HB.na 9 rfl rfl ?_ | refine HB.nu 9 rfl rfl ?_
                refine HB.all (by repeat (first | exact Keep.nil | refine Keep.blk (by (repeat (first | exact List.Mem.head _ | apply List.Mem.tail)); done) rfl ?_ | refine Keep.grow (by (repeat (first | exact List.Mem.head _ | apply List.Mem.tail)); done) (by assumption) ?_ | refine Keep.base (by assumption) ?_)) [10] (by kernel_rfl) rfl ⟨⟨_, rfl, ?_⟩, trivial⟩
                refine HP.one_a rfl ?_
                refine H1.ldb rfl memA hFj rfl ?_
                apply HB.fold
                first | refine HB.ga 11 rfl rfl ?_ | refine HB.na 11 rfl rfl ?_ | refine HB.nu 11 rfl rfl ?_
                first | refine HB.ga 12 rfl rfl ?_ | refine HB.na 12 rfl rfl ?_ | refine HB.nu 12 rfl rfl ?_
                first | refine HB.ga 13 rfl rfl ?_ | refine HB.na 13 rfl rfl ?_ | refine HB.nu 13 rfl rfl ?_
                first | refine HB.ga 14 rfl rfl ?_ | refine HB.na 14 rfl rfl ?_ | refine HB.nu 14 rfl rfl ?_
                first | refine HB.ga 15 rfl rfl ?_ | refine HB.na 15 rfl rfl ?_ | refine HB.nu 15 rfl rfl ?_
                refine HB.ldg 16 rfl rfl rfl memD ?_
                first | refine HB.ga 17 rfl rfl ?_ | refine HB.na 17 rfl rfl ?_ | refine HB.nu 17 rfl rfl ?_
                first | refine HB.ga 18 rfl rfl ?_ | refine HB.na 18 rfl rfl ?_ | refine HB.nu 18 rfl rfl ?_
                first | refine HB.ga 19 rfl rfl ?_ | refine HB.na 19 rfl rfl ?_ | refine HB.nu 19 rfl rfl ?_
                first | refine HB.ga 20 rfl rfl ?_ | refine HB.na 20 rfl rfl ?_ | refine HB.nu 20 rfl rfl ?_
                refine HB.ldg 21 rfl rfl rfl memD ?_
                first | refine HB.ga 22 rfl rfl ?_ | refine HB.na 22 rfl rfl ?_ | refine HB.nu 22 rfl rfl ?_
                first | refine HB.ga 23 rfl rfl ?_ | refine HB.na 23 rfl rfl ?_ | refine HB.nu 23 rfl rfl ?_
                refine HB.ldg 24 rfl rfl rfl memD ?_
                first | refine HB.ga 25 rfl rfl ?_ | refine HB.na 25 rfl rfl ?_ | refine HB.nu 25 rfl rfl ?_
                first | refine HB.ga 26 rfl rfl ?_ | refine HB.na 26 rfl rfl ?_ | refine HB.nu 26 rfl rfl ?_
                refine HB.pa 27 rfl ?_
                refine HB.pa 28 rfl ?_
                refine HB.all (by repeat (first | exact Keep.nil | refine Keep.blk (by (repeat (first | exact List.Mem.head _ | apply List.Mem.tail)); done) rfl ?_ | refine Keep.grow (by (repeat (first | exact List.Mem.head _ | apply List.Mem.tail)); done) (by assumption) ?_ | refine Keep.base (by assumption) ?_)) [29] (by kernel_rfl) rfl ⟨⟨_, rfl, ?_⟩, trivial⟩
                refine HP.one ?_
                refine H1.st (b := b15) (i := i) rfl rfl (by intro _ h; cases h) (by intro _ h; cases h) rplA (by rw [boolsF_len, hFl]; exact hlt) ?_
                rw [decide_eq_true hx, boolsF_set]
                apply HB.fold
                refine HB.done (by repeat (first | exact Keep.nil | refine Keep.blk (by (repeat (first | exact List.Mem.head _ | apply List.Mem.tail)); done) rfl ?_ | refine Keep.grow (by (repeat (first | exact List.Mem.head _ | apply List.Mem.tail)); done) (by assumption) ?_ | refine Keep.base (by assumption) ?_)) (by kernel_rfl) ?_
                refine hwOR ?_
                exact HX.again (j + 1, F.set i true) ⟨hjl, hstep true rfl⟩ (by show i - (j + 1) < i - j; omega) esA (by repeat (first | exact Hs.nil _ | (refine Hs.cons pickA ?_)))
              · rw [decide_eq_false hx] at hstep
                refine HC.anyC ([(⟨b0, off0 + j * 4 + 0, none⟩, zv idj), (⟨b0, off0 + i * 4 + 3, none⟩, .slice (some ⟨bs, os, none⟩) (ndAt l i).src.length cs), (⟨bs, os + k, none⟩, zv x)]) rfl ?_
                refine HB.pa 0 rfl ?_
                refine HB.pa 1 rfl ?_
                refine HB.pa 2 rfl ?_
                refine HB.pa 3 rfl ?_
                refine HB.pa 4 rfl ?_
                refine HB.all (by repeat (first | exact Keep.nil | refine Keep.blk (by (repeat (first | exact List.Mem.head _ | apply List.Mem.tail)); done) rfl ?_ | refine Keep.grow (by (repeat (first | exact List.Mem.head _ | apply List.Mem.tail)); done) (by assumption) ?_ | refine Keep.base (by assumption) ?_)) [5] (by kernel_rfl) rfl ⟨⟨_, rfl, ?_⟩, trivial⟩
                refine HP.one ?_
                refine H1.ldb rfl memA hFi rfl ?_
                apply HB.fold
                refine HB.pa 6 rfl ?_
                first | refine HB.ga 7 rfl rfl ?_ | refine HB.na 7 rfl rfl ?_ | refine HB.nu 7 rfl rfl ?_
                first | refine HB.ga 8 rfl rfl ?_ | refine HB.na 8 rfl rfl ?_ | refine HB.nu 8 rfl rfl ?_
                first | refine HB.ga 9 rfl rfl ?_ | refine HB.na 9 rfl rfl ?_ | refine HB.nu 9 rfl rfl ?_
                refine HB.all (by repeat (first | exact Keep.nil | refine Keep.blk (by (repeat (first | exact List.Mem.head _ | apply List.Mem.tail)); done) rfl ?_ | refine Keep.grow (by (repeat (first | exact List.Mem.head _ | apply List.Mem.tail)); done) (by assumption) ?_ | refine Keep.base (by assumption) ?_)) [10] (by kernel_rfl) rfl ⟨⟨_, rfl, ?_⟩, trivial⟩
                refine HP.one_a rfl ?_
                refine H1.ldb rfl memA hFj rfl ?_
                apply HB.fold
                first | refine HB.ga 11 rfl rfl ?_ | refine HB.na 11 rfl rfl ?_ | refine HB.nu 11 rfl rfl ?_
                first | refine HB.ga 12 rfl rfl ?_ | refine HB.na 12 rfl rfl ?_ | refine HB.nu 12 rfl rfl ?_
                first | refine HB.ga 13 rfl rfl ?_ | refine HB.na 13 rfl rfl ?_ | refine HB.nu 13 rfl rfl ?_
                first | refine HB.ga 14 rfl rfl ?_ | refine HB.na 14 rfl rfl ?_ | refine HB.nu 14 rfl rfl ?_
                first | refine HB.ga 15 rfl rfl ?_ | refine HB.na 15 rfl rfl ?_ | refine HB.nu 15 rfl rfl ?_
                refine HB.ldg 16 rfl rfl rfl memD ?_
                first | refine HB.ga 17 rfl rfl ?_ | refine HB.na 17 rfl rfl ?_ | refine HB.nu 17 rfl rfl ?_
                first | refine HB.ga 18 rfl rfl ?_ | refine HB.na 18 rfl rfl ?_ | refine HB.nu 18 rfl rfl ?_
                first | refine HB.ga 19 rfl rfl ?_ | refine HB.na 19 rfl rfl ?_ | refine HB.nu 19 rfl rfl ?_
                first | refine HB.ga 20 rfl rfl ?_ | refine HB.na 20 rfl rfl ?_ | refine HB.nu 20 rfl rfl ?_
                refine HB.ldg 21 rfl rfl rfl memD ?_
                first | refine HB.ga 22 rfl rfl ?_ | refine HB.na 22 rfl rfl ?_ | refine HB.nu 22 rfl rfl ?_
                first | refine HB.ga 23 rfl rfl ?_ | refine HB.na 23 rfl rfl ?_ | refine HB.nu 23 rfl rfl ?_
                refine HB.ldg 24 rfl rfl rfl memD ?_
                first | refine HB.ga 25 rfl rfl ?_ | refine HB.na 25 rfl rfl ?_ | refine HB.nu 25 rfl rfl ?_
                first | refine HB.ga 26 rfl rfl ?_ | refine HB.na 26 rfl rfl ?_ | refine HB.nu 26 rfl rfl ?_
                refine HB.pa 27 rfl ?_
                refine HB.pa 28 rfl ?_
                refine HB.all (by repeat (first | exact Keep.nil | refine Keep.blk (by (repeat (first | exact List.Mem.head _ | apply List.Mem.tail)); done) rfl ?_ | refine Keep.grow (by (repeat (first | exact List.Mem.head _ | apply List.Mem.tail)); done) (by assumption) ?_ | refine Keep.base (by assumption) ?_)) [29] (by kernel_rfl) rfl ⟨⟨_, rfl, ?_⟩, trivial⟩
                refine HP.one ?_
                refine H1.st (b := b15) (i := i) rfl rfl (by intro _ h; cases h) (by intro _ h; cases h) rplA (by rw [boolsF_len, hFl]; exact hlt) ?_
                rw [decide_eq_false hx, boolsF_set]
                apply HB.fold
                refine HB.done (by repeat (first | exact Keep.nil | refine Keep.blk (by (repeat (first | exact List.Mem.head _ | apply List.Mem.tail)); done) rfl ?_ | refine Keep.grow (by (repeat (first | exact List.Mem.head _ | apply List.Mem.tail)); done) (by assumption) ?_ | refine Keep.base (by assumption) ?_)) (by kernel_rfl) ?_
                refine hwOR ?_
                exact HX.again (j + 1, F.set i false) ⟨hjl, hstep false rfl⟩ (by show i - (j + 1) < i - j; omega) esA (by repeat (first | exact Hs.nil _ | (refine Hs.cons pickA ?_)))
        have hjn : ¬ ((j : Nat) : Int) < (i : Int) := by omega
        have e : j = i := by omega
        rw [e] at hJ
        refine hwOR ?_
        exact HX.again (k + 1, F) ⟨hkl, hJ.done hv hlt hkl⟩ (by show (ndAt l i).src.length - (k + 1) < (ndAt l i).src.length - k; omega) esA (by repeat (first | exact Hs.nil _ | (refine Hs.cons pickA ?_)))
      have hkn : ¬ ((k : Nat) : Int) < ((ndAt l i).src.length : Int) := by omega
      have e : k = (ndAt l i).src.length := by omega
      rw [e] at hK
      refine hwOR ?_
      refine HL.one (H1.ld0 rfl hc3 rfl ?_)
      refine hwOR ?_
      exact HX.again (i + 1, F) ⟨hlt, hK.done hv hlt⟩ (by show l.length - (i + 1) < l.length - i; omega) esA (by repeat (first | exact Hs.nil _ | (refine Hs.cons pickA ?_)))
    have hn : ¬ ((i : Nat) : Int) < (l.length : Int) := by omega
    obtain rfl : i = l.length := by omega
    refine hwOR ?_
    exact HX.again (r + 1, F) ⟨by show r + 1 ≤ _; omega, hI1.round⟩ (by show l.length + 1 - (r + 1) < l.length + 1 - r; omega) esA (by repeat (first | exact Hs.nil _ | (refine Hs.cons pickA ?_)))
  have hrn : ¬ ((r : Nat) : Int) ≤ (l.length : Int) := by omega
  have hall := fun j (hj : j < l.length) => hI1.all (by omega) hj
  have hFl := hI1.len
  have hzl : l.length = D.length := (okS_facts hok).2.1
  have hzip : ∀ i, i < l.length → (l.zip D)[i]? = some (ndAt l i, getB D i) := fun i hi => by
    rw [List.getElem?_zip_eq_some]
    unfold ndAt getB
    exact ⟨by simp [hi], by simp [show i < D.length by omega]⟩
  cases o with
  | none =>
    have hg : goneL l pk = [] := hI
    rw [hg] at hall
    dsimp only [dvL, dvK, dvE]
    refine hwOR ?_
    refine HC.loop (α := Nat) (fun k => [(7, .bool true), (8, .slice al l.length cl), (9, .slice ag D.length cg), (10, .pointer (some ⟨b14, 0, none⟩)), (11, .slice none 0 0), (12, .slice none 0 0), (13, .pointer (some ⟨b13, 0, none⟩)), (14, zv 240), (15, .slice (some ⟨b15, 0, none⟩) l.length l.length), (16, zv 0), (21, zv (k : Int)), (22, zv (k : Int))]) (fun _ => [A.blk b15 (boolsF F) 4]) (fun k => k ≤ l.length) (fun k => l.length - k) 0 (Nat.zero_le _) esA (by repeat (first | exact Hs.nil _ | (refine Hs.cons pickA ?_))) ?_
    intro k hk
    by_cases hkl : k < l.length
    · have hkn : ((k : Nat) : Int) < (l.length : Int) := by omega
      have hFk := boolsF_get (F := F) (i := k) (by omega)
      rw [hall k hkl, decide_eq_false List.not_mem_nil] at hFk
      refine hwOR ?_
      refine HL.one (H1.ldb rfl memA hFk rfl ?_)
      refine hwOR ?_
      repeat refine HC.seq ?_
      refine HC.quietS [(some 133, [14], []), (some 134, [133], [0]), (some 135, [134], [1]), (some 136, [21, 135], [2]), (some 137, [11, 135], [2]), (some 138, [137, 135], [4, 2]), (some 139, [136, 138, 135], [3, 5, 2]), (some 140, [139, 135], [6, 2, 2]), (some 141, [21, 140], [7]), (some 142, [12, 140], [7]), (some 143, [142, 140], [9, 7]), (some 144, [141, 143, 140], [8, 10, 7]), (some 145, [140, 144, 135], [7, 11, 2]), (some 146, [145, 135], [12, 7, 2]), (some 147, [11, 146], [13]), (some 148, [21, 146], [13]), (some 149, [147, 148, 146], [14, 15, 13]), (some 150, [149, 146], [16, 13]), (some 151, [150, 146], [17, 13]), (some 152, [8, 146], [13]), (some 153, [22, 146], [13]), (some 154, [152, 153, 146], [19, 20, 13]), (some 155, [154, 146], [21, 13]), (some 156, [155, 146], [22, 13]), (some 157, [151, 156, 146], [18, 23, 13]), (some 158, [146, 157, 135], [13, 24, 2]), (some 159, [158, 135], [25, 13, 2]), (some 160, [12, 159], [26]), (some 161, [21, 159], [26]), (some 162, [160, 161, 159], [27, 28, 26]), (some 163, [162, 159], [29, 26]), (some 164, [9, 159], [26]), (some 165, [22, 159], [26]), (some 166, [164, 165, 159], [31, 32, 26]), (some 167, [166, 159], [33, 26]), (some 168, [163, 167, 159], [30, 34, 26]), (some 169, [159, 168, 135], [26, 35, 2]), (some 170, [135, 169], [2, 36])] (by kernel_rfl) (by kernel_rfl) (by kernel_rfl) ?_
      repeat' (first | refine HQ.pa ?_ | refine HQ.ga rfl ?_ | refine HQ.na rfl ?_ | refine HQ.nu rfl ?_ | refine HQ.ldb rfl memA rfl rfl ?_)
      refine HQ.nil ?_
      refine hwOR ?_
      exact HX.again (k + 1) hkl (by show l.length - (k + 1) < l.length - k; omega) esA (by repeat (first | exact Hs.nil _ | (refine Hs.cons pickA ?_)))
    have hkn : ¬ ((k : Nat) : Int) < (l.length : Int) := by omega
    refine hwOR ?_
    exact HX.ret1 rfl rfl fun w' hM => ⟨rfl, hw3.trans hM.ext⟩
  | some y =>
    obtain ⟨left, a1, c1, a2, c2, ai, ci, ad, cd⟩ := y
    obtain ⟨hg, hz⟩ : goneL l pk ≠ [] ∧ ndsZ left = ndsP (prN l D (goneL l pk) false) := hI
    dsimp only [dvL, dvK, dvE]
    dsimp only [dvT, dvH, delH, tombV] at hM3
    have hlost : (prN l D (goneL l pk) true).length = (goneL l pk).length := lost_len hok _
    have hsrtl : (srtI (goneL l pk)).length = (goneL l pk).length := srtI_len _
    have hok2 : okS (ndsP (prN l D (goneL l pk) false)) (digP (prN l D (goneL l pk) false)) = true := left_ok hok _
    have hchk := tomb_true hok (fun i => decide ((ndAt l i).pack = pk)) hg
    change chkP (rootP (l.zip D)) (rootP (prN l D (goneL l pk) false)) (srtI (goneL l pk)) (digP (prN l D (goneL l pk) true)) l D (ndsP (prN l D (goneL l pk) false)) (digP (prN l D (goneL l pk) false)) = true at hchk
    have hgl : (goneL l pk).length ≤ l.length := derL_len _ _ _
    have hml : left.length = (prN l D (goneL l pk) false).length := by rw [← ndsZ_len, hz, ndsP_len]
    have hgp : (goneL l pk).length ≠ 0 := fun h => hg (List.length_eq_zero_iff.1 h)
    have hLn : RdN w3 (.slice a1 left.length c1) (ndsZ left) (adrZ left) := hM3.rdN memA memA
    have hKn : Rd w3 (.slice a2 left.length c2) (strs (digP (prN l D (goneL l pk) false))) := hM3.gr memA
    have hNi : Rd w3 (.slice ai (goneL l pk).length ci) (ints (srtI (goneL l pk))) := hM3.gr memA
    have hDg : Rd w3 (.slice ad (goneL l pk).length cd) (strs (digP (prN l D (goneL l pk) true))) := hM3.gr memA
    have hT : ∀ i v, ([zv 5, zv d, .string (rootP (l.zip D)), .string (rootP (prN l D (goneL l pk) false)), .slice ai (goneL l pk).length ci, .slice ad (goneL l pk).length cd] : List Value)[i]? = some v → w3.cell? ⟨b13, i, none⟩ = some v := fun i v h => (hM3.blk (b := b13) (.head _)).cell h
    have hv2 := okS_valid hok2
    have k1 : (ndsZ left).length ≤ 400000 := by rw [hz]; have := hv2.len; omega
    have k2 : ∀ i, i < (ndsZ left).length → (ndAt (ndsZ left) i).src.length ≤ 1000000 := fun i hi => by rw [hz] at hi ⊢; have := (nd_ok hv2 hi).len; omega
    have k3 : ∀ d ∈ digP (prN l D (goneL l pk) false), d.size ≤ 1000 := fun d hd => hDs d (prN_dig hd)
    have k4 : (digP (prN l D (goneL l pk) false)).length = left.length := by rw [digP_len, hml]
    have k6 : left.length ≤ 400 := by have := hv2.len; rw [ndsP_len, ← hml] at this; exact this
    have k7 : (srtI (goneL l pk)).length ≤ 1000000 := by rw [hsrtl]; omega
    have k9 : (digP (prN l D (goneL l pk) true)).length ≤ 1000000 := by rw [digP_len, hlost]; omega
    have k8 : (digP (prN l D (goneL l pk) false)).length ≤ 1000000 := by rw [k4]; omega
    have hcT : ∀ k, k < l.length → (((l.zip D).take (k + 1)).filter fun q => decide (q.1.id ∈ goneL l pk) == true).length = (((l.zip D).take k).filter fun q => decide (q.1.id ∈ goneL l pk) == true).length + (if (decide ((ndAt l k).id ∈ goneL l pk) == true) = true then 1 else 0) := fun k hk => filt_take (hzip k hk)
    have hcF : ∀ k, k < l.length → (((l.zip D).take (k + 1)).filter fun q => decide (q.1.id ∈ goneL l pk) == false).length = (((l.zip D).take k).filter fun q => decide (q.1.id ∈ goneL l pk) == false).length + (if (decide ((ndAt l k).id ∈ goneL l pk) == false) = true then 1 else 0) := fun k hk => filt_take (hzip k hk)
    have hat : ∀ k, k < l.length → (decide ((ndAt l k).id ∈ goneL l pk) == false) = true → (prN l D (goneL l pk) false)[(((l.zip D).take k).filter fun q => decide (q.1.id ∈ goneL l pk) == false).length]? = some (ndAt l k, getB D k) := fun k hk hp => by
      unfold prN
      exact filt_at (L := l.zip D) (p := fun q : Nd × ByteArray => decide (q.1.id ∈ goneL l pk) == false) (x := (ndAt l k, getB D k)) (hzip k hk) hp
    have hTall : (((l.zip D).take l.length).filter fun q => decide (q.1.id ∈ goneL l pk) == true).length = (goneL l pk).length := by rw [← hlost, List.take_of_length_le (by rw [List.length_zip]; omega)]; rfl
    have hFall : (((l.zip D).take l.length).filter fun q => decide (q.1.id ∈ goneL l pk) == false).length = left.length := by rw [hml, List.take_of_length_le (by rw [List.length_zip]; omega)]; rfl
    obtain ⟨cT, hcTe⟩ : ∃ cT : Nat → Nat, cT = fun k => (((l.zip D).take k).filter fun q => decide (q.1.id ∈ goneL l pk) == true).length := ⟨_, rfl⟩
    obtain ⟨cF, hcFe⟩ : ∃ cF : Nat → Nat, cF = fun k => (((l.zip D).take k).filter fun q => decide (q.1.id ∈ goneL l pk) == false).length := ⟨_, rfl⟩
    replace hcT : ∀ k, k < l.length → cT (k + 1) = cT k + (if (decide ((ndAt l k).id ∈ goneL l pk) == true) = true then 1 else 0) := fun k hk => by rw [hcTe]; exact hcT k hk
    replace hcF : ∀ k, k < l.length → cF (k + 1) = cF k + (if (decide ((ndAt l k).id ∈ goneL l pk) == false) = true then 1 else 0) := fun k hk => by rw [hcFe]; exact hcF k hk
    replace hat : ∀ k, k < l.length → (decide ((ndAt l k).id ∈ goneL l pk) == false) = true → (prN l D (goneL l pk) false)[cF k]? = some (ndAt l k, getB D k) := fun k hk h => by rw [hcFe]; exact hat k hk h
    replace hTall : cT l.length = (goneL l pk).length := by rw [hcTe]; exact hTall
    replace hFall : cF l.length = left.length := by rw [hcFe]; exact hFall
    have hT0 : cT 0 = 0 := by rw [hcTe]; rfl
    have hF0 : cF 0 = 0 := by rw [hcFe]; rfl
    have hTb : ∀ k, cT k ≤ k := fun k => by rw [hcTe]; refine Nat.le_trans (List.length_filter_le _ _) ?_; rw [List.length_take]; omega
    have hFb : ∀ k, cF k ≤ k := fun k => by rw [hcFe]; refine Nat.le_trans (List.length_filter_le _ _) ?_; rw [List.length_take]; omega
    clear hcTe hcFe
    refine hwOR ?_
    refine HC.loop (α := Nat) (fun k => [(7, .bool true), (8, .slice al l.length cl), (9, .slice ag D.length cg), (10, .pointer (some ⟨b14, 0, none⟩)), (11, .slice a1 left.length c1), (12, .slice a2 left.length c2), (13, .pointer (some ⟨b13, 0, none⟩)), (14, zv 0), (15, .slice (some ⟨b15, 0, none⟩) l.length l.length), (16, zv (cT k : Int)), (21, zv (cF k : Int)), (22, zv (k : Int))]) (fun _ => [A.blk b15 (boolsF F) 4]) (fun k => k ≤ l.length) (fun k => l.length - k) 0 (Nat.zero_le _) (by rw [hT0, hF0]; repeat (first | exact trivial | refine ⟨rfl, ?_⟩)) (by repeat (first | exact Hs.nil _ | (refine Hs.cons pickA ?_))) ?_
    intro k hk
    by_cases hkl : k < l.length
    · have hkn : ((k : Nat) : Int) < (l.length : Int) := by omega
      have hFk := boolsF_get (F := F) (i := k) (by omega)
      have hTb1 := hTb k
      have hFb1 := hFb k
      have h1T := hcT k hkl
      have h1F := hcF k hkl
      have h1a := hat k hkl
      rw [hall k hkl] at hFk
      cases hin : decide ((ndAt l k).id ∈ goneL l pk) with
      | true =>
        rw [hin] at hFk h1T h1F
        replace h1T : cT (k + 1) = cT k + 1 := h1T
        replace h1F : cF (k + 1) = cF k := h1F
        have eT : ((cT k : Nat) : Int) + 1 = (cT (k + 1) : Int) := by rw [h1T]; omega
        refine hwOR ?_
        refine HL.one (H1.ldb rfl memA hFk rfl ?_)
        refine hwOR ?_
        exact HX.again (k + 1) hkl (by show l.length - (k + 1) < l.length - k; omega) (by rw [← eT, h1F]; repeat (first | exact trivial | refine ⟨rfl, ?_⟩)) (by repeat (first | exact Hs.nil _ | (refine Hs.cons pickA ?_)))
      | false =>
        rw [hin] at hFk h1T h1F h1a
        replace h1T : cT (k + 1) = cT k := h1T
        replace h1F : cF (k + 1) = cF k + 1 := h1F
        replace h1a := h1a rfl
        have eF : ((cF k : Nat) : Int) + 1 = (cF (k + 1) : Int) := by rw [h1F]; omega
        have hal := (List.getElem?_eq_some_iff.1 h1a).1
        rw [← hml] at hal
        have haln : ((cF k : Nat) : Int) < (left.length : Int) := by omega
        have hgen : ¬ ((cF k : Nat) : Int) ≥ (left.length : Int) := by omega
        obtain ⟨b0, off0, rfl, hb⟩ := hN3.cell hkl
        have hcd := hb k hkl 0 (zv (ndAt l k).id) rfl
        clear hb
        obtain ⟨b1, off1, rfl, hb⟩ := (show RdN w3 (.slice a1 (ndsZ left).length c1) (ndsZ left) (adrZ left) by rw [ndsZ_len]; exact hLn).cell (i := cF k) (by rw [ndsZ_len]; exact hal)
        have hcl := hb (cF k) (by rw [ndsZ_len]; exact hal) 0 (zv (ndAt (ndsZ left) (cF k)).id) rfl
        clear hb
        rw [hz, show ndAt (ndsP (prN l D (goneL l pk) false)) (cF k) = ndAt l k from by unfold ndAt ndsP at *; rw [List.getD_eq_getElem?_getD, List.getElem?_map, h1a]; rfl] at hcl
        have hkD : k < D.length := by omega
        obtain ⟨b4, off4, rfl⟩ := rd_addr hD3 hkD
        have hcD := hD3.cell (strs_getB hkD)
        have hkK : cF k < (digP (prN l D (goneL l pk) false)).length := by rw [k4]; exact hal
        obtain ⟨b2, off2, rfl⟩ := rd_addr hKn hal
        have hcK := hKn.cell (strs_getB hkK)
        rw [show getB (digP (prN l D (goneL l pk) false)) (cF k) = getB D k from by unfold digP; rw [getB, List.getD_eq_getElem?_getD, List.getElem?_map, h1a]; rfl] at hcK
        generalize (ndAt l k).id = x at hcd hcl
        generalize getB D k = sx at hcD hcK
        refine hwOR ?_
        refine HL.one (H1.ldb rfl memA hFk rfl ?_)
        refine hwOR ?_
        repeat refine HC.seq ?_
        refine HC.quietS [(some 133, [14], []), (some 134, [133], [0]), (some 135, [134], [1]), (some 136, [21, 135], [2]), (some 137, [11, 135], [2]), (some 138, [137, 135], [4, 2]), (some 139, [136, 138, 135], [3, 5, 2]), (some 140, [139, 135], [6, 2, 2]), (some 141, [21, 140], [7]), (some 142, [12, 140], [7]), (some 143, [142, 140], [9, 7]), (some 144, [141, 143, 140], [8, 10, 7]), (some 145, [140, 144, 135], [7, 11, 2]), (some 146, [145, 135], [12, 7, 2]), (some 147, [11, 146], [13]), (some 148, [21, 146], [13]), (some 149, [147, 148, 146], [14, 15, 13]), (some 150, [149, 146], [16, 13]), (some 151, [150, 146], [17, 13]), (some 152, [8, 146], [13]), (some 153, [22, 146], [13]), (some 154, [152, 153, 146], [19, 20, 13]), (some 155, [154, 146], [21, 13]), (some 156, [155, 146], [22, 13]), (some 157, [151, 156, 146], [18, 23, 13]), (some 158, [146, 157, 135], [13, 24, 2]), (some 159, [158, 135], [25, 13, 2]), (some 160, [12, 159], [26]), (some 161, [21, 159], [26]), (some 162, [160, 161, 159], [27, 28, 26]), (some 163, [162, 159], [29, 26]), (some 164, [9, 159], [26]), (some 165, [22, 159], [26]), (some 166, [164, 165, 159], [31, 32, 26]), (some 167, [166, 159], [33, 26]), (some 168, [163, 167, 159], [30, 34, 26]), (some 169, [159, 168, 135], [26, 35, 2]), (some 170, [135, 169], [2, 36])] (by kernel_rfl) (by kernel_rfl) (by kernel_rfl) ?_
        repeat' (first | refine HQ.pa ?_ | refine HQ.ga rfl ?_ | refine HQ.na rfl ?_ | refine HQ.nu rfl ?_ | refine HQ.ldb rfl memA rfl rfl ?_)
        refine HQ.ld (a := ⟨b1, off1 + cF k * 4 + 0, none⟩) rfl (fun w' hM => cell_ext hM.ext hcl) rfl ?_
        repeat' (first | refine HQ.pa ?_ | refine HQ.ga rfl ?_ | refine HQ.na rfl ?_ | refine HQ.nu rfl ?_ | refine HQ.ldb rfl memA rfl rfl ?_)
        refine HQ.ld (a := ⟨b0, off0 + k * 4 + 0, none⟩) rfl (fun w' hM => cell_ext hM.ext hcd) rfl ?_
        repeat' (first | refine HQ.pa ?_ | refine HQ.ga rfl ?_ | refine HQ.na rfl ?_ | refine HQ.nu rfl ?_ | refine HQ.ldb rfl memA rfl rfl ?_)
        refine HQ.ld (a := ⟨b2, off2 + cF k, none⟩) rfl (fun w' hM => cell_ext hM.ext hcK) rfl ?_
        repeat' (first | refine HQ.pa ?_ | refine HQ.ga rfl ?_ | refine HQ.na rfl ?_ | refine HQ.nu rfl ?_ | refine HQ.ldb rfl memA rfl rfl ?_)
        refine HQ.ld (a := ⟨b4, off4 + k, none⟩) rfl (fun w' hM => cell_ext hM.ext hcD) rfl ?_
        repeat' (first | refine HQ.pa ?_ | refine HQ.ga rfl ?_ | refine HQ.na rfl ?_ | refine HQ.nu rfl ?_ | refine HQ.ldb rfl memA rfl rfl ?_)
        refine HQ.nil ?_
        refine hwOR ?_
        exact HX.again (k + 1) hkl (by show l.length - (k + 1) < l.length - k; omega) (by rw [h1T, ← eF]; repeat (first | exact trivial | refine ⟨rfl, ?_⟩)) (by repeat (first | exact Hs.nil _ | (refine Hs.cons pickA ?_)))
    have hkn : ¬ ((k : Nat) : Int) < (l.length : Int) := by omega
    have e : k = l.length := by omega
    rw [e, hTall, hFall]
    have hcnt : (0 : Int) < ((goneL l pk).length : Int) := by omega
    refine hwOR ?_
    refine HL.one (H1.ld0 (a := ⟨b13, 4, none⟩) rfl (hT 4 _ rfl) rfl ?_)
    refine hwOR ?_
    refine HL.one (H1.callx (u := .bool true) (vs := [_]) rfl rfl (fun w' hM => by
      have h := valid24_fn (l := ndsZ left) (v := .slice a1 left.length c1) (by omega) k2 w' (hLn.ext hM.ext)
      rw [hz, validN_iff.2 hv2] at h
      exact h) ?_)
    refine hwOR ?_
    refine HL.one (H1.ldAggw (vs := [zv 5, zv d, .string (rootP (l.zip D)), .string (rootP (prN l D (goneL l pk) false)), .slice ai (goneL l pk).length ci, .slice ad (goneL l pk).length cd]) rfl rfl (fun w' hM i v hv => cell_ext hM.ext (by rw [Nat.zero_add]; exact hT i v hv)) rfl ?_)
    refine hwOR ?_
    refine HL.one (H1.callx (u := .bool true) (vs := [_, _, _, _, _]) rfl rfl (fun w' hM => by
      have h := check_fn (l := l) (D := D) (l2 := ndsZ left) (D2 := digP (prN l D (goneL l pk) false)) (ns := srtI (goneL l pk)) (ds := digP (prN l D (goneL l pk) true)) 5 d (rootP (l.zip D)) (rootP (prN l D (goneL l pk) false)) hl hls hDl hDs k1 k2 k8 k3 k7 k9 w' (hG3.ext hM.ext) (hN3.ext hM.ext) (hD3.ext hM.ext) (hLn.ext hM.ext) (hKn.ext hM.ext) (hNi.ext hM.ext) (hDg.ext hM.ext)
      rw [hz, hchk] at h
      exact h) ?_)
    refine hwOR ?_
    exact HX.ret1 rfl rfl fun w' hM => ⟨rfl, hw3.trans hM.ext⟩
end Go.Sx
/- From a function's contract to a row's statement: arguments that are numbers, arrays of numbers, slices of arrays of numbers, records. -/
namespace Go.Sx
open Go Go.ChangeShapes Go.WideShapes Go.ChangeAt Go.RowKit
section
variable {H : Type} {enc : TypeId × Value → H} {P : Program} {w : World} {b : Nat} {sp : Nat → Bool} {hd : Bool}
theorem args_cons {t : TypeId} {ts : List TypeId} {vs : List Value} {ds : List (DataW H)} {ps : List MemPlace} (h : DataW.TrodAll enc P w b sp hd (t :: ts) vs ds ps) :
    ∃ v vs' d ds' p q, vs = v :: vs' ∧ ds = d :: ds' ∧ ps = p ++ q ∧ DataW.Trod enc P w b sp hd t v d p ∧ DataW.TrodAll enc P w b sp hd ts vs' ds' q := by
  cases vs with
  | nil => exact h.elim
  | cons v vs =>
    cases ds with
    | nil => exact h.elim
    | cons d ds =>
      obtain ⟨p, q, h1, h2, h3⟩ := h
      exact ⟨v, vs, d, ds, p, q, rfl, rfl, h3, h1, h2⟩
theorem args_nil {vs : List Value} {ds : List (DataW H)} {ps : List MemPlace} (h : DataW.TrodAll enc P w b sp hd [] vs ds ps) : vs = [] ∧ ds = [] ∧ ps = [] := by
  cases vs with
  | cons v vs => exact h.elim
  | nil => cases ds with
    | cons d ds => exact h.elim
    | nil => exact ⟨rfl, rfl, h⟩
theorem trodAll_ext (hl : laidOutB P = true) {W W' : World} (hx : Below W.heap.size W W') : ∀ {ts : List TypeId} {vs : List Value} {ds : List (DataW H)} {ps : List MemPlace}, (ts.all fun t => P.readableRec t && decide (t < P.types.size)) = true →
    DataW.TrodAll enc P W 0 (fun _ => true) true ts vs ds ps → (∀ p ∈ ps, p.block < W.heap.size) → ∀ sp : Nat → Bool, (∀ p ∈ ps, sp p.block = true) → DataW.TrodAll enc P W' 0 sp true ts vs ds ps
  | [], [], [], _, _, h, _, _, _ => h
  | [], [], _ :: _, _, _, h, _, _, _ => h.elim
  | [], _ :: _, _, _, _, h, _, _, _ => h.elim
  | _ :: _, [], _, _, _, h, _, _, _ => h.elim
  | _ :: _, _ :: _, [], _, _, h, _, _, _ => h.elim
  | t :: ts, v :: vs, d :: ds, ps, ht, h, hlt, sp, hsp => by
    obtain ⟨p, q, h1, h2, rfl⟩ := h
    simp only [List.all_cons, Bool.and_eq_true, decide_eq_true_eq] at ht
    refine ⟨p, q, ?_, trodAll_ext hl hx ht.2 h2 (fun x hx => hlt x (by simp [hx])) sp (fun x hx => hsp x (by simp [hx])), rfl⟩
    exact WideElems.Trod_stays hl ht.1.1 ht.1.2 h1 (fun x hx' => hx.same (hlt x (by simp [hx']))) (fun x hx' => hsp x (by simp [hx']))
end
end Go.Sx
namespace Go.Sx
open Go Go.Proofs Go.ChangeShapes Go.WideShapes Go.ChangeAt Go.RowKit
theorem ints_rowK (f : Nat → Int) (n : Nat) : ints ((List.range n).map f) = row n fun q => zv (f q) := by
  unfold ints row
  rw [List.map_map]; rfl
/-- The call has laid new blocks, and turned no old one. -/
theorem post_ext {H : Type} {enc : TypeId × Value → H} {P : Program} {f : Func} {s : ChangeSpec} {apart fresh handsOn again : Bool} {W W' : World} {args : Array Value} {v : Value} {ds gs : List (DataW H)} {before pa pv : List MemPlace} (hx : Ext W W')
    (hW : DataW.Whole enc P f.params.toList s.vars apart W args.toList ds gs before)
    (hres : ∀ (b : Nat) (sp : Nat → Bool) (hd : Bool), DataW.TrodAll enc P W' b sp hd f.resultTypes.toList (v.resultList f.resultTypes.size) (s.fn H (ds ++ gs)).results [])
    (hargs : ∀ sp : Nat → Bool, (∀ p ∈ before, sp p.block = true) → DataW.TrodAll enc P W' 0 sp true f.params.toList args.toList (s.fn H (ds ++ gs)).args pa)
    (hvars : ∀ sp : Nat → Bool, (∀ p ∈ before, sp p.block = true) → DataW.TrodVars enc P W' sp s.vars (s.fn H (ds ++ gs)).vars pv)
    (hps : before = pa ++ pv)
    (hok : ∀ (j : Nat) (t : TypeId) (r : Value), f.resultTypes[j]? = some t → (v.resultList f.resultTypes.size)[j]? = some r → Value.okWide P W' .any 0 t r) :
    s.post enc P f apart fresh handsOn again W args v W' := by
  have hlt : ∀ p ∈ before, p.block < W.heap.size := fun p hp => hW.lt p hp
  have hold : ∀ p ∈ before, (fun b => decide (b < W.heap.size)) p.block = true := fun p hp => by simpa using hW.lt p hp
  refine ⟨ds, gs, before, [], pa, pv, hW, hres _ _ _, hargs _ hold, hvars _ hold, (World.keptBut_refl W _).congr hx.os hx.output hx.block, fun _ => ?_⟩
  obtain ⟨_, _, _, _, _, hz, hn⟩ := hW
  refine ⟨hok, _, _, ([] ++ pa) ++ pv, ⟨[] ++ pa, pv, trodAll_append (hargs _ (fun _ _ => rfl)) (hres _ _ _), hvars _ (fun _ _ => rfl), rfl, ?_, ?_⟩, ?_⟩
  · intro b off hp
    have hp' : MemPlace.cell b off ∈ before := by rw [hps]; simpa using hp
    rw [World.frozen?_of_block (hx.block b (hlt _ hp'))]
    exact hz b off hp'
  · intro ha
    have := hn ha
    rw [hps] at this
    simpa using this
  · intro p hp _
    rw [hps]
    simpa using hp
theorem i64_of {x : Int} (h : (Lit.int .i64 x).wf = true) : i64W x := by
  simp only [Lit.wf, Bool.and_eq_true, decide_eq_true_eq] at h
  have e1 : IntKind.i64.min = -9223372036854775808 := rfl
  have e2 : IntKind.i64.max = 9223372036854775807 := rfl
  rw [e1, e2] at h
  exact h
theorem ownK : ownKnob Tryz.prog.godebug = none := by kernel_rfl
section
variable {H : Type} {enc : TypeId × Value → H} {P : Program} {W : World} {r : Reach} {b0 b : Nat} {sp : Nat → Bool} {hd : Bool} {v : Value} {d : DataW H} {p : List MemPlace}
theorem spot_none {W : World} {a : Addr} {v : Value} (h : W.cell? a = some v) : a = ⟨a.block, a.off, none⟩ ∧ a.block < W.heap.size := by
  unfold World.cell? at h
  split at h
  · rename_i c e f hc
    split at h
    · cases h
    · rename_i hs
      refine ⟨?_, (Array.getElem?_eq_some_iff.1 hc).1⟩
      cases a with
      | mk b o s => cases s <;> simp_all
  · cases h
def cellInt (W : World) (a : Addr) : Int := match W.cell? a with | some (.int _ z) => z | _ => 0

/-- All cells of a type are numbers. -/
def intCellsB (P : Program) : Nat → TypeId → Bool
  | 0, _ => false
  | n + 1, t => match P.underlying t with
    | some (.int .i64) => Nat.beq (P.cellsOf t) 1
    | some (.array k e) => intCellsB P n e && Nat.beq (P.cellsOf t) (k * P.cellsOf e) && Nat.ble 1 (P.cellsOf e)
    | some (.struct fs) => (fs.toList.all fun f => intCellsB P n f.type) && (List.range (P.cellsOf t)).all fun j => (List.range fs.size).any fun i => match fs[i]? with | some f => Nat.ble f.offset j && Nat.blt j (f.offset + P.cellsOf f.type) | none => false
    | _ => false
theorem intCells : ∀ (n : Nat) (t : TypeId) (cs : List Value) (fuel : Nat) (x : DataW H × List MemPlace), intCellsB P n t = true → DataW.trod enc P W b sp hd fuel t cs = some x → cs.length = P.cellsOf t ∧ ∀ j, j < cs.length → ∃ z, cs[j]? = some (zv z) ∧ i64W z := by
  intro n
  induction n with
  | zero => intro t cs fuel x h; cases h
  | succ n ih =>
    intro t cs fuel x h hf
    simp only [intCellsB] at h
    split at h
    · rename_i ht
      have h1 : P.cellsOf t = 1 := Nat.eq_of_beq_eq_true h
      obtain ⟨z, e, -, hw⟩ := DataW.trod_int ht hf
      subst e
      refine ⟨by rw [h1]; rfl, fun j hj => ?_⟩
      have : j = 0 := by simpa using hj
      subst this
      exact ⟨z, rfl, i64_of hw⟩
    · rename_i k e ht
      rw [Bool.and_eq_true, Bool.and_eq_true] at h
      obtain ⟨⟨h1, h2⟩, h3⟩ := h
      have h2' : P.cellsOf t = k * P.cellsOf e := Nat.eq_of_beq_eq_true h2
      have h3' : 1 ≤ P.cellsOf e := Nat.le_of_ble_eq_true h3
      obtain ⟨xs, m, -, -, hl, hxl, hel⟩ := DataW.trod_array ht hf
      refine ⟨hl, fun j hj => ?_⟩
      rw [h2'] at hl
      have hi : j / P.cellsOf e < k := by
        rw [Nat.div_lt_iff_lt_mul h3']; omega
      have h4 := hel (j / P.cellsOf e) hi
      rw [List.getElem?_eq_getElem (by omega)] at h4
      obtain ⟨hlen, hz⟩ := ih e _ _ _ h1 h4
      have hm := Nat.mod_lt j h3'
      obtain ⟨z, hz, hw⟩ := hz (j % P.cellsOf e) (by rw [hlen]; exact hm)
      refine ⟨z, ?_, hw⟩
      rw [List.getElem?_take, if_pos hm, List.getElem?_drop] at hz
      rw [← hz]
      congr 1
      have := Nat.div_add_mod j (P.cellsOf e)
      rw [Nat.mul_comm] at this
      omega
    · rename_i fs ht
      rw [Bool.and_eq_true, List.all_eq_true, List.all_eq_true] at h
      obtain ⟨h1, h2⟩ := h
      obtain ⟨xs, m, -, -, hl, hxl, hel⟩ := DataW.trod_struct ht hf
      refine ⟨hl, fun j hj => ?_⟩
      have h3 := h2 j (List.mem_range.2 (by omega))
      rw [List.any_eq_true] at h3
      obtain ⟨i, hi, h4⟩ := h3
      have hi' := List.mem_range.1 hi
      cases hfi : fs[i]? with
      | none => rw [hfi] at h4; cases h4
      | some f =>
        rw [hfi] at h4
        simp only [Bool.and_eq_true] at h4
        have h5 : f.offset ≤ j := Nat.le_of_ble_eq_true h4.1
        have h6 : j < f.offset + P.cellsOf f.type := by simpa [Nat.blt_eq] using h4.2
        have h7 := hel i f hfi
        rw [List.getElem?_eq_getElem (by omega)] at h7
        have hmem : f ∈ fs.toList := by
          rw [← Array.getElem?_toList] at hfi
          exact List.mem_of_getElem? hfi
        obtain ⟨hlen, hz⟩ := ih f.type _ _ _ (h1 f hmem) h7
        obtain ⟨z, hz, hw⟩ := hz (j - f.offset) (by rw [hlen]; omega)
        refine ⟨z, ?_, hw⟩
        rw [List.getElem?_take, if_pos (by omega), List.getElem?_drop, show f.offset + (j - f.offset) = j by omega] at hz
        exact hz
    · cases h
/-- A row of numbers. -/
theorem intRow {n : Nat} {t : TypeId} {cs : List Value} {fuel : Nat} {x : DataW H × List MemPlace} (h : intCellsB P n t = true) (hf : DataW.trod enc P W b sp hd fuel t cs = some x) : ∃ zs : List Int, cs = ints zs ∧ zs.length = P.cellsOf t ∧ ∀ z ∈ zs, i64W z := by
  obtain ⟨hl, hz⟩ := intCells n t cs fuel x h hf
  have hch : ∃ g : Nat → Int, ∀ j, j < cs.length → cs[j]? = some (zv (g j)) ∧ i64W (g j) := by
    refine ⟨fun j => if h : j < cs.length then Classical.choose (hz j h) else 0, fun j hj => ?_⟩
    simp only [dif_pos hj]
    exact Classical.choose_spec (hz j hj)
  obtain ⟨g, hg⟩ := hch
  refine ⟨(List.range cs.length).map g, ?_, by simpa using hl, fun z hz => ?_⟩
  · rw [ints_rowK]
    apply List.ext_getElem?
    intro j
    by_cases hj : j < cs.length
    · rw [(hg j hj).1, row_get _ hj]
    · rw [List.getElem?_eq_none (by omega), List.getElem?_eq_none (by rw [row_len]; omega)]
  · obtain ⟨j, hj, rfl⟩ := List.mem_map.1 hz
    exact (hg j (List.mem_range.1 hj)).2
/-- A slice of structs (or arrays) of numbers, read in place: one cell. -/
theorem sl_rows {t e n fuel sz : Nat} {x : DataW H × List MemPlace} (ht : P.underlying t = some (.slice e)) (he : intCellsB P n e = true) (hce : P.cellsOf e = sz) (hsz : 0 < sz) (hf : DataW.trod enc P W b sp hd fuel t [v] = some x) :
    ∃ rows : List (List Int), (∃ (a : Option Addr) (c : Nat), v = .slice a rows.length c ∧ rows.length ≤ c ∧ (rows = [] ∨ ∃ b off, a = some ⟨b, off, none⟩ ∧ b < W.heap.size ∧ ∀ i rw j u, (rows.map ints)[i]? = some rw → rw[j]? = some u → W.cell? ⟨b, off + i * sz + j, none⟩ = some u)) ∧ (∀ r ∈ rows, r.length = sz ∧ ∀ z ∈ r, i64W z) ∧ rows.length ≤ maxLen := by
  rcases DataW.trod_slice ht hf with ⟨h0, -⟩ | ⟨a', n', c, elems, rest, m, -, hcs, -, hb, hlc, hm, hlen, hel, -, -⟩
  · cases h0
    exact ⟨[], ⟨_, _, rfl, Nat.le_refl _, .inl rfl⟩, by simp, Nat.zero_le _⟩
  · cases hcs
    have key : ∀ q, q < n' → ∃ zs : List Int, zs.length = sz ∧ (∀ z ∈ zs, i64W z) ∧ ∀ j u, (ints zs)[j]? = some u → W.cell? ((a'.add (q * sz)).add j) = some u := fun q hq => by
      have h1 := hel q hq
      rw [hce, List.getElem?_eq_getElem (by omega)] at h1
      cases hcl : W.cells? b (a'.add (q * sz)) sz with
      | none => rw [hcl] at h1; cases h1
      | some cs =>
        rw [hcl] at h1
        simp only [Option.bind_some] at h1
        obtain ⟨-, h5, h6⟩ := World.cells?_some hcl
        obtain ⟨zs, rfl, hl, hz⟩ := intRow he h1
        refine ⟨zs, by rw [hl, hce], hz, fun j u hu => ?_⟩
        have hj : j < sz := by
          have := (List.getElem?_eq_some_iff.1 hu).1
          rw [ints_len, hl, hce] at this; exact this
        rw [h6 j hj]; exact hu
    by_cases hn0 : n' = 0
    · subst hn0
      exact ⟨[], ⟨_, _, rfl, Nat.zero_le _, .inl rfl⟩, by simp, Nat.zero_le _⟩
    · have hch : ∃ Z : Nat → List Int, ∀ q, q < n' → (Z q).length = sz ∧ (∀ z ∈ Z q, i64W z) ∧ ∀ j u, (ints (Z q))[j]? = some u → W.cell? ((a'.add (q * sz)).add j) = some u := by
        refine ⟨fun q => if h : q < n' then Classical.choose (key q h) else [], fun q hq => ?_⟩
        simp only [dif_pos hq]
        exact Classical.choose_spec (key q hq)
      obtain ⟨Z, hZ⟩ := hch
      have h0 := hZ 0 (by omega)
      have hz0 := h0.2.2 0 _ (ints_get (by rw [h0.1]; exact hsz))
      rw [Nat.zero_mul, show (a'.add 0).add 0 = a' by simp [Addr.add]] at hz0
      obtain ⟨ha, hblk⟩ := spot_none hz0
      have hadd : ∀ q j, (a'.add (q * sz)).add j = ⟨a'.block, a'.off + q * sz + j, none⟩ := fun q j => by rw [ha, add_lit, add_lit]
      refine ⟨(List.range n').map Z, ⟨some a', c, by simp, by simpa using hlc, .inr ⟨a'.block, a'.off, congrArg some ha, hblk, fun i rw' j u hi hu => ?_⟩⟩, fun r hr => ?_, by simpa using (by omega : n' ≤ maxLen)⟩
      · rw [List.getElem?_map, List.getElem?_map] at hi
        have hin : i < n' := by
          refine Classical.byContradiction fun hn => ?_
          rw [List.getElem?_eq_none (by rw [List.length_range]; omega)] at hi
          cases hi
        rw [List.getElem?_range hin] at hi
        simp only [Option.map_some, Option.some.injEq] at hi
        subst hi
        have := (hZ i hin).2.2 j u hu
        rwa [hadd] at this
      · obtain ⟨q, hq, rfl⟩ := List.mem_map.1 hr
        have := hZ q (List.mem_range.1 hq)
        exact ⟨this.1, this.2.1⟩
end
end Go.Sx
namespace Go.Sx
open Go Go.Proofs Go.ChangeShapes Go.WideShapes Go.ChangeAt Go.RowKit
section
variable {H : Type} {enc : TypeId × Value → H} {W : World} {r : Reach} {b0 b : Nat} {sp : Nat → Bool} {hd : Bool} {v : Value} {d : DataW H} {p : List MemPlace}
theorem open_intK {t : TypeId} {P : Program} (ht : P.underlying t = some (.int .i64)) (hv : Value.okWide P W r b0 t v) (h : DataW.Trod enc P W b sp hd t v d p) : ∃ x : Int, v = zv x ∧ i64W x := by
  obtain ⟨z, rfl⟩ := okWide_int ht hv
  obtain ⟨fuel, hf⟩ := h
  have hf' : DataW.trod enc P W b sp hd fuel t [.int .i64 z] = some (d, p) := hf
  obtain ⟨z', e, -, hw⟩ := DataW.trod_int ht hf'
  cases e
  exact ⟨z, rfl, i64_of hw⟩
set_option maxRecDepth 100000 in
theorem open_rowsK {t e sz : TypeId} (ht : Tryz.prog.underlying t = some (.slice e)) (hi : intCellsB Tryz.prog 3 e = true) (hc : Tryz.prog.cellsOf e = sz) (hsz : 0 < sz) (hv : Value.okWide Tryz.prog W r b0 t v) (h : DataW.Trod enc Tryz.prog W b sp hd t v d p) :
    ∃ rows : List (List Int), RdA sz W v rows ∧ (∀ r ∈ rows, r.length = sz ∧ ∀ z ∈ r, i64W z) ∧ rows.length ≤ maxLen := by
  obtain ⟨fuel, hf⟩ := h
  obtain ⟨a, n, c, rfl⟩ := okWide_slice ht hv
  have hcells : (Value.slice a n c).cells.toList = [Value.slice a n c] := rfl
  rw [hcells] at hf
  exact sl_rows ht hi hc hsz hf
end
end Go.Sx
/- Chapter 24: the laid variables. -/
namespace Go.Sx
open Go Go.Proofs Go.ChangeShapes Go.WideShapes Go.ChangeAt Go.RowKit
def kZ : List Int := kL.map fun x => ((x.toNat : Nat) : Int)
theorem kZ_data : (YtehehfcmanccjaaGreatDoor.Rows.laid_evergreen_digest_round : DataW Unit) = Lib.tabData .u32 kZ := by kernel_rfl
def laid1 : List (String × DataW Unit) := [("evergreen/digest.round", YtehehfcmanccjaaGreatDoor.Rows.laid_evergreen_digest_round)]
theorem laid1_plain {W : World} (h : laidMetH Tryz.prog laid1 W) : laidMet Tryz.prog laid1 W := by
  rwa [MakeChecks.laidMetH_plain _ _ _ (by kernel_rfl)] at h
theorem round_of_laid1 {W : World} (h : laidMetH Tryz.prog laid1 W) : RoundG W := by
  have h1 := laid1_plain h
  have h2 : laidMet Tryz.prog (("evergreen/digest.round", Lib.tabData .u32 kZ) :: []) W := by
    rw [← kZ_data]; exact h1
  have hT := Lib.tabIs_of_head (g := 0) (by kernel_rfl) (by kernel_rfl) Tryz.underlying222 Tryz.underlying114 (by kernel_rfl) (by kernel_rfl) h2
  intro i v hv
  have hlen : kZ.length = 64 := by kernel_rfl
  have hi : i < 64 := by
    have := (List.getElem?_eq_some_iff.1 hv).1
    unfold ws at this
    rw [List.length_map] at this
    exact this
  have hc := hT.cell (g := 0) (by kernel_rfl) i (by rw [hlen]; exact hi)
  rw [hc]
  unfold ws at hv
  rw [List.getElem?_map, List.getElem?_eq_getElem (by exact hi)] at hv
  rw [← hv]
  have hk : i < kL.length := hi
  have : kZ.getD i 0 = ((kL[i].toNat : Nat) : Int) := by unfold kZ; simp [hk]
  rw [this]; rfl
end Go.Sx
